/- Contracts of the document's limiter (sedimentref20): who waits; without; a drop; the law's own ints. -/
import Derived.Test.YtefeompdhalgcaaProg
import Derived.RangeFuncNested
import Derived.RangeFuncBound
import Derived.RangeFuncCalls
import Derived.RangeFuncLeaves
import Derived.Shelf.Abstract
import Derived.Shelf.RegionOpen
import Derived.WalkKit
import Derived.OwnWalkIn
import Derived.TacticsInMore
import Derived.LoopNIn
import Derived.LoopIn
import Derived.Lib.Hide
import Derived.Outline
import Derived.RegionTactic
import Derived.BigRegion
import Derived.WalkLawsBesides
import Derived.WalkSpells
import Derived.Deep.QuietTactic
import Derived.BigQuiet
import Derived.Deep.RegionHeld3
import Derived.Lib.Bytealg
import Derived.Lib.ConvBytes
import Derived.Laws.BytesArg
import Derived.Test.YtefeompdhalgcaaSed
import Derived.Test.YtefeompdhalgcaaOwn
import Derived.Deep.DeepCutAuto
import Derived.Deep.CutBlock
import Derived.StillTailTactics
import Derived.WalkSmall
import Derived.Test.YtefeompdhalgcaaStallQ
namespace Go.Proofs.Ytefeompdhalgcaa
open Go.RowKit Go.Sed
set_option maxHeartbeats 1000000
theorem wt_hd {U O : List A3} {row : Int} (h0 : 0 < U.length + O.length) : wtS (U.length + O.length) U O row = (hd U O row).1 :: wtS ((ns U O row).1.length + (ns U O row).2.1.length) (ns U O row).1 (ns U O row).2.1 (ns U O row).2.2 := by
  have hl := ns_len (row := row) h0
  rw [← hl]
  rcases ah_cases U O row with ⟨hah, rfl, rfl⟩ | ⟨hah, a, O', rfl⟩ | ⟨hah, a, U', rfl⟩
  · simp at h0
  · have e1 : hd U (a :: O') row = a := by unfold hd; rw [if_pos hah]; rfl
    have e2 : ns U (a :: O') row = (U, O', 0) := by unfold ns; rw [if_pos hah]; rfl
    rw [e1, e2]
    conv => lhs; unfold wtS
    rw [if_pos hah]
  · have e1 : hd (a :: U') O row = a := by unfold hd; rw [if_neg (by rw [hah]; decide), if_pos hah]; rfl
    have e2 : ns (a :: U') O row = (U', O, if O.length = 0 then 0 else row + 1) := by unfold ns; rw [if_neg (by rw [hah]; decide)]; rfl
    rw [e1, e2]
    conv => lhs; unfold wtS
    rw [if_neg (by rw [hah]; decide), if_pos hah]
structure DW (w0 : World) (b : Nat) (r bu le : Int) (total : List Int) (vw : Value) (done : List Int) (U O : List A3) (row : Int) (vU vO : Value) (W : World) : Prop where
  who : OW W w0.heap.size 1 vw done.length (done.map (Value.int .i64))
  ld : LD W b r bu le vU U vO O row
  below : Below w0.heap.size w0 W
  old : ∀ k, foot b vU vO k → k = b ∨ k < w0.heap.size
  out : vw.ownBlock ≠ some b
  fin : total = done ++ wtS (U.length + O.length) U O row
  rowb : 0 ≤ row ∧ row ≤ 10
  flg : Flg U O
theorem DW.keep {w0 W W' : World} {b : Nat} {r bu le row : Int} {total : List Int} {vw vU vO : Value} {done : List Int} {U O : List A3} (h : DW w0 b r bu le total vw done U O row vU vO W) (hB : Below W.heap.size W W') :
    DW w0 b r bu le total vw done U O row vU vO W' := ⟨h.who.keep hB, h.ld.keep hB, h.below.trans (hB.mono h.below.size), h.old, h.out, h.fin, h.rowb, h.flg⟩
theorem DW.next {w0 W W' W'' : World} {b : Nat} {r bu le row : Int} {total : List Int} {vw vw' vU vO vU2 vO2 : Value} {done : List Int} {U O : List A3} (h : DW w0 b r bu le total vw done U O row vU vO W) (hb : w0.heap.size ≤ b) (h0 : 0 < U.length + O.length)
    (hl : LD W' b r bu le vU2 (ns U O row).1 vO2 (ns U O row).2.1 (ns U O row).2.2) (hf : Fr (fun k => k = b) W W') (hi : ∀ k, foot b vU2 vO2 k → foot b vU vO k) (hB : Below W'.heap.size W' W'') :
    OW W'' w0.heap.size 1 vw done.length (done.map (Value.int .i64)) ∧ LD W'' b r bu le vU2 (ns U O row).1 vO2 (ns U O row).2.1 (ns U O row).2.2 ∧ Below w0.heap.size w0 W'' := by
  refine ⟨(h.who.fr hf (fun k e e' => h.out (by rw [e, e']))).keep hB, hl.keep hB, ?_⟩
  have h1 : Below w0.heap.size w0 W' := h.below.trans (hf.below h.below.size (fun i hi e => by omega))
  exact h1.trans (hB.mono h1.size)
theorem DW.append {w0 W W' W2 : World} {b : Nat} {r bu le row : Int} {total : List Int} {vw vw' vU vO vU2 vO2 : Value} {done : List Int} {U O : List A3} (h : DW w0 b r bu le total vw done U O row vU vO W) (hb : w0.heap.size ≤ b) (h0 : 0 < U.length + O.length)
    (hn : OW W2 w0.heap.size 1 vw done.length (done.map (Value.int .i64)) ∧ LD W2 b r bu le vU2 (ns U O row).1 vO2 (ns U O row).2.1 (ns U O row).2.2 ∧ Below w0.heap.size w0 W2) (hi : ∀ k, foot b vU2 vO2 k → foot b vU vO k)
    (hown : OW W' w0.heap.size 1 vw' (done.length + 1) (done.map (Value.int .i64) ++ [.int .i64 (hd U O row).1])) (hg : W2.grownBy W' vw.ownBlock) (hc : vw'.ownBlock = vw.ownBlock ∨ vw'.ownBlock = some W2.heap.size) :
    DW w0 b r bu le total vw' (done ++ [(hd U O row).1]) (ns U O row).1 (ns U O row).2.1 (ns U O row).2.2 vU2 vO2 W' := by
  obtain ⟨n1, n2, n3⟩ := hn
  have hf : Fr (fun k => vw.ownBlock = some k) W2 W' := (Fr.refl _ _).grown hg (fun k e _ => e)
  have hlt := n1.lt
  refine ⟨by simpa using hown, n2.fr hf (fun k e e' => ?_), n3.trans (hf.below n3.size (fun i hi e => by have := (hlt _ e).1; omega)), fun k e => h.old k (hi k e), ?_, ?_, ns_row h0 h.rowb, ns_flg h.flg⟩
  · rcases h.old k (hi k e') with h1 | h1
    · exact h.out (by rw [e, h1])
    · have := (hlt _ e).1; omega
  · rcases hc with hc | hc
    · rw [hc]; exact h.out
    · rw [hc]; intro e; simp only [Option.some.injEq] at e; have := n2.ld.lt; omega
  · rw [h.fin, wt_hd h0]; simp
set_option maxRecDepth 100000 in
theorem dwaiting_any (b : Nat) (r bu le : Int) (vU vO : Value) (U O : List A3) (row : Int) (w : World) (h : LD w b r bu le vU U vO O row) (hn : U.length + O.length ≤ 4096) (hrow : 0 ≤ row ∧ row ≤ 10) (hfl : Flg U O) :
    Calls Try.prog 19 #[.pointer (some ⟨b, 0, none⟩)] w fun e w' => ∃ v, e = .returned v ∧ OW w' w.heap.size 1 v (wtS (U.length + O.length) U O row).length ((wtS (U.length + O.length) U O row).map (Value.int .i64)) ∧ Below w.heap.size w w' := by
  obtain ⟨tot, htot⟩ : ∃ tot, wtS (U.length + O.length) U O row = tot := ⟨_, rfl⟩
  rw [htot]
  obtain ⟨A1, c1, rfl, -⟩ := h.u
  obtain ⟨A2, c2, rfl, -⟩ := h.o
  have hb := h.ld
  have hbl : b < w.heap.size := hb.lt
  have hfd := field_whod
  have k0 : w.cell? ⟨b, 0, none⟩ = some (.int .u64 r) := hb.cell 0
  have k1 : w.cell? ⟨b, 1, none⟩ = some (.int .u64 bu) := hb.cell 1
  have k2 : w.cell? ⟨b, 2, none⟩ = some (.int .u64 le) := hb.cell 2
  have k3 : w.cell? ⟨b, 3, none⟩ = some (.slice A1 U.length c1) := hb.cell 3
  have k4 : w.cell? ⟨b, 4, none⟩ = some (.slice A2 O.length c2) := hb.cell 4
  have k5 : w.cell? ⟨b, 5, none⟩ = some (.int .i64 row) := hb.cell 5
  have hB : Below w.heap.size w (w.alloc (.cells #[.int .u64 r, .int .u64 bu, .int .u64 le, .slice A1 U.length c1, .slice A2 O.length c2, .int .i64 row] 51 (0, 0))) := (Below.refl _ _).alloc (Nat.le_refl _) _
  have hsl : ∀ (v : Value) (l : List A3), SL w b v l → SL (w.alloc (.cells #[.int .u64 r, .int .u64 bu, .int .u64 le, .slice A1 U.length c1, .slice A2 O.length c2, .int .i64 row] 51 (0, 0))) w.heap.size v l := by
    rintro v l ⟨A, c, rfl, h1, h2, h3, h4⟩
    exact ⟨A, c, rfl, h1.keep hB, h2, h3, fun a e => ⟨by have := (h4 a e).1; simp; omega, by have := (h4 a e).1; omega⟩⟩
  have hj0 : DW w w.heap.size r bu le tot (.slice none 0 0) [] U O row (.slice A1 U.length c1) (.slice A2 O.length c2) (w.alloc (.cells #[.int .u64 r, .int .u64 bu, .int .u64 le, .slice A1 U.length c1, .slice A2 O.length c2, .int .i64 row] 51 (0, 0))) := by
    refine ⟨OW.nil _ _ _, ⟨Bl.new' rfl, hsl _ _ h.u, hsl _ _ h.o⟩, hB, ?_, by simp [Value.ownBlock], by rw [htot]; rfl, hrow, hfl⟩
    rintro k (e | e | e)
    · exact .inl e
    · exact .inr (h.u.own_lt e).1
    · exact .inr (h.o.own_lt e).1
  have hln : tot.length ≤ 4096 := by rw [← htot, wtS_len _ _ _ _ rfl]; exact hn
  replace hj0 := Lib.hid hj0
  replace hln := Lib.hid hln
  have hn' := Lib.hid hn
  clear hsl hB hb h htot hrow hfl hn
  go_enter Try.func19, Try.ntmps19
  go_wp2_with fail
  obtain ⟨wl, hwl⟩ : ∃ wl, w.alloc (.cells #[.int .u64 r, .int .u64 bu, .int .u64 le, .slice A1 U.length c1, .slice A2 O.length c2, .int .i64 row] 51 (0, 0)) = wl := ⟨_, rfl⟩
  rw [hwl] at hj0 ⊢
  clear hwl k0 k1 k2 k3 k4 k5
  go_loopw [4, 5, 6] (fun vw _ _ wr => ∃ done U1 O1 row1 vU1 vO1, done.length + U1.length + O1.length = tot.length ∧ DW w w.heap.size r bu le tot vw done U1 O1 row1 vU1 vO1 wr) (fun vw _ _ _ => tot.length - lenV vw)
  case atStart => exact ⟨[], U, O, row, _, _, by have := hj0.out.fin; rw [this]; simp [wtS_len _ _ _ _ rfl], hj0.out⟩
  case round =>
    clear hj0 hn'
    obtain ⟨done, U1, O1, row1, vU1, vO1, hlen, hj⟩ := hrel
    obtain ⟨Aw, cw, rfl, -⟩ := hj.who.shape
    have htl : U1.length + O1.length ≤ 4096 := by have := hln.out; omega
    have hdl : done.length ≤ 4096 := by have := hln.out; omega
    have hN := next_any w.heap.size r bu le _ _ U1 O1 row1 _ hj.ld htl
    by_cases h0 : 0 < U1.length + O1.length
    · rw [decide_eq_true h0] at hN
      have hgo := fun w' h => dgoes_any w.heap.size r bu le vU1 vO1 U1 O1 row1 w' h htl hj.flg hj.rowb h0
      obtain ⟨⟨a1, a2, a3⟩, hhd⟩ : ∃ a, hd U1 O1 row1 = a := ⟨_, rfl⟩
      have happ := fun W W' W2 vw' vU2 vO2 (h : DW w w.heap.size r bu le tot (.slice Aw done.length cw) done U1 O1 row1 vU1 vO1 W) => DW.append (W' := W') (W2 := W2) (vw' := vw') (vU2 := vU2) (vO2 := vO2) h (Nat.le_refl _) h0
      have hnl := ns_len (row := row1) h0
      rw [hhd] at hN hgo happ
      replace hgo := Lib.hid hgo
      replace hN := Lib.hid hN
      replace hj := Lib.hid hj
      replace happ := Lib.hid happ
      replace hnl := Lib.hid hnl
      replace hlen := Lib.hid hlen
      have h0' := Lib.hid h0
      clear hhd htl h0
      replace hdl := Lib.hid hdl
      go_wp2_with (first
        | (go_at_call 30; refine hN.out.mono ?_; rintro e w3 ⟨rfl, hB3⟩; have hj3 := Lib.hid (hj.out.keep (hB3.alloc hB3.size (.cells #[.int .i64 a1, .int .u64 a2, .bool a3] 82))); unfold aV)
        | (go_at_call 31; refine (hgo.out _ hj3.out.ld).mono ?_; rintro e w6 ⟨vU2, vO2, rfl, hl6, hf6, hi6⟩; have hn6 := Lib.hid (hj3.out.next (vw' := .slice none 0 0) (Nat.le_refl _) h0'.out hl6 hf6 hi6 ((Below.refl _ _).alloc (Nat.le_refl _) (.cells #[.int .i64 a1] 3 (0, 0)))); replace hi6 := Lib.hid hi6; clear hl6 hf6; unfold aV)
        | (at_builtin; refine wpList_append_ow rfl _ _ 35 rfl w.heap.size 3 Try.underlying35 infoInt rfl (by decide) _ done.length _ rfl hn6.out.1 _ 1 1 [.int .i64 a1] rfl (rd_one rfl _ _) (by intro u hu; simp at hu; subst hu; rfl) (by have := hdl.out; unfold maxLen; omega) (by have := hdl.out; omega) (by have := hn6.out.2.2.size; exact this) ?_; intro v' w8 hown hgr hc; have hj9 := Lib.hid (happ.out _ _ _ _ _ _ hj3.out hn6.out hi6.out hown hgr hc); obtain ⟨A9, c9, rfl, -⟩ := hown.shape; clear hown hgr hc))
      go_roundw
      case rel => exact ⟨_, _, _, _, _, _, by have h1 := hnl.out; have h2 := hlen.out; simp; omega, hj9.out⟩
      case measure => have h2 := hlen.out; have h3 := h0'.out; simp [lenV] at *; omega
    · rw [decide_eq_false h0] at hN
      obtain rfl : U1 = [] := List.eq_nil_of_length_eq_zero (by omega)
      obtain rfl : O1 = [] := List.eq_nil_of_length_eq_zero (by omega)
      obtain ⟨⟨a1, a2, a3⟩, hhd⟩ : ∃ a, hd [] [] row1 = a := ⟨_, rfl⟩
      rw [hhd] at hN
      replace hN := Lib.hid hN
      replace hj := Lib.hid hj
      clear hhd htl h0
      replace hdl := Lib.hid hdl
      go_wp2_with (go_at_call 30; refine hN.out.mono ?_; rintro e w3 ⟨rfl, hB3⟩; have hj3 := Lib.hid (hj.out.keep (hB3.alloc hB3.size (.cells #[.int .i64 a1, .int .u64 a2, .bool a3] 82))); unfold aV)
      go_ret
      have hf := hj3.out.fin
      simp only [List.length_nil, Nat.add_zero, wtS, List.append_nil] at hf
      rw [hf]
      exact ⟨_, rfl, hj3.out.who, hj3.out.below⟩
end Go.Proofs.Ytefeompdhalgcaa
