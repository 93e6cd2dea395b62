/- Contracts of layer 20 (stall): who waits. -/
import Derived.Test.YtefeompdhalgcaaProg
import Derived.RangeFuncNested
import Derived.RangeFuncBound
import Derived.RangeFuncCalls
import Derived.RangeFuncLeaves
import Derived.Shelf.Abstract
import Derived.Shelf.RegionOpen
import Derived.WalkKit
import Derived.OwnWalkIn
import Derived.TacticsInMore
import Derived.LoopNIn
import Derived.LoopIn
import Derived.Lib.Hide
import Derived.Outline
import Derived.RegionTactic
import Derived.BigRegion
import Derived.WalkLawsBesides
import Derived.WalkSpells
import Derived.Deep.QuietTactic
import Derived.BigQuiet
import Derived.Deep.RegionHeld3
import Derived.Lib.Bytealg
import Derived.Lib.ConvBytes
import Derived.Laws.BytesArg
import Derived.Test.YtefeompdhalgcaaSed
import Derived.Test.YtefeompdhalgcaaOwn
import Derived.Deep.DeepCutAuto
import Derived.Deep.CutBlock
import Derived.Test.YtefeompdhalgcaaStallC
namespace Go.Proofs.Ytefeompdhalgcaa
open Go.RowKit Go.Sed
set_option maxHeartbeats 1000000
/-- who waits, in the order in which they go. -/
def wtS : Nat → List A3 → List A3 → Int → List Int
  | 0, _, _, _ => []
  | f + 1, U, O, row =>
    if ahI U O row = 1 then match O with
      | a :: O' => a.1 :: wtS f U O' 0
      | [] => []
    else if ahI U O row = 0 then match U with
      | a :: U' => a.1 :: wtS f U' O (if O.length = 0 then 0 else row + 1)
      | [] => []
    else []
theorem wtS_len : ∀ (f : Nat) (U O : List A3) (row : Int), U.length + O.length = f → (wtS f U O row).length = f
  | 0, _, _, _, _ => rfl
  | f + 1, U, O, row, h => by
    unfold wtS
    rcases ah_cases U O row with ⟨_, rfl, rfl⟩ | ⟨hah, a, O', rfl⟩ | ⟨hah, a, U', rfl⟩
    · simp at h
    · rw [if_pos hah]
      simp only [List.length_cons] at h ⊢
      rw [wtS_len f U O' 0 (by omega)]
    · rw [if_neg (by rw [hah]; decide), if_pos hah]
      simp only [List.length_cons] at h ⊢
      rw [wtS_len f U' O _ (by omega)]
/-- the state of the copy. -/
structure WJ (w0 : World) (b : Nat) (r bu le : Int) (total : List Int) (vw : Value) (done : List Int) (U O : List A3) (row : Int) (vU vO : Value) (W : World) : Prop where
  who : OW W w0.heap.size 1 vw done.length (done.map (Value.int .i64))
  lm : Lm W b r bu le vU vO row
  u : SL W b vU U
  o : SL W b vO O
  below : Below w0.heap.size w0 W
  out : ∀ k, vw.ownBlock = some k → ¬ foot b vU vO k
  fin : total = done ++ wtS (U.length + O.length) U O row
  row : 0 ≤ row ∧ row ≤ 10
theorem SL.below {w w' : World} {b : Nat} {v : Value} {l : List A3} (h : SL w b v l) (hB : Below w.heap.size w w') : SL w' b v l := by
  obtain ⟨A, c, rfl, h1, h2, h3, h4⟩ := h
  exact ⟨A, c, rfl, h1.keep hB, h2, h3, fun a e => ⟨Nat.lt_of_lt_of_le (h4 a e).1 hB.size, (h4 a e).2⟩⟩
theorem SL.own_lt {w : World} {b k : Nat} {v : Value} {l : List A3} (h : SL w b v l) (e : v.ownBlock = some k) : k < w.heap.size ∧ k ≠ b := by
  obtain ⟨A, c, rfl, -, -, -, h4⟩ := h
  rcases A with _ | a
  · simp [Value.ownBlock] at e
  · simp only [Value.ownBlock, Option.some.injEq] at e
    subst e; exact h4 a rfl
theorem WJ.keep {w0 W W' : World} {b : Nat} {r bu le row : Int} {total : List Int} {vw vU vO : Value} {done : List Int} {U O : List A3} (h : WJ w0 b r bu le total vw done U O row vU vO W) (hB : Below W.heap.size W W') :
    WJ w0 b r bu le total vw done U O row vU vO W' := ⟨h.who.keep hB, Bl.keep h.lm hB, h.u.below hB, h.o.below hB, h.below.trans (hB.mono h.below.size), h.out, h.fin, h.row⟩
theorem WJ.goesO {w0 W W' : World} {b : Nat} {r bu le row : Int} {total : List Int} {vw vU vO v' : Value} {done : List Int} {U O' : List A3} {a : A3} (h : WJ w0 b r bu le total vw done U (a :: O') row vU vO W) (hb0 : w0.heap.size ≤ b)
    (ho : OW W' W.heap.size 3 v' O'.length (fl O')) (hf : Fr (fun k => k = b) W W') (hah : ahI U (a :: O') row = 1) :
    OW W' w0.heap.size 1 vw done.length (done.map (Value.int .i64)) ∧ SL W' b vU U ∧ SL W' b v' O' ∧ Below w0.heap.size w0 W' ∧ (∀ k, vw.ownBlock = some k → ¬ foot b vU v' k) ∧ total = (done ++ [a.1]) ++ wtS (U.length + O'.length) U O' 0 := by
  have hbl : b < W.heap.size := h.lm.lt
  refine ⟨h.who.fr hf (fun k e e' => h.out k e (.inl e')), h.u.fr hf (fun k e => (h.u.own_lt e).2), SL.of_own ho hbl, h.below.trans (hf.below h.below.size (fun i hi => by omega)), ?_, ?_⟩
  · rintro k e (e' | e' | e')
    · exact h.out k e (.inl e')
    · exact h.out k e (.inr (.inl e'))
    · have := (h.who.lt _ e).2; have := (ho.lt _ e').1; omega
  · rw [h.fin, List.length_cons, show U.length + (O'.length + 1) = U.length + O'.length + 1 by omega]
    conv => lhs; unfold wtS
    rw [if_pos hah]; simp
theorem WJ.goesU {w0 W W' : World} {b : Nat} {r bu le row row' : Int} {total : List Int} {vw vU vO v' : Value} {done : List Int} {U' O : List A3} {a : A3} (h : WJ w0 b r bu le total vw done (a :: U') O row vU vO W) (hb0 : w0.heap.size ≤ b)
    (ho : OW W' W.heap.size 3 v' U'.length (fl U')) (hf : Fr (fun k => k = b) W W') (hah : ahI (a :: U') O row = 0) (hr : (if O.length = 0 then 0 else row + 1) = row') :
    OW W' w0.heap.size 1 vw done.length (done.map (Value.int .i64)) ∧ SL W' b v' U' ∧ SL W' b vO O ∧ Below w0.heap.size w0 W' ∧ (∀ k, vw.ownBlock = some k → ¬ foot b v' vO k) ∧ total = (done ++ [a.1]) ++ wtS (U'.length + O.length) U' O row' := by
  have hbl : b < W.heap.size := h.lm.lt
  refine ⟨h.who.fr hf (fun k e e' => h.out k e (.inl e')), SL.of_own ho hbl, h.o.fr hf (fun k e => (h.o.own_lt e).2), h.below.trans (hf.below h.below.size (fun i hi => by omega)), ?_, ?_⟩
  · rintro k e (e' | e' | e')
    · exact h.out k e (.inl e')
    · have := (h.who.lt _ e).2; have := (ho.lt _ e').1; omega
    · exact h.out k e (.inr (.inr e'))
  · rw [h.fin, List.length_cons, show U'.length + 1 + O.length = U'.length + O.length + 1 by omega]
    conv => lhs; unfold wtS
    rw [if_neg (by rw [hah]; decide), if_pos hah, hr]; simp
theorem WJ.append {w0 W W' : World} {b : Nat} {r bu le row : Int} {total : List Int} {vw vw' vU vO : Value} {done : List Int} {U O : List A3} {x : Int} (hw : OW W w0.heap.size 1 vw done.length (done.map (Value.int .i64))) (hl : Lm W b r bu le vU vO row) (hu : SL W b vU U) (ho : SL W b vO O)
    (hB : Below w0.heap.size w0 W) (hout : ∀ k, vw.ownBlock = some k → ¬ foot b vU vO k) (hfin : total = (done ++ [x]) ++ wtS (U.length + O.length) U O row) (hr : 0 ≤ row ∧ row ≤ 10)
    (hown : OW W' w0.heap.size 1 vw' (done.length + 1) (done.map (Value.int .i64) ++ [.int .i64 x])) (hg : W.grownBy W' vw.ownBlock) (hc : vw'.ownBlock = vw.ownBlock ∨ vw'.ownBlock = some W.heap.size) :
    WJ w0 b r bu le total vw' (done ++ [x]) U O row vU vO W' := by
  have hf : Fr (fun k => vw.ownBlock = some k) W W' := (Fr.refl _ _).grown hg (fun k e _ => e)
  have hfl : ∀ k, foot b vU vO k → k < W.heap.size := by
    rintro k (e | e | e)
    · rw [e]; exact hl.lt
    · exact (hu.own_lt e).1
    · exact (ho.own_lt e).1
  refine ⟨by simpa using hown, Bl.fr hl hf (fun e => hout _ e (.inl rfl)), hu.fr hf (fun k e e' => hout _ e' (.inr (.inl e))), ho.fr hf (fun k e e' => hout _ e' (.inr (.inr e))), ?_, ?_, hfin, hr⟩
  · exact hB.trans (hf.below hB.size (fun i hi e => by have := (hw.lt _ e).1; omega))
  · intro k e hk
    rcases hc with hc | hc
    · exact hout k (hc ▸ e) hk
    · rw [hc] at e
      simp only [Option.some.injEq] at e
      have := hfl k hk
      omega
theorem field_who (x y z : Value) (W : World) : (Instr.field 77 (.agg #[x, y, z]) 0).run Try.prog W = .ok x W := by
  simp [Instr.field, run_underlying Try.underlying77, asAgg, part, isAgg, run_underlying Try.underlying3]
set_option maxRecDepth 100000 in
theorem waiting_any (b : Nat) (r bu le : Int) (vU vO : Value) (U O : List A3) (row : Int) (w : World) (h : LO w b r bu le vU U vO O row) (hn : U.length + O.length ≤ 4096) (hrow : 0 ≤ row ∧ row ≤ 10) :
    Calls Try.prog 12 #[.pointer (some ⟨b, 0, none⟩)] w fun e w' => ∃ v, e = .returned v ∧ OW w' w.heap.size 1 v (wtS (U.length + O.length) U O row).length ((wtS (U.length + O.length) U O row).map (Value.int .i64)) ∧ Below w.heap.size w w' := by
  obtain ⟨tot, htot⟩ : ∃ tot, wtS (U.length + O.length) U O row = tot := ⟨_, rfl⟩
  rw [htot]
  have hsu := SL.of_own (h.u.more (Nat.le_refl _)) (Nat.lt_succ_self b)
  have hso := SL.of_own (h.o.more (Nat.le_refl _)) (Nat.lt_succ_self b)
  obtain ⟨A1, c1, rfl, -⟩ := h.u.shape
  obtain ⟨A2, c2, rfl, -⟩ := h.o.shape
  have hb := h.lm
  have hbl : b < w.heap.size := hb.lt
  have hfd := field_who
  have k0 : w.cell? ⟨b, 0, none⟩ = some (.int .u64 r) := hb.cell 0
  have k1 : w.cell? ⟨b, 1, none⟩ = some (.int .u64 bu) := hb.cell 1
  have k2 : w.cell? ⟨b, 2, none⟩ = some (.int .u64 le) := hb.cell 2
  have k3 : w.cell? ⟨b, 3, none⟩ = some (.slice A1 U.length c1) := hb.cell 3
  have k4 : w.cell? ⟨b, 4, none⟩ = some (.slice A2 O.length c2) := hb.cell 4
  have k5 : w.cell? ⟨b, 5, none⟩ = some (.int .i64 row) := hb.cell 5
  replace h := Lib.hid h
  replace hn := Lib.hid hn
  replace htot := Lib.hid htot
  go_enter Try.func12, Try.ntmps12
  have hB : Below w.heap.size w (w.alloc (.cells #[.int .u64 r, .int .u64 bu, .int .u64 le, .slice A1 U.length c1, .slice A2 O.length c2, .int .i64 row] 74 (0, 0))) := (Below.refl _ _).alloc (Nat.le_refl _) _
  have hown : ∀ (v : Value) (l : List A3), OW w (b + 1) 3 v l.length (fl l) → SL (w.alloc (.cells #[.int .u64 r, .int .u64 bu, .int .u64 le, .slice A1 U.length c1, .slice A2 O.length c2, .int .i64 row] 74 (0, 0))) w.heap.size v l := by
    intro v l hv
    obtain ⟨A, c, rfl, h1, h2, h3, h4⟩ := hv.shape
    exact ⟨A, c, rfl, h1.keep hB, h2, h3, fun a e => ⟨by have := (h4 a e).2; simp; omega, by have := (h4 a e).2; omega⟩⟩
  have hj0 : WJ w w.heap.size r bu le tot (.slice none 0 0) [] U O row (.slice A1 U.length c1) (.slice A2 O.length c2) (w.alloc (.cells #[.int .u64 r, .int .u64 bu, .int .u64 le, .slice A1 U.length c1, .slice A2 O.length c2, .int .i64 row] 74 (0, 0))) :=
    ⟨OW.nil _ _ _, Bl.new' rfl, hown _ _ h.out.u, hown _ _ h.out.o, hB, fun k e => by simp [Value.ownBlock] at e, by rw [htot.out]; rfl, hrow⟩
  replace hj0 := Lib.hid hj0
  replace hsu := Lib.hid hsu
  replace hso := Lib.hid hso
  replace hown := Lib.hid hown
  go_wp2_with (go_at_call 28; refine (ahead_any w.heap.size r bu le _ _ row U O _ hj0.out.lm hj0.out.u hj0.out.o hn.out).mono ?_; rintro e w1 ⟨rfl, hB1⟩; have hj1 := Lib.hid (hj0.out.keep hB1))
  go_loopw [4, 5] (fun vw i wr => ∃ done U1 O1 row1 vU1 vO1, i = .int .i64 (ahI U1 O1 row1) ∧ done.length + U1.length + O1.length = U.length + O.length ∧ WJ w w.heap.size r bu le tot vw done U1 O1 row1 vU1 vO1 wr) (fun vw _ _ => U.length + O.length - lenV vw)
  case atStart => exact ⟨[], U, O, row, _, _, rfl, by simp, hj1.out⟩
  case round =>
    clear hj0 hj1
    obtain ⟨done, U1, O1, row1, vU1, vO1, rfl, hlen, hj⟩ := hrel
    replace hj := Lib.hid hj
    replace hlen := Lib.hid hlen
    obtain ⟨Aw, cw, rfl, -⟩ := hj.out.who.shape
    rcases ah_cases U1 O1 row1 with ⟨hah, rfl, rfl⟩ | ⟨hah, a, O', rfl⟩ | ⟨hah, a, U', rfl⟩
    · rw [hah]
      replace hah := Lib.hid hah
      go_wp2
      go_ret
      have hf := hj.out.fin
      simp only [List.length_nil, Nat.add_zero, wtS, List.append_nil] at hf
      rw [hf]
      exact ⟨_, rfl, hj.out.who, hj.out.below⟩
    · skip
      rw [hah]
      replace hah := Lib.hid hah
      go_wp2_with (first
        | (go_at_call 29; refine (goesO w.heap.size r bu le _ _ row1 a O' U1 _ hj.out.lm hj.out.o hj.out.u (by have := hlen.out; simp at this; have := hn.out; omega)).mono ?_; rintro e w5 ⟨v5, rfl, ho5, hl5, hf5⟩; obtain ⟨q1, q2, q3, q4, q5, q6⟩ := hj.out.goesO (Nat.le_refl _) ho5 hf5 hah.out; replace hl5 := Lib.hid hl5; replace q1 := Lib.hid q1; replace q2 := Lib.hid q2; replace q3 := Lib.hid q3; replace q5 := Lib.hid q5; replace q6 := Lib.hid q6; clear ho5 hf5; unfold aV)
        | (at_builtin; have hdl : done.length ≤ 4096 := (by have := hlen.out; have := hn.out; omega); refine wpList_append_ow rfl _ _ 35 rfl w.heap.size 3 Try.underlying35 infoInt rfl (by decide) _ done.length _ rfl (q1.out.alloc _) _ 1 1 [.int .i64 a.1] rfl (rd_one rfl _ _) (by intro u hu; simp at hu; subst hu; rfl) (by unfold maxLen; omega) (by omega) (by have := q4.size; simp; omega) ?_; intro v' w8 hown hgr hc; have hj9 := Lib.hid (WJ.append (q1.out.alloc _) (Bl.alloc hl5.out _) (q2.out.below ((Below.refl _ _).alloc (Nat.le_refl _) _)) (q3.out.below ((Below.refl _ _).alloc (Nat.le_refl _) _)) (q4.alloc q4.size _) q5.out q6.out ⟨by omega, by omega⟩ hown hgr hc); obtain ⟨A9, c9, rfl, -⟩ := hown.shape; clear hown hgr hc)
        | (go_at_call 28; refine (ahead_any w.heap.size r bu le _ _ _ _ _ _ hj9.out.lm hj9.out.u hj9.out.o (by have := hlen.out; simp at this; have := hn.out; omega)).mono ?_; rintro e w9 ⟨rfl, hB9⟩; have hj10 := Lib.hid (hj9.out.keep hB9)))
      go_roundw
      case rel => exact ⟨_, _, _, _, _, _, rfl, by have := hlen.out; simp at *; omega, hj10.out⟩
      case measure => have := hlen.out; simp [lenV] at *; omega
    · skip
      have hr10 : 0 < O1.length → row1 < 10 := fun h0 => by
        unfold ahI ahN at hah
        rw [if_neg (by simp), if_neg (by simp)] at hah
        by_cases h10 : 10 ≤ row1
        · rw [if_pos ⟨h0, h10⟩] at hah; omega
        · omega
      obtain ⟨row2, hrow2⟩ : ∃ row2, (if O1.length = 0 then 0 else row1 + 1) = row2 := ⟨_, rfl⟩
      have hrb := hj.out.row
      have hrw : (O1.length = 0 ∧ row2 = 0) ∨ (0 < O1.length ∧ row2 = wrap64 (row1 + 1)) := by
        by_cases h0 : O1.length = 0
        · left; rw [if_pos h0] at hrow2; exact ⟨h0, hrow2.symm⟩
        · right; rw [if_neg h0] at hrow2
          have := hr10 (by omega)
          refine ⟨by omega, ?_⟩
          rw [← hrow2]; unfold wrap64; omega
      have hr2 : 0 ≤ row2 ∧ row2 ≤ 10 := by
        by_cases h0 : O1.length = 0
        · rw [if_pos h0] at hrow2; omega
        · rw [if_neg h0] at hrow2
          have := hr10 (by omega)
          omega
      clear hr10 hrb
      replace hrow2 := Lib.hid hrow2
      replace hrw := Lib.hid hrw
      replace hr2 := Lib.hid hr2
      rw [hah]
      replace hah := Lib.hid hah
      go_wp2_with (first
        | (go_at_call 29; refine (goesU w.heap.size r bu le _ _ row1 row2 a U' O1 _ hj.out.lm hj.out.u hj.out.o (by have := hlen.out; simp at this; have := hn.out; omega) hrw.out).mono ?_; rintro e w5 ⟨v5, rfl, ho5, hl5, hf5⟩; obtain ⟨q1, q2, q3, q4, q5, q6⟩ := hj.out.goesU (Nat.le_refl _) ho5 hf5 hah.out hrow2.out; replace hl5 := Lib.hid hl5; replace q1 := Lib.hid q1; replace q2 := Lib.hid q2; replace q3 := Lib.hid q3; replace q5 := Lib.hid q5; replace q6 := Lib.hid q6; clear ho5 hf5; unfold aV)
        | (at_builtin; have hdl : done.length ≤ 4096 := (by have := hlen.out; have := hn.out; omega); refine wpList_append_ow rfl _ _ 35 rfl w.heap.size 3 Try.underlying35 infoInt rfl (by decide) _ done.length _ rfl (q1.out.alloc _) _ 1 1 [.int .i64 a.1] rfl (rd_one rfl _ _) (by intro u hu; simp at hu; subst hu; rfl) (by unfold maxLen; omega) (by omega) (by have := q4.size; simp; omega) ?_; intro v' w8 hown hgr hc; have hj9 := Lib.hid (WJ.append (q1.out.alloc _) (Bl.alloc hl5.out _) (q2.out.below ((Below.refl _ _).alloc (Nat.le_refl _) _)) (q3.out.below ((Below.refl _ _).alloc (Nat.le_refl _) _)) (q4.alloc q4.size _) q5.out q6.out hr2.out hown hgr hc); obtain ⟨A9, c9, rfl, -⟩ := hown.shape; clear hown hgr hc)
        | (go_at_call 28; refine (ahead_any w.heap.size r bu le _ _ _ _ _ _ hj9.out.lm hj9.out.u hj9.out.o (by have := hlen.out; simp at this; have := hn.out; omega)).mono ?_; rintro e w9 ⟨rfl, hB9⟩; have hj10 := Lib.hid (hj9.out.keep hB9)))
      go_roundw
      case rel => exact ⟨_, _, _, _, _, _, rfl, by have := hlen.out; simp at *; omega, hj10.out⟩
      case measure => have := hlen.out; simp [lenV] at *; omega
end Go.Proofs.Ytefeompdhalgcaa
