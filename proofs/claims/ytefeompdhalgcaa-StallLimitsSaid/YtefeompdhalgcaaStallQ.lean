/- Contracts of the document's limiter (sedimentref20): a step, who waits. -/
import Derived.Test.YtefeompdhalgcaaProg
import Derived.RangeFuncNested
import Derived.RangeFuncBound
import Derived.RangeFuncCalls
import Derived.RangeFuncLeaves
import Derived.Shelf.Abstract
import Derived.Shelf.RegionOpen
import Derived.WalkKit
import Derived.OwnWalkIn
import Derived.TacticsInMore
import Derived.LoopNIn
import Derived.LoopIn
import Derived.Lib.Hide
import Derived.Outline
import Derived.RegionTactic
import Derived.BigRegion
import Derived.WalkLawsBesides
import Derived.WalkSpells
import Derived.Deep.QuietTactic
import Derived.BigQuiet
import Derived.Deep.RegionHeld3
import Derived.Lib.Bytealg
import Derived.Lib.ConvBytes
import Derived.Laws.BytesArg
import Derived.Test.YtefeompdhalgcaaSed
import Derived.Test.YtefeompdhalgcaaOwn
import Derived.Deep.DeepCutAuto
import Derived.Deep.CutBlock
import Derived.StillTailTactics
import Derived.WalkSmall
import Derived.Test.YtefeompdhalgcaaStallP
namespace Go.Proofs.Ytefeompdhalgcaa
open Go.RowKit Go.Sed
set_option maxHeartbeats 1000000
def Flg (U O : List A3) : Prop := (∀ a, a ∈ U → a.2.2 = true) ∧ ∀ a, a ∈ O → a.2.2 = false
theorem lfoot_lt {w : World} {b : Nat} {r bu le row : Int} {vU vO : Value} {U O : List A3} (h : LD w b r bu le vU U vO O row) {k : Nat} (hk : foot b vU vO k) : k < w.heap.size := by
  rcases hk with e | e | e
  · rw [e]; exact h.ld.lt
  · exact (h.u.own_lt e).1
  · exact (h.o.own_lt e).1
/-- a step's state. -/
structure DJ (w0 : World) (b : Nat) (r bu : Int) (vU vO : Value) (vw : Value) (done : List Int) (le : Int) (U O : List A3) (row : Int) (vU1 vO1 : Value) (W : World) : Prop where
  who : OW W w0.heap.size 1 vw done.length (done.map (Value.int .i64))
  ld : LD W b r bu le vU1 U vO1 O row
  fr : Fr (fun k => k = b) w0 W
  inn : ∀ k, foot b vU1 vO1 k → k < w0.heap.size ∧ foot b vU vO k
theorem DJ.below {w0 W W' : World} {b : Nat} {r bu le row : Int} {vU vO vw vU1 vO1 : Value} {done : List Int} {U O : List A3} (h : DJ w0 b r bu vU vO vw done le U O row vU1 vO1 W) (hB : Below W.heap.size W W') :
    DJ w0 b r bu vU vO vw done le U O row vU1 vO1 W' := ⟨h.who.keep hB, h.ld.keep hB, h.fr.thenB hB, h.inn⟩
theorem DJ.left {w0 W : World} {b : Nat} {r bu le row : Int} {vU vO vw vU1 vO1 : Value} {done : List Int} {U O : List A3} (h : DJ w0 b r bu vU vO vw done le U O row vU1 vO1 W) (x : Int) :
    DJ w0 b r bu vU vO vw done x U O row vU1 vO1 (W.setCell ⟨b, 2, none⟩ (.int .u64 x)) := by
  have hF : Fr (fun k => k = b) W (W.setCell ⟨b, 2, none⟩ (.int .u64 x)) := (Fr.refl _ _).set _ (fun _ => rfl)
  have hbl := (h.inn b (.inl rfl)).1
  refine ⟨h.who.set _ (fun e => by have := (h.who.lt _ e).1; omega), ⟨Bl.setSame h.ld.ld 2 _, h.ld.u.fr hF (fun k e => (h.ld.u.own_lt e).2), h.ld.o.fr hF (fun k e => (h.ld.o.own_lt e).2)⟩, h.fr.set _ (fun _ => rfl), h.inn⟩
theorem DJ.goes {w0 W W' : World} {b : Nat} {r bu le row row' : Int} {vU vO vw vU1 vO1 vU2 vO2 : Value} {done : List Int} {U O U' O' : List A3} (h : DJ w0 b r bu vU vO vw done le U O row vU1 vO1 W)
    (hl : LD W' b r bu le vU2 U' vO2 O' row') (hf : Fr (fun k => k = b) W W') (hi : ∀ k, foot b vU2 vO2 k → foot b vU1 vO1 k) : DJ w0 b r bu vU vO vw done le U' O' row' vU2 vO2 W' := by
  have hbl := (h.inn b (.inl rfl)).1
  exact ⟨h.who.fr hf (fun k e e' => by have := (h.who.lt _ e).1; omega), hl, h.fr.then hf (fun i _ e => e), fun k e => h.inn k (hi k e)⟩
theorem DJ.append {w0 W W' : World} {b : Nat} {r bu le row : Int} {vU vO vw vw' vU1 vO1 : Value} {done : List Int} {U O : List A3} {x : Int} (h : DJ w0 b r bu vU vO vw done le U O row vU1 vO1 W)
    (hown : OW W' w0.heap.size 1 vw' (done.length + 1) (done.map (Value.int .i64) ++ [.int .i64 x])) (hg : W.grownBy W' vw.ownBlock) : DJ w0 b r bu vU vO vw' (done ++ [x]) le U O row vU1 vO1 W' := by
  have hf : Fr (fun k => vw.ownBlock = some k) W W' := (Fr.refl _ _).grown hg (fun k e _ => e)
  have hlt := h.who.lt
  refine ⟨by simpa using hown, h.ld.fr hf (fun k e e' => by have := (hlt _ e).1; have := (h.inn k e').1; omega), h.fr.grown hg (fun k e hk => by have := (hlt _ e).1; omega), h.inn⟩
/-- one that goes: by either list. -/
theorem dgoes_any (b : Nat) (r bu le : Int) (vU vO : Value) (U O : List A3) (row : Int) (w : World) (h : LD w b r bu le vU U vO O row) (hn : U.length + O.length ≤ 4096) (hf : Flg U O) (hr : 0 ≤ row ∧ row ≤ 10) (h0 : 0 < U.length + O.length) :
    Calls Try.prog 31 #[.pointer (some ⟨b, 0, none⟩)] w (DGoes w b r bu le vU vO (hd U O row) (ns U O row).1 (ns U O row).2.1 (ns U O row).2.2) := by
  rcases ah_cases U O row with ⟨hah, rfl, rfl⟩ | ⟨hah, a, O', rfl⟩ | ⟨hah, a, U', rfl⟩
  · simp at h0
  · have e1 : hd U (a :: O') row = a := by unfold hd; rw [if_pos hah]; rfl
    have e2 : ns U (a :: O') row = (U, O', 0) := by unfold ns; rw [if_pos hah]; rfl
    rw [e1, e2]
    exact dgoesO b r bu le vU vO U O' a row w h (by simp at hn; omega) hah (hf.2 a (by simp))
  · have e1 : hd (a :: U') O row = a := by unfold hd; rw [if_neg (by rw [hah]; decide), if_pos hah]; rfl
    have e2 : ns (a :: U') O row = (U', O, if O.length = 0 then 0 else row + 1) := by unfold ns; rw [if_neg (by rw [hah]; decide)]; rfl
    rw [e1, e2]
    exact dgoesU b r bu le vU vO U' O a row w h (by simp at hn; omega) hah (hf.1 a (by simp)) hr
/-- the step's plain law, by head and rest. -/
theorem nx_hd {le row : Int} {U O : List A3} (h0 : 0 < U.length + O.length) : nx le U O row = if le < (hd U O row).2.1 then none else some (hd U O row, le - (hd U O row).2.1, (ns U O row).1, (ns U O row).2.1, (ns U O row).2.2) := by
  rcases ah_cases U O row with ⟨hah, rfl, rfl⟩ | ⟨hah, a, O', rfl⟩ | ⟨hah, a, U', rfl⟩
  · simp at h0
  · unfold nx hd ns; simp only [hah, if_true]; rfl
  · unfold nx hd ns; simp only [hah]; rfl
theorem ns_len {U O : List A3} {row : Int} (h0 : 0 < U.length + O.length) : (ns U O row).1.length + (ns U O row).2.1.length + 1 = U.length + O.length := by
  rcases ah_cases U O row with ⟨hah, rfl, rfl⟩ | ⟨hah, a, O', rfl⟩ | ⟨hah, a, U', rfl⟩
  · simp at h0
  · unfold ns; rw [if_pos hah]; simp; omega
  · unfold ns; rw [if_neg (by rw [hah]; decide)]; simp; omega
theorem ns_flg {U O : List A3} {row : Int} (h : Flg U O) : Flg (ns U O row).1 (ns U O row).2.1 := by
  unfold ns
  split
  · exact ⟨h.1, fun a ha => h.2 a (List.mem_of_mem_tail ha)⟩
  · exact ⟨fun a ha => h.1 a (List.mem_of_mem_tail ha), h.2⟩
theorem ns_mem {U O : List A3} {row : Int} {a : A3} (h : a ∈ (ns U O row).1 ∨ a ∈ (ns U O row).2.1) : a ∈ U ∨ a ∈ O := by
  unfold ns at h
  split at h
  · rcases h with h | h; exact .inl h; exact .inr (List.mem_of_mem_tail h)
  · rcases h with h | h; exact .inl (List.mem_of_mem_tail h); exact .inr h
theorem hd_mem {U O : List A3} {row : Int} (h0 : 0 < U.length + O.length) : hd U O row ∈ U ∨ hd U O row ∈ O := by
  rcases ah_cases U O row with ⟨hah, rfl, rfl⟩ | ⟨hah, a, O', rfl⟩ | ⟨hah, a, U', rfl⟩
  · simp at h0
  · unfold hd; rw [if_pos hah]; simp
  · unfold hd; rw [if_neg (by rw [hah]; decide), if_pos hah]; simp
theorem ns_row {U O : List A3} {row : Int} (h0 : 0 < U.length + O.length) (hr : 0 ≤ row ∧ row ≤ 10) : 0 ≤ (ns U O row).2.2 ∧ (ns U O row).2.2 ≤ 10 := by
  rcases ah_cases U O row with ⟨hah, rfl, rfl⟩ | ⟨hah, a, O', rfl⟩ | ⟨hah, a, U', rfl⟩
  · simp at h0
  · unfold ns; rw [if_pos hah]; simp
  · unfold ns; rw [if_neg (by rw [hah]; decide)]
    simp only
    split
    · omega
    · rename_i h1; have := ah0_row hah h1; omega
/-- what is still to come, and what will be. -/
structure DP (total : Nat) (fin : List Int × Int × List A3 × List A3 × Int) (done : List Int) (le : Int) (U O : List A3) (row : Int) : Prop where
  fin : fin = (done ++ (runS (U.length + O.length) le U O row).1, (runS (U.length + O.length) le U O row).2)
  tot : done.length + U.length + O.length = total
  rowb : 0 ≤ row ∧ row ≤ 10
  leb : 0 ≤ le ∧ le < 18446744073709551616
  all : ∀ a, a ∈ U ∨ a ∈ O → 0 ≤ a.2.1 ∧ a.2.1 < 18446744073709551616
  flg : Flg U O
theorem DP.next {total : Nat} {fin : List Int × Int × List A3 × List A3 × Int} {done : List Int} {le : Int} {U O : List A3} {row : Int} (h : DP total fin done le U O row) (h0 : 0 < U.length + O.length) (hb : ¬ le < (hd U O row).2.1) :
    DP total fin (done ++ [(hd U O row).1]) (le - (hd U O row).2.1) (ns U O row).1 (ns U O row).2.1 (ns U O row).2.2 := by
  have hx := nx_hd (le := le) (row := row) h0
  rw [if_neg hb] at hx
  have hl := ns_len (row := row) h0
  have ha := h.all _ (hd_mem (row := row) h0)
  have hle := h.leb
  refine ⟨?_, ?_, ns_row h0 h.rowb, ⟨by omega, by omega⟩, fun a h' => h.all a (ns_mem h'), ns_flg h.flg⟩
  · rw [h.fin, runS_some hx (by omega)]; simp
  · have := h.tot; simp; omega
theorem DP.stop {total : Nat} {fin : List Int × Int × List A3 × List A3 × Int} {done : List Int} {le : Int} {U O : List A3} {row : Int} (h : DP total fin done le U O row) (hb : nx le U O row = none) : fin = (done, le, U, O, row) := by
  rw [h.fin, runS_none hb]; simp
def DStep (w : World) (b : Nat) (r bu : Int) (vU vO : Value) (fin : List Int × Int × List A3 × List A3 × Int) (e : Ending) (w' : World) : Prop :=
  ∃ v vU' vO', e = .returned v ∧ OW w' w.heap.size 1 v fin.1.length (fin.1.map (Value.int .i64)) ∧ LD w' b r bu fin.2.1 vU' fin.2.2.1 vO' fin.2.2.2.1 fin.2.2.2.2 ∧ Fr (fun k => k = b) w w' ∧ ∀ k, foot b vU' vO' k → foot b vU vO k
theorem DJ.stop {w0 W W' : World} {b : Nat} {r bu le row : Int} {vU vO vw vU1 vO1 : Value} {done : List Int} {U O : List A3} {total : Nat} {fin : List Int × Int × List A3 × List A3 × Int} (h : DJ w0 b r bu vU vO vw done le U O row vU1 vO1 W) (hp : DP total fin done le U O row) (hb : nx le U O row = none) (hB : Below W.heap.size W W') :
    DStep w0 b r bu vU vO fin (.returned vw) W' := by
  have hf := hp.stop hb
  subst hf
  have h' := h.below hB
  exact ⟨vw, vU1, vO1, rfl, h'.who, h'.ld, h'.fr, fun k e => (h.inn k e).2⟩
theorem field_whod (x y z : Value) (W : World) : (Instr.field 82 (.agg #[x, y, z]) 0).run Try.prog W = .ok x W := by
  simp [Instr.field, run_underlying Try.underlying82, asAgg, part, isAgg, run_underlying Try.underlying3]
set_option maxRecDepth 100000 in
theorem dstep_any (b : Nat) (r bu le : Int) (vU vO : Value) (U O : List A3) (row : Int) (w : World) (h : LD w b r bu le vU U vO O row) (hn : U.length + O.length ≤ 4096) (hf : Flg U O)
    (hr : 0 ≤ r ∧ r ≤ bu) (hbu : 0 ≤ bu ∧ bu < 18446744073709551616) (hle : 0 ≤ le ∧ le ≤ bu) (hrow : 0 ≤ row ∧ row ≤ 10) (ha : ∀ a, a ∈ U ∨ a ∈ O → 0 ≤ a.2.1 ∧ a.2.1 < 18446744073709551616) :
    Calls Try.prog 16 #[.pointer (some ⟨b, 0, none⟩)] w (DStep w b r bu vU vO (runS (U.length + O.length) (minI (plusI le r) bu) U O row)) := by
  obtain ⟨fin, hfin⟩ : ∃ fin, runS (U.length + O.length) (minI (plusI le r) bu) U O row = fin := ⟨_, rfl⟩
  rw [hfin]
  have hj0 : DJ w b r bu vU vO (.slice none 0 0) [] le U O row vU vO w := ⟨OW.nil _ _ _, h, Fr.refl _ _, fun k e => ⟨lfoot_lt h e, e⟩⟩
  have k0 : w.cell? ⟨b, 0, none⟩ = some (.int .u64 r) := h.ld.cell 0
  have k1 : w.cell? ⟨b, 1, none⟩ = some (.int .u64 bu) := h.ld.cell 1
  have k2 : w.cell? ⟨b, 2, none⟩ = some (.int .u64 le) := h.ld.cell 2
  have f2 : w.frozen? ⟨b, 2, none⟩ = false := h.ld.frozen 2
  have hL : minI (plusI le r) bu = if bu - r < le then bu else le + r := by
    unfold minI plusI
    by_cases h1 : 18446744073709551615 < le + r
    · rw [if_pos h1]; split <;> split <;> omega
    · rw [if_neg h1]; split <;> split <;> omega
  have hsub : IntKind.u64.wrap (bu - r) = bu - r := by simp [IntKind.wrap, IntKind.bits, IntKind.signed]; omega
  have hs1 : 0 ≤ bu - r := by omega
  rw [hL] at hfin
  obtain ⟨tot, htot⟩ : ∃ tot, U.length + O.length = tot := ⟨_, rfl⟩
  have hLv : ∃ L, DP tot fin [] L U O row ∧ ((bu - r < le ∧ bu = L) ∨ (¬ bu - r < le ∧ le + r = L)) := by
    refine ⟨_, ⟨by rw [← hfin]; rfl, by simp; omega, hrow, ?_, ha, hf⟩, ?_⟩
    · split <;> omega
    · by_cases h1 : bu - r < le
      · left; exact ⟨h1, (if_pos h1).symm⟩
      · right; exact ⟨h1, (if_neg h1).symm⟩
  have hadd : le + r < 18446744073709551616 ∨ bu - r < le := by omega
  have hln : tot ≤ 4096 := by omega
  replace hj0 := Lib.hid hj0
  obtain ⟨L, hp0, hLv⟩ := hLv
  replace hp0 := Lib.hid hp0
  replace hln := Lib.hid hln
  have hle0 := hle.1
  have hr0 := hr.1
  clear hL h ha hf hfin htot hn hrow hle hr
  go_enter Try.func16, Try.ntmps16
  rcases hLv with ⟨hbig, rfl⟩ | ⟨hbig, rfl⟩
  · clear hadd
    go_wp2_with fail
    go_quiet (fail)
    go_wp2_with fail
    have hj := Lib.hid ((hj0.out.below (below_drewN (Below.refl _ _) nq)).left bu)
    obtain ⟨wl, hwl⟩ : ∃ wl, (w.drewN nq).setCell ⟨b, 2, none⟩ (.int .u64 bu) = wl := ⟨_, rfl⟩
    rw [hwl] at hj ⊢
    clear hj0 hwl k0 k1 k2 f2
    go_loopw [3, 4, 5] (fun vw _ _ wr => ∃ done le1 U1 O1 row1 vU1 vO1, DJ w b r bu vU vO vw done le1 U1 O1 row1 vU1 vO1 wr ∧ DP tot fin done le1 U1 O1 row1) (fun vw _ _ _ => tot - lenV vw)
    case atStart => exact ⟨_, _, _, _, _, _, _, hj.out, hp0.out⟩
    case round =>
      clear hj hp0
      obtain ⟨done, le1, U1, O1, row1, vU1, vO1, hj, hp⟩ := hrel
      obtain ⟨Aw, cw, rfl, -⟩ := hj.who.shape
      have htl : U1.length + O1.length ≤ 4096 := by have := hp.tot; have := hln.out; omega
      have hdl : done.length ≤ 4096 := by have := hp.tot; have := hln.out; omega
      have hbw : b < wr.heap.size := hj.ld.ld.lt
      have k2 : wr.cell? ⟨b, 2, none⟩ = some (.int .u64 le1) := hj.ld.ld.cell 2
      have f2 := hj.ld.ld.frozen 2
      have hN := next_any b r bu le1 _ _ U1 O1 row1 _ hj.ld htl
      by_cases h0 : 0 < U1.length + O1.length
      · rw [decide_eq_true h0] at hN
        obtain ⟨⟨a1, a2, a3⟩, hhd⟩ : ∃ a, hd U1 O1 row1 = a := ⟨_, rfl⟩
        rw [hhd] at hN
        by_cases hby : le1 < a2
        · have hst : nx le1 U1 O1 row1 = none := by rw [nx_hd h0, hhd]; exact if_pos hby
          replace hN := Lib.hid hN
          replace hj := Lib.hid hj
          replace hp := Lib.hid hp
          replace hst := Lib.hid hst
          clear hhd htl
          replace hdl := Lib.hid hdl
          go_wp2_with (go_at_call 30; refine hN.out.mono ?_; rintro e w3 ⟨rfl, hB3⟩; replace k2 := cell_keep hB3 k2; have hbw3 := Nat.lt_of_lt_of_le hbw hB3.size; unfold aV)
          go_quiet (fail)
          go_wp2_with fail
          go_ret
          exact hj.out.stop hp.out hst.out (below_drewN (hB3.alloc hB3.size _) _)
        · have hnb : ¬ le1 < (hd U1 O1 row1).2.1 := by rw [hhd]; exact hby
          have hgo := fun w' le' h => dgoes_any b r bu le' vU1 vO1 U1 O1 row1 w' h htl hp.flg hp.rowb h0
          have hp' := hp.next h0 hnb
          rw [hhd] at hgo hp'
          have ha2 := hp.all _ (hd_mem (row := row1) h0)
          rw [hhd] at ha2
          have hle1 := hp.leb
          have hsub1 : IntKind.u64.wrap (le1 - a2) = le1 - a2 := by simp [IntKind.wrap, IntKind.bits, IntKind.signed]; simp at ha2; omega
          have htot := hp.tot
          replace hgo := Lib.hid hgo
          replace hp' := Lib.hid hp'
          replace hN := Lib.hid hN
          replace hj := Lib.hid hj
          replace htot := Lib.hid htot
          clear hhd hp htl ha2 hle1 hnb
          replace hdl := Lib.hid hdl
          go_wp2_with (go_at_call 30; refine hN.out.mono ?_; rintro e w3 ⟨rfl, hB3⟩; replace k2 := cell_keep hB3 k2; have hbw3 := Nat.lt_of_lt_of_le hbw hB3.size; unfold aV)
          go_quiet (fail)
          have hj4 := Lib.hid (hj.out.below (below_drewN (hB3.alloc hB3.size (.cells #[.int .i64 a1, .int .u64 a2, .bool a3] 82)) nq))
          have hloc : Bl ((w3.alloc (.cells #[.int .i64 a1, .int .u64 a2, .bool a3] 82)).drewN nq) w3.heap.size (.cells #[.int .i64 a1, .int .u64 a2, .bool a3] 82 (0, 0)) := Bl.new' rfl
          obtain ⟨w4, hw4⟩ : ∃ w4, (w3.alloc (.cells #[.int .i64 a1, .int .u64 a2, .bool a3] 82)).drewN nq = w4 := ⟨_, rfl⟩
          obtain ⟨l, hl⟩ : ∃ l, w3.heap.size = l := ⟨_, rfl⟩
          have hbl : b ≠ w3.heap.size := by omega
          rw [hw4] at hj4 hloc ⊢
          rw [hl] at hloc hbl ⊢
          clear hw4 hl hj k2 f2 hbw3 hB3
          have k2 : w4.cell? ⟨b, 2, none⟩ = some (.int .u64 le1) := hj4.out.ld.ld.cell 2
          have f2 := hj4.out.ld.ld.frozen 2
          have x1 : w4.cell? ⟨l, 1, none⟩ = some (.int .u64 a2) := hloc.cell 1
          go_wp2_with fail
          go_still_tail 10, (by kernel_rfl)
          change wpList _ _ _ _ _ w4.drew
          go_wp2_with fail
          have hj5 := Lib.hid ((hj4.out.left (le1 - a2)).below (Below.refl _ _).drew)
          obtain ⟨w5, hw5⟩ : ∃ w5, (w4.setCell ⟨b, 2, none⟩ (.int .u64 (le1 - a2))).drew = w5 := ⟨_, rfl⟩
          rw [hw5] at hj5 ⊢
          clear hw5 hj4 k2 f2 x1 hloc
          have hfd := field_whod
          refine (hgo.out _ _ hj5.out.ld).mono ?_
          rintro e w6 ⟨vU2, vO2, rfl, hl6, hf6, hi6⟩
          have hj6 := Lib.hid (hj5.out.goes hl6 hf6 hi6)
          clear hl6 hf6 hi6 hj5
          unfold aV
          go_wp2_with (at_builtin; refine wpList_append_ow rfl _ _ 35 rfl w.heap.size 3 Try.underlying35 infoInt rfl (by decide) _ done.length _ rfl (hj6.out.who.alloc _) _ 1 1 [.int .i64 a1] rfl (rd_one rfl _ _) (by intro u hu; simp at hu; subst hu; rfl) (by have := hdl.out; unfold maxLen; omega) (by have := hdl.out; omega) (by have := hj6.out.fr.size; simp; omega) ?_; intro v' w8 hown hgr hc; have hj9 := Lib.hid ((hj6.out.below ((Below.refl _ _).alloc (Nat.le_refl _) _)).append hown hgr); obtain ⟨A9, c9, rfl, -⟩ := hown.shape; clear hown hgr hc)
          go_roundw
          case rel => exact ⟨_, _, _, _, _, _, _, hj9.out, hp'.out⟩
          case measure => have := htot.out; simp [lenV] at *; omega
      · rw [decide_eq_false h0] at hN
        obtain rfl : U1 = [] := List.eq_nil_of_length_eq_zero (by omega)
        obtain rfl : O1 = [] := List.eq_nil_of_length_eq_zero (by omega)
        obtain ⟨⟨a1, a2, a3⟩, hhd⟩ : ∃ a, hd [] [] row1 = a := ⟨_, rfl⟩
        rw [hhd] at hN
        replace hN := Lib.hid hN
        replace hj := Lib.hid hj
        replace hp := Lib.hid hp
        clear hhd htl h0 k2 f2
        replace hdl := Lib.hid hdl
        go_wp2_with (go_at_call 30; refine hN.out.mono ?_; rintro e w3 ⟨rfl, hB3⟩; have hbw3 := Nat.lt_of_lt_of_le hbw hB3.size; unfold aV)
        go_quiet (fail)
        go_wp2_with fail
        go_ret
        exact hj.out.stop hp.out (nx_end _ _) (below_drewN (hB3.alloc hB3.size _) _)
  · have hbd : decide (bu - r < le) = false := decide_eq_false hbig
    have hadd' : le + r < 18446744073709551616 := by omega
    clear hadd
    go_wp2_with fail
    go_quiet (fail)
    go_wp2_with fail
    have hjq := Lib.hid (hj0.out.below (below_drewN (Below.refl _ _) nq))
    obtain ⟨wq, hwq⟩ : ∃ wq, w.drewN nq = wq := ⟨_, rfl⟩
    rw [hwq] at hjq ⊢
    clear hwq k0 k1 k2 f2
    have k0 : wq.cell? ⟨b, 0, none⟩ = some (.int .u64 r) := hjq.out.ld.ld.cell 0
    have k2 : wq.cell? ⟨b, 2, none⟩ = some (.int .u64 le) := hjq.out.ld.ld.cell 2
    have f2 := hjq.out.ld.ld.frozen 2
    go_still_tail 12, (by kernel_rfl)
    change wpList _ _ _ _ _ wq.drew
    go_wp2_with fail
    rw [show IntKind.u64.wrap (le + r) = le + r by simp [IntKind.wrap, IntKind.bits, IntKind.signed]; omega]
    have hj := Lib.hid ((hjq.out.left (le + r)).below (Below.refl _ _).drew)
    obtain ⟨wl, hwl⟩ : ∃ wl, (wq.setCell ⟨b, 2, none⟩ (.int .u64 (le + r))).drew = wl := ⟨_, rfl⟩
    rw [hwl] at hj ⊢
    clear hj0 hjq hwl k0 k2 f2
    go_loopw [3, 4, 5] (fun vw _ _ wr => ∃ done le1 U1 O1 row1 vU1 vO1, DJ w b r bu vU vO vw done le1 U1 O1 row1 vU1 vO1 wr ∧ DP tot fin done le1 U1 O1 row1) (fun vw _ _ _ => tot - lenV vw)
    case atStart => exact ⟨_, _, _, _, _, _, _, hj.out, hp0.out⟩
    case round =>
      clear hj hp0
      obtain ⟨done, le1, U1, O1, row1, vU1, vO1, hj, hp⟩ := hrel
      obtain ⟨Aw, cw, rfl, -⟩ := hj.who.shape
      have htl : U1.length + O1.length ≤ 4096 := by have := hp.tot; have := hln.out; omega
      have hdl : done.length ≤ 4096 := by have := hp.tot; have := hln.out; omega
      have hbw : b < wr.heap.size := hj.ld.ld.lt
      have k2 : wr.cell? ⟨b, 2, none⟩ = some (.int .u64 le1) := hj.ld.ld.cell 2
      have f2 := hj.ld.ld.frozen 2
      have hN := next_any b r bu le1 _ _ U1 O1 row1 _ hj.ld htl
      by_cases h0 : 0 < U1.length + O1.length
      · rw [decide_eq_true h0] at hN
        obtain ⟨⟨a1, a2, a3⟩, hhd⟩ : ∃ a, hd U1 O1 row1 = a := ⟨_, rfl⟩
        rw [hhd] at hN
        by_cases hby : le1 < a2
        · have hst : nx le1 U1 O1 row1 = none := by rw [nx_hd h0, hhd]; exact if_pos hby
          replace hN := Lib.hid hN
          replace hj := Lib.hid hj
          replace hp := Lib.hid hp
          replace hst := Lib.hid hst
          clear hhd htl
          replace hdl := Lib.hid hdl
          go_wp2_with (go_at_call 30; refine hN.out.mono ?_; rintro e w3 ⟨rfl, hB3⟩; replace k2 := cell_keep hB3 k2; have hbw3 := Nat.lt_of_lt_of_le hbw hB3.size; unfold aV)
          go_quiet (fail)
          go_wp2_with fail
          go_ret
          exact hj.out.stop hp.out hst.out (below_drewN (hB3.alloc hB3.size _) _)
        · have hnb : ¬ le1 < (hd U1 O1 row1).2.1 := by rw [hhd]; exact hby
          have hgo := fun w' le' h => dgoes_any b r bu le' vU1 vO1 U1 O1 row1 w' h htl hp.flg hp.rowb h0
          have hp' := hp.next h0 hnb
          rw [hhd] at hgo hp'
          have ha2 := hp.all _ (hd_mem (row := row1) h0)
          rw [hhd] at ha2
          have hle1 := hp.leb
          have hsub1 : IntKind.u64.wrap (le1 - a2) = le1 - a2 := by simp [IntKind.wrap, IntKind.bits, IntKind.signed]; simp at ha2; omega
          have htot := hp.tot
          replace hgo := Lib.hid hgo
          replace hp' := Lib.hid hp'
          replace hN := Lib.hid hN
          replace hj := Lib.hid hj
          replace htot := Lib.hid htot
          clear hhd hp htl ha2 hle1 hnb
          replace hdl := Lib.hid hdl
          go_wp2_with (go_at_call 30; refine hN.out.mono ?_; rintro e w3 ⟨rfl, hB3⟩; replace k2 := cell_keep hB3 k2; have hbw3 := Nat.lt_of_lt_of_le hbw hB3.size; unfold aV)
          go_quiet (fail)
          have hj4 := Lib.hid (hj.out.below (below_drewN (hB3.alloc hB3.size (.cells #[.int .i64 a1, .int .u64 a2, .bool a3] 82)) nq))
          have hloc : Bl ((w3.alloc (.cells #[.int .i64 a1, .int .u64 a2, .bool a3] 82)).drewN nq) w3.heap.size (.cells #[.int .i64 a1, .int .u64 a2, .bool a3] 82 (0, 0)) := Bl.new' rfl
          obtain ⟨w4, hw4⟩ : ∃ w4, (w3.alloc (.cells #[.int .i64 a1, .int .u64 a2, .bool a3] 82)).drewN nq = w4 := ⟨_, rfl⟩
          obtain ⟨l, hl⟩ : ∃ l, w3.heap.size = l := ⟨_, rfl⟩
          have hbl : b ≠ w3.heap.size := by omega
          rw [hw4] at hj4 hloc ⊢
          rw [hl] at hloc hbl ⊢
          clear hw4 hl hj k2 f2 hbw3 hB3
          have k2 : w4.cell? ⟨b, 2, none⟩ = some (.int .u64 le1) := hj4.out.ld.ld.cell 2
          have f2 := hj4.out.ld.ld.frozen 2
          have x1 : w4.cell? ⟨l, 1, none⟩ = some (.int .u64 a2) := hloc.cell 1
          go_wp2_with fail
          go_still_tail 10, (by kernel_rfl)
          change wpList _ _ _ _ _ w4.drew
          go_wp2_with fail
          have hj5 := Lib.hid ((hj4.out.left (le1 - a2)).below (Below.refl _ _).drew)
          obtain ⟨w5, hw5⟩ : ∃ w5, (w4.setCell ⟨b, 2, none⟩ (.int .u64 (le1 - a2))).drew = w5 := ⟨_, rfl⟩
          rw [hw5] at hj5 ⊢
          clear hw5 hj4 k2 f2 x1 hloc
          have hfd := field_whod
          refine (hgo.out _ _ hj5.out.ld).mono ?_
          rintro e w6 ⟨vU2, vO2, rfl, hl6, hf6, hi6⟩
          have hj6 := Lib.hid (hj5.out.goes hl6 hf6 hi6)
          clear hl6 hf6 hi6 hj5
          unfold aV
          go_wp2_with (at_builtin; refine wpList_append_ow rfl _ _ 35 rfl w.heap.size 3 Try.underlying35 infoInt rfl (by decide) _ done.length _ rfl (hj6.out.who.alloc _) _ 1 1 [.int .i64 a1] rfl (rd_one rfl _ _) (by intro u hu; simp at hu; subst hu; rfl) (by have := hdl.out; unfold maxLen; omega) (by have := hdl.out; omega) (by have := hj6.out.fr.size; simp; omega) ?_; intro v' w8 hown hgr hc; have hj9 := Lib.hid ((hj6.out.below ((Below.refl _ _).alloc (Nat.le_refl _) _)).append hown hgr); obtain ⟨A9, c9, rfl, -⟩ := hown.shape; clear hown hgr hc)
          go_roundw
          case rel => exact ⟨_, _, _, _, _, _, _, hj9.out, hp'.out⟩
          case measure => have := htot.out; simp [lenV] at *; omega
      · rw [decide_eq_false h0] at hN
        obtain rfl : U1 = [] := List.eq_nil_of_length_eq_zero (by omega)
        obtain rfl : O1 = [] := List.eq_nil_of_length_eq_zero (by omega)
        obtain ⟨⟨a1, a2, a3⟩, hhd⟩ : ∃ a, hd [] [] row1 = a := ⟨_, rfl⟩
        rw [hhd] at hN
        replace hN := Lib.hid hN
        replace hj := Lib.hid hj
        replace hp := Lib.hid hp
        clear hhd htl h0 k2 f2
        replace hdl := Lib.hid hdl
        go_wp2_with (go_at_call 30; refine hN.out.mono ?_; rintro e w3 ⟨rfl, hB3⟩; have hbw3 := Nat.lt_of_lt_of_le hbw hB3.size; unfold aV)
        go_quiet (fail)
        go_wp2_with fail
        go_ret
        exact hj.out.stop hp.out (nx_end _ _) (below_drewN (hB3.alloc hB3.size _) _)
end Go.Proofs.Ytefeompdhalgcaa
