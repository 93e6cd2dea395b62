/- Two tasks that take two locks crosswise are dead. Conditions: what each theorem names. -/
import Derived.RangeFuncNested
import Derived.RangeFuncBound
import Derived.RangeFuncCalls
import Derived.RangeFuncLeaves
import Derived.Shelf.Abstract
import Derived.Shelf.RegionOpen
import Derived.WalkKit
import Derived.OwnWalkIn
import Derived.TacticsInMore
import Derived.LoopNIn
import Derived.LoopIn
import Derived.Lib.Hide
import Derived.Outline
import Derived.RegionTactic
import Derived.BigRegion
import Derived.WalkLawsBesides
import Derived.WalkSpells
import Derived.Deep.QuietTactic
import Derived.BigQuiet
import Derived.Deep.RegionHeld3
import Derived.Deep.DeepCutAuto
import Derived.Deep.CutBlock
import Derived.StillTailTactics
import Derived.WalkSmall
import Derived.Test.YtcdhmjapeapicaaProg
import Derived.Test.YtcdhmjapeapicaaFr
import Derived.Test.YtcdhmjapeapicaaMp
import Derived.Defers
import Derived.Recover
import Derived.Test.YtcdhmjapeapicaaSchH
import Derived.Lib.SliceRun
namespace Go.Proofs.Ytcdhmjapeapicaa
open Go.RowKit Go.Sed Go.Maps
set_option maxHeartbeats 1000000
set_option maxRecDepth 100000
theorem LI.done {bs : List Nat} {A0 B0 A1 B1 j : Nat} {s : SS} {W : World} (h : LI bs A0 B0 A1 B1 j s W) (hc : j = 9 ∨ thoseI (mayB s) s.ts = []) : j = 4 := by
  have h4 := h.1
  rcases hc with e | e
  · omega
  · by_cases hj : j < 4
    · rw [h.2.1, liv_all _ _ _ _ hj] at e; cases e
    · omega
theorem lives_any (w : World) : Calls Try.prog 8 #[] w fun e w' => e = .returned (.bool true) ∧ Below w.heap.size w w' := by
  have hmf : ∀ (fn : Fn) (first cap : Array Value) (w : World), (Instr.makeFunc fn first cap).run Try.prog w = .ok (.func fn first cap) w := fun _ _ _ _ => rfl
  have hnew := Lib.hid (new_any w)
  unfold ptr at hnew
  go_enter Try.func8, Try.ntmps8
  go_wp2_with (first
    | (go_at_call 9; refine hnew.out.mono ?_; rintro e w1 ⟨b, mb, rfl, hS, hB1⟩; replace hS := Lib.hid hS; replace hB1 := Lib.hid hB1))
  clear hnew
  refine wp_loop_rounds 3 ?_
  rw [rounds_succ]
  go_upto_region 8 with (fail)
  obtain ⟨w2, hw2⟩ : ∃ w2, (w1.alloc (.cells #[.int .i64 0] 3)).alloc (.cells #[.int .i64 0] 3) = w2 := ⟨_, rfl⟩
  have hA0 : Bl w2 w1.heap.size (.cells #[.int .i64 0] 3 (0, 0)) := by rw [← hw2]; exact (Bl.new' rfl).alloc _
  have hB0 : Bl w2 (w1.heap.size + 1) (.cells #[.int .i64 0] 3 (0, 0)) := by rw [← hw2]; exact Bl.new' (by simp)
  have hB2 : Below w1.heap.size w1 w2 := by rw [← hw2]; exact ((Below.refl _ _).alloc (Nat.le_refl _) _).alloc (by simp) _
  have hz2 : w2.heap.size = w1.heap.size + 2 := by rw [← hw2]; simp
  have nA0 := hS.out.nfoot (Nat.le_refl w1.heap.size)
  have nB0 := hS.out.nfoot (k := w1.heap.size + 1) (by omega)
  rw [hw2]
  clear hw2
  obtain ⟨A0, hA0e⟩ : ∃ A0, w1.heap.size = A0 := ⟨_, rfl⟩
  rw [hA0e] at hA0 hB0 hz2 nA0 nB0 ⊢
  have hS2 := Lib.hid (hS.out.keep hB2)
  have hle1 := hB1.out.size
  replace hB2 := Lib.hid (below_then hB1.out hB2)
  have hsp := Lib.hid (spawn_any _ b mb 27 { data := #[116] } #[.pointer (some ⟨A0, 0, none⟩), .pointer (some ⟨A0 + 1, 0, none⟩)] _ S0 w2 hS2.out (by simp [S0]))
  replace hA0 := Lib.hid hA0
  replace hB0 := Lib.hid hB0
  replace nA0 := Lib.hid nA0
  replace nB0 := Lib.hid nB0
  unfold ptr at hsp
  go_wp2_with (first
    | (go_at_call 10; refine hsp.out.mono ?_; rintro e w3 ⟨v3, x0, rfl, hS3, hf3, hx0, hv3⟩; replace hf3 := Lib.hid hf3; replace hv3 := Lib.hid hv3; replace hS3 := Lib.hid hS3))
  have hA3 := hA0.out.fr hf3.out nA0.out
  have hB3 := hB0.out.fr hf3.out nB0.out
  have nA3 := foot_spawn (t := ⟨lnm, .func (.func 27) #[] #[.pointer (some ⟨A0, 0, none⟩), .pointer (some ⟨A0 + 1, 0, none⟩)], 0, 0, 0, 0, false⟩) nA0.out (by omega) hx0 hv3.out
  have nB3 := foot_spawn (t := ⟨lnm, .func (.func 27) #[] #[.pointer (some ⟨A0, 0, none⟩), .pointer (some ⟨A0 + 1, 0, none⟩)], 0, 0, 0, 0, false⟩) nB0.out (by omega) hx0 hv3.out
  have hlo2 := hS2.out.lo
  have hB3' := Lib.hid (hB2.out.trans (hf3.out.below hB2.out.size (fun i hi hfi => by have := (hlo2 i hfi).1; omega)))
  have hw23 := hf3.out.size
  clear hlo2
  replace hA3 := Lib.hid hA3
  replace hB3 := Lib.hid hB3
  replace nA3 := Lib.hid nA3
  replace nB3 := Lib.hid nB3
  clear hA0 hB0 nA0 nB0 hsp hB2 hf3 hv3 hS2 hS
  rw [rounds_succ]
  go_upto_region 8 with (fail)
  obtain ⟨w4, hw4⟩ : ∃ w4, (w3.alloc (.cells #[.int .i64 0] 3)).alloc (.cells #[.int .i64 1] 3) = w4 := ⟨_, rfl⟩
  have hA1 : Bl w4 w3.heap.size (.cells #[.int .i64 0] 3 (0, 0)) := by rw [← hw4]; exact (Bl.new' rfl).alloc _
  have hB1' : Bl w4 (w3.heap.size + 1) (.cells #[.int .i64 1] 3 (0, 0)) := by rw [← hw4]; exact Bl.new' (by simp)
  have hB4 : Below w3.heap.size w3 w4 := by rw [← hw4]; exact ((Below.refl _ _).alloc (Nat.le_refl _) _).alloc (by simp) _
  have hz4 : w4.heap.size = w3.heap.size + 2 := by rw [← hw4]; simp
  have nA1 := hS3.out.nfoot (Nat.le_refl w3.heap.size)
  have nB1 := hS3.out.nfoot (k := w3.heap.size + 1) (by omega)
  rw [hw4]
  clear hw4
  have hA4 := hA3.out.keep hB4
  have hB4' := hB3.out.keep hB4
  obtain ⟨A1, hA1e⟩ : ∃ A1, w3.heap.size = A1 := ⟨_, rfl⟩
  rw [hA1e] at hA1 hB1' hz4 nA1 nB1 ⊢
  have hS4 := Lib.hid (hS3.out.keep hB4)
  have hw4b := Lib.hid (below_then hB3'.out hB4)
  have hsp := Lib.hid (spawn_any _ b mb 27 { data := #[116] } #[.pointer (some ⟨A1, 0, none⟩), .pointer (some ⟨A1 + 1, 0, none⟩)] _ _ w4 hS4.out (by simp [S0]))
  replace hA1 := Lib.hid hA1
  replace hB1' := Lib.hid hB1'
  replace nA1 := Lib.hid nA1
  replace nB1 := Lib.hid nB1
  replace hA4 := Lib.hid hA4
  replace hB4' := Lib.hid hB4'
  clear hA3 hB3 hB4 hS3
  unfold ptr at hsp
  go_wp2_with (first
    | (go_at_call 10; refine hsp.out.mono ?_; rintro e w5 ⟨v5, x1, rfl, hS5, hf5, hx1, hv5⟩; replace hf5 := Lib.hid hf5; replace hv5 := Lib.hid hv5; replace hS5 := Lib.hid hS5))
  obtain ⟨s0, hs0⟩ : ∃ s0, livS [x0, x1] (.func (.func 27) #[] #[.pointer (some ⟨A0, 0, none⟩), .pointer (some ⟨A0 + 1, 0, none⟩)]) (.func (.func 27) #[] #[.pointer (some ⟨A1, 0, none⟩), .pointer (some ⟨A1 + 1, 0, none⟩)]) 0 = s0 := ⟨_, rfl⟩
  have nA5 : ¬ foot b mb v5 s0 A0 := by rw [← hs0]; exact foot_spawn (t := ⟨lnm, .func (.func 27) #[] #[.pointer (some ⟨A1, 0, none⟩), .pointer (some ⟨A1 + 1, 0, none⟩)], 0, 0, 0, 0, false⟩) nA3.out (by omega) hx1 hv5.out
  have nB5 : ¬ foot b mb v5 s0 (A0 + 1) := by rw [← hs0]; exact foot_spawn (t := ⟨lnm, .func (.func 27) #[] #[.pointer (some ⟨A1, 0, none⟩), .pointer (some ⟨A1 + 1, 0, none⟩)], 0, 0, 0, 0, false⟩) nB3.out (by omega) hx1 hv5.out
  have mA5 : ¬ foot b mb v5 s0 A1 := by rw [← hs0]; exact foot_spawn (t := ⟨lnm, .func (.func 27) #[] #[.pointer (some ⟨A1, 0, none⟩), .pointer (some ⟨A1 + 1, 0, none⟩)], 0, 0, 0, 0, false⟩) nA1.out (by omega) hx1 hv5.out
  have mB5 : ¬ foot b mb v5 s0 (A1 + 1) := by rw [← hs0]; exact foot_spawn (t := ⟨lnm, .func (.func 27) #[] #[.pointer (some ⟨A1, 0, none⟩), .pointer (some ⟨A1 + 1, 0, none⟩)], 0, 0, 0, 0, false⟩) nB1.out (by omega) hx1 hv5.out
  have hA5 := hA4.out.fr hf5.out nA3.out
  have hB5' := hB4'.out.fr hf5.out nB3.out
  have gA5 := hA1.out.fr hf5.out nA1.out
  have gB5 := hB1'.out.fr hf5.out nB1.out
  have hS5' : SH w5 w.heap.size b mb v5 s0 := by rw [← hs0]; exact hS5.out
  have hlo4 := hS4.out.lo
  have hw5 := Lib.hid (hw4b.out.trans (hf5.out.below hw4b.out.size (fun i hi hfi => by have := (hlo4 i hfi).1; omega)))
  have hz5 := hf5.out.size
  clear hlo4 hS4 hS5 hf5 hv5 hsp hA4 hB4' hA1 hB1' nA3 nB3 nA1 nB1
  obtain ⟨w6, hw6⟩ : ∃ w6, w5.alloc (.cells #[.int .i64 0, .int .i64 1] 3) = w6 := ⟨_, rfl⟩
  have hB6 : Below w5.heap.size w5 w6 := by rw [← hw6]; exact (Below.refl _ _).alloc (Nat.le_refl _) _
  have hP6 : Rd w6 1 (some ⟨w5.heap.size, 0, none⟩) 2 ([(0 : Int), 1].map (Value.int .i64)) := by rw [← hw6]; exact rd_new rfl _ _ _ _ rfl
  have hz6 := hB6.size
  have hw6b := Lib.hid (below_then hw5.out hB6)
  have hS6 := hS5'.keep hB6
  have hLI : LI [x0, x1] A0 (A0 + 1) A1 (A1 + 1) 0 s0 w6 := ⟨by omega, hs0.symm, hA5.keep hB6, hB5'.keep hB6, gA5.keep hB6, gB5.keep hB6⟩
  have hst0 : Steady s0 := by rw [← hs0]; exact liv_steady _ _ _ 0 (by omega)
  have hbs0 : s0.bs = [x0, x1] := by rw [← hs0]; rfl
  have hwi0 : s0.within = false := by rw [← hs0]; rfl
  have hrun := Lib.hid (run_any w.heap.size b mb w5.heap.size 0 2 2 9 [0, 1] v5 s0 w6 hS6 hwi0 hst0 (by rw [hbs0]; simp) hP6 (by omega) (by omega) (by omega) (fun k => foot b mb v5 s0 k ∨ k = A0 ∨ k = A1) (fun k hk => by
      rcases hk with hk | hk | hk
      · exact (hS6.lo k hk).2
      · omega
      · omega) (LI [x0, x1] A0 (A0 + 1) A1 (A1 + 1)) (fun W hW => ⟨by omega, hs0.symm, hLI.2.2.1.keep hW, hLI.2.2.2.1.keep hW, hLI.2.2.2.2.1.keep hW, hLI.2.2.2.2.2.keep hW⟩)
    (fun j s W W' hI hW => ⟨hI.1, hI.2.1, hI.2.2.1.keep hW, hI.2.2.2.1.keep hW, hI.2.2.2.2.1.keep hW, hI.2.2.2.2.2.keep hW⟩)
    (fun j s W p hI hSW _ _ _ hne hp => by
      have hbs : s.bs = s0.bs := by rw [hI.2.1, liv_bs, hbs0]
      have hft : ∀ k, foot b mb v5 s k = foot b mb v5 s0 k := fun k => by unfold foot; rw [hbs]
      refine (LI.step hI hSW hne hp (by omega) (by omega) (by omega) (by omega) (by omega) (by rw [hft]; exact nA5) (by rw [hft]; exact nB5) (by rw [hft]; exact mA5) (by rw [hft]; exact mB5)).mono ?_
      rintro e W' ⟨r, s', h1, h2, h3, h4, h5, h6⟩
      exact ⟨r, s', h1, h2, h3, h4, h5, h6.mono (fun k _ hk => by rw [hft] at hk; exact hk)⟩))
  have hdead := Lib.hid (fun W s (h : SH W w.heap.size b mb v5 s) hst hl => dead_any w.heap.size b mb v5 s W h hst hl)
  have hsteps := Lib.hid (fun W s (h : SH W w.heap.size b mb v5 s) => steps_any w.heap.size b mb v5 s W h)
  have hfl : ∀ k, (foot b mb v5 s0 k ∨ k = A0 ∨ k = A1) → w.heap.size ≤ k := fun k hk => by
    rcases hk with hk | hk | hk
    · exact (hS6.lo k hk).1
    · omega
    · omega
  replace hfl := Lib.hid hfl
  unfold ptr at hrun hdead hsteps
  clear hP6 hS6 hLI hst0 hbs0 hwi0 hS5' hA5 hB5' gA5 gB5 nA5 nB5 mA5 mB5 hB6 hs0
  rw [rounds_succ]
  go_wp2_with (first
    | (go_at_call 16; refine hrun.out.mono ?_; rintro e w7 ⟨j, s7, rfl, hS7, hst7, hl7, hI7, hj7, hc7, hf7⟩; obtain rfl : j = 4 := hI7.done hc7; have hdl : deadL s7 = [0, 1] := (by rw [hI7.2.1]; rfl); have hsl : s7.steps = 4 := (by rw [hI7.2.1]; rfl); have hd := hdead.out _ _ hS7 hst7 hl7; rw [hdl] at hd; have hs := fun W h => hsteps.out W s7 (hS7.keep h); rw [hsl] at hs; have hw7 := Lib.hid (hw6b.out.trans (hf7.below hw6b.out.size (fun i hi hfi => by have := hfl.out i hfi; omega))); replace hd := Lib.hid hd; replace hs := Lib.hid hs; clear hS7 hst7 hl7 hI7 hj7 hc7 hf7 hdl hsl)
    | (go_at_call 20; refine hd.out.mono ?_; rintro e w8 ⟨r8, rfl, ho8, hB8⟩; obtain ⟨A8, c8, rfl, -⟩ := ho8.shape; replace hB8 := Lib.hid hB8; clear ho8)
    | (go_at_call 18; refine (hs.out _ hB8.out).mono ?_; rintro e w9 ⟨rfl, rfl⟩))
  go_ret
  exact ⟨rfl, below_then hw7.out hB8.out⟩
end Go.Proofs.Ytcdhmjapeapicaa
