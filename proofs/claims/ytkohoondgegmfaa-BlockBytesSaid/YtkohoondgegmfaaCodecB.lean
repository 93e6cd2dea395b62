/- Contracts of layer 1 (codec): the order of internal keys; the program's function and the document's. -/
import Derived.Test.YtkohoondgegmfaaProg
import Derived.RangeFuncNested
import Derived.RangeFuncBound
import Derived.RangeFuncCalls
import Derived.RangeFuncLeaves
import Derived.Shelf.Abstract
import Derived.Shelf.RegionOpen
import Derived.WalkKit
import Derived.OwnWalkIn
import Derived.TacticsInMore
import Derived.LoopNIn
import Derived.LoopIn
import Derived.Lib.Hide
import Derived.Outline
import Derived.RegionTactic
import Derived.BigRegion
import Derived.WalkLawsBesides
import Derived.WalkSpells
import Derived.Deep.QuietTactic
import Derived.BigQuiet
import Derived.Deep.RegionHeld3
import Derived.Lib.Bytealg
import Derived.Lib.ConvBytes
import Derived.Laws.BytesArg
import Derived.Test.YtkohoondgegmfaaSed
import Derived.Test.YtkohoondgegmfaaOwn
import Derived.Test.YtkohoondgegmfaaCodecA
namespace Go.Proofs.Ytkohoondgegmfaa
open Go.RowKit Go.Sed
set_option maxHeartbeats 1000000
theorem order_any (how : Int) (u : ByteArray) (s k : Int) (u' : ByteArray) (s' k' : Int) (w : World) :
    Calls Try.prog 22 #[.int .i64 how, .agg #[.string u, .int .u64 s, .int .i64 k], .agg #[.string u', .int .u64 s', .int .i64 k']] w fun e w' => e = .returned (.int .i64 (ordK how u s k u' s' k')) ∧ Below w.heap.size w w' := by
  obtain ⟨w1, hw1⟩ : ∃ w1, (w.alloc (.cells #[.string u, .int .u64 s, .int .i64 k] 33)).alloc (.cells #[.string u', .int .u64 s', .int .i64 k'] 33) = w1 := ⟨_, rfl⟩
  have hB : Below w.heap.size w w1 := by rw [← hw1]; exact ((Below.refl _ _).alloc (Nat.le_refl _) _).alloc (by simp) _
  have hs : w.heap.size + 1 + 1 = w1.heap.size := by rw [← hw1]; simp
  have b0 : Bl w1 w.heap.size (.cells #[.string u, .int .u64 s, .int .i64 k] 33 (0, 0)) := by rw [← hw1]; exact (Bl.new' rfl).alloc _
  have b1 : Bl w1 (w.heap.size + 1) (.cells #[.string u', .int .u64 s', .int .i64 k'] 33 (0, 0)) := by rw [← hw1]; exact Bl.new' (by simp)
  have c0 : w1.cell? ⟨w.heap.size, 0, none⟩ = some (.string u) := b0.cell 0
  have c1 : w1.cell? ⟨w.heap.size, 1, none⟩ = some (.int .u64 s) := b0.cell 1
  have c2 : w1.cell? ⟨w.heap.size, 2, none⟩ = some (.int .i64 k) := b0.cell 2
  have d0 : w1.cell? ⟨w.heap.size + 1, 0, none⟩ = some (.string u') := b1.cell 0
  have d1 : w1.cell? ⟨w.heap.size + 1, 1, none⟩ = some (.int .u64 s') := b1.cell 1
  have d2 : w1.cell? ⟨w.heap.size + 1, 2, none⟩ = some (.int .i64 k') := b1.cell 2
  replace hw1 := Lib.hid hw1
  replace hs := Lib.hid hs
  go_enter Try.func22, Try.ntmps22
  go_wp2
  rw [hw1.out]
  go_region_held3 (fun w' => w'.cell? ⟨w.heap.size, 0, none⟩ = some (.string u) ∧ w'.cell? ⟨w.heap.size, 1, none⟩ = some (.int .u64 s) ∧ w'.cell? ⟨w.heap.size, 2, none⟩ = some (.int .i64 k) ∧
    w'.cell? ⟨w.heap.size + 1, 0, none⟩ = some (.string u') ∧ w'.cell? ⟨w.heap.size + 1, 1, none⟩ = some (.int .u64 s') ∧ w'.cell? ⟨w.heap.size + 1, 2, none⟩ = some (.int .i64 k')) (go_keep)
    (first | (go_at_call 49; refine (compare_any _ _ _ _).mono ?_; rintro e w' ⟨rfl, rfl⟩)
           | (go_at_call 50; refine (cmpu_any _ _ _).mono ?_; rintro e w' ⟨rfl, rfl⟩)
           | (go_at_call 51; refine (cmpi_any _ _ _).mono ?_; rintro e w' ⟨rfl, rfl⟩)
           | (go_at_call 48; refine (or3_any _ _ _ _ _ (by first | exact Bl.new' rfl | exact (Bl.new' (W := w1) rfl).drew | exact (Bl.new' (W := w1.drew) rfl))).mono ?_; rintro e w' ⟨rfl, rfl⟩))
  go_wp2
  go_ret
  exact ⟨rfl, (hB.alloc hB.size _).drew⟩
theorem rcompare_any (how : Int) (a b : ByteArray) (w : World) :
    Calls Try.prog 56 #[.int .i64 how, .string a, .string b] w fun e w' => e = .returned (.int .i64 (cmpH how a b)) ∧ w = w' := by
  have hs := cmpB_swap a b
  have he := eq_cmpB a b
  have hl := less_cmpB a b
  unfold cmpH
  rcases cmpB_range a b with h | h | h
  all_goals
    rw [h] at hs he hl
    rw [hs, h]
    clear hs h
    by_cases hh : how = 1
  all_goals
    first
      | (rw [if_pos hh]; replace hh : (how == 1) = true := by rw [beq_iff_eq]; exact hh)
      | (rw [if_neg hh]; replace hh : (how == 1) = false := by rw [beq_eq_false_iff_ne]; exact hh)
    simp only [decide_true, decide_false, show ((-1 : Int) = 0) = False by simp, show ((0 : Int) = -1) = False by simp, show ((1 : Int) = 0) = False by simp, show ((1 : Int) = -1) = False by simp] at he hl
    go_enter Try.func56, Try.ntmps56
    go_wp2
    go_ret
    exact ⟨by rfl, rfl⟩
end Go.Proofs.Ytkohoondgegmfaa
