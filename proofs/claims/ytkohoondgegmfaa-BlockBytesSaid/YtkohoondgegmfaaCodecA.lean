/- Contracts of layer 1 (codec): what is compared, and what is wrong with a key; the program's functions and the document's. -/
import Derived.Test.YtkohoondgegmfaaProg
import Derived.RangeFuncNested
import Derived.RangeFuncBound
import Derived.RangeFuncCalls
import Derived.RangeFuncLeaves
import Derived.Shelf.Abstract
import Derived.Shelf.RegionOpen
import Derived.WalkKit
import Derived.OwnWalkIn
import Derived.TacticsInMore
import Derived.LoopNIn
import Derived.LoopIn
import Derived.Lib.Hide
import Derived.Outline
import Derived.RegionTactic
import Derived.BigRegion
import Derived.WalkLawsBesides
import Derived.WalkSpells
import Derived.Deep.QuietTactic
import Derived.BigQuiet
import Derived.Deep.RegionHeld3
import Derived.Lib.Bytealg
import Derived.Lib.ConvBytes
import Derived.Laws.BytesArg
import Derived.Test.YtkohoondgegmfaaSed
import Derived.Test.YtkohoondgegmfaaOwn
import Derived.Test.YtkohoondgegmfaaCodecS
namespace Go.Proofs.Ytkohoondgegmfaa
open Go.RowKit Go.Sed
set_option maxHeartbeats 1000000
theorem ret_int {k : IntKind} {a b : Int} (h : a = b) : Ending.returned (.int k a) = .returned (.int k b) := by rw [h]
theorem cmpstr_any (a b : ByteArray) (w : World) :
    Calls Try.prog 86 #[.string a, .string b] w fun e w' => e = .returned (.int .i64 (cmpB a b)) ∧ w = w' := by
  go_enter Try.func86, Try.ntmps86
  go_wp2
  rw [run_callFunc_extern (f := 92) Try.func92 (by kernel_rfl) (by kernel_rfl) (by kernel_rfl) (e := Extern.BytealgCompare.compare) (by kernel_rfl), Lib.run_compareString]
  simp only [Result.andThen]
  rw [Oper.upon_value]
  go_wp2
  go_ret
  exact ⟨rfl, rfl⟩
theorem scompare_any (a b : ByteArray) (w : World) :
    Calls Try.prog 71 #[.string a, .string b] w fun e w' => e = .returned (.int .i64 (cmpB a b)) ∧ w = w' := by
  go_enter Try.func71, Try.ntmps71
  go_wp2_with (go_at_call 86; refine (cmpstr_any _ _ _).mono ?_; rintro e w' ⟨rfl, rfl⟩)
  go_ret
  exact ⟨rfl, rfl⟩
theorem compare_any (how : Int) (a b : ByteArray) (w : World) :
    Calls Try.prog 49 #[.int .i64 how, .string a, .string b] w fun e w' => e = .returned (.int .i64 (cmpH how a b)) ∧ w = w' := by
  unfold cmpH
  by_cases h : how = 1
  · rw [if_pos h]
    subst h
    go_enter Try.func49, Try.ntmps49
    go_wp2_with (go_at_call 71; refine (scompare_any _ _ _).mono ?_; rintro e w' ⟨rfl, rfl⟩)
    go_ret
    exact ⟨rfl, rfl⟩
  · rw [if_neg h]
    have h : (how == 1) = false := by rw [beq_eq_false_iff_ne]; exact h
    go_enter Try.func49, Try.ntmps49
    go_wp2_with (go_at_call 71; refine (scompare_any _ _ _).mono ?_; rintro e w' ⟨rfl, rfl⟩)
    go_ret
    exact ⟨rfl, rfl⟩
theorem cmpu_any (a b : Int) (w : World) :
    Calls Try.prog 50 #[.int .u64 a, .int .u64 b] w fun e w' => e = .returned (.int .i64 (cmpI a b)) ∧ w = w' := by
  unfold cmpI
  by_cases h1 : a < b
  · rw [if_pos h1]
    go_enter Try.func50, Try.ntmps50
    go_wp2
    go_ret
    exact ⟨rfl, rfl⟩
  · rw [if_neg h1]
    by_cases h2 : b < a
    · rw [if_pos h2]
      go_enter Try.func50, Try.ntmps50
      go_wp2
      go_ret
      exact ⟨rfl, rfl⟩
    · rw [if_neg h2]
      go_enter Try.func50, Try.ntmps50
      go_wp2
      go_ret
      exact ⟨rfl, rfl⟩
theorem cmpi_any (a b : Int) (w : World) :
    Calls Try.prog 51 #[.int .i64 a, .int .i64 b] w fun e w' => e = .returned (.int .i64 (cmpI a b)) ∧ w = w' := by
  unfold cmpI
  by_cases h1 : a < b
  · rw [if_pos h1]
    go_enter Try.func51, Try.ntmps51
    go_wp2
    go_ret
    exact ⟨rfl, rfl⟩
  · rw [if_neg h1]
    by_cases h2 : b < a
    · rw [if_pos h2]
      go_enter Try.func51, Try.ntmps51
      go_wp2
      go_ret
      exact ⟨rfl, rfl⟩
    · rw [if_neg h2]
      go_enter Try.func51, Try.ntmps51
      go_wp2
      go_ret
      exact ⟨rfl, rfl⟩
theorem check_any (u : ByteArray) (s k : Int) (w : World) (hu : u.size ≤ maxLen) :
    Calls Try.prog 75 #[.agg #[.string u, .int .u64 s, .int .i64 k]] w fun e w' => e = .returned (.int .i64 (chkK u s k)) ∧ Below w.heap.size w w' := by
  unfold maxLen at hu
  unfold chkK
  by_cases h1 : 1024 < u.size
  · rw [if_pos h1]
    go_enter Try.func75, Try.ntmps75
    go_wp2
    go_ret
    exact ⟨rfl, (Below.refl _ _).alloc (Nat.le_refl _) _⟩
  · rw [if_neg h1]
    by_cases h2 : 72057594037927935 < s
    · rw [if_pos h2]
      go_enter Try.func75, Try.ntmps75
      go_wp2
      go_ret
      exact ⟨rfl, (Below.refl _ _).alloc (Nat.le_refl _) _⟩
    · rw [if_neg h2]
      by_cases h3 : k < 0
      · rw [if_pos h3]
        go_enter Try.func75, Try.ntmps75
        go_wp2
        go_ret
        exact ⟨rfl, (Below.refl _ _).alloc (Nat.le_refl _) _⟩
      · rw [if_neg h3]
        by_cases h4 : 2 < k
        · rw [if_pos h4]
          go_enter Try.func75, Try.ntmps75
          go_wp2
          go_ret
          exact ⟨rfl, (Below.refl _ _).alloc (Nat.le_refl _) _⟩
        · rw [if_neg h4]
          go_enter Try.func75, Try.ntmps75
          go_wp2
          go_ret
          exact ⟨rfl, (Below.refl _ _).alloc (Nat.le_refl _) _⟩
def orI (x y z : Int) : Int := if x = 0 then (if y = 0 then z else y) else x
theorem or3_any (b : Nat) (x y z : Int) (w : World) (hb : Bl w b (.cells #[.int .i64 x, .int .i64 y, .int .i64 z] 3 (0, 0))) :
    Calls Try.prog 48 #[.slice (some ⟨b, 0, none⟩) 3 3] w fun e w' => e = .returned (.int .i64 (orI x y z)) ∧ w = w' := by
  unfold orI
  have c0 : w.cell? ⟨b, 0, none⟩ = some (.int .i64 x) := hb.cell 0
  have c1 : w.cell? ⟨b, 1, none⟩ = some (.int .i64 y) := hb.cell 1
  have c2 : w.cell? ⟨b, 2, none⟩ = some (.int .i64 z) := hb.cell 2
  by_cases h1 : x = 0
  · rw [if_pos h1]
    subst h1
    by_cases h2 : y = 0
    · rw [if_pos h2]
      subst h2
      by_cases h3 : z = 0
      · subst h3
        go_enter Try.func48, Try.ntmps48
        go_wp2
        refine wp_loop_rounds 4 ?_
        rw [rounds_succ]; go_wp2
        rw [rounds_succ]; go_wp2
        rw [rounds_succ]; go_wp2
        rw [rounds_succ]; go_wp2
        go_ret
        exact ⟨rfl, rfl⟩
      · have h3' : (z != 0) = true := by simp [h3]
        go_enter Try.func48, Try.ntmps48
        go_wp2
        refine wp_loop_rounds 3 ?_
        rw [rounds_succ]; go_wp2
        rw [rounds_succ]; go_wp2
        rw [rounds_succ]; go_wp2
        go_ret
        exact ⟨rfl, rfl⟩
    · have h2' : (y != 0) = true := by simp [h2]
      rw [if_neg h2]
      go_enter Try.func48, Try.ntmps48
      go_wp2
      refine wp_loop_rounds 2 ?_
      rw [rounds_succ]; go_wp2
      rw [rounds_succ]; go_wp2
      go_ret
      exact ⟨rfl, rfl⟩
  · have h1' : (x != 0) = true := by simp [h1]
    rw [if_neg h1]
    go_enter Try.func48, Try.ntmps48
    go_wp2
    refine wp_loop_rounds 1 ?_
    rw [rounds_succ]; go_wp2
    go_ret
    exact ⟨rfl, rfl⟩
end Go.Proofs.Ytkohoondgegmfaa
