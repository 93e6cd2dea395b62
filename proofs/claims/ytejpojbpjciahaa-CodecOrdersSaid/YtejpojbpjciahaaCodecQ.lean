/- The walk of CodecOrders. -/
import Derived.Test.YtejpojbpjciahaaProg
import Derived.RangeFuncNested
import Derived.RangeFuncBound
import Derived.RangeFuncCalls
import Derived.RangeFuncLeaves
import Derived.Shelf.Abstract
import Derived.Shelf.RegionOpen
import Derived.WalkKit
import Derived.OwnWalkIn
import Derived.TacticsInMore
import Derived.LoopNIn
import Derived.LoopIn
import Derived.Lib.Hide
import Derived.Outline
import Derived.RegionTactic
import Derived.BigRegion
import Derived.WalkLawsBesides
import Derived.WalkSpells
import Derived.Deep.QuietTactic
import Derived.BigQuiet
import Derived.Deep.RegionHeld3
import Derived.Lib.Bytealg
import Derived.Lib.ConvBytes
import Derived.Laws.BytesArg
import Derived.Test.YtejpojbpjciahaaSed
import Derived.Test.YtejpojbpjciahaaOwn
import Derived.Deep.DeepCutAuto
import Derived.Deep.CutBlock
import Derived.Test.YtejpojbpjciahaaCodecO
namespace Go.Proofs.Ytejpojbpjciahaa
open Go.RowKit Go.Sed
set_option maxHeartbeats 2000000
theorem cmpH_refl (how : Int) (a : ByteArray) : cmpH how a a = 0 := by
  unfold cmpH; split <;> exact (cmpB_eq0 a a).2 rfl
theorem cmpH_zero (a b : ByteArray) : cmpH 0 a b = cmpB a b := by unfold cmpH; rw [if_neg (by decide)]
theorem bet_law {how : Int} {a b s : ByteArray} (h : BetC how a b s) : s.size ≤ a.size ∧ (cmpH how a b < 0 → cmpH how a s ≤ 0 ∧ cmpH how s b < 0) := by
  have same : cmpH how a b < 0 → cmpH how a a ≤ 0 ∧ cmpH how a b < 0 := fun g => ⟨by rw [cmpH_refl]; omega, g⟩
  cases h with
  | how h => exact ⟨Nat.le_refl _, same⟩
  | ge h hc => exact ⟨Nat.le_refl _, same⟩
  | pre h hc hs hx he => exact ⟨Nat.le_refl _, same⟩
  | part h hc d h1 h2 he hl _ hs =>
    by_cases hg : a[d].toNat + 1 < b[d].toNat
    · rw [hs.1 hg]
      have hbl : b[d].toNat < 256 := b[d].toNat_lt
      refine ⟨by rw [moreB_size]; exact h1, fun _ => ?_⟩
      rw [h, cmpH_zero, cmpH_zero, more_gt a d h1 (by omega), more_lt a b d h1 h2 he (by omega) hg]
      omega
    · rw [hs.2 hg]
      exact ⟨Nat.le_refl _, same⟩
theorem aftG_law (a : ByteArray) : ∀ f i, (aftG a f i).size ≤ a.size ∧ cmpB a (aftG a f i) ≤ 0
  | 0, i => ⟨Nat.le_refl _, by unfold aftG; rw [(cmpB_eq0 a a).2 rfl]; omega⟩
  | f + 1, i => by
    unfold aftG
    split
    · split
      · rw [moreB_size, more_gt _ _ _ (by assumption)]; omega
      · exact aftG_law a f (i + 1)
    · exact ⟨Nat.le_refl _, by rw [(cmpB_eq0 a a).2 rfl]; omega⟩
theorem aft_law (how : Int) (a : ByteArray) : (aftI how a).size ≤ a.size ∧ cmpH how a (aftI how a) ≤ 0 := by
  unfold aftI
  by_cases h : how = 0
  · rw [if_pos h, h, cmpH_zero]; exact aftG_law a _ _
  · rw [if_neg h, cmpH_refl]; omega
set_option maxRecDepth 100000 in
theorem orders_walk (how : Int) (u : ByteArray) (s k : Int) (u' : ByteArray) (s' k' : Int) (w : World) (hm : u.size ≤ maxLen) (hm' : u'.size ≤ maxLen) :
    Calls Try.prog 6 #[.int .i64 how, .agg #[.string u, .int .u64 s, .int .i64 k], .agg #[.string u', .int .u64 s', .int .i64 k']] w fun e w' => e = .returned (.bool true) ∧ Below w.heap.size w w' := by
  obtain ⟨sb, hsb⟩ := betC how u u'
  obtain ⟨w1, hw1⟩ : ∃ w1, (w.alloc (.cells #[.string u, .int .u64 s, .int .i64 k] 30)).alloc (.cells #[.string u', .int .u64 s', .int .i64 k'] 30) = w1 := ⟨_, rfl⟩
  have hB : Below w.heap.size w w1 := by rw [← hw1]; exact ((Below.refl _ _).alloc (Nat.le_refl _) _).alloc (by simp) _
  have b0 : Bl w1 w.heap.size (.cells #[.string u, .int .u64 s, .int .i64 k] 30 (0, 0)) := by rw [← hw1]; exact (Bl.new' rfl).alloc _
  have b1 : Bl w1 (w.heap.size + 1) (.cells #[.string u', .int .u64 s', .int .i64 k'] 30 (0, 0)) := by rw [← hw1]; exact Bl.new' (by simp)
  have hcells : ∀ W, Below w1.heap.size w1 W → Below w1.heap.size w1 W ∧ W.cell? ⟨w.heap.size, 0, none⟩ = some (.string u) ∧ W.cell? ⟨w.heap.size, 1, none⟩ = some (.int .u64 s) ∧ W.cell? ⟨w.heap.size, 2, none⟩ = some (.int .i64 k) ∧
      W.cell? ⟨w.heap.size + 1, 0, none⟩ = some (.string u') ∧ W.cell? ⟨w.heap.size + 1, 1, none⟩ = some (.int .u64 s') ∧ W.cell? ⟨w.heap.size + 1, 2, none⟩ = some (.int .i64 k') :=
    fun W h => ⟨h, cell_keep h (b0.cell 0), cell_keep h (b0.cell 1), cell_keep h (b0.cell 2), cell_keep h (b1.cell 0), cell_keep h (b1.cell 1), cell_keep h (b1.cell 2)⟩
  have hgo : ∀ W, Below w1.heap.size w1 W → Below w.heap.size w W := fun W h => hB.trans (h.mono hB.size)
  clear b0 b1
  obtain ⟨hB2, p0, p1, p2, q0, q1, q2⟩ := hcells w1 (Below.refl _ _)
  replace hw1 := Lib.hid hw1
  go_enter Try.func6, Try.ntmps6
  go_wp2_with fail
  rw [hw1.out]
  go_cut [32] (fun x wx => x = .bool false ∧ Below w1.heap.size w1 wx)
  case first =>
    go_region_held3 (fun W => Below w1.heap.size w1 W ∧ W.cell? ⟨w.heap.size, 0, none⟩ = some (.string u) ∧ W.cell? ⟨w.heap.size, 1, none⟩ = some (.int .u64 s) ∧ W.cell? ⟨w.heap.size, 2, none⟩ = some (.int .i64 k) ∧
        W.cell? ⟨w.heap.size + 1, 0, none⟩ = some (.string u') ∧ W.cell? ⟨w.heap.size + 1, 1, none⟩ = some (.int .u64 s') ∧ W.cell? ⟨w.heap.size + 1, 2, none⟩ = some (.int .i64 k'))
      ((refine hcells _ ?_; first | exact (Below.refl _ _).drew | exact below_then (by first | assumption | exact (Below.refl _ _).drew | exact And.left (by assumption)) hBo | assumption | exact And.left (by assumption)))
      ((first
        | (go_at_call 20; refine (order_any _ _ _ _ _ _ _ _).mono ?_; rintro e wo ⟨rfl, hBo⟩)
        | (go_at_call 21; refine (rorder_any _ _ _ _ _ _ _ _).mono ?_; rintro e wo ⟨rfl, hBo⟩)
        | (go_at_call 22; refine (compare_any _ _ _ _).mono ?_; rintro e wo ⟨rfl, rfl⟩)
        | (go_at_call 23; refine (rcompare_any _ _ _ _).mono ?_; rintro e wo ⟨rfl, rfl⟩)))
    all_goals go_wp2_with fail
    all_goals go_meet
    all_goals exact ⟨rfl, by first | assumption | exact (Below.refl _ _).drew | exact And.left (by assumption)⟩
  case rest =>
    obtain ⟨rfl, hB3⟩ := hcut
    clear p0 p1 p2 q0 q1 q2 hB2
    obtain ⟨hB2, p0, p1, p2, q0, q1, q2⟩ := hcells _ hB3
    clear hB3
    go_wp2_with fail
    go_cut [7, 8] (fun x y wx => x = .string sb ∧ y = .string (aftI how u) ∧ Below w1.heap.size w1 wx)
    case first =>
      go_region_held3 (fun W => Below w1.heap.size w1 W ∧ W.cell? ⟨w.heap.size, 0, none⟩ = some (.string u) ∧ W.cell? ⟨w.heap.size, 1, none⟩ = some (.int .u64 s) ∧ W.cell? ⟨w.heap.size, 2, none⟩ = some (.int .i64 k) ∧
          W.cell? ⟨w.heap.size + 1, 0, none⟩ = some (.string u') ∧ W.cell? ⟨w.heap.size + 1, 1, none⟩ = some (.int .u64 s') ∧ W.cell? ⟨w.heap.size + 1, 2, none⟩ = some (.int .i64 k'))
        ((refine hcells _ ?_; first | exact hB2.drew | exact below_then (by first | assumption | exact hB2.drew | exact And.left (by assumption)) hBo | assumption | exact And.left (by assumption)))
        ((first
          | (go_at_call 24; refine (between_any _ _ _ _ hsb _ hm hm').mono ?_; rintro e wo ⟨rfl, hBo⟩)
          | (go_at_call 25; refine (after_any _ _ _ hm).mono ?_; rintro e wo ⟨rfl, hBo⟩)))
      all_goals go_wp2_with fail
      all_goals go_meet
      all_goals exact ⟨rfl, rfl, by first | assumption | exact hB2.drew | exact And.left (by assumption)⟩
    case rest =>
      obtain ⟨rfl, rfl, hB3⟩ := hcut
      clear p0 p1 p2 q0 q1 q2 hB2
      obtain ⟨hB2, p0, p1, p2, q0, q1, q2⟩ := hcells _ hB3
      clear hB3
      obtain ⟨l1, l2⟩ := bet_law hsb
      obtain ⟨l3, l4⟩ := aft_law how u
      have m1 : ((u.size : Int) < sb.size) = False := by simp; omega
      have m2 : ((u.size : Int) < (aftI how u).size) = False := by simp; omega
      have m3 : ¬ (u.size : Int) < sb.size := by omega
      have m4 : ¬ (u.size : Int) < (aftI how u).size := by omega
      obtain ⟨X, hX⟩ : ∃ X, cmpH how u u' = X := ⟨_, rfl⟩
      obtain ⟨Y, hY⟩ : ∃ Y, cmpH how u sb = Y := ⟨_, rfl⟩
      obtain ⟨Z, hZ⟩ : ∃ Z, cmpH how sb u' = Z := ⟨_, rfl⟩
      obtain ⟨V, hV⟩ : ∃ V, cmpH how u (aftI how u) = V := ⟨_, rfl⟩
      rw [hX, hY, hZ] at l2
      rw [hV] at l4
      replace hX := Lib.hid hX
      replace hY := Lib.hid hY
      replace hZ := Lib.hid hZ
      replace hV := Lib.hid hV
      clear l1 l3
      have n4 : ¬ 0 < V := by omega
      by_cases hx : X < 0
      · obtain ⟨n1, n2⟩ := l2 hx
        have n3 : ¬ 0 ≤ Z := by omega
        have n5 : ¬ 0 < Y := by omega
        clear l2
        go_wp2_with (first
          | (go_at_call 26; refine (rbetween_any _ _ _ _ hsb _ hm hm').mono ?_; rintro e wo ⟨rfl, hBo⟩; replace hB2 := below_then hB2 hBo; clear hBo p0 p1 p2 q0 q1 q2; obtain ⟨hB0, p0, p1, p2, q0, q1, q2⟩ := hcells _ hB2)
          | (go_at_call 27; refine (rafter_any _ _ _ hm).mono ?_; rintro e wo ⟨rfl, hBo⟩; replace hB2 := below_then hB2 hBo; clear hBo p0 p1 p2 q0 q1 q2; obtain ⟨hB0, p0, p1, p2, q0, q1, q2⟩ := hcells _ hB2)
          | (go_at_call 22; refine (compare_any _ _ _ _).mono ?_; rintro e wo ⟨rfl, rfl⟩; (first | rw [hX.out] | rw [hY.out] | rw [hZ.out] | rw [hV.out]))
          | (go_at_call 13; refine (lives_any _).mono ?_; rintro e wo ⟨rfl, hBo⟩))
        go_ret
        exact ⟨rfl, hgo _ (below_then hB2 hBo)⟩
      · clear l2
        go_wp2_with (first
          | (go_at_call 26; refine (rbetween_any _ _ _ _ hsb _ hm hm').mono ?_; rintro e wo ⟨rfl, hBo⟩; replace hB2 := below_then hB2 hBo; clear hBo p0 p1 p2 q0 q1 q2; obtain ⟨hB0, p0, p1, p2, q0, q1, q2⟩ := hcells _ hB2)
          | (go_at_call 27; refine (rafter_any _ _ _ hm).mono ?_; rintro e wo ⟨rfl, hBo⟩; replace hB2 := below_then hB2 hBo; clear hBo p0 p1 p2 q0 q1 q2; obtain ⟨hB0, p0, p1, p2, q0, q1, q2⟩ := hcells _ hB2)
          | (go_at_call 22; refine (compare_any _ _ _ _).mono ?_; rintro e wo ⟨rfl, rfl⟩; (first | rw [hX.out] | rw [hY.out] | rw [hZ.out] | rw [hV.out]))
          | (go_at_call 13; refine (lives_any _).mono ?_; rintro e wo ⟨rfl, hBo⟩))
        go_ret
        exact ⟨rfl, hgo _ (below_then hB2 hBo)⟩
end Go.Proofs.Ytejpojbpjciahaa
