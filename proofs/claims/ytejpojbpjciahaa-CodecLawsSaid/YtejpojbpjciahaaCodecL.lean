/- The walk of CodecLaws. -/
import Derived.Test.YtejpojbpjciahaaProg
import Derived.RangeFuncNested
import Derived.RangeFuncBound
import Derived.RangeFuncCalls
import Derived.RangeFuncLeaves
import Derived.Shelf.Abstract
import Derived.Shelf.RegionOpen
import Derived.WalkKit
import Derived.OwnWalkIn
import Derived.TacticsInMore
import Derived.LoopNIn
import Derived.LoopIn
import Derived.Lib.Hide
import Derived.Outline
import Derived.RegionTactic
import Derived.BigRegion
import Derived.WalkLawsBesides
import Derived.WalkSpells
import Derived.Deep.QuietTactic
import Derived.BigQuiet
import Derived.Deep.RegionHeld3
import Derived.Lib.Bytealg
import Derived.Lib.ConvBytes
import Derived.Laws.BytesArg
import Derived.Test.YtejpojbpjciahaaSed
import Derived.Test.YtejpojbpjciahaaOwn
import Derived.Deep.DeepCutAuto
import Derived.Deep.CutBlock
import Derived.Test.YtejpojbpjciahaaCodecD
namespace Go.Proofs.Ytejpojbpjciahaa
open Go.RowKit Go.Sed
set_option maxHeartbeats 2000000
theorem laws_walk (how : Int) (u : ByteArray) (s k : Int) (u' : ByteArray) (s' k' : Int) (u2 : ByteArray) (s2 k2 : Int) (w : World) :
    Calls Try.prog 5 #[.int .i64 how, .agg #[.string u, .int .u64 s, .int .i64 k, .string u', .int .u64 s', .int .i64 k', .string u2, .int .u64 s2, .int .i64 k2]] w fun e w' => e = .returned (.bool true) ∧ Below w.heap.size w w' := by
  go_enter Try.func5, Try.ntmps5
  go_wp2_with fail
  go_cut [5, 6, 7] (fun x5 x6 x7 wx => ∃ p q r, x5 = .pointer (some ⟨p, 0, none⟩) ∧ x6 = .pointer (some ⟨q, 0, none⟩) ∧ x7 = .pointer (some ⟨r, 0, none⟩) ∧ Below w.heap.size w wx ∧
    wx.cell? ⟨p, 0, none⟩ = some (.string u) ∧ wx.cell? ⟨p, 1, none⟩ = some (.int .u64 s) ∧ wx.cell? ⟨p, 2, none⟩ = some (.int .i64 k) ∧
    wx.cell? ⟨q, 0, none⟩ = some (.string u') ∧ wx.cell? ⟨q, 1, none⟩ = some (.int .u64 s') ∧ wx.cell? ⟨q, 2, none⟩ = some (.int .i64 k') ∧
    wx.cell? ⟨r, 0, none⟩ = some (.string u2) ∧ wx.cell? ⟨r, 1, none⟩ = some (.int .u64 s2) ∧ wx.cell? ⟨r, 2, none⟩ = some (.int .i64 k2))
  case first =>
    go_region
    all_goals go_wp2_with fail
    all_goals go_meet
    all_goals
      refine ⟨_, _, _, rfl, rfl, rfl, ?_, ?_⟩
      · exact (((((Below.refl _ _).alloc (Nat.le_refl _) _).alloc (by simp) _).alloc (by simp; omega) _).alloc (by simp; omega) _).drew
      · simp [cellA]
  case rest =>
    obtain ⟨p, q, r, rfl, rfl, rfl, hB, p0, p1, p2, q0, q1, q2, r0, r1, r2⟩ := hcut
    have hcells : ∀ W, Below wc.heap.size wc W → Below wc.heap.size wc W ∧ W.cell? ⟨p, 0, none⟩ = some (.string u) ∧ W.cell? ⟨p, 1, none⟩ = some (.int .u64 s) ∧ W.cell? ⟨p, 2, none⟩ = some (.int .i64 k) ∧
        W.cell? ⟨q, 0, none⟩ = some (.string u') ∧ W.cell? ⟨q, 1, none⟩ = some (.int .u64 s') ∧ W.cell? ⟨q, 2, none⟩ = some (.int .i64 k') ∧
        W.cell? ⟨r, 0, none⟩ = some (.string u2) ∧ W.cell? ⟨r, 1, none⟩ = some (.int .u64 s2) ∧ W.cell? ⟨r, 2, none⟩ = some (.int .i64 k2) :=
      fun W h => ⟨h, cell_keep h p0, cell_keep h p1, cell_keep h p2, cell_keep h q0, cell_keep h q1, cell_keep h q2, cell_keep h r0, cell_keep h r1, cell_keep h r2⟩
    have hgo : ∀ W, Below wc.heap.size wc W → Below w.heap.size w W := fun W h => hB.trans (h.mono hB.size)
    clear p0 p1 p2 q0 q1 q2 r0 r1 r2
    go_wp2_with fail
    go_cut [8, 9, 10] (fun x y z wx => x = .int .i64 (ordK how u s k u' s' k') ∧ y = .int .i64 (ordK how u' s' k' u2 s2 k2) ∧ z = .int .i64 (ordK how u s k u2 s2 k2) ∧ Below wc.heap.size wc wx)
    case first =>
      obtain ⟨-, p0, p1, p2, q0, q1, q2, r0, r1, r2⟩ := hcells wc (Below.refl _ _)
      go_region_held3 (fun W => Below wc.heap.size wc W ∧ W.cell? ⟨p, 0, none⟩ = some (.string u) ∧ W.cell? ⟨p, 1, none⟩ = some (.int .u64 s) ∧ W.cell? ⟨p, 2, none⟩ = some (.int .i64 k) ∧
        W.cell? ⟨q, 0, none⟩ = some (.string u') ∧ W.cell? ⟨q, 1, none⟩ = some (.int .u64 s') ∧ W.cell? ⟨q, 2, none⟩ = some (.int .i64 k') ∧
        W.cell? ⟨r, 0, none⟩ = some (.string u2) ∧ W.cell? ⟨r, 1, none⟩ = some (.int .u64 s2) ∧ W.cell? ⟨r, 2, none⟩ = some (.int .i64 k2))
        ((refine hcells _ ?_; first | exact (Below.refl _ _).drew | exact below_then (by first | assumption | exact (Below.refl _ _).drew | exact And.left (by assumption)) hBo))
        ((go_at_call 20; refine (order_any _ _ _ _ _ _ _ _).mono ?_; rintro e wo ⟨rfl, hBo⟩))
      all_goals go_wp2_with fail
      all_goals go_meet
      all_goals exact ⟨rfl, rfl, rfl, by first | assumption | exact (Below.refl _ _).drew | exact And.left (by assumption)⟩
    case rest =>
      obtain ⟨rfl, rfl, rfl, hB2⟩ := hcut
      have hsw := ordK_swap how u s k u' s' k'
      have hself : ordK how u s k u s k = 0 := (ordK_eq0 how u s k u s k).2 ⟨rfl, rfl, rfl⟩
      have heq := ordK_eq0 how u s k u' s' k'
      have htr := ordK_trans how u s k u' s' k' u2 s2 k2
      have hx := ordK_range how u s k u' s' k'
      have hy := ordK_range how u' s' k' u2 s2 k2
      have hz := ordK_range how u s k u2 s2 k2
      generalize hX : ordK how u s k u' s' k' = X at *
      generalize ordK how u' s' k' u2 s2 k2 = Y at *
      generalize ordK how u s k u2 s2 k2 = Z at *
      replace hsw := Lib.hid hsw
      replace hself := Lib.hid hself
      clear hX
      obtain ⟨hB0, p0, p1, p2, q0, q1, q2, -, -, -⟩ := hcells _ hB2
      have hq : (u = u' ∧ s = s' ∧ k = k') ∨ ¬ (u = u' ∧ s = s' ∧ k = k') := Classical.em _
      replace htr := Lib.hid htr
      rcases hx with rfl | rfl | rfl <;> rcases hy with rfl | rfl | rfl <;> rcases hz with rfl | rfl | rfl
      all_goals
        first
        | (exfalso; have := htr.out; omega)
        | (rcases hq with hq | hq
           · first
             | (exfalso; have := heq.2 hq; omega)
             | (obtain ⟨rfl, rfl, rfl⟩ := hq
                clear heq
                go_wp2_with (first
                  | (go_at_call 20; refine (order_any _ _ _ _ _ _ _ _).mono ?_; rintro e wo ⟨rfl, hBo⟩; (first | rw [hsw.out] | rw [hself.out]); replace hB2 := below_then hB2 hBo; clear hBo p0 p1 p2 q0 q1 q2; obtain ⟨hB0, p0, p1, p2, q0, q1, q2, -, -, -⟩ := hcells _ hB2)
                  | (go_at_call 13; refine (lives_any _).mono ?_; rintro e wo ⟨rfl, hBo⟩))
                all_goals first
                | contradiction
                | (go_ret; exact ⟨rfl, hgo _ (below_then hB2 hBo)⟩))
           · first
             | (exfalso; exact hq (heq.1 rfl))
             | (clear heq
                go_wp2_with (first
                  | (go_at_call 20; refine (order_any _ _ _ _ _ _ _ _).mono ?_; rintro e wo ⟨rfl, hBo⟩; (first | rw [hsw.out] | rw [hself.out]); replace hB2 := below_then hB2 hBo; clear hBo p0 p1 p2 q0 q1 q2; obtain ⟨hB0, p0, p1, p2, q0, q1, q2, -, -, -⟩ := hcells _ hB2)
                  | (go_at_call 13; refine (lives_any _).mono ?_; rintro e wo ⟨rfl, hBo⟩))
                all_goals first
                | (exfalso; exact hq ⟨by first | assumption | exact ba_inj (by assumption), by first | assumption | rfl, by first | assumption | rfl⟩)
                | (go_ret; exact ⟨rfl, hgo _ (below_then hB2 hBo)⟩)))
end Go.Proofs.Ytejpojbpjciahaa
