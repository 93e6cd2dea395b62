/- A block's writer: the places are written. -/
import Derived.RangeFuncNested
import Derived.RangeFuncBound
import Derived.RangeFuncCalls
import Derived.RangeFuncLeaves
import Derived.Shelf.Abstract
import Derived.Shelf.RegionOpen
import Derived.WalkKit
import Derived.OwnWalkIn
import Derived.TacticsInMore
import Derived.LoopNIn
import Derived.LoopIn
import Derived.Lib.Hide
import Derived.Outline
import Derived.RegionTactic
import Derived.BigRegion
import Derived.WalkLawsBesides
import Derived.WalkSpells
import Derived.Deep.QuietTactic
import Derived.BigQuiet
import Derived.Deep.RegionHeld3
import Derived.Deep.DeepCutAuto
import Derived.Deep.CutBlock
import Derived.StillTailTactics
import Derived.WalkSmall
import Derived.Test.YtkohoondgegmfaaBlkC
namespace Go.Proofs.Ytkohoondgegmfaa
open Go.RowKit Go.Sed
set_option maxHeartbeats 1000000
set_option maxRecDepth 100000
/-- the places' bytes. -/
def W2of (WL : List Int) : List Int := if WL = [] then [0] else WL
def endB (WL : List Int) : List Int := (W2of WL ++ [((W2of WL).length : Int)]).flatMap fun x => fixL x 4
theorem WK.newW {w0 W : World} {bw : Nat} {c : Array Value} {vl vb' vw kv : Value} {L B WL K : List Int} (h : WK w0 W bw c vl vb' vw kv L B WL K) (T : TypeId) :
    WK w0 (W.alloc (.cells #[.int .i64 0] T)) bw c vl vb' (.slice (some ⟨W.heap.size, 0, none⟩) 1 1) kv L B [0] K := by
  have hb := h.ld.lt
  have hne : ∀ {s n : Nat} {v : Value} {xs : List Value}, OW W (bw + 1) s v n xs → ∀ k, v.ownBlock = some k → (Value.slice (some ⟨W.heap.size, 0, none⟩) 1 1).ownBlock ≠ some k := by
    intro s n v xs ho k e e2
    have h1 := (ho.lt k e).2
    have h2 : some W.heap.size = some k := e2
    injection h2 with h2
    omega
  exact ⟨h.ld.alloc _, h.l.alloc _, h.b.alloc _, OW.ints (k := .i64) (T := T) (xs := [0]) (by omega) (Bl.new' rfl) (by unfold maxLen; simp), h.k.alloc _, h.lb, hne h.l, h.kb, hne h.k, hne h.b, h.below.alloc (Nat.le_of_lt hb) _⟩
theorem end_any (bw rs n : Nat) (vl vb' vw kv : Value) (L B WL K : List Int) (w : World) (hB : B.length ≤ 100000000000) (hW : WL.length ≤ 100000) (hWL : ∀ x ∈ WL, 0 ≤ x ∧ x < 4294967296)
    (h : WK w w bw #[.int .i64 rs, .int .i64 n, vl, vb', vw] vl vb' vw kv L B WL K) :
    Calls Try.prog 28 #[.pointer (some ⟨bw, 0, none⟩)] w fun e w' => ∃ v, e = .returned v ∧ OW w' (bw + 1) 1 v (B ++ endB WL).length (vb (B ++ endB WL)) ∧ Below bw w w' := by
  obtain ⟨A2, c2, rfl, -⟩ := h.l.shape
  obtain ⟨A3, c3, rfl, -⟩ := h.b.shape
  obtain ⟨A4, c4, rfl, -⟩ := h.w.shape
  have k4 : w.cell? ⟨bw, 4, none⟩ = some (.slice A4 WL.length c4) := h.ld.cell 4
  have f4 := h.ld.frozen 4
  have hbw := h.ld.lt
  replace h := Lib.hid h
  replace hWL := Lib.hid hWL
  go_enter Try.func28, Try.ntmps28
  go_upto_if 10 with (fail)
  go_cut [0] (fun x wx => x = .pointer (some ⟨bw, 0, none⟩) ∧ ∃ w2, WK w wx bw #[.int .i64 rs, .int .i64 n, .slice A2 L.length c2, .slice A3 B.length c3, w2] (.slice A2 L.length c2) (.slice A3 B.length c3) w2 kv L B (W2of WL) K)
  case first =>
    rcases WL with _ | ⟨x0, WL0⟩
    · go_wp2_with fail
      go_meet
      have hn := (h.out.set 4 (.slice (some ⟨w.heap.size, 0, none⟩) 1 1)).newW 3
      rw [World.size_setCell] at hn
      exact ⟨rfl, _, hn⟩
    · have hz : ((x0 :: WL0).length : Int) ≠ 0 := by simp; omega
      go_wp2_with fail
      go_meet
      exact ⟨rfl, _, h.out⟩
  case rest =>
    obtain ⟨rfl, w2, hc⟩ := hcut
    obtain ⟨W2, hW2⟩ : ∃ W2, W2of WL = W2 := ⟨_, rfl⟩
    rw [hW2] at hc
    replace hW2 := Lib.hid hW2
    obtain ⟨A5, c5, rfl, -⟩ := hc.w.shape
    replace hc := Lib.hid hc
    have hWl : W2.length ≤ 100001 := by rw [← hW2.out]; unfold W2of; split <;> first | omega | simp
    have hW2r : ∀ x ∈ W2 ++ [(W2.length : Int)], 0 ≤ x ∧ x < 4294967296 := by
      intro x hx
      rcases List.mem_append.1 hx with hx | hx
      · rw [← hW2.out] at hx
        unfold W2of at hx
        split at hx
        · simp at hx; omega
        · exact hWL.out x hx
      · simp at hx; omega
    replace hW2r := Lib.hid hW2r
    have k4 : wc.cell? ⟨bw, 4, none⟩ = some (.slice A5 W2.length c5) := hc.out.ld.cell 4
    have k4' : wc.drew.cell? ⟨bw, 4, none⟩ = some (.slice A5 W2.length c5) := hc.out.ld.cell 4
    have hbc := hc.out.ld.lt
    go_upto_region 3 with (fail)
    go_region_held3 (fun W => W.cell? ⟨bw, 4, none⟩ = some (.slice A5 W2.length c5)) (first | exact k4 | exact k4' | exact ((hc.out.keep (((Below.refl _ _).alloc (Nat.le_refl _) _).drew)).ld.cell 4) | exact i4) ((refine step_append_ow rfl _ _ 61 rfl (bw + 1) 3 Try.underlying61 infoInt rfl (by decide) _ W2.length _ rfl (hc.out.w.alloc _).drew _ 1 1 [.int .i64 W2.length] rfl (rd_one rfl _ _).drew (by intro u hu; simp at hu; subst hu; rfl) (by unfold maxLen; omega) (by omega) (by simp; omega) ?_; intro v5 w5 hown5 hgr5 hcase5; obtain ⟨A6, c6, rfl, -⟩ := hown5.shape; have h5 := Lib.hid (hc.out.growW ((Below.refl _ _).alloc (Nat.le_refl _) _).drew hown5 hgr5 hcase5); have i4 : w5.cell? ⟨bw, 4, none⟩ = some (.slice A5 W2.length c5) := h5.out.ld.cell 4; clear hown5 hgr5 hcase5))
    go_wp2_with fail
    obtain ⟨W3, hW3⟩ : ∃ W3, W2 ++ [(W2.length : Int)] = W3 := ⟨_, rfl⟩
    have hW3l : W3.length = W2.length + 1 := by rw [← hW3]; simp
    rw [hW3] at h5 hW2r
    replace hW3 := Lib.hid hW3
    clear k4 k4' i4 hbc
    go_loopw [27] (fun i wr => ∃ (j : Nat) (X : List Int) (b2 : Value), j ≤ W2.length + 1 ∧ i = .int .i64 j ∧ X.length = 4 * j ∧ X = (W3.take j).flatMap (fun x => fixL x 4) ∧ WK w wr bw #[.int .i64 rs, .int .i64 n, .slice A2 L.length c2, b2, .slice A5 W2.length c5] (.slice A2 L.length c2) b2 (.slice A6 (W2.length + 1) c6) kv L (B ++ X) W3 K) (fun i _ => W2.length + 1 - (intOf i).toNat)
    case atStart => exact ⟨0, [], _, by omega, rfl, rfl, rfl, by rw [List.append_nil]; exact h5.out⟩
    case round =>
      obtain ⟨j, X, b2, hj, rfl, hXl, hX, hk⟩ := hrel
      have hBl : (B ++ X).length ≤ 100000500000 := by rw [List.length_append]; omega
      obtain ⟨Y, hY⟩ : ∃ Y, B ++ X = Y := ⟨_, rfl⟩
      rw [hY] at hk hBl
      replace hY := Lib.hid hY
      obtain ⟨Ab, cb, rfl, -⟩ := hk.b.shape
      replace hk := Lib.hid hk
      have k3 : wr.drew.cell? ⟨bw, 3, none⟩ = some (.slice Ab Y.length cb) := hk.out.ld.cell 3
      have k3' : wr.cell? ⟨bw, 3, none⟩ = some (.slice Ab Y.length cb) := hk.out.ld.cell 3
      have hbr := hk.out.ld.lt
      by_cases hlt : j < W2.length + 1
      · have hw := hk.out.w
        rw [hW3l] at hw
        obtain ⟨g1, o1, u1, rfl, hu1, r1⟩ := hw.rd.at1 hlt
        clear hw
        obtain ⟨x, hx, rfl⟩ : ∃ x, W3[j]? = some x ∧ u1 = .int .i64 x := by
          rw [List.getElem?_map, List.getElem?_eq_getElem (by omega)] at hu1
          exact ⟨_, List.getElem?_eq_getElem (by omega), (Option.some.inj hu1).symm⟩
        have hx2 := hW2r.out x (List.mem_of_getElem? hx)
        have htk := Lib.hid (show X ++ fixL x 4 = (W3.take (j + 1)).flatMap (fun x => fixL x 4) by rw [List.take_add_one, hx, List.flatMap_append, ← hX]; simp)
        have hwx : IntKind.u32.wrap x = x := by simp [IntKind.wrap, IntKind.bits, IntKind.signed]; omega
        go_upto_region 6 with (fail)
        rw [show Op.load 23 (Operand.tmp 34) = id (Op.load 23 (Operand.tmp 34)) from rfl]
        go_region_held3 (fun _ => True) (exact trivial) ((first
          | (go_at_call 55; refine (fixed32_any x _ hx2.1 hx2.2).mono ?_; rintro e w6 ⟨rfl, hF, hB6⟩; have h6 := Lib.hid (hk.out.keep (below_then (Below.refl _ _).drew hB6)); have j3 : w6.cell? ⟨bw, 3, none⟩ = some (.slice Ab Y.length cb) := h6.out.ld.cell 3; have hr6 := Lib.hid (hF.rd (fixL_len _ _)); clear hF hB6)
          | (have _t := hr6; refine step_append_ow rfl _ _ 23 rfl (bw + 1) 5 Try.underlying23 infoByte rfl (by decide) _ Y.length _ rfl h6.out.b _ 4 _ (vb (fixL x 4)) rfl hr6.out (vb_one _) (by unfold maxLen; omega) (by omega) h6.out.ld.lt ?_; intro v7 w7 hown7 hgr7 hcase7; obtain ⟨A7, c7, rfl, -⟩ := hown7.shape; have h7 := Lib.hid (h6.out.growB (X := fixL x 4) (Below.refl _ _) (by rw [fixL_len]; exact hown7) hgr7 hcase7); have i3 : w7.cell? ⟨bw, 3, none⟩ = some (.slice Ab Y.length cb) := h7.out.ld.cell 3; have f3 := h7.out.ld.frozen 3; have hl7 := h7.out.ld.lt; clear hown7 hgr7 hcase7)))
        all_goals go_wp2_with fail
        all_goals go_roundw
        case rel => exact ⟨j + 1, X ++ fixL x 4, _, by omega, by go_num, by rw [List.length_append, fixL_len]; omega, htk.out, by rw [← List.append_assoc, hY.out]; exact h7.out.set 3 _⟩
        case measure => simp only [intOf]; omega
        case rel => exact ⟨j + 1, X ++ fixL x 4, _, by omega, by go_num, by rw [List.length_append, fixL_len]; omega, htk.out, by rw [← List.append_assoc, hY.out]; exact h7.out.set 3 _⟩
        case measure => simp only [intOf]; omega
      · go_wp2_with fail
        go_ret
        obtain rfl : j = W2.length + 1 := by omega
        have he : B ++ endB WL = Y := by
          rw [← hY.out, hX, List.take_of_length_le (by omega), ← hW3.out]
          unfold endB
          rw [hW2.out]
        rw [he]
        exact ⟨_, rfl, hk.out.b, hk.out.below⟩
end Go.Proofs.Ytkohoondgegmfaa
