/- A step on the way to the laws of layer 6 (bloom): contracts of Go functions over the translation; no condition but those that each theorem names. -/
import Derived.Test.YtakgmkgipjfolaaProg
import Derived.RangeFuncNested
import Derived.RangeFuncBound
import Derived.RangeFuncCalls
import Derived.RangeFuncLeaves
import Derived.Shelf.Abstract
import Derived.Shelf.RegionOpen
import Derived.WalkKit
import Derived.OwnWalkIn
import Derived.TacticsInMore
import Derived.LoopNIn
import Derived.LoopIn
import Derived.Lib.Hide
import Derived.Outline
import Derived.Test.YtakgmkgipjfolaaSed
import Derived.Test.YtakgmkgipjfolaaD
namespace Go.Proofs.Ytakgmkgipjfolaa
open Go.RowKit Go.Sed
set_option maxHeartbeats 1000000
def FA : List Int := buildF [⟨#[97]⟩] 10
def kx (i : Nat) : ByteArray := ⟨#[UInt8.ofNat i, 120]⟩
def noN : Nat → Nat
  | 0 => 0
  | i + 1 => if mayV FA (kx i) then noN i else noN i + 1
theorem FA_len : FA.length = 9 := by decide +kernel
theorem FA_may : mayV FA ⟨#[97]⟩ = true := by decide +kernel
theorem noN_200 : 150 < noN 200 := by decide +kernel
theorem RS_one (w : World) (s : ByteArray) : RS (w.alloc (.cells #[.string s] 9)) (some ⟨w.heap.size, 0, none⟩) [s] := by
  intro i hi
  obtain rfl : i = 0 := by simp at hi; omega
  exact ⟨_, _, rfl, by rw [(Bl.new' (W := w) rfl).cell]; rfl⟩
theorem sz10 : szOf 10 1 = 8 := by decide +kernel
theorem may9 (s : ByteArray) (hs : s.size ≤ maxLen) (w : World) (b : Nat) (hF : Bl w b (.cells (ci .u8 FA) 5 (0, 0))) :
    Calls Try.prog 8 #[.slice (some ⟨b, 0, none⟩) 9 9, .string s] w fun e w' => e = .returned (.bool (mayV FA s)) ∧ Below w.heap.size w w' := by
  have := may_any (some ⟨b, 0, none⟩) 9 FA s w hs (by rw [FA_len]; omega) hF.RI
  rw [FA_len] at this
  exact this
theorem kx_size (i : Nat) : (kx i).size ≤ maxLen := by unfold maxLen; show 2 ≤ _; omega
theorem noN_t (i : Nat) (h : mayV FA (kx i) = true) : noN (i + 1) = noN i := by show (if _ then _ else _) = _; rw [if_pos h]
theorem noN_f (i : Nat) (h : mayV FA (kx i) = false) : noN (i + 1) = noN i + 1 := by show (if _ then _ else _) = _; rw [if_neg (by rw [h]; simp)]
theorem noN_le (i : Nat) : noN i ≤ i := by
  induction i with
  | zero => simp [noN]
  | succ n ih => unfold noN; split <;> omega
set_option maxRecDepth 10000 in
theorem lives_any (w : World) : Calls Try.prog 5 #[] w fun e w' => e = .returned (.bool true) ∧ Below w.heap.size w w' := by
  have hb := build_any (some ⟨w.heap.size, 0, none⟩) 1 [⟨#[97]⟩] 10 (w.alloc (.cells #[.string ⟨#[97]⟩] 9)) (by omega) (by omega) (by simp) (RS_one w _) (by decide +kernel)
  simp only [List.length_cons, List.length_nil, Nat.zero_add, sz10, Nat.reduceAdd, World.size_alloc] at hb
  replace hb := Lib.hid hb
  go_enter Try.func5, Try.ntmps5
  go_wp2_with (first
    | (go_at_call 6; refine hb.out.mono ?_; rintro e w1 ⟨rfl, hF, hB⟩)
    | (go_at_call 8; refine (may9 ⟨#[97]⟩ (by decide +kernel) _ _ hF).mono ?_; rintro e w2 ⟨rfl, hB2⟩; rw [FA_may]))
  replace hF := hF.keep hB2
  have hB3 : Below w.heap.size w w2 := (((Below.refl _ w).alloc (Nat.le_refl _) _).trans (hB.mono (by omega))).trans (hB2.mono (by have := hB.size; simp at this; omega))
  clear hB hB2
  go_loopw [3, 4] (fun no i wr => ∃ k : Nat, k ≤ 200 ∧ i = .int .i64 k ∧ no = .int .i64 (noN k) ∧ Bl wr (w.heap.size + 1) (.cells (ci .u8 FA) 5 (0, 0)) ∧ Below w.heap.size w wr) (fun _ i _ => 200 - (intOf i).toNat)
  case atStart => exact ⟨0, by omega, rfl, rfl, hF, hB3⟩
  case round =>
    clear hF hB3
    obtain ⟨k, hk, rfl, rfl, hF, hB⟩ := hrel
    have hn := noN_le k
    by_cases hlt : k < 200
    · have hcv := run_convert_bytes_arg (P := Try.prog) (wr.alloc (Obj.cells #[Value.int IntKind.u8 k, Value.int IntKind.u8 120] 5)) 25 5 Try.underlying25 Try.underlying5 wr.heap.size 0 2 2 [(k : Int), 120] rfl
        (by intro i hi
            rw [Nat.zero_add, (Bl.new' (W := wr) rfl).cell]
            rcases i with _ | _ | i
            · rfl
            · rfl
            · omega) 9 Try.underlying9
      rw [show strOfNums [(k : Int), 120] = kx k from by simp [strOfNums, kx]] at hcv
      cases hm : mayV FA (kx k) with
      | true =>
        replace hm := Lib.hid hm
        go_wp2_with (go_at_call 8; refine (may9 (kx k) (kx_size k) _ _ (hF.alloc _)).mono ?_; rintro e w3 ⟨rfl, hB2⟩; rw [hm.out])
        go_roundw
        case rel => exact ⟨k + 1, by omega, by go_num, by rw [noN_t k hm.out], (hF.alloc _).keep hB2, (hB.alloc hB.size _).trans (hB2.mono (by have := hB.size; simp; omega))⟩
        case measure => simp [intOf]; omega
      | false =>
        replace hm := Lib.hid hm
        go_wp2_with (go_at_call 8; refine (may9 (kx k) (kx_size k) _ _ (hF.alloc _)).mono ?_; rintro e w3 ⟨rfl, hB2⟩; rw [hm.out])
        go_roundw
        case rel => exact ⟨k + 1, by omega, by go_num, by rw [noN_f k hm.out]; go_num, (hF.alloc _).keep hB2, (hB.alloc hB.size _).trans (hB2.mono (by have := hB.size; simp; omega))⟩
        case measure => simp [intOf]; omega
    · obtain rfl : k = 200 := by omega
      have h150 : decide (150 < (noN 200 : Int)) = true := decide_eq_true (by have := noN_200; omega)
      go_wp2
      go_ret
      exact ⟨rfl, hB⟩
end Go.Proofs.Ytakgmkgipjfolaa
