/- Contracts of layer 1 (codec): numbers as bytes, internal keys as bytes; the program's functions. -/
import Derived.Test.YtkohoondgegmfaaProg
import Derived.RangeFuncNested
import Derived.RangeFuncBound
import Derived.RangeFuncCalls
import Derived.RangeFuncLeaves
import Derived.Shelf.Abstract
import Derived.Shelf.RegionOpen
import Derived.WalkKit
import Derived.OwnWalkIn
import Derived.TacticsInMore
import Derived.LoopNIn
import Derived.LoopIn
import Derived.Lib.Hide
import Derived.Outline
import Derived.RegionTactic
import Derived.BigRegion
import Derived.WalkLawsBesides
import Derived.WalkSpells
import Derived.Deep.QuietTactic
import Derived.BigQuiet
import Derived.Deep.RegionHeld3
import Derived.Lib.Bytealg
import Derived.Lib.ConvBytes
import Derived.Laws.BytesArg
import Derived.Test.YtkohoondgegmfaaSed
import Derived.Test.YtkohoondgegmfaaOwn
import Derived.Test.YtkohoondgegmfaaCodecB
namespace Go.Proofs.Ytkohoondgegmfaa
open Go.RowKit Go.Sed
set_option maxHeartbeats 1000000
theorem infoByte : (Try.prog.info? 5).map (fun i => (i.zero, i.size, i.bytes)) = some (some (.int .u8 0), 1, 1) := by kernel_rfl
theorem fixed_any (n : Int) (m : Nat) (hm : m ≤ 8) (w : World) :
    Calls Try.prog 77 #[.int .u64 n, .int .i64 m] w fun e w' => e = .returned (.slice (some ⟨w.heap.size, 0, none⟩) m m) ∧ Bl w' w.heap.size (.cells (ci .u8 (fixL n m)) 5 (0, 0)) ∧ Below w.heap.size w w' := by
  have hmk := run_make_ints (t := 23) Try.underlying23 infoByte (m : Int) m rfl (by omega) (by omega)
  go_enter Try.func77, Try.ntmps77
  go_wp2
  go_loopw [11] (fun i wr => ∃ k : Nat, k ≤ m ∧ i = .int .i64 k ∧ Bl wr w.heap.size (.cells (ci .u8 (fixL n k ++ List.replicate (m - k) 0)) 5 (0, 0)) ∧ Below w.heap.size w wr) (fun i _ => m - (intOf i).toNat)
  case atStart => exact ⟨0, Nat.zero_le _, rfl, by simpa [fixL] using Bl.new' rfl, (Below.refl _ _).alloc (Nat.le_refl _) _⟩
  case round =>
    clear hmk
    obtain ⟨k, hk, rfl, hb, hB⟩ := hrel
    by_cases hlt : k < m
    · have c1 := hb.int k (by simp [fixL]; omega)
      have f1 := hb.frozen k
      have hsh := run_shr (P := Try.prog) (kx := .u64) (ky := .i64) n (8 * (k : Int)) (8 * k) (by omega) (by show _ ≤ 64; omega)
      go_wp2
      go_roundw
      case rel =>
        have hs := set_mid (fixL n k) m (n / 2 ^ (8 * k) % 256) (by rw [fixL_len]; exact hlt)
        rw [fixL_len, ← fixL_succ] at hs
        refine ⟨k + 1, by omega, by go_num, ?_, hB.setCell (Nat.le_refl _) _⟩
        rw [← hs]
        exact hb.setInt k _
      case measure => simp [intOf]; omega
    · obtain rfl : k = m := by omega
      go_wp2
      go_ret
      exact ⟨rfl, by simpa using hb, hB⟩
theorem fixed64_any (n : Int) (w : World) :
    Calls Try.prog 76 #[.int .u64 n] w fun e w' => e = .returned (.slice (some ⟨w.heap.size, 0, none⟩) 8 8) ∧ Bl w' w.heap.size (.cells (ci .u8 (fixL n 8)) 5 (0, 0)) ∧ Below w.heap.size w w' := by
  go_enter Try.func76, Try.ntmps76
  go_wp2_with (go_at_call 77; refine (fixed_any n 8 (by omega) _).mono ?_; rintro e w' ⟨rfl, hF, hB⟩)
  go_ret
  exact ⟨rfl, hF, hB⟩
theorem encode_no (u : ByteArray) (s k : Int) (w : World) (hu : u.size ≤ maxLen) (hc : (chkK u s k == 0) = false) :
    Calls Try.prog 53 #[.agg #[.string u, .int .u64 s, .int .i64 k]] w fun e w' => e = .returned (.tuple #[.slice none 0 0, .int .i64 (chkK u s k)]) ∧ Below w.heap.size w w' := by
  go_enter Try.func53, Try.ntmps53
  go_wp2_with (go_at_call 75; refine (check_any u s k _ hu).mono ?_; rintro e w' ⟨rfl, hB⟩)
  go_ret2
  exact ⟨rfl, ((Below.refl _ _).alloc (Nat.le_refl _) _).trans (hB.mono (by simp))⟩
/-- a key's number and kind in one. -/
def packK (s k : Int) : Int := Go.bits .or .u64 (IntKind.u64.wrap (s * 256)) (IntKind.u64.wrap k)
def OwnRes (w : World) (xs : List Value) (r : Int) (e : Ending) (w' : World) : Prop :=
  ∃ v, e = .returned (.tuple #[v, .int .i64 r]) ∧ OW w' w.heap.size 1 v xs.length xs ∧ Below w.heap.size w w'
theorem encode_ok (u : ByteArray) (s k : Int) (w : World) (hc : chkK u s k = 0) :
    Calls Try.prog 53 #[.agg #[.string u, .int .u64 s, .int .i64 k]] w (OwnRes w (bcells u ++ (fixL (packK s k) 8).map (Value.int .u8)) 0) := by
  obtain ⟨g1, g2, g3, g4⟩ := chkK_ok hc
  have hu : u.size ≤ maxLen := by unfold maxLen; omega
  have hcv := fun (W : World) => Lib.run_convert_string_bytes (P := Try.prog) W 9 23 5 u Try.underlying9 Try.underlying23 Try.underlying5
  replace hc := Lib.hid hc
  go_enter Try.func53, Try.ntmps53
  go_wp2_with (go_at_call 75; refine (check_any u s k _ hu).mono ?_; rintro e w1 ⟨rfl, hB⟩; rw [hc.out])
  have b0 : Bl w1 w.heap.size (.cells #[.string u, .int .u64 s, .int .i64 k] 33 (0, 0)) := (Bl.new' (W := w) rfl).keep hB
  have c0 : w1.cell? ⟨w.heap.size, 0, none⟩ = some (.string u) := b0.cell 0
  have c1 : w1.cell? ⟨w.heap.size, 1, none⟩ = some (.int .u64 s) := b0.cell 1
  have c2 : w1.cell? ⟨w.heap.size, 2, none⟩ = some (.int .i64 k) := b0.cell 2
  have hsz : w.heap.size < w1.heap.size := b0.lt
  clear b0
  have hL : (bcells u ++ (fixL (packK s k) 8).map (Value.int .u8)).length = u.size + 8 := by simp [bcells_len, fixL_len]
  have h8 : u.size + 8 ≤ maxLen := by unfold maxLen; omega
  have s3 : ∀ w', Below w1.heap.size w1 w' → Below w1.heap.size w1 w' ∧ w'.cell? ⟨w.heap.size, 0, none⟩ = some (.string u) ∧ w'.cell? ⟨w.heap.size, 1, none⟩ = some (.int .u64 s) ∧ w'.cell? ⟨w.heap.size, 2, none⟩ = some (.int .i64 k) :=
    fun w' h => ⟨h, cell_keep h c0, cell_keep h c1, cell_keep h c2⟩
  rw [show Op.convert 9 23 (Operand.tmp 11) = id (Op.convert 9 23 (Operand.tmp 11)) from rfl]
  go_region_held3 (fun w' => Below w1.heap.size w1 w' ∧ w'.cell? ⟨w.heap.size, 0, none⟩ = some (.string u) ∧ w'.cell? ⟨w.heap.size, 1, none⟩ = some (.int .u64 s) ∧ w'.cell? ⟨w.heap.size, 2, none⟩ = some (.int .i64 k))
    ((refine s3 _ ?_; first | exact (Below.refl _ _).drew | exact below_then (by first | assumption | exact (Below.refl _ _).drew | exact And.left (by assumption)) (conv_below _ _ _) | exact below_then (by first | assumption | exact (Below.refl _ _).drew | exact And.left (by assumption)) hB2 | exact below_thenGrown (by first | assumption | exact (Below.refl _ _).drew | exact And.left (by assumption)) hgr (by intro k hk; replace hk := Option.some.inj hk; have hs := hB2.size; (try simp only [World.size_drew, Lib.bytesWorld_size] at hk hs); omega)))
    (first
      | (go_at_call 76; refine (fixed64_any _ _).mono ?_; rintro e w2 ⟨rfl, hF, hB2⟩)
      | (refine step_conv rfl 9 23 (Operand.tmp 11) rfl (hcv _) ?_)
      | (refine step_append_ow rfl _ _ 23 rfl w.heap.size 5 Try.underlying23 infoByte rfl (by decide) _ _ (bcells u) rfl (by first | exact conv_own _ _ _ _ (by have := hB2.size; simp at this; omega) hu | exact (conv_own _ _ _ _ (by simp; omega) hu).keep hB2) _ _ _ ((fixL (packK s k) 8).map (Value.int .u8)) rfl (by first | exact hF.rd (fixL_len _ _) | exact (hF.rd (fixL_len _ _)).keep (conv_below _ _ _)) (ints_one _ _) h8 (by omega) (by have := hB2.size; (try rw [Lib.bytesWorld_size]); (try rw [Lib.bytesWorld_size] at this); (try simp at this); omega) ?_; intro v' w3 hown hgr _))
  all_goals go_wp2
  all_goals go_ret2
  all_goals exact ⟨_, rfl, by rw [hL]; exact hown, (((Below.refl _ _).alloc (Nat.le_refl _) _).trans (hB.mono (by simp))).trans (Below.mono (B := w1.heap.size) (by first | assumption | exact (Below.refl _ _).drew | exact And.left (by assumption)) (by omega))⟩
end Go.Proofs.Ytkohoondgegmfaa
