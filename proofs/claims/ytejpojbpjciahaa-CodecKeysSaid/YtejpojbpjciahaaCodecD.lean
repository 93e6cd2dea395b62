/- Contracts of layer 1 (codec): sums. -/
import Derived.Test.YtejpojbpjciahaaProg
import Derived.RangeFuncNested
import Derived.RangeFuncBound
import Derived.RangeFuncCalls
import Derived.RangeFuncLeaves
import Derived.Shelf.Abstract
import Derived.Shelf.RegionOpen
import Derived.WalkKit
import Derived.OwnWalkIn
import Derived.TacticsInMore
import Derived.LoopNIn
import Derived.LoopIn
import Derived.Lib.Hide
import Derived.Outline
import Derived.RegionTactic
import Derived.BigRegion
import Derived.WalkLawsBesides
import Derived.WalkSpells
import Derived.Deep.QuietTactic
import Derived.BigQuiet
import Derived.Deep.RegionHeld3
import Derived.Lib.Bytealg
import Derived.Lib.ConvBytes
import Derived.Laws.BytesArg
import Derived.Test.YtejpojbpjciahaaSed
import Derived.Lib.SlBytesConst
import Derived.Test.YtejpojbpjciahaaCodecC
namespace Go.Proofs.Ytejpojbpjciahaa
open Go.RowKit Go.Sed
set_option maxHeartbeats 1000000
/-- one bit of a sum, in the program's words. -/
def crcI (r : Int) : Int := Go.bits .xor .u32 (r / 2 ^ 1) (Go.bits .and .u32 2197175160 (IntKind.u32.wrap (-(Go.bits .and .u32 r 1))))
def crcN : Nat → Int → Int
  | 0, r => r
  | n + 1, r => crcI (crcN n r)
def crcB (r x : Int) : Int := crcN 8 (Go.bits .xor .u32 r (x % 4294967296))
def crcL (l : List Int) : Int := l.foldl crcB 4294967295
def crcE (r : Int) : Int := Go.bits .xor .u32 IntKind.u32.max r
theorem crcL_take (l : List Int) (k : Nat) (h : k < l.length) : crcL (l.take (k + 1)) = crcB (crcL (l.take k)) l[k] := by
  unfold crcL; rw [List.take_succ_eq_append_getElem h, List.foldl_append]; rfl
theorem sum_short (p : Option Addr) (l : List Int) (c : Nat) (w : World) (hp : RI w .u8 p l) (hl : l.length < 64) :
    Calls Try.prog 7 #[.slice p l.length c] w fun e w' => e = .returned (.int .u32 (crcE (crcL l))) ∧ w = w' := by
  go_enter Try.func7, Try.ntmps7
  go_wp2
  go_loopw [3, 14] (fun r i wr => ∃ k : Nat, k ≤ l.length ∧ i = .int .i64 k ∧ r = .int .u32 (crcL (l.take k)) ∧ wr = w) (fun _ i _ => l.length - (intOf i).toNat)
  case atStart => exact ⟨0, Nat.zero_le _, rfl, rfl, rfl⟩
  case round =>
    obtain ⟨k, hk, rfl, rfl, rfl⟩ := hrel
    by_cases hlt : k < l.length
    · obtain ⟨b, o, rfl, hc⟩ := hp k hlt
      go_wp2
      go_loopw [3, 22] (fun r i wq => ∃ j : Nat, j ≤ 8 ∧ i = .int .i64 j ∧ r = .int .u32 (crcN j (Go.bits .xor .u32 (crcL (l.take k)) (l[k] % 4294967296))) ∧ wq = wr) (fun _ i _ => 8 - (intOf i).toNat)
      case atStart => exact ⟨0, Nat.zero_le _, rfl, rfl, rfl⟩
      case round =>
        obtain ⟨j, hj, rfl, rfl, rfl⟩ := hrel
        by_cases hlt' : j < 8
        · go_wp2
          go_roundw
          case rel => exact ⟨j + 1, by omega, by go_num, rfl, trivial⟩
          case measure => simp [intOf]; omega
        · obtain rfl : j = 8 := by omega
          go_wp2
          go_roundw
          case rel => exact ⟨k + 1, by omega, by go_num, by rw [crcL_take l k hlt]; rfl, trivial⟩
          case measure => simp [intOf]; omega
    · obtain rfl : k = l.length := by omega
      go_wp2
      go_ret
      exact ⟨rfl, rfl⟩
def rotI (a : Nat) (n : Int) : Int := Go.bits .or .u32 (IntKind.u32.wrap (n * 2 ^ a)) (n / 2 ^ (32 - a))
theorem rotl17 (n : Int) (w : World) :
    Calls Try.prog 29 #[.int .u32 n, .int .i64 (-15)] w fun e w' => e = .returned (.int .u32 (rotI 17 n)) ∧ w = w' := by
  have h1 := run_shl (P := Try.prog) (kx := .u32) (ky := .u64) n 17 17 (by omega) (by decide)
  have h2 := run_shr (P := Try.prog) (kx := .u32) (ky := .u64) n 15 15 (by omega) (by decide)
  have hb : Go.bits .and .u64 (IntKind.u64.wrap (-15)) 31 = 17 := by decide +kernel
  have hb2 : IntKind.u64.wrap (32 - 17) = 15 := by decide +kernel
  go_enter Try.func29, Try.ntmps29
  go_wp2
  go_ret
  exact ⟨rfl, rfl⟩
theorem rotl15 (n : Int) (w : World) :
    Calls Try.prog 29 #[.int .u32 n, .int .i64 15] w fun e w' => e = .returned (.int .u32 (rotI 15 n)) ∧ w = w' := by
  have h1 := run_shl (P := Try.prog) (kx := .u32) (ky := .u64) n 15 15 (by omega) (by decide)
  have h2 := run_shr (P := Try.prog) (kx := .u32) (ky := .u64) n 17 17 (by omega) (by decide)
  have hb : Go.bits .and .u64 15 31 = 15 := by decide +kernel
  have hb2 : IntKind.u64.wrap (32 - 15) = 17 := by decide +kernel
  go_enter Try.func29, Try.ntmps29
  go_wp2
  go_ret
  exact ⟨rfl, rfl⟩
def maskI (n : Int) : Int := IntKind.u32.wrap (rotI 17 n + 2726488792)
def unmaskI (n : Int) : Int := rotI 15 (IntKind.u32.wrap (n - 2726488792))
theorem mask_any (n : Int) (w : World) :
    Calls Try.prog 9 #[.int .u32 n] w fun e w' => e = .returned (.int .u32 (maskI n)) ∧ w = w' := by
  go_enter Try.func9, Try.ntmps9
  go_wp2_with (go_at_call 29; refine (rotl17 _ _).mono ?_; rintro e w' ⟨rfl, rfl⟩)
  go_ret
  exact ⟨rfl, rfl⟩
theorem unmask_any (n : Int) (w : World) :
    Calls Try.prog 11 #[.int .u32 n] w fun e w' => e = .returned (.int .u32 (unmaskI n)) ∧ w = w' := by
  go_enter Try.func11, Try.ntmps11
  go_wp2_with (go_at_call 29; refine (rotl15 _ _).mono ?_; rintro e w' ⟨rfl, rfl⟩)
  go_ret
  exact ⟨rfl, rfl⟩
theorem rmask_any (n : Int) (w : World) :
    Calls Try.prog 10 #[.int .u32 n] w fun e w' => e = .returned (.int .u32 (IntKind.u32.wrap (Go.bits .or .u32 (n / 2 ^ 15) (IntKind.u32.wrap (n * 2 ^ 17)) + 2726488792))) ∧ w = w' := by
  go_enter Try.func10, Try.ntmps10
  go_wp2
  go_ret
  exact ⟨rfl, rfl⟩
theorem runmask_any (n : Int) (w : World) :
    Calls Try.prog 12 #[.int .u32 n] w fun e w' => e = .returned (.int .u32 (Go.bits .or .u32 (IntKind.u32.wrap (n - 2726488792) / 2 ^ 17) (IntKind.u32.wrap (IntKind.u32.wrap (n - 2726488792) * 2 ^ 15)))) ∧ w = w' := by
  go_enter Try.func12, Try.ntmps12
  go_wp2
  go_ret
  exact ⟨rfl, rfl⟩
theorem RI.of_block {w : World} {k : IntKind} {l : List Int} {b : Nat} {cs : Array Value} {T : TypeId} {fz : Nat × Nat} (h : Bl w b (.cells cs T fz)) (hc : cs = (l.map (Value.int k)).toArray) : RI w k (some ⟨b, 0, none⟩) l := by
  intro i hi
  subst hc
  refine ⟨b, 0, rfl, ?_⟩
  rw [h.cell (0 + i)]
  simp [hi]
theorem lives_any (w : World) : Calls Try.prog 13 #[] w fun e w' => e = .returned (.bool true) ∧ Below w.heap.size w w' := by
  have e1 : crcE (crcL [49, 50, 51, 52, 53, 54, 55, 56, 57]) = 3808858755 := by decide +kernel
  have e2 : maskI 0 = 2726488792 := by decide +kernel
  have e3 : cmpH 0 ⟨#[97]⟩ ⟨#[98]⟩ = -1 := by decide +kernel
  have hx : bcells ⟨#[97]⟩ ++ (fixL (packK 1 1) 8).map (Value.int .u8) = [97, 1, 1, 0, 0, 0, 0, 0, 0].map (Value.int .u8) := by rfl
  have hc2 := fun (W : World) (C : Array Value) (n c : Nat) => Lib.run_convert_bytes_const (P := Try.prog) W 22 5 C n c Try.underlying22 Try.underlying5
  go_enter Try.func13, Try.ntmps13
  go_wp2_with (first
    | (go_at_call 14; refine (encode_ok ⟨#[97]⟩ 1 1 _ rfl).mono ?_; rintro e w1 ⟨v, rfl, hown, hB⟩; rw [hx] at hown; obtain ⟨p, c, rfl, hr, _⟩ := hown.shape;
       have hcv := conv_rd (P := Try.prog) (n := 9) (c := c) Try.underlying22 Try.underlying5 [97, 1, 1, 0, 0, 0, 0, 0, 0] hr Try.underlying9;
       rw [show strOfNums [97, 1, 1, 0, 0, 0, 0, 0, 0] = ⟨#[97, 1, 1, 0, 0, 0, 0, 0, 0]⟩ by rfl] at hcv; clear hown hr)
    | (go_at_call 7; refine (sum_short _ [49, 50, 51, 52, 53, 54, 55, 56, 57] _ _ (RI.of_block (Bl.new' rfl) rfl) (by decide)).mono ?_; rintro e w' ⟨rfl, rfl⟩; rw [e1])
    | (go_at_call 9; refine (mask_any _ _).mono ?_; rintro e w' ⟨rfl, rfl⟩; rw [e2])
    | (go_at_call 22; refine (compare_any _ _ _ _).mono ?_; rintro e w' ⟨rfl, rfl⟩; rw [e3]))
  go_ret
  exact ⟨rfl, hB.alloc hB.size _⟩
end Go.Proofs.Ytejpojbpjciahaa
