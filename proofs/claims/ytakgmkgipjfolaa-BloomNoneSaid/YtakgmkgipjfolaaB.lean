/- A step on the way to the laws of layer 6 (bloom): contracts of Go functions over the translation; no condition but those that each theorem names. -/
import Derived.Test.YtakgmkgipjfolaaProg
import Derived.RangeFuncNested
import Derived.RangeFuncBound
import Derived.RangeFuncCalls
import Derived.RangeFuncLeaves
import Derived.Shelf.Abstract
import Derived.Shelf.RegionOpen
import Derived.WalkKit
import Derived.OwnWalkIn
import Derived.TacticsInMore
import Derived.LoopNIn
import Derived.LoopIn
import Derived.Lib.Hide
import Derived.Outline
import Derived.Test.YtakgmkgipjfolaaSed
import Derived.Test.YtakgmkgipjfolaaA
namespace Go.Proofs.Ytakgmkgipjfolaa
open Go.RowKit Go.Sed
set_option maxHeartbeats 1000000
theorem ret_int {k : IntKind} {a b : Int} (h : a = b) : Ending.returned (.int k a) = .returned (.int k b) := by rw [h]
def hstep (h : Int) (c : UInt8) : Int := IntKind.u64.wrap (Go.bits .xor .u64 h (IntKind.u64.wrap c.toNat) * 1099511628211)
def hfold (l : List UInt8) : Int := l.foldl hstep 14695981039346656037
def hfin (h : Int) : Int :=
  Go.bits .xor .u64 (IntKind.u64.wrap (Go.bits .xor .u64 h (h / 4294967296) * 11400714819323198485))
    (IntKind.u64.wrap (Go.bits .xor .u64 h (h / 4294967296) * 11400714819323198485) / 536870912)
def hashI (s : ByteArray) : Int := hfin (hfold s.data.toList)
theorem take_snoc (s : ByteArray) (k : Nat) (h : k < s.size) : s.data.toList.take (k + 1) = s.data.toList.take k ++ [s[k]] := by
  rw [List.take_succ_eq_append_getElem (by simpa using h)]; rfl
theorem wrap_u64_bd (x : Int) : 0 ≤ IntKind.u64.wrap x ∧ IntKind.u64.wrap x < 18446744073709551616 := by
  simp only [IntKind.wrap, IntKind.bits, IntKind.signed]; simp; omega
theorem hfold_snoc (l : List UInt8) (c : UInt8) : hfold (l ++ [c]) = hstep (hfold l) c := by simp [hfold]
theorem hfold_bd (l : List UInt8) : 0 ≤ hfold l ∧ hfold l < 18446744073709551616 := by
  rcases List.eq_nil_or_concat l with rfl | ⟨l', c, rfl⟩
  · simp [hfold]
  · rw [List.concat_eq_append, hfold_snoc]; exact wrap_u64_bd _

theorem hash_any (s : ByteArray) (w : World) (hs : s.size ≤ maxLen) :
    Calls Try.prog 12 #[.string s] w fun e w' => e = .returned (.int .u64 (hashI s)) ∧ w = w' := by
  unfold maxLen at hs
  go_enter Try.func12, Try.ntmps12
  go_wp2
  go_loop [3, 7] (fun h i => ∃ k : Nat, k ≤ s.size ∧ i = .int .i64 k ∧ h = .int .u64 (hfold (s.data.toList.take k))) (fun _ i => s.size - (intOf i).toNat)
  case atStart => exact ⟨0, Nat.zero_le _, rfl, rfl⟩
  case round =>
    obtain ⟨k, hk, rfl, rfl⟩ := hrel
    have hb := hfold_bd (s.data.toList.take k)
    by_cases hlt : k < s.size
    · go_wp2
      go_round
      case rel => exact ⟨k + 1, by omega, by go_num, by rw [take_snoc s k hlt, hfold_snoc]; rfl⟩
      case measure => simp [intOf]; omega
    · go_wp2
      go_ret
      have : List.take k s.data.toList = s.data.toList := List.take_of_length_le (by simp; omega)
      rw [this]
      exact ⟨rfl, rfl⟩
def cnt (b : Int) : Int := if b < 1 then 0 else if 64 < b then 0 else if (if b * 69 / 100 < 1 then 1 else b * 69 / 100) > 30 then 30 else if b * 69 / 100 < 1 then 1 else b * 69 / 100
theorem count_any (b : Int) (w : World) :
    Calls Try.prog 9 #[.int .i64 b] w fun e w' => e = .returned (.int .i64 (cnt b)) ∧ w = w' := by
  by_cases h1 : b < 1
  · go_enter Try.func9, Try.ntmps9
    go_wp2
    go_ret
    exact ⟨by simp [cnt, h1], rfl⟩
  · by_cases h2 : 64 < b
    · go_enter Try.func9, Try.ntmps9
      go_wp2
      go_ret
      exact ⟨by simp [cnt, h2], rfl⟩
    · have h3 : 0 ≤ b := by omega
      have h4 : b ≤ 64 := by omega
      have hc : cnt b = if (if b * 69 / 100 < 1 then 1 else b * 69 / 100) > 30 then 30 else if b * 69 / 100 < 1 then 1 else b * 69 / 100 := by
        unfold cnt; rw [if_neg h1, if_neg h2]
      replace hc := Lib.hid hc
      go_enter Try.func9, Try.ntmps9
      go_wp2
      all_goals go_ret
      all_goals (refine ⟨ret_int ?_, rfl⟩; rw [hc.out]; repeat' split)
      all_goals omega
def isB (l : List Int) : Bool := decide (8 < l.length) && (decide (1 ≤ l[l.length - 1]?.getD 0) && decide (l[l.length-1]?.getD 0 ≤ 30))
theorem is_any (p : Option Addr) (c : Nat) (l : List Int) (w : World) (hl : l.length ≤ 140737488351232) (hc : RI w .u8 p l) :
    Calls Try.prog 11 #[.slice p l.length c] w fun e w' => e = .returned (.bool (isB l)) ∧ w = w' := by
  by_cases h1 : 8 < l.length
  · obtain ⟨b, o, rfl, hcell⟩ := hc (l.length - 1) (by omega)
    clear hc
    go_enter Try.func11, Try.ntmps11
    go_wp2
    all_goals go_ret
    all_goals refine ⟨?_, rfl⟩
    all_goals simp_all [isB]
    all_goals omega
  · go_enter Try.func11, Try.ntmps11
    go_wp2
    go_ret
    exact ⟨by simp [isB, h1], rfl⟩
def chk (l : List Int) : Int := if isB l = true ∧ l.length ≤ 16777216 then 0 else 3
theorem check_any (p : Option Addr) (c : Nat) (l : List Int) (w : World) (hl : l.length ≤ 140737488351232) (hc : RI w .u8 p l) :
    Calls Try.prog 7 #[.slice p l.length c] w fun e w' => e = .returned (.int .i64 (chk l)) ∧ w = w' := by
  cases hi : isB l with
  | true =>
    by_cases h2 : l.length ≤ 16777216
    · have hch : chk l = 0 := by simp [chk, hi, h2]
      replace hch := Lib.hid hch
      replace hi := Lib.hid hi
      go_enter Try.func7, Try.ntmps7
      go_wp2_with (go_at_call 11; refine (is_any p c l _ hl hc).mono ?_; rintro e w' ⟨rfl, rfl⟩; rw [hi.out])
      go_ret
      exact ⟨by rw [hch.out]; rfl, rfl⟩
    · have hch : chk l = 3 := by simp [chk, hi, h2]
      replace hch := Lib.hid hch
      replace hi := Lib.hid hi
      go_enter Try.func7, Try.ntmps7
      go_wp2_with (go_at_call 11; refine (is_any p c l _ hl hc).mono ?_; rintro e w' ⟨rfl, rfl⟩; rw [hi.out])
      go_ret
      exact ⟨by rw [hch.out]; rfl, rfl⟩
  | false =>
    have hch : chk l = 3 := by simp [chk, hi]
    replace hch := Lib.hid hch
    replace hi := Lib.hid hi
    go_enter Try.func7, Try.ntmps7
    go_wp2_with (go_at_call 11; refine (is_any p c l _ hl hc).mono ?_; rintro e w' ⟨rfl, rfl⟩; rw [hi.out])
    go_ret
    exact ⟨by rw [hch.out]; rfl, rfl⟩
theorem probes_any (s : ByteArray) (n : Int) (m : Int) (w : World) (hs : s.size ≤ maxLen) :
   Calls Try.prog 10 #[.string s, .int .i64 n, .int .u64 m] w fun e w' =>
     e = .returned (.func (.func 13) #[] #[.pointer (some ⟨w.heap.size, 0, none⟩), .pointer (some ⟨w.heap.size + 1 + 1, 0, none⟩), .pointer (some ⟨w.heap.size + 1, 0, none⟩), .pointer (some ⟨w.heap.size + 1 + 1 + 1, 0, none⟩)]) ∧
     w' = ((((w.alloc (.cells #[.int .i64 n] 3)).alloc (.cells #[.int .u64 m] 38)).alloc (.cells #[.int .u32 (hashI s % 4294967296)] 41)).alloc
       (.cells #[.int .u32 (Go.bits .or .u32 (hashI s / 4294967296 % 4294967296) 1)] 41)) := by
  go_enter Try.func10, Try.ntmps10
  go_wp2_with (go_at_call 12; refine (hash_any s _ hs).mono ?_; rintro e w' ⟨rfl, rfl⟩)
  go_ret
  exact ⟨rfl, rfl⟩
end Go.Proofs.Ytakgmkgipjfolaa
