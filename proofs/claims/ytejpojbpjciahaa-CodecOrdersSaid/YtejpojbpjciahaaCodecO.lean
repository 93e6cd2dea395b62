/- Contracts of layer 1 (codec): Between and After. -/
import Derived.Test.YtejpojbpjciahaaProg
import Derived.RangeFuncNested
import Derived.RangeFuncBound
import Derived.RangeFuncCalls
import Derived.RangeFuncLeaves
import Derived.Shelf.Abstract
import Derived.Shelf.RegionOpen
import Derived.WalkKit
import Derived.OwnWalkIn
import Derived.TacticsInMore
import Derived.LoopNIn
import Derived.LoopIn
import Derived.Lib.Hide
import Derived.Outline
import Derived.RegionTactic
import Derived.BigRegion
import Derived.WalkLawsBesides
import Derived.WalkSpells
import Derived.Deep.QuietTactic
import Derived.BigQuiet
import Derived.Deep.RegionHeld3
import Derived.Lib.Bytealg
import Derived.Lib.ConvBytes
import Derived.Laws.BytesArg
import Derived.Test.YtejpojbpjciahaaSed
import Derived.Test.YtejpojbpjciahaaOwn
import Derived.Test.YtejpojbpjciahaaCodecD
namespace Go.Proofs.Ytejpojbpjciahaa
open Go.RowKit Go.Sed
set_option maxHeartbeats 1000000
theorem conv1 (w : World) (x : Int) : (convert 22 9 (.slice (some ⟨w.heap.size, 0, none⟩) 1 1)).run Try.prog (w.alloc (.cells #[.int .u8 x] 5)).drew = .ok (.string (strOfNums [x])) (w.alloc (.cells #[.int .u8 x] 5)).drew :=
  conv_rd (P := Try.prog) Try.underlying22 Try.underlying5 [x] ⟨rfl, fun _ => ⟨w.heap.size, 0, rfl, fun j u hu => by
    have hj : j < 1 := (List.getElem?_eq_some_iff.1 hu).1
    obtain rfl : j = 0 := by omega
    simp only [List.map_cons, List.map_nil, List.getElem?_cons_zero, Option.some.injEq] at hu
    subst hu
    exact ((Bl.new' (W := w) rfl).drew).cell 0⟩⟩ Try.underlying9
theorem conv3 (w : World) (x : Int) : (convert 22 9 (.slice (some ⟨w.heap.size, 0, none⟩) 1 1)).run Try.prog (w.alloc (.cells #[.int .u8 x] 5)).drew.drew.drew = .ok (.string (strOfNums [x])) (w.alloc (.cells #[.int .u8 x] 5)).drew.drew.drew :=
  conv_rd (P := Try.prog) Try.underlying22 Try.underlying5 [x] ⟨rfl, fun _ => ⟨w.heap.size, 0, rfl, fun j u hu => by
    have hj : j < 1 := (List.getElem?_eq_some_iff.1 hu).1
    obtain rfl : j = 0 := by omega
    simp only [List.map_cons, List.map_nil, List.getElem?_cons_zero, Option.some.injEq] at hu
    subst hu
    exact ((Bl.new' (W := w) rfl).drew.drew.drew).cell 0⟩⟩ Try.underlying9
def moreB (a : ByteArray) (i : Nat) (h : i < a.size) : ByteArray := a.extract 0 i ++ strOfNums [((a[i].toNat : Int) + 1) % 256]
theorem more_any (a : ByteArray) (i : Nat) (w : World) (hi : i < a.size) (hm : a.size ≤ maxLen) :
    Calls Try.prog 39 #[.string a, .int .i64 i] w fun e w' => e = .returned (.string (moreB a i hi)) ∧ Below w.heap.size w w' := by
  have hi1 : (i : Int) < a.size := by omega
  have hi2 : (0 : Int) ≤ i := by omega
  have hi3 : (i : Int) ≤ a.size := by omega
  have hcv := conv1 w
  have hs1 : ∀ x : Int, (strOfNums [x]).size = 1 := fun x => strOfNums_size _
  have hmn : min i a.size = i := by omega
  have hmx : ¬ 9223372036854775807 < i + 1 := by have : a.size ≤ 9223372036854775807 := hm; omega
  go_enter Try.func39, Try.ntmps39
  go_wp2_with fail
  go_region
  go_wp2_with fail
  go_ret
  exact ⟨rfl, ((Below.refl _ _).alloc (Nat.le_refl _) _).drew⟩
theorem moreB_data (a : ByteArray) (i : Nat) (h : i < a.size) : (moreB a i h).data.toList = a.data.toList.take i ++ [UInt8.ofNat ((((a[i].toNat : Int) + 1) % 256).toNat)] := by
  simp [moreB, strOfNums]
theorem moreB_size (a : ByteArray) (i : Nat) (h : i < a.size) : (moreB a i h).size = i + 1 := by
  have h1 := congrArg List.length (moreB_data a i h)
  have h2 : a.data.toList.length = a.size := by rw [Array.length_toList]; rfl
  rw [List.length_append, List.length_take, h2, Array.length_toList] at h1
  show (moreB a i h).data.size = _
  rw [h1]; simp; omega
theorem cmpL_at : ∀ (d : Nat) (x y : List UInt8) (p q : UInt8), (∀ j, j < d → x[j]? = y[j]?) → x[d]? = some p → y[d]? = some q → p.toNat < q.toNat → Lib.compareBytes x y = -1
  | 0, x, y, p, q, _, hx, hy, hpq => by
    match x, y, hx, hy with
    | x0 :: x, y0 :: y, hx, hy =>
      simp only [List.getElem?_cons_zero, Option.some.injEq] at hx hy
      subst hx hy
      simp [Lib.compareBytes, UInt8.lt_iff_toNat_lt, hpq]
  | d + 1, x, y, p, q, he, hx, hy, hpq => by
    match x, y, hx, hy with
    | x0 :: x, y0 :: y, hx, hy =>
      have h0 := he 0 (by omega)
      simp only [List.getElem?_cons_zero, Option.some.injEq] at h0
      subst h0
      have := cmpL_at d x y p q (fun j hj => by have := he (j + 1) (by omega); simpa using this) (by simpa using hx) (by simpa using hy) hpq
      simp [Lib.compareBytes, this]
theorem cmpL_less : ∀ (x y : List UInt8), Lib.compareBytes x y = -1 →
    (x.length < y.length ∧ x = y.take x.length) ∨ ∃ (d : Nat) (p q : UInt8), (∀ j, j < d → x[j]? = y[j]?) ∧ x[d]? = some p ∧ y[d]? = some q ∧ p.toNat < q.toNat
  | [], [], h => by simp [Lib.compareBytes] at h
  | [], y :: ys, _ => .inl (by simp)
  | x :: xs, [], h => by simp [Lib.compareBytes] at h
  | x :: xs, y :: ys, h => by
    simp only [Lib.compareBytes, UInt8.lt_iff_toNat_lt] at h
    by_cases h1 : x.toNat < y.toNat
    · exact .inr ⟨0, x, y, fun j hj => by omega, rfl, rfl, h1⟩
    · rw [if_neg h1] at h
      by_cases h2 : y.toNat < x.toNat
      · rw [if_pos h2] at h; simp at h
      · rw [if_neg h2] at h
        obtain rfl : x = y := UInt8.toNat_inj.1 (by omega)
        rcases cmpL_less xs ys h with ⟨hl, ht⟩ | ⟨d, p, q, he, hp, hq, hpq⟩
        · refine .inl ⟨by simpa using hl, ?_⟩
          simp only [List.length_cons, List.take_succ_cons]
          rw [← ht]
        · refine .inr ⟨d + 1, p, q, fun j hj => ?_, by simpa using hp, by simpa using hq, hpq⟩
          cases j with
          | zero => rfl
          | succ j => simpa using he j (by omega)
theorem ba_get {a : ByteArray} {i : Nat} (h : i < a.size) : a.data.toList[i]? = some a[i] := by
  rw [Array.getElem?_toList, Array.getElem?_eq_getElem (by exact h)]; rfl
theorem ba_len {a : ByteArray} {i : Nat} {p : UInt8} (h : a.data.toList[i]? = some p) : ∃ h : i < a.size, a[i] = p := by
  have hl := (List.getElem?_eq_some_iff.1 h).1
  rw [Array.length_toList] at hl
  have : i < a.size := hl
  rw [ba_get this] at h
  exact ⟨this, Option.some.inj h⟩
/-- less: a beginning of it, or less at the first place where they part. -/
theorem cmpB_less {a b : ByteArray} (h : cmpB a b = -1) :
    (a.size < b.size ∧ b.extract 0 a.size = a ∧ ∀ j (h : j < a.size) (h' : j < b.size), a[j] = b[j]) ∨ ∃ d, ∃ (h1 : d < a.size) (h2 : d < b.size), (∀ j (h : j < a.size) (h' : j < b.size), j < d → a[j] = b[j]) ∧ a[d].toNat < b[d].toNat := by
  rcases cmpL_less _ _ h with ⟨hl, ht⟩ | ⟨d, p, q, he, hp, hq, hpq⟩
  · rw [Array.length_toList, Array.length_toList] at hl
    have hl' : a.size < b.size := hl
    refine .inl ⟨hl', ?_, fun j h1 h2 => ?_⟩
    · refine ba_ext ?_
      rw [Array.length_toList] at ht
      conv => rhs; rw [ht]
      simp
    · have e1 := ba_get h1
      rw [ht, List.getElem?_take, Array.length_toList, if_pos (by exact h1), ba_get h2] at e1
      exact (Option.some.inj e1).symm
  · obtain ⟨h1, e1⟩ := ba_len hp
    obtain ⟨h2, e2⟩ := ba_len hq
    refine .inr ⟨d, h1, h2, fun j g1 g2 hj => ?_, by rw [e1, e2]; exact hpq⟩
    have := he j hj
    rw [ba_get g1, ba_get g2] at this
    exact Option.some.inj this
theorem more_gt (a : ByteArray) (i : Nat) (h : i < a.size) (h255 : a[i].toNat < 255) : cmpB a (moreB a i h) = -1 := by
  have hl : (a.data.toList.take i).length = i := by
    rw [List.length_take, Array.length_toList]; have : i < a.data.size := h; omega
  refine cmpL_at i _ _ a[i] _ (fun j hj => ?_) (ba_get h) (by rw [moreB_data, List.getElem?_append_right (by omega), hl, Nat.sub_self]; rfl) ?_
  · rw [moreB_data, List.getElem?_append_left (by omega), List.getElem?_take, if_pos hj]
  · rw [UInt8.toNat_ofNat']; omega
theorem more_lt (a b : ByteArray) (i : Nat) (h : i < a.size) (h' : i < b.size) (he : ∀ j (h : j < a.size) (h' : j < b.size), j < i → a[j] = b[j]) (h255 : a[i].toNat < 255) (hb : a[i].toNat + 1 < b[i].toNat) : cmpB (moreB a i h) b = -1 := by
  have hl : (a.data.toList.take i).length = i := by
    rw [List.length_take, Array.length_toList]; have : i < a.data.size := h; omega
  refine cmpL_at i _ _ _ b[i] (fun j hj => ?_) (by rw [moreB_data, List.getElem?_append_right (by omega), hl, Nat.sub_self]; rfl) (ba_get h') ?_
  · rw [moreB_data, List.getElem?_append_left (by omega), List.getElem?_take, if_pos hj, ba_get (show j < a.size by omega), ba_get (show j < b.size by omega), he j (by omega) (by omega) hj]
  · rw [UInt8.toNat_ofNat']; omega
def preB (b a : ByteArray) : Bool := if a.size ≤ b.size then decide (b.extract 0 a.size = a) else false
theorem preB0 (b a : ByteArray) (w : World) (hm : b.size ≤ maxLen) :
    Calls Try.prog 45 #[.string b, .string a] w fun e w' => e = .returned (.bool (preB b a)) ∧ w = w' := by
  have hm' : b.size ≤ 9223372036854775807 := hm
  unfold preB
  by_cases ha : a.size ≤ b.size
  · rw [if_pos ha]
    have h1 : (a.size : Int) ≤ b.size := by omega
    have h2 : (0 : Int) ≤ a.size := by omega
    have hq := eq_ba (b.extract 0 a.size) a
    go_enter Try.func45, Try.ntmps45
    go_wp2
    go_ret
    exact ⟨rfl, rfl⟩
  · rw [if_neg ha]
    have h1 : ¬ (a.size : Int) ≤ b.size := by omega
    go_enter Try.func45, Try.ntmps45
    go_wp2
    go_ret
    exact ⟨rfl, rfl⟩
theorem preB_any (b a : ByteArray) (w : World) (hm : b.size ≤ maxLen) :
    Calls Try.prog 38 #[.string b, .string a] w fun e w' => e = .returned (.bool (preB b a)) ∧ w = w' := by
  go_enter Try.func38, Try.ntmps38
  go_wp2_with (go_at_call 45; refine (preB0 _ _ _ hm).mono ?_; rintro e w' ⟨rfl, rfl⟩)
  go_ret
  exact ⟨rfl, rfl⟩
/-- after: from a place on. -/
def aftG (a : ByteArray) : Nat → Nat → ByteArray
  | 0, _ => a
  | f + 1, i => if h : i < a.size then (if a[i].toNat < 255 then moreB a i h else aftG a f (i + 1)) else a
def aftI (how : Int) (a : ByteArray) : ByteArray := if how = 0 then aftG a a.size 0 else a
theorem aftG_low (a : ByteArray) (i : Nat) (h : i < a.size) (hl : a[i].toNat < 255) : aftG a (a.size - i) i = moreB a i h := by
  obtain ⟨f, hf⟩ : ∃ f, a.size - i = f + 1 := ⟨a.size - i - 1, by omega⟩
  rw [hf]; unfold aftG; rw [dif_pos h, if_pos hl]
theorem aftG_high (a : ByteArray) (i : Nat) (h : i < a.size) (hl : ¬ a[i].toNat < 255) : aftG a (a.size - i) i = aftG a (a.size - (i + 1)) (i + 1) := by
  obtain ⟨f, hf⟩ : ∃ f, a.size - i = f + 1 := ⟨a.size - i - 1, by omega⟩
  rw [hf, show a.size - (i + 1) = f by omega]; conv => lhs; unfold aftG
  rw [dif_pos h, if_neg hl]
theorem more_low (a : ByteArray) (i : Nat) (h : i < a.size) (hl : a[i].toNat < 255) : moreB a i h = a.extract 0 i ++ strOfNums [(a[i].toNat : Int) + 1] := by
  unfold moreB; rw [show ((a[i].toNat : Int) + 1) % 256 = (a[i].toNat : Int) + 1 by omega]
theorem after_any (how : Int) (a : ByteArray) (w : World) (hm : a.size ≤ maxLen) :
    Calls Try.prog 25 #[.int .i64 how, .string a] w fun e w' => e = .returned (.string (aftI how a)) ∧ Below w.heap.size w w' := by
  have hm' : a.size ≤ 9223372036854775807 := hm
  unfold aftI
  by_cases hh : how = 0
  · rw [if_pos hh]
    subst hh
    have hcv := conv1 w
    have hs1 : ∀ x : Int, (strOfNums [x]).size = 1 := fun x => strOfNums_size _
    go_enter Try.func25, Try.ntmps25
    go_wp2
    go_loopw [5, 11] (fun _ i wr => ∃ k : Nat, k ≤ a.size ∧ i = .int .i64 k ∧ aftG a a.size 0 = aftG a (a.size - k) k ∧ wr = w) (fun _ i _ => a.size - (intOf i).toNat)
    case atStart => exact ⟨0, Nat.zero_le _, rfl, rfl, rfl⟩
    case round =>
      obtain ⟨k, hk, rfl, hg, rfl⟩ := hrel
      by_cases hlt : k < a.size
      · have hi1 : (k : Int) < a.size := by omega
        have hi2 : (0 : Int) ≤ k := by omega
        have hi3 : (k : Int) ≤ a.size := by omega
        have hmn : min k a.size = k := by omega
        have hmx : ¬ 9223372036854775807 < k + 1 := by omega
        by_cases hl : a[k].toNat < 255
        · have hl' : ((a[k].toNat : Int) < 255) = True := by simp; omega
          rw [aftG_low a k hlt hl] at hg
          replace hg := Lib.hid hg
          go_wp2_with fail
          go_region
          go_wp2_with fail
          go_ret
          rw [hg.out, more_low a k hlt hl]
          exact ⟨rfl, ((Below.refl _ _).alloc (Nat.le_refl _) _).drew⟩
        · have hl' : ((a[k].toNat : Int) < 255) = False := by simp; omega
          rw [aftG_high a k hlt hl] at hg
          replace hg := Lib.hid hg
          go_wp2_with fail
          go_roundw
          case rel => exact ⟨k + 1, by omega, by go_num, hg.out, trivial⟩
          case measure => simp [intOf]; omega
      · obtain rfl : k = a.size := by omega
        rw [Nat.sub_self] at hg
        replace hg := Lib.hid hg
        go_wp2
        go_ret
        rw [hg.out]
        exact ⟨rfl, Below.refl _ _⟩
  · rw [if_neg hh]
    replace hh : (how == 0) = false := by rw [beq_eq_false_iff_ne]; exact hh
    go_enter Try.func25, Try.ntmps25
    go_wp2
    go_ret
    exact ⟨rfl, Below.refl _ _⟩
theorem rafter_any (how : Int) (a : ByteArray) (w : World) (hm : a.size ≤ maxLen) :
    Calls Try.prog 27 #[.int .i64 how, .string a] w fun e w' => e = .returned (.string (aftI how a)) ∧ Below w.heap.size w w' := by
  have hm' : a.size ≤ 9223372036854775807 := hm
  unfold aftI
  by_cases hh : how = 0
  · rw [if_pos hh]
    subst hh
    go_enter Try.func27, Try.ntmps27
    go_wp2
    go_loopw [5] (fun i wr => ∃ k : Nat, k ≤ a.size ∧ i = .int .i64 k ∧ aftG a a.size 0 = aftG a (a.size - k) k ∧ wr = w) (fun i _ => a.size - (intOf i).toNat)
    case atStart => exact ⟨0, Nat.zero_le _, rfl, rfl, rfl⟩
    case round =>
      obtain ⟨k, hk, rfl, hg, rfl⟩ := hrel
      by_cases hlt : k < a.size
      · have hi1 : (k : Int) < a.size := by omega
        have hi2 : (0 : Int) ≤ k := by omega
        by_cases hl : a[k].toNat < 255
        · have hl' : ((a[k].toNat : Int) < 255) = True := by simp; omega
          rw [aftG_low a k hlt hl] at hg
          replace hg := Lib.hid hg
          go_wp2_with (go_at_call 39; refine (more_any a k _ hlt hm).mono ?_; rintro e w' ⟨rfl, hB⟩)
          go_ret
          rw [hg.out]
          exact ⟨rfl, hB⟩
        · have hl' : ((a[k].toNat : Int) < 255) = False := by simp; omega
          rw [aftG_high a k hlt hl] at hg
          replace hg := Lib.hid hg
          go_wp2_with fail
          go_roundw
          case rel => exact ⟨k + 1, by omega, by go_num, hg.out, trivial⟩
          case measure => simp [intOf]; omega
      · obtain rfl : k = a.size := by omega
        rw [Nat.sub_self] at hg
        replace hg := Lib.hid hg
        go_wp2
        go_ret
        rw [hg.out]
        exact ⟨rfl, Below.refl _ _⟩
  · rw [if_neg hh]
    replace hh : (how == 0) = false := by rw [beq_eq_false_iff_ne]; exact hh
    by_cases h0 : 0 < a.size
    all_goals
      go_enter Try.func27, Try.ntmps27
      go_wp2
      refine wp_loop_rounds 1 ?_
      rw [rounds_succ]
      go_wp2
      go_ret
      exact ⟨rfl, Below.refl _ _⟩
/-- between: where the first place lies at which they part. -/
inductive BetC (how : Int) (a b : ByteArray) : ByteArray → Prop
  | how (h : ¬ how = 0) : BetC how a b a
  | ge (h : how = 0) (hc : cmpB a b ≠ -1) : BetC how a b a
  | pre (h : how = 0) (hc : cmpB a b = -1) (hs : a.size < b.size) (hx : b.extract 0 a.size = a) (he : ∀ j (h : j < a.size) (h' : j < b.size), a[j] = b[j]) : BetC how a b a
  | part (h : how = 0) (hc : cmpB a b = -1) (d : Nat) (h1 : d < a.size) (h2 : d < b.size) (he : ∀ j (h : j < a.size) (h' : j < b.size), j < d → a[j] = b[j]) (hl : a[d].toNat < b[d].toNat) (s : ByteArray)
      (hs : (a[d].toNat + 1 < b[d].toNat → s = moreB a d h1) ∧ (¬ a[d].toNat + 1 < b[d].toNat → s = a)) : BetC how a b s
theorem betC (how : Int) (a b : ByteArray) : ∃ s, BetC how a b s := by
  by_cases h : how = 0
  · by_cases hc : cmpB a b = -1
    · rcases cmpB_less hc with ⟨h1, h2, h3⟩ | ⟨d, h1, h2, h3, h4⟩
      · exact ⟨_, .pre h hc h1 h2 h3⟩
      · exact ⟨if a[d].toNat + 1 < b[d].toNat then moreB a d h1 else a, .part h hc d h1 h2 h3 h4 _ ⟨fun g => if_pos g, fun g => if_neg g⟩⟩
    · exact ⟨_, .ge h hc⟩
  · exact ⟨_, .how h⟩
set_option maxRecDepth 100000 in
theorem between_any (how : Int) (a b s : ByteArray) (hs : BetC how a b s) (w : World) (hm : a.size ≤ maxLen) (hmb : b.size ≤ maxLen) :
    Calls Try.prog 24 #[.int .i64 how, .string a, .string b] w fun e w' => e = .returned (.string s) ∧ Below w.heap.size w w' := by
  have hm' : a.size ≤ 9223372036854775807 := hm
  have hmb' : b.size ≤ 9223372036854775807 := hmb
  cases hs with
  | how h =>
    have h' : (how == 0) = false := by rw [beq_eq_false_iff_ne]; exact h
    go_enter Try.func24, Try.ntmps24
    go_wp2
    go_ret
    exact ⟨rfl, Below.refl _ _⟩
  | ge h hc =>
    subst h
    have hl := less_cmpB a b
    rw [decide_eq_false hc] at hl
    clear hc
    go_enter Try.func24, Try.ntmps24
    go_wp2
    go_ret
    exact ⟨rfl, Below.refl _ _⟩
  | pre h hc hs hx he =>
    subst h
    have hl := less_cmpB a b
    rw [decide_eq_true hc] at hl
    have hp : preB b a = true := by unfold preB; rw [if_pos (by omega), decide_eq_true hx]
    clear hc hx he
    replace hp := Lib.hid hp
    go_enter Try.func24, Try.ntmps24
    go_wp2_with (go_at_call 38; refine (preB_any _ _ _ hmb).mono ?_; rintro e w' ⟨rfl, rfl⟩; rw [hp.out])
    go_ret
    exact ⟨rfl, Below.refl _ _⟩
  | part h hc d h1 h2 he hlt _ hsv =>
    subst h
    replace hsv := Lib.hid hsv
    have hl := less_cmpB a b
    rw [decide_eq_true hc] at hl
    have hp : preB b a = false := by
      unfold preB
      split
      · refine decide_eq_false fun hx => ?_
        have e1 := ba_get h1
        have hxd : a.data.toList = (b.extract 0 a.size).data.toList := by rw [hx]
        rw [hxd] at e1
        simp only [ByteArray.data_extract, Array.toList_extract] at e1
        rw [List.extract_eq_take_drop] at e1
        simp only [List.drop_zero, List.getElem?_take] at e1
        rw [if_pos (by omega), ba_get h2] at e1
        have := Option.some.inj e1
        rw [this] at hlt
        omega
      · rfl
    clear hc
    replace hp := Lib.hid hp
    have hcv := fun W => conv3 W
    have hs1 : ∀ x : Int, (strOfNums [x]).size = 1 := fun x => strOfNums_size _
    go_enter Try.func24, Try.ntmps24
    go_wp2_with (go_at_call 38; refine (preB_any _ _ _ hmb).mono ?_; rintro e w' ⟨rfl, rfl⟩; rw [hp.out])
    go_loopw [7] (fun i wr => ∃ k : Nat, k ≤ d ∧ i = .int .i64 k ∧ Below w.heap.size w wr) (fun i _ => d - (intOf i).toNat)
    case atStart => exact ⟨0, Nat.zero_le _, rfl, Below.refl _ _⟩
    case round =>
      obtain ⟨k, hk, rfl, hB⟩ := hrel
      have hi1 : (k : Int) < a.size := by omega
      have hi2 : (0 : Int) ≤ k := by omega
      have hi3 : (k : Int) ≤ a.size := by omega
      have hi4 : (k : Int) < b.size := by omega
      have hk1 : k < a.size := by omega
      have hk2 : k < b.size := by omega
      have hmn : min k a.size = k := by omega
      have hmx : ¬ 9223372036854775807 < k + 1 := by omega
      by_cases hkd : k < d
      · have heq : ((a[k].toNat : Int) == (b[k].toNat : Int)) = true := by rw [he k hk1 hk2 hkd]; simp
        go_wp2_with fail
        go_region
        go_wp2_with fail
        go_roundw
        case rel => exact ⟨k + 1, by omega, by go_num, hB.drew⟩
        case measure => simp [intOf]; omega
      · obtain rfl : k = d := by omega
        clear he
        have heq : ((a[k].toNat : Int) == (b[k].toNat : Int)) = false := by rw [beq_eq_false_iff_ne]; omega
        have hbl : b[k].toNat < 256 := b[k].toNat_lt
        have h255 : (a[k].toNat : Int) < 255 := by omega
        by_cases hg : a[k].toNat + 1 < b[k].toNat
        · have hv := Lib.hid ((hsv.out.1 hg).trans (more_low a k hk1 (by omega)))
          clear hsv
          have hg' : (a[k].toNat : Int) + 1 < b[k].toNat := by omega
          go_wp2_with fail
          go_region
          go_wp2_with fail
          go_region
          go_wp2_with fail
          go_region
          go_wp2_with fail
          go_ret
          rw [hv.out]
          exact ⟨rfl, ((hB.drew.drew).alloc hB.size _).drew⟩
        · have hv := Lib.hid (hsv.out.2 hg)
          clear hsv
          have hg' : ¬ (a[k].toNat : Int) + 1 < b[k].toNat := by omega
          go_wp2_with fail
          go_region
          go_wp2_with fail
          go_region
          go_wp2_with fail
          go_ret
          rw [hv.out]
          exact ⟨rfl, hB.drew.drew⟩
set_option maxRecDepth 100000 in
theorem rbetween_any (how : Int) (a b s : ByteArray) (hs : BetC how a b s) (w : World) (hm : a.size ≤ maxLen) (hmb : b.size ≤ maxLen) :
    Calls Try.prog 26 #[.int .i64 how, .string a, .string b] w fun e w' => e = .returned (.string s) ∧ Below w.heap.size w w' := by
  have hm' : a.size ≤ 9223372036854775807 := hm
  have hmb' : b.size ≤ 9223372036854775807 := hmb
  cases hs with
  | how h =>
    have h' : (how == 0) = false := by rw [beq_eq_false_iff_ne]; exact h
    go_enter Try.func26, Try.ntmps26
    go_wp2
    go_ret
    exact ⟨rfl, Below.refl _ _⟩
  | ge h hc =>
    subst h
    have hl := less_cmpB a b
    rw [decide_eq_false hc] at hl
    clear hc
    go_enter Try.func26, Try.ntmps26
    go_wp2
    go_ret
    exact ⟨rfl, Below.refl _ _⟩
  | pre h hc hs hx he =>
    subst h
    have hl := less_cmpB a b
    rw [decide_eq_true hc] at hl
    clear hc hx
    go_enter Try.func26, Try.ntmps26
    go_wp2_with fail
    go_loopw [7] (fun i wr => ∃ k : Nat, k ≤ a.size ∧ i = .int .i64 k ∧ Below w.heap.size w wr) (fun i _ => a.size - (intOf i).toNat)
    case atStart => exact ⟨0, Nat.zero_le _, rfl, Below.refl _ _⟩
    case round =>
      obtain ⟨k, hk, rfl, hB⟩ := hrel
      have hi2 : (0 : Int) ≤ k := by omega
      by_cases hka : k < a.size
      · have hi1 : (k : Int) < a.size := by omega
        have hi4 : (k : Int) < b.size := by omega
        have hk2 : k < b.size := by omega
        have heq : ((a[k].toNat : Int) == (b[k].toNat : Int)) = true := by rw [he k hka hk2]; simp
        clear he
        go_wp2_with fail
        go_region
        go_wp2_with fail
        go_roundw
        case rel => exact ⟨k + 1, by omega, by go_num, hB.drew⟩
        case measure => simp [intOf]; omega
      · obtain rfl : k = a.size := by omega
        clear he
        go_wp2_with fail
        go_region
        go_wp2_with fail
        go_region
        go_wp2_with fail
        go_ret
        exact ⟨rfl, hB.drew.drew⟩
  | part h hc d h1 h2 he hlt _ hsv =>
    subst h
    replace hsv := Lib.hid hsv
    have hl := less_cmpB a b
    rw [decide_eq_true hc] at hl
    clear hc
    go_enter Try.func26, Try.ntmps26
    go_wp2_with fail
    go_loopw [7] (fun i wr => ∃ k : Nat, k ≤ d ∧ i = .int .i64 k ∧ Below w.heap.size w wr) (fun i _ => d - (intOf i).toNat)
    case atStart => exact ⟨0, Nat.zero_le _, rfl, Below.refl _ _⟩
    case round =>
      obtain ⟨k, hk, rfl, hB⟩ := hrel
      have hi1 : (k : Int) < a.size := by omega
      have hi2 : (0 : Int) ≤ k := by omega
      have hi4 : (k : Int) < b.size := by omega
      have hk1 : k < a.size := by omega
      have hk2 : k < b.size := by omega
      by_cases hkd : k < d
      · have heq : ((a[k].toNat : Int) == (b[k].toNat : Int)) = true := by rw [he k hk1 hk2 hkd]; simp
        go_wp2_with fail
        go_region
        go_wp2_with fail
        go_roundw
        case rel => exact ⟨k + 1, by omega, by go_num, hB.drew⟩
        case measure => simp [intOf]; omega
      · obtain rfl : k = d := by omega
        clear he
        have heq : ((a[k].toNat : Int) == (b[k].toNat : Int)) = false := by rw [beq_eq_false_iff_ne]; omega
        have hbl : b[k].toNat < 256 := b[k].toNat_lt
        have h255 : (a[k].toNat : Int) < 255 := by omega
        by_cases hg : a[k].toNat + 1 < b[k].toNat
        · have hv := Lib.hid (hsv.out.1 hg)
          clear hsv
          have hg' : (a[k].toNat : Int) + 1 < b[k].toNat := by omega
          go_wp2_with fail
          go_region
          go_wp2_with fail
          go_region
          go_wp2_with (go_at_call 39; refine (more_any a k _ hk1 hm).mono ?_; rintro e w' ⟨rfl, hB'⟩)
          go_ret
          rw [hv.out]
          exact ⟨rfl, hB.drew.drew.trans (hB'.mono hB.size)⟩
        · have hv := Lib.hid (hsv.out.2 hg)
          clear hsv
          have hg' : ¬ (a[k].toNat : Int) + 1 < b[k].toNat := by omega
          go_wp2_with fail
          go_region
          go_wp2_with fail
          go_region
          go_wp2_with fail
          go_ret
          rw [hv.out]
          exact ⟨rfl, hB.drew.drew⟩
theorem rorder_any (how : Int) (u : ByteArray) (s k : Int) (u' : ByteArray) (s' k' : Int) (w : World) :
    Calls Try.prog 21 #[.int .i64 how, .agg #[.string u, .int .u64 s, .int .i64 k], .agg #[.string u', .int .u64 s', .int .i64 k']] w fun e w' => e = .returned (.int .i64 (ordK how u s k u' s' k')) ∧ Below w.heap.size w w' := by
  have hB : Below w.heap.size w ((w.alloc (.cells #[.string u, .int .u64 s, .int .i64 k] 30)).alloc (.cells #[.string u', .int .u64 s', .int .i64 k'] 30)) := ((Below.refl _ _).alloc (Nat.le_refl _) _).alloc (by simp) _
  unfold ordK
  by_cases h0 : cmpH how u u' = 0
  · rw [if_pos h0]
    replace h0 := Lib.hid h0
    unfold cmpI
    rcases Int.lt_trichotomy s s' with h | h | h
    · have e1 : ¬ s' < s := by omega
      have e2 : (s' < s) = False := by simp; omega
      have e3 : ¬ s = s' := by omega
      simp only [if_neg e1, if_pos h]
      go_enter Try.func21, Try.ntmps21
      go_wp2_with (go_at_call 23; refine (rcompare_any _ _ _ _).mono ?_; rintro e w' ⟨rfl, rfl⟩; rw [h0.out])
      go_ret
      exact ⟨rfl, hB⟩
    · subst h
      have e0 : ¬ s < s := by omega
      simp only [if_neg e0, if_true]
      clear e0
      rcases Int.lt_trichotomy k k' with h | h | h
      · have e1 : ¬ k' < k := by omega
        have e2 : (k' < k) = False := by simp; omega
        have e3 : ¬ k = k' := by omega
        simp only [if_neg e1, if_pos h]
        go_enter Try.func21, Try.ntmps21
        go_wp2_with (go_at_call 23; refine (rcompare_any _ _ _ _).mono ?_; rintro e w' ⟨rfl, rfl⟩; rw [h0.out])
        go_ret
        exact ⟨rfl, hB⟩
      · subst h
        have e0 : ¬ k < k := by omega
        simp only [if_neg e0]
        clear e0
        go_enter Try.func21, Try.ntmps21
        go_wp2_with (go_at_call 23; refine (rcompare_any _ _ _ _).mono ?_; rintro e w' ⟨rfl, rfl⟩; rw [h0.out])
        go_ret
        exact ⟨rfl, hB⟩
      · have e2 : (k' < k) = True := by simp; omega
        have e3 : ¬ k = k' := by omega
        simp only [if_pos h]
        go_enter Try.func21, Try.ntmps21
        go_wp2_with (go_at_call 23; refine (rcompare_any _ _ _ _).mono ?_; rintro e w' ⟨rfl, rfl⟩; rw [h0.out])
        go_ret
        exact ⟨rfl, hB⟩
    · have e2 : (s' < s) = True := by simp; omega
      have e3 : ¬ s = s' := by omega
      simp only [if_pos h, show ((-1 : Int) = 0) = False by simp, if_false]
      go_enter Try.func21, Try.ntmps21
      go_wp2_with (go_at_call 23; refine (rcompare_any _ _ _ _).mono ?_; rintro e w' ⟨rfl, rfl⟩; rw [h0.out])
      go_ret
      exact ⟨rfl, hB⟩
  · rw [if_neg h0]
    obtain ⟨n, hn⟩ : ∃ n, cmpH how u u' = n := ⟨_, rfl⟩
    rw [hn] at h0 ⊢
    replace hn := Lib.hid hn
    have h1 : (n == 0) = false := by rw [beq_eq_false_iff_ne]; exact h0
    go_enter Try.func21, Try.ntmps21
    go_wp2_with (go_at_call 23; refine (rcompare_any _ _ _ _).mono ?_; rintro e w' ⟨rfl, rfl⟩; rw [hn.out])
    go_ret
    exact ⟨rfl, hB⟩
end Go.Proofs.Ytejpojbpjciahaa
