/- Contracts of layer 1 (codec): numbers in groups of seven bits, and in four bytes; the program's and the document's. -/
import Derived.Test.YtkohoondgegmfaaKeyR
import Derived.Test.YtkohoondgegmfaaAps
namespace Go.Proofs.Ytkohoondgegmfaa
open Go.RowKit Go.Sed
set_option maxHeartbeats 1000000
set_option maxRecDepth 100000
def varL (n : Nat) : List Int := if 128 ≤ n then ((n % 128 + 128 : Nat) : Int) :: varL (n / 128) else [(n : Int)]
theorem varL_len : ∀ (f n : Nat), 0 < f → n < 128 ^ f → (varL n).length ≤ f
  | 0, _, h, _ => by omega
  | 1, n, _, h => by rw [varL, if_neg (by omega)]; simp
  | f + 2, n, _, h => by
    rw [varL]
    by_cases h1 : 128 ≤ n
    · rw [if_pos h1]
      have h2 : n / 128 < 128 ^ (f + 1) := by
        rw [Nat.div_lt_iff_lt_mul (by omega)]; rw [Nat.pow_succ] at h; exact h
      have := varL_len (f + 1) (n / 128) (by omega) h2
      simp only [List.length_cons]; omega
    · rw [if_neg h1]; simp
theorem varL_10 {n : Nat} (h : n < 18446744073709551616) : (varL n).length ≤ 10 := varL_len 10 n (by omega) (Nat.lt_trans h (by decide))
theorem or128 (a : Nat) (ha : a < 256) : Go.bits .or .u8 (a : Int) 128 = ((a % 128 + 128 : Nat) : Int) := by
  have h : ∀ i : Fin 256, Go.bits .or .u8 ((i.val : Nat) : Int) 128 = ((i.val % 128 + 128 : Nat) : Int) := by decide
  exact h ⟨a, ha⟩
theorem and127 (n : Nat) (hn : n < 18446744073709551616) : Go.bits .and .u64 (n : Int) 127 = ((n % 128 : Nat) : Int) := by
  have h := bits_and_u64_nat n 127 hn (by omega)
  rw [show ((127 : Nat) : Int) = 127 from rfl] at h
  rw [h, show 127 = 2 ^ 7 - 1 from rfl, Nat.and_two_pow_sub_one_eq_mod]
def vb (l : List Int) : List Value := l.map (Value.int .u8)
theorem vb_len (l : List Int) : (vb l).length = l.length := by simp [vb]
theorem vb_one (l : List Int) : ∀ u ∈ vb l, u.oneCell' = true := by
  intro u hu
  obtain ⟨x, -, rfl⟩ := List.mem_map.1 hu
  rfl
theorem varint_any (n : Nat) (hn : n < 18446744073709551616) (w : World) :
    Calls Try.prog 54 #[.int .u64 n] w fun e w' => ∃ v, e = .returned v ∧ OW w' w.heap.size 1 v (varL n).length (vb (varL n)) ∧ Below w.heap.size w w' := by
  go_enter Try.func54, Try.ntmps54
  go_wp2
  go_loopw [0, 3] (fun i v wr => ∃ (m : Nat) (d : List Int), m ≤ n ∧ i = .int .u64 m ∧ d ++ varL m = varL n ∧ OW wr w.heap.size 1 v d.length (vb d) ∧ Below w.heap.size w wr) (fun i _ _ => (intOf i).toNat)
  case atStart => exact ⟨n, [], Nat.le_refl _, rfl, rfl, OW.nil _ _ _, Below.refl _ _⟩
  case round =>
    obtain ⟨m, d, hm, rfl, hd, hown, hB⟩ := hrel
    have hl := varL_10 hn
    have hl2 : d.length + (varL m).length ≤ 10 := by rw [← List.length_append, hd]; exact hl
    have hsz := hB.size
    obtain ⟨A0, c0, rfl, -⟩ := hown.shape
    by_cases hlt : 128 ≤ m
    · have hor : Go.bits .or .u8 ((m : Int) % 256) 128 = ((m % 128 + 128 : Nat) : Int) := by
        have := or128 (m % 256) (by omega)
        rw [show ((m % 256 : Nat) : Int) = (m : Int) % 256 by omega] at this
        rw [this]; omega
      go_wp2_with (at_builtin; refine wpList_append_ow rfl _ _ 23 rfl w.heap.size 5 Try.underlying23 infoByte rfl (by decide) _ _ _ rfl (hown.alloc _) _ 1 1 [.int .u8 ((m % 128 + 128 : Nat) : Int)] rfl (rd_one rfl _ _) (by intro u hu; simp at hu; subst hu; rfl) (by unfold maxLen; omega) (by omega) (by simp; omega) ?_; intro v' w3 hown' hgr _; have hB3 : Below w.heap.size w w3 := below_grow (hB.alloc hB.size _) (by simp; omega) (hown.alloc _) (Nat.le_refl _) hgr; clear hgr)
      go_roundw
      case rel =>
        refine ⟨m / 128, d ++ [((m % 128 + 128 : Nat) : Int)], by omega, by go_num, ?_, ?_, hB3⟩
        · rw [← hd]
          conv => rhs; rw [varL, if_pos hlt]
          simp
        · rw [List.length_append, show vb (d ++ [((m % 128 + 128 : Nat) : Int)]) = vb d ++ [Value.int .u8 ((m % 128 + 128 : Nat) : Int)] by simp [vb]]
          exact hown'
      case measure => simp [intOf]; omega
    · have hv : varL m = [(m : Int)] := by rw [varL, if_neg hlt]
      have hw8 : IntKind.u8.wrap (m : Int) = m := by simp [IntKind.wrap, IntKind.bits, IntKind.signed]; omega
      go_wp2_with (at_builtin; refine wpList_append_ow rfl _ _ 23 rfl w.heap.size 5 Try.underlying23 infoByte rfl (by decide) _ _ _ rfl (hown.alloc _) _ 1 1 [.int .u8 (m : Int)] rfl (rd_one rfl _ _) (by intro u hu; simp at hu; subst hu; rfl) (by unfold maxLen; omega) (by omega) (by simp; omega) ?_; intro v' w3 hown' hgr _; have hB3 : Below w.heap.size w w3 := below_grow (hB.alloc hB.size _) (by simp; omega) (hown.alloc _) (Nat.le_refl _) hgr; clear hgr)
      go_ret
      refine ⟨_, rfl, ?_, hB3⟩
      rw [← hd, hv, List.length_append, show vb (d ++ [(m : Int)]) = vb d ++ [Value.int .u8 (m : Int)] by simp [vb]]
      exact hown'
theorem rvarint_any (n : Nat) (hn : n < 18446744073709551616) (w : World) :
    Calls Try.prog 78 #[.int .u64 n] w fun e w' => ∃ v, e = .returned v ∧ OW w' w.heap.size 1 v (varL n).length (vb (varL n)) ∧ Below w.heap.size w w' := by
  go_enter Try.func78, Try.ntmps78
  go_wp2
  go_loopw [0, 3] (fun i v wr => ∃ (m : Nat) (d : List Int), m ≤ n ∧ i = .int .u64 m ∧ d ++ varL m = varL n ∧ OW wr w.heap.size 1 v d.length (vb d) ∧ Below w.heap.size w wr) (fun i _ _ => (intOf i).toNat)
  case atStart => exact ⟨n, [], Nat.le_refl _, rfl, rfl, OW.empty (Nat.le_refl _) (Bl.new' rfl), (Below.refl _ _).alloc (Nat.le_refl _) _⟩
  case round =>
    obtain ⟨m, d, hm, rfl, hd, hown, hB⟩ := hrel
    have hl := varL_10 hn
    have hl2 : d.length + (varL m).length ≤ 10 := by rw [← List.length_append, hd]; exact hl
    have hsz := hB.size
    obtain ⟨A0, c0, rfl, -⟩ := hown.shape
    by_cases hlt : 128 ≤ m
    · have hor : Go.bits .or .u8 ((m : Int) % 128) 128 = ((m % 128 + 128 : Nat) : Int) := by
        have := or128 (m % 128) (by omega)
        rw [show ((m % 128 : Nat) : Int) = (m : Int) % 128 by omega] at this
        rw [this]; omega
      have hand := and127 m (by omega)
      rw [show ((m % 128 : Nat) : Int) = (m : Int) % 128 by omega] at hand
      go_wp2_with (at_builtin; refine wpList_append_ow rfl _ _ 23 rfl w.heap.size 5 Try.underlying23 infoByte rfl (by decide) _ _ _ rfl (hown.alloc _) _ 1 1 [.int .u8 ((m % 128 + 128 : Nat) : Int)] rfl (rd_one rfl _ _) (by intro u hu; simp at hu; subst hu; rfl) (by unfold maxLen; omega) (by omega) (by simp; omega) ?_; intro v' w3 hown' hgr _; have hB3 : Below w.heap.size w w3 := below_grow (hB.alloc hB.size _) (by simp; omega) (hown.alloc _) (Nat.le_refl _) hgr; clear hgr)
      go_roundw
      case rel =>
        refine ⟨m / 128, d ++ [((m % 128 + 128 : Nat) : Int)], by omega, by go_num, ?_, ?_, hB3⟩
        · rw [← hd]
          conv => rhs; rw [varL, if_pos hlt]
          simp
        · rw [List.length_append, show vb (d ++ [((m % 128 + 128 : Nat) : Int)]) = vb d ++ [Value.int .u8 ((m % 128 + 128 : Nat) : Int)] by simp [vb]]
          exact hown'
      case measure => simp [intOf]; omega
    · have hv : varL m = [(m : Int)] := by rw [varL, if_neg hlt]
      have hw8 : IntKind.u8.wrap (m : Int) = m := by simp [IntKind.wrap, IntKind.bits, IntKind.signed]; omega
      go_wp2_with (at_builtin; refine wpList_append_ow rfl _ _ 23 rfl w.heap.size 5 Try.underlying23 infoByte rfl (by decide) _ _ _ rfl (hown.alloc _) _ 1 1 [.int .u8 (m : Int)] rfl (rd_one rfl _ _) (by intro u hu; simp at hu; subst hu; rfl) (by unfold maxLen; omega) (by omega) (by simp; omega) ?_; intro v' w3 hown' hgr _; have hB3 : Below w.heap.size w w3 := below_grow (hB.alloc hB.size _) (by simp; omega) (hown.alloc _) (Nat.le_refl _) hgr; clear hgr)
      go_ret
      refine ⟨_, rfl, ?_, hB3⟩
      rw [← hd, hv, List.length_append, show vb (d ++ [(m : Int)]) = vb d ++ [Value.int .u8 (m : Int)] by simp [vb]]
      exact hown'
theorem fixed32_any (n : Int) (w : World) (h0 : 0 ≤ n) (h1 : n < 4294967296) :
    Calls Try.prog 55 #[.int .u32 n] w fun e w' => e = .returned (.slice (some ⟨w.heap.size, 0, none⟩) 4 4) ∧ Bl w' w.heap.size (.cells (ci .u8 (fixL n 4)) 5 (0, 0)) ∧ Below w.heap.size w w' := by
  go_enter Try.func55, Try.ntmps55
  go_wp2_with (go_at_call 77; refine (fixed_any n 4 (by omega) _).mono ?_; rintro e w' ⟨rfl, hF, hB⟩)
  go_ret
  exact ⟨rfl, hF, hB⟩
end Go.Proofs.Ytkohoondgegmfaa
