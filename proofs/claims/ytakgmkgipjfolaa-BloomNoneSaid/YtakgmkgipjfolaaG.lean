/- The plain laws of a filter's bits: what is set is found, and more bits take nothing away. -/
import Derived.Test.YtakgmkgipjfolaaProg
import Derived.RangeFuncNested
import Derived.RangeFuncBound
import Derived.RangeFuncCalls
import Derived.RangeFuncLeaves
import Derived.Shelf.Abstract
import Derived.Shelf.RegionOpen
import Derived.WalkKit
import Derived.OwnWalkIn
import Derived.TacticsInMore
import Derived.LoopNIn
import Derived.LoopIn
import Derived.Lib.Hide
import Derived.Outline
import Derived.Test.YtakgmkgipjfolaaSed
import Derived.Test.YtakgmkgipjfolaaE
import Derived.Laws.BitsAllLaws
namespace Go.Proofs.Ytakgmkgipjfolaa
open Go.RowKit Go.Sed
theorem cnt_bd (b : Int) (h1 : 1 ≤ b) (h2 : b ≤ 64) : 1 ≤ cnt b ∧ cnt b ≤ 30 := by
  unfold cnt; rw [if_neg (by omega), if_neg (by omega)]; (repeat' split) <;> omega
theorem posN_lt (h : Int) (m : Nat) (hm : 0 < m) (i : Nat) : posN h m i < m := by
  have h1 := Int.emod_lt_of_pos (pA h i) (b := (m : Int)) (by omega)
  have h2 := Int.emod_nonneg (pA h i) (b := (m : Int)) (by omega)
  unfold posN; omega
def Rng (F : List Int) : Prop := ∀ i : Nat, 0 ≤ F[i]?.getD 0 ∧ F[i]?.getD 0 < 256
def tst (F : List Int) (q : Nat) : Bool := (F[q / 8]?.getD 0).toNat.testBit (q % 8)
theorem bit_tst (F : List Int) (hF : Rng F) (q : Nat) : (bitN F q == 0) = !tst F q := by
  obtain ⟨h1, h2⟩ := hF (q / 8)
  obtain ⟨x, hx⟩ : ∃ x : Nat, F[q / 8]?.getD 0 = x := ⟨(F[q / 8]?.getD 0).toNat, by omega⟩
  unfold bitN tst
  rw [hx] at h1 h2 ⊢
  rw [show ((x : Int) / 2 ^ (q % 8)) = ((x / 2 ^ (q % 8) : Nat) : Int) by simp]
  have hlt : x / 2 ^ (q % 8) < 256 := Nat.lt_of_le_of_lt (Nat.div_le_self _ _) (by omega)
  rw [show (1 : Int) = ((1 : Nat) : Int) from rfl, u8_and_nat _ _ hlt (by omega)]
  rw [Int.toNat_natCast, Nat.testBit, Nat.shiftRight_eq_div_pow, Nat.and_comm]
  generalize (1 &&& x / 2 ^ (q % 8)) = z
  by_cases hz : z = 0
  · subst hz; rfl
  · have h1 : ((z : Int) == 0) = false := by rw [beq_eq_false_iff_ne]; omega
    have h2 : (z != 0) = true := by simp [hz]
    rw [h1, h2]; rfl
theorem setB_len (F : List Int) (q : Nat) : (setB F q).length = F.length := by simp [setB]
theorem pow_small (q : Nat) : 2 ^ (q % 8) < 256 := by
  have : 2 ^ (q % 8) ≤ 2 ^ 7 := Nat.pow_le_pow_right (by omega) (by omega)
  omega
theorem or_val (F : List Int) (hF : Rng F) (q : Nat) :
    Go.bits .or .u8 (F[q / 8]?.getD 0) (2 ^ (q % 8) % 256) = (((F[q / 8]?.getD 0).toNat ||| 2 ^ (q % 8) : Nat) : Int) := by
  obtain ⟨h1, h2⟩ := hF (q / 8)
  obtain ⟨x, hx⟩ : ∃ x : Nat, F[q / 8]?.getD 0 = x := ⟨(F[q / 8]?.getD 0).toNat, by omega⟩
  rw [hx] at h1 h2 ⊢
  have hp := pow_small q
  have he : (2 : Int) ^ (q % 8) % 256 = ((2 ^ (q % 8) : Nat) : Int) := by
    have : ((2 ^ (q % 8) : Nat) : Int) = (2 : Int) ^ (q % 8) := by simp
    rw [← this]; exact Int.emod_eq_of_lt (Int.natCast_nonneg _) (Int.ofNat_lt.2 hp)
  rw [he, u8_or_nat _ _ (by omega) hp, Int.toNat_natCast]
theorem setB_get (F : List Int) (hF : Rng F) (q i : Nat) : (setB F q)[i]?.getD 0 = if i = q / 8 ∧ i < F.length then (((F[q / 8]?.getD 0).toNat ||| 2 ^ (q % 8) : Nat) : Int) else F[i]?.getD 0 := by
  unfold setB
  rw [or_val F hF, List.getElem?_set]
  by_cases h : q / 8 = i
  · subst h
    by_cases h2 : q / 8 < F.length
    · simp [h2]
    · simp [h2]
  · rw [if_neg h, if_neg (by omega)]
theorem setB_rng (F : List Int) (hF : Rng F) (q : Nat) : Rng (setB F q) := by
  intro i
  rw [setB_get F hF]
  split
  · have h1 := hF (q / 8)
    have : (F[q / 8]?.getD 0).toNat ||| 2 ^ (q % 8) < 2 ^ 8 := Nat.or_lt_two_pow (by omega) (pow_small q)
    omega
  · exact hF i
theorem tst_setB (F : List Int) (hF : Rng F) (q p : Nat) (hq : q / 8 < F.length) : tst (setB F q) p = (tst F p || decide (p = q)) := by
  unfold tst
  rw [setB_get F hF]
  by_cases h : p / 8 = q / 8
  · rw [if_pos ⟨h, by omega⟩, Int.toNat_natCast, Nat.testBit_or, Nat.testBit_two_pow, h]
    congr 1
    by_cases e : p = q
    · subst e; simp
    · have : q % 8 ≠ p % 8 := by omega
      simp [this, e]
  · rw [if_neg (by omega)]
    have : p ≠ q := fun e => h (by rw [e])
    simp [this]
theorem setN_len (F : List Int) (h m : Int) (n : Nat) : (setN F h m n).length = F.length := by
  induction n with
  | zero => rfl
  | succ n ih => unfold setN; rw [setB_len, ih]
theorem setN_rng (F : List Int) (hF : Rng F) (h m : Int) (n : Nat) : Rng (setN F h m n) := by
  induction n with
  | zero => exact hF
  | succ n ih => exact setB_rng _ ih _
theorem tst_setN (F : List Int) (hF : Rng F) (h : Int) (m : Nat) (hm : 0 < m) (hl : m ≤ 8 * F.length) (n p : Nat) :
    tst (setN F h m n) p = true ↔ tst F p = true ∨ ∃ j, j < n ∧ p = posN h m j := by
  induction n with
  | zero => simp [setN]
  | succ n ih =>
    unfold setN
    have hp := posN_lt h m hm n
    rw [tst_setB _ (setN_rng F hF h m n) _ _ (by rw [setN_len]; omega)]
    simp only [Bool.or_eq_true, decide_eq_true_eq, ih]
    constructor
    · rintro ((h1 | ⟨j, hj, e⟩) | e)
      · exact .inl h1
      · exact .inr ⟨j, by omega, e⟩
      · exact .inr ⟨n, by omega, e⟩
    · rintro (h1 | ⟨j, hj, e⟩)
      · exact .inl (.inl h1)
      · by_cases hn : j = n
        · exact .inr (hn ▸ e)
        · exact .inl (.inr ⟨j, by omega, e⟩)
theorem setN_get (F : List Int) (hF : Rng F) (h : Int) (m : Nat) (hm : 0 < m) (i : Nat) (hi : m ≤ 8 * i) (n : Nat) : (setN F h m n)[i]?.getD 0 = F[i]?.getD 0 := by
  induction n with
  | zero => rfl
  | succ n ih =>
    unfold setN
    have hp := posN_lt h m hm n
    rw [setB_get _ (setN_rng F hF h m n), if_neg (by omega), ih]
theorem fold_len (m : Int) (n : Nat) (keys : List ByteArray) (F : List Int) : (keys.foldl (setK m n) F).length = F.length := by
  induction keys generalizing F with
  | nil => rfl
  | cons k ks ih => rw [List.foldl_cons, ih]; exact setN_len _ _ _ _
theorem fold_rng (m : Int) (n : Nat) (keys : List ByteArray) (F : List Int) (hF : Rng F) : Rng (keys.foldl (setK m n) F) := by
  induction keys generalizing F with
  | nil => exact hF
  | cons k ks ih => rw [List.foldl_cons]; exact ih _ (setN_rng _ hF _ _ _)
theorem fold_tst (m n : Nat) (hm : 0 < m) (keys : List ByteArray) (F : List Int) (hF : Rng F) (hl : m ≤ 8 * F.length) (p : Nat) :
    tst (keys.foldl (setK m n) F) p = true ↔ tst F p = true ∨ ∃ k, k ∈ keys ∧ ∃ j, j < n ∧ p = posN (hashI k) m j := by
  induction keys generalizing F with
  | nil => simp
  | cons k ks ih =>
    rw [List.foldl_cons, show setK m n F k = setN F (hashI k) m n from rfl, ih _ (setN_rng _ hF _ _ _) (by rw [setN_len]; exact hl)]
    rw [tst_setN F hF (hashI k) m hm hl]
    constructor
    · rintro ((h1 | h2) | ⟨k', hk', h3⟩)
      · exact .inl h1
      · exact .inr ⟨k, by simp, h2⟩
      · exact .inr ⟨k', by simp [hk'], h3⟩
    · rintro (h1 | ⟨k', hk', h3⟩)
      · exact .inl (.inl h1)
      · rcases List.mem_cons.1 hk' with rfl | hk'
        · exact .inl (.inr h3)
        · exact .inr ⟨k', hk', h3⟩
theorem fold_get (m n : Nat) (hm : 0 < m) (keys : List ByteArray) (F : List Int) (hF : Rng F) (i : Nat) (hi : m ≤ 8 * i) : (keys.foldl (setK m n) F)[i]?.getD 0 = F[i]?.getD 0 := by
  induction keys generalizing F with
  | nil => rfl
  | cons k ks ih => rw [List.foldl_cons, show setK m n F k = setN F (hashI k) m n from rfl, ih _ (setN_rng _ hF _ _ _)]; exact setN_get F hF _ m hm i hi n
/-- a filter that tells of all these keys; sz bytes, then the number of probes. -/
structure Holds (keys : List ByteArray) (sz n : Nat) (F : List Int) : Prop where
  len : F.length = sz + 1
  rng : Rng F
  last : F[sz]?.getD 0 = n
  set : ∀ k, k ∈ keys → ∀ j, j < n → tst F (posN (hashI k) ((8 * sz : Nat) : Int) j) = true
theorem holds_build (keys : List ByteArray) (bits : Int) (h1 : 1 ≤ bits) (h2 : bits ≤ 64) : Holds keys (szOf bits keys.length) (cnt bits).toNat (buildF keys bits) := by
  have hc := cnt_bd bits h1 h2
  have hs : 8 ≤ szOf bits keys.length := by unfold szOf; split <;> omega
  unfold buildF
  generalize szOf bits keys.length = sz at *
  obtain ⟨n, hn⟩ : ∃ n : Nat, cnt bits = n := ⟨(cnt bits).toNat, by omega⟩
  rw [hn] at hc ⊢
  rw [Int.toNat_natCast, show (8 * (sz : Int)) = ((8 * sz : Nat) : Int) by simp]
  have hr0 : Rng (List.replicate (sz + 1) 0) := by intro i; rw [List.getElem?_replicate]; split <;> simp
  have hr := fold_rng ((8 * sz : Nat) : Int) n keys _ hr0
  have hl := fold_len ((8 * sz : Nat) : Int) n keys (List.replicate (sz + 1) 0)
  rw [List.length_replicate] at hl
  have ht := fun p => fold_tst (8 * sz) n (by omega) keys _ hr0 (by rw [List.length_replicate]; omega) p
  generalize keys.foldl (setK ((8 * sz : Nat) : Int) n) (List.replicate (sz + 1) 0) = G at *
  have hg : ∀ i, (G.set sz (n : Int))[i]?.getD 0 = if i = sz then (n : Int) else G[i]?.getD 0 := by
    intro i
    rw [List.getElem?_set]
    by_cases h : sz = i
    · subst h; simp [hl]
    · rw [if_neg h, if_neg (by omega)]
  refine ⟨by simp [hl], ?_, ?_, ?_⟩
  · intro i; rw [hg]; split
    · omega
    · exact hr i
  · rw [hg, if_pos rfl]
  · intro k hk j hj
    have hp := posN_lt (hashI k) (8 * sz) (by omega) j
    unfold tst
    rw [hg, if_neg (by omega)]
    exact (ht _).2 (.inr ⟨k, hk, j, hj, rfl⟩)
theorem Holds.more {keys : List ByteArray} {sz n : Nat} {F : List Int} (h : Holds keys sz n F) (q : Nat) (hq : q < 8 * sz) : Holds keys sz n (setB F q) := by
  refine ⟨by rw [setB_len, h.len], setB_rng _ h.rng _, ?_, ?_⟩
  · rw [setB_get _ h.rng, if_neg (by omega), h.last]
  · intro k hk j hj
    rw [tst_setB _ h.rng _ _ (by rw [h.len]; omega), h.set k hk j hj]; rfl
theorem Holds.is {keys : List ByteArray} {sz n : Nat} {F : List Int} (h : Holds keys sz n F) (hs : 8 ≤ sz) (h1 : 1 ≤ n) (h2 : n ≤ 30) : isB F = true := by
  unfold isB
  rw [h.len, Nat.add_sub_cancel, h.last]
  simp; omega
theorem Holds.chk {keys : List ByteArray} {sz n : Nat} {F : List Int} (h : Holds keys sz n F) (hs : 8 ≤ sz) (hs2 : sz + 1 ≤ 16777216) (h1 : 1 ≤ n) (h2 : n ≤ 30) : chk F = 0 := by
  unfold Ytakgmkgipjfolaa.chk; rw [if_pos ⟨h.is hs h1 h2, by rw [h.len]; exact hs2⟩]
theorem Holds.may {keys : List ByteArray} {sz n : Nat} {F : List Int} (h : Holds keys sz n F) (hs : 8 ≤ sz) (hs2 : sz + 1 ≤ 16777216) (h1 : 1 ≤ n) (h2 : n ≤ 30) (k : ByteArray) (hk : k ∈ keys) : mayV F k = true := by
  unfold mayV; rw [if_pos ⟨h.is hs h1 h2, by rw [h.len]; exact hs2⟩]
  refine decide_eq_true fun j hj => ?_
  rw [h.len, Nat.add_sub_cancel, h.last, Int.toNat_natCast] at hj
  rw [bit_tst _ h.rng, h.len, show (8 * (((sz + 1 : Nat) : Int) - 1)) = ((8 * sz : Nat) : Int) by omega, h.set k hk j hj]; rfl
end Go.Proofs.Ytakgmkgipjfolaa
