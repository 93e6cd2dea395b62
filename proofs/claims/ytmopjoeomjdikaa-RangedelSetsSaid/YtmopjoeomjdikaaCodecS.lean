/- Plain words and laws of layer 1 (codec): the order of keys, what is wrong with a key, numbers as bytes. No program in it. -/
import Derived.Lib.Bytealg
import Derived.Laws.BitsAllLaws
import Derived.Laws.Strings
import Derived.Lib.RabinKarpLaws
namespace Go.Sed
/-- strings, compared byte by byte. -/
def cmpB (a b : ByteArray) : Int := Lib.compareBytes a.data.toList b.data.toList
theorem cmpL_range (a b : List UInt8) : Lib.compareBytes a b = -1 ∨ Lib.compareBytes a b = 0 ∨ Lib.compareBytes a b = 1 := by
  fun_induction Lib.compareBytes a b <;> simp_all
theorem cmpL_swap (a b : List UInt8) : Lib.compareBytes b a = - Lib.compareBytes a b := by
  induction a generalizing b with
  | nil => cases b <;> simp [Lib.compareBytes]
  | cons x a ih =>
    cases b with
    | nil => simp [Lib.compareBytes]
    | cons y b =>
      simp only [Lib.compareBytes]
      by_cases h1 : x < y
      · have h2 : ¬ y < x := by rw [UInt8.lt_iff_toNat_lt] at *; omega
        simp [h1, h2]
      · by_cases h2 : y < x
        · simp [h1, h2]
        · simp [h1, h2, ih]
theorem cmpL_eq0 (a b : List UInt8) : Lib.compareBytes a b = 0 ↔ a = b := by
  induction a generalizing b with
  | nil => cases b <;> simp [Lib.compareBytes]
  | cons x a ih =>
    cases b with
    | nil => simp [Lib.compareBytes]
    | cons y b =>
      simp only [Lib.compareBytes]
      by_cases h1 : x < y
      · have : x ≠ y := fun e => by subst e; rw [UInt8.lt_iff_toNat_lt] at h1; omega
        simp [h1, this]
      · by_cases h2 : y < x
        · have : x ≠ y := fun e => by subst e; rw [UInt8.lt_iff_toNat_lt] at h2; omega
          simp [h1, h2, this]
        · have : x = y := by rw [UInt8.lt_iff_toNat_lt] at h1 h2; exact UInt8.toNat_inj.1 (by omega)
          simp [ih, this]
theorem cmpL_trans (a b c : List UInt8) : Lib.compareBytes a b ≤ 0 → Lib.compareBytes b c ≤ 0 → Lib.compareBytes a c ≤ 0 ∧ (Lib.compareBytes a b < 0 ∨ Lib.compareBytes b c < 0 → Lib.compareBytes a c < 0) := by
  induction a generalizing b c with
  | nil =>
    intro _ _
    cases c with
    | nil => cases b <;> simp_all [Lib.compareBytes]
    | cons z c => simp [Lib.compareBytes]
  | cons x a ih =>
    cases b with
    | nil => simp [Lib.compareBytes]
    | cons y b =>
      cases c with
      | nil => simp [Lib.compareBytes]
      | cons z c =>
        simp only [Lib.compareBytes]
        simp only [UInt8.lt_iff_toNat_lt]
        by_cases h1 : x.toNat < y.toNat
        · rw [if_pos h1]
          by_cases h2 : y.toNat < z.toNat
          · rw [if_pos h2, if_pos (by omega)]; simp
          · rw [if_neg h2]
            by_cases h3 : z.toNat < y.toNat
            · rw [if_pos h3]; simp
            · rw [if_neg h3, if_pos (by omega)]; simp
        · rw [if_neg h1]
          by_cases h1' : y.toNat < x.toNat
          · rw [if_pos h1']; simp
          · rw [if_neg h1']
            by_cases h2 : y.toNat < z.toNat
            · rw [if_pos h2, if_pos (by omega)]; simp
            · rw [if_neg h2]
              by_cases h3 : z.toNat < y.toNat
              · rw [if_pos h3]; simp
              · rw [if_neg h3, if_neg (by omega), if_neg (by omega)]
                exact ih b c
theorem cmpB_range (a b : ByteArray) : cmpB a b = -1 ∨ cmpB a b = 0 ∨ cmpB a b = 1 := cmpL_range _ _
theorem cmpB_swap (a b : ByteArray) : cmpB b a = - cmpB a b := cmpL_swap _ _
theorem ba_ext {a b : ByteArray} (h : a.data.toList = b.data.toList) : a = b := by
  obtain ⟨⟨a⟩⟩ := a; obtain ⟨⟨b⟩⟩ := b
  simp only at h; subst h; rfl
theorem cmpB_eq0 (a b : ByteArray) : cmpB a b = 0 ↔ a = b := ⟨fun h => ba_ext ((cmpL_eq0 _ _).1 h), fun h => by subst h; exact (cmpL_eq0 _ _).2 rfl⟩
theorem cmpB_trans (a b c : ByteArray) : cmpB a b ≤ 0 → cmpB b c ≤ 0 → cmpB a c ≤ 0 ∧ (cmpB a b < 0 ∨ cmpB b c < 0 → cmpB a c < 0) := cmpL_trans _ _ _
theorem less_cmpL (a b : List UInt8) : Op.bytesLess a b = decide (Lib.compareBytes a b = -1) := by
  induction a generalizing b with
  | nil => cases b <;> simp [Lib.compareBytes, Op.bytesLess]
  | cons x a ih =>
    cases b with
    | nil => simp [Lib.compareBytes, Op.bytesLess]
    | cons y b =>
      simp only [Lib.compareBytes, Op.bytesLess, UInt8.lt_iff_toNat_lt, ih]
      by_cases h1 : x.toNat < y.toNat
      · simp [h1]
      · by_cases h2 : y.toNat < x.toNat
        · have : x ≠ y := fun e => by subst e; omega
          simp [h1, h2, this]
        · have : x = y := UInt8.toNat_inj.1 (by omega)
          simp [this]
theorem less_cmpB (a b : ByteArray) : Op.bytesLess a.toList b.toList = decide (cmpB a b = -1) := by
  rw [less_cmpL, ByteArray.toList_eq, ByteArray.toList_eq]; rfl
theorem eq_cmpB (a b : ByteArray) : (a.toList == b.toList) = decide (cmpB a b = 0) := by
  rw [ByteArray.toList_eq, ByteArray.toList_eq]
  unfold cmpB
  by_cases h : a.data.toList = b.data.toList
  · rw [decide_eq_true ((cmpL_eq0 _ _).2 h), h]; simp
  · rw [decide_eq_false (fun e => h ((cmpL_eq0 _ _).1 e))]; simpa using h
theorem eq_ba (a b : ByteArray) : (a.toList == b.toList) = decide (a = b) := by
  rw [eq_cmpB]; exact decide_eq_decide.2 (cmpB_eq0 a b)
theorem ba_inj {a b : ByteArray} (h : a.toList = b.toList) : a = b := by
  have := eq_ba a b
  rw [beq_iff_eq.2 h] at this
  simpa using this
/-- under a comparator. -/
def cmpH (how : Int) (a b : ByteArray) : Int := if how = 1 then cmpB b a else cmpB a b
theorem cmpH_range (how : Int) (a b : ByteArray) : cmpH how a b = -1 ∨ cmpH how a b = 0 ∨ cmpH how a b = 1 := by unfold cmpH; split <;> exact cmpB_range _ _
theorem cmpH_swap (how : Int) (a b : ByteArray) : cmpH how b a = - cmpH how a b := by unfold cmpH; split <;> exact cmpB_swap _ _
theorem cmpH_eq0 (how : Int) (a b : ByteArray) : cmpH how a b = 0 ↔ a = b := by
  unfold cmpH; split
  · rw [cmpB_eq0]; exact eq_comm
  · exact cmpB_eq0 _ _
theorem cmpH_self (how : Int) (a : ByteArray) : cmpH how a a = 0 := (cmpH_eq0 how a a).2 rfl
theorem cmpH_trans (how : Int) (a b c : ByteArray) : cmpH how a b ≤ 0 → cmpH how b c ≤ 0 → cmpH how a c ≤ 0 ∧ (cmpH how a b < 0 ∨ cmpH how b c < 0 → cmpH how a c < 0) := by
  unfold cmpH; split
  · intro h1 h2
    have := cmpB_trans c b a h2 h1
    exact ⟨this.1, fun h => this.2 h.symm⟩
  · exact cmpB_trans a b c
def cmpI (a b : Int) : Int := if a < b then -1 else if b < a then 1 else 0
theorem cmpI_range (a b : Int) : cmpI a b = -1 ∨ cmpI a b = 0 ∨ cmpI a b = 1 := by unfold cmpI; (repeat' split) <;> simp
theorem cmpI_swap (a b : Int) : cmpI b a = - cmpI a b := by unfold cmpI; (repeat' split) <;> omega
theorem cmpI_eq0 (a b : Int) : cmpI a b = 0 ↔ a = b := by unfold cmpI; (repeat' split) <;> omega
theorem lexI (s k s' k' : Int) : ((if cmpI s' s = 0 then cmpI k' k else cmpI s' s) ≤ 0 ↔ s' < s ∨ s' = s ∧ k' ≤ k) ∧ ((if cmpI s' s = 0 then cmpI k' k else cmpI s' s) < 0 ↔ s' < s ∨ s' = s ∧ k' < k) := by
  unfold cmpI
  rcases Int.lt_trichotomy s' s with h | h | h
  · rw [if_pos h, if_neg (by omega)]; omega
  · subst h
    rw [show (if s' < s' then (-1 : Int) else if s' < s' then 1 else 0) = 0 by rw [if_neg (by omega), if_neg (by omega)], if_pos rfl]
    rcases Int.lt_trichotomy k' k with h | h | h
    · rw [if_pos h]; omega
    · rw [if_neg (by omega), if_neg (by omega)]; omega
    · rw [if_neg (by omega), if_pos h]; omega
  · rw [if_neg (by omega), if_pos h, if_neg (by omega)]; omega
/-- internal keys. -/
def ordK (how : Int) (u : ByteArray) (s k : Int) (u' : ByteArray) (s' k' : Int) : Int :=
  if cmpH how u u' = 0 then (if cmpI s' s = 0 then cmpI k' k else cmpI s' s) else cmpH how u u'
theorem ordK_range (how : Int) (u : ByteArray) (s k : Int) (u' : ByteArray) (s' k' : Int) : ordK how u s k u' s' k' = -1 ∨ ordK how u s k u' s' k' = 0 ∨ ordK how u s k u' s' k' = 1 := by
  unfold ordK; split
  · split
    · exact cmpI_range _ _
    · exact cmpI_range _ _
  · exact cmpH_range _ _ _
theorem ordK_swap (how : Int) (u : ByteArray) (s k : Int) (u' : ByteArray) (s' k' : Int) : ordK how u' s' k' u s k = - ordK how u s k u' s' k' := by
  unfold ordK
  rw [cmpH_swap how u u', cmpI_swap s' s, cmpI_swap k' k]
  by_cases h1 : cmpH how u u' = 0
  · rw [if_pos (by omega), if_pos h1]
    by_cases h2 : cmpI s' s = 0
    · rw [if_pos (by omega), if_pos h2]
    · rw [if_neg (by omega), if_neg h2]
  · rw [if_neg (by omega), if_neg h1]
theorem ordK_eq0 (how : Int) (u : ByteArray) (s k : Int) (u' : ByteArray) (s' k' : Int) : ordK how u s k u' s' k' = 0 ↔ u = u' ∧ s = s' ∧ k = k' := by
  unfold ordK
  by_cases h1 : cmpH how u u' = 0
  · rw [if_pos h1]
    have e1 := (cmpH_eq0 how u u').1 h1
    by_cases h2 : cmpI s' s = 0
    · rw [if_pos h2, cmpI_eq0]
      have e2 := (cmpI_eq0 _ _).1 h2
      constructor
      · intro h; exact ⟨e1, e2.symm, h.symm⟩
      · rintro ⟨_, _, h⟩; exact h.symm
    · rw [if_neg h2]
      constructor
      · intro h; exact absurd h h2
      · rintro ⟨_, h, _⟩; exact absurd ((cmpI_eq0 _ _).2 h.symm) h2
  · rw [if_neg h1]
    constructor
    · intro h; exact absurd h h1
    · rintro ⟨h, _, _⟩; exact absurd ((cmpH_eq0 _ _ _).2 h) h1
theorem ordK_trans (how : Int) (u : ByteArray) (s k : Int) (u' : ByteArray) (s' k' : Int) (u2 : ByteArray) (s2 k2 : Int) :
    ordK how u s k u' s' k' ≤ 0 → ordK how u' s' k' u2 s2 k2 ≤ 0 → ordK how u s k u2 s2 k2 ≤ 0 ∧ (ordK how u s k u' s' k' < 0 ∨ ordK how u' s' k' u2 s2 k2 < 0 → ordK how u s k u2 s2 k2 < 0) := by
  intro h1 h2
  have ht := cmpH_trans how u u' u2
  unfold ordK at h1 h2 ⊢
  by_cases a1 : cmpH how u u' = 0
  · have e1 := (cmpH_eq0 _ _ _).1 a1
    subst e1
    rw [if_pos a1] at h1
    by_cases a2 : cmpH how u u2 = 0
    · rw [if_pos a2] at h2 ⊢
      rw [if_pos a1]
      rw [(lexI s k s' k').1] at h1
      rw [(lexI s' k' s2 k2).1] at h2
      rw [if_pos a2, (lexI s k s' k').2, (lexI s' k' s2 k2).2, (lexI s k s2 k2).1, (lexI s k s2 k2).2]
      omega
    · rw [if_neg a2] at h2 ⊢
      have := cmpH_range how u u2
      exact ⟨h2, fun _ => by omega⟩
  · rw [if_neg a1] at h1
    have r1 := cmpH_range how u u'
    by_cases a2 : cmpH how u' u2 = 0
    · have e2 := (cmpH_eq0 _ _ _).1 a2
      subst e2
      rw [if_neg a1]
      exact ⟨h1, fun _ => by omega⟩
    · rw [if_neg a2] at h2
      have r2 := cmpH_range how u' u2
      have := (ht h1 h2).2 (.inl (by omega))
      rw [if_neg (by omega)]
      exact ⟨by omega, fun _ => this⟩
/-- what is wrong with a key. -/
def chkK (u : ByteArray) (s k : Int) : Int := if 1024 < u.size then 2 else if 72057594037927935 < s then 1 else if k < 0 then 1 else if 2 < k then 1 else 0
theorem chkK_cases (u : ByteArray) (s k : Int) : chkK u s k = 0 ∨ chkK u s k = 1 ∨ chkK u s k = 2 := by unfold chkK; (repeat' split) <;> simp
theorem chkK_ok {u : ByteArray} {s k : Int} (h : chkK u s k = 0) : u.size ≤ 1024 ∧ s ≤ 72057594037927935 ∧ 0 ≤ k ∧ k ≤ 2 := by unfold chkK at h; (repeat' split at h) <;> omega
/-- a number in so many bytes, the lowest first. -/
def fixL (n : Int) (m : Nat) : List Int := (List.range m).map fun i => n / 2 ^ (8 * i) % 256
theorem fixL_len (n : Int) (m : Nat) : (fixL n m).length = m := by simp [fixL]
theorem fixL_succ (n : Int) (k : Nat) : fixL n (k + 1) = fixL n k ++ [n / 2 ^ (8 * k) % 256] := by simp [fixL, List.range_succ]
theorem set_mid (l : List Int) (m : Nat) (v : Int) (h : l.length < m) : (l ++ List.replicate (m - l.length) 0).set l.length v = (l ++ [v]) ++ List.replicate (m - (l.length + 1)) 0 := by
  rw [List.set_append_right _ _ (Nat.le_refl _), Nat.sub_self]
  obtain ⟨j, hj⟩ : ∃ j, m - l.length = j + 1 := ⟨m - l.length - 1, by omega⟩
  rw [hj, List.replicate_succ, List.set_cons_zero, show m - (l.length + 1) = j by omega]
  simp
end Go.Sed
