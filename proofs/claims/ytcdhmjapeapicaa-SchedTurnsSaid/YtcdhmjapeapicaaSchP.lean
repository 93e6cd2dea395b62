/- Picks that rise by one leave nobody out for long: plain words, no program in them. -/
namespace Go.Sed
/-- who may go. -/
def enL (es ds : List Int) : List Nat := (List.range es.length).filter (fun i => decide (ds.getD i 0 ≤ es.getD i 0))
theorem enL_nodup (es ds : List Int) : (enL es ds).Nodup := List.Pairwise.filter _ List.nodup_range
theorem enL_mem {es ds : List Int} {i : Nat} : i ∈ enL es ds ↔ i < es.length ∧ ds.getD i 0 ≤ es.getD i 0 := by
  unfold enL
  rw [List.mem_filter, List.mem_range, decide_eq_true_iff]
def sumL : List Int → Int
  | [] => 0
  | x :: l => x + sumL l
theorem sumL_set : ∀ (l : List Int) (i : Nat) (x y : Int), l[i]? = some x → sumL (l.set i y) = sumL l - x + y
  | [], i, x, y, h => by simp at h
  | a :: l, 0, x, y, h => by
    simp only [List.getElem?_cons_zero, Option.some.injEq] at h
    subst h
    simp only [List.set_cons_zero, sumL]; omega
  | a :: l, i + 1, x, y, h => by
    simp only [List.getElem?_cons_succ] at h
    simp only [List.set_cons_succ, sumL]
    rw [sumL_set l i x y h]; omega
theorem sumL_le : ∀ (l : List Int) (c : Int), (∀ x ∈ l, x ≤ c) → sumL l ≤ c * l.length
  | [], c, _ => by simp [sumL]
  | a :: l, c, h => by
    have h1 := h a (by simp)
    have h2 := sumL_le l c (fun x hx => h x (by simp [hx]))
    simp only [sumL, List.length_cons, Int.natCast_add, Int.mul_add]
    omega
theorem tri (m : Int) : (m - 1) * (m - 1 - 1) = m * (m - 1) - 2 * (m - 1) := by
  rw [Int.mul_sub (m - 1), Int.mul_sub m, Int.mul_sub (m - 1), Int.sub_mul]
  omega
theorem tri_le (m n : Int) (h0 : 0 ≤ m) (h : m ≤ n) : m * (m + 1) ≤ n * (n + 1) := Int.mul_le_mul h (by omega) (by omega) (by omega)
/-- what holds at every pick. -/
structure TI (n k : Nat) (es ds ls : List Int) : Prop where
  le : es.length = n
  ld : ds.length = n
  ll : ls.length = n
  n64 : n ≤ 64
  e0 : ∀ x ∈ es, 0 ≤ x ∧ x ≤ 255
  d0 : ∀ i < n, 0 ≤ ds.getD i 0 ∧ ds.getD i 0 ≤ es.getD i 0 + 1
  sum : sumL ds = k
  l0 : ∀ x ∈ ls, 0 ≤ x ∧ x ≤ k
  fair : ∀ (p i : Nat), (enL es ds)[p]? = some i → 2 * ((k : Int) - ls.getD i 0 + ((p : Int) - k) % (enL es ds).length) + (enL es ds).length * ((enL es ds).length - 1) ≤ n * (n + 1)
theorem getD_set (l : List Int) (i j : Nat) (x : Int) (hi : i < l.length) : (l.set i x).getD j 0 = if i = j then x else l.getD j 0 := by
  simp only [List.getD_eq_getElem?_getD]
  by_cases h : i = j
  · subst h; rw [if_pos rfl, List.getElem?_set_self hi]; rfl
  · rw [if_neg h, List.getElem?_set_ne h]
theorem mod_pos {p k m : Int} (hm : 0 < m) (h : p % m ≠ k % m) : 0 < (p - k) % m ∧ (p - (k + 1)) % m = (p - k) % m - 1 := by
  have h0 := Int.emod_nonneg (p - k) (show m ≠ 0 by omega)
  have h1 : (p - k) % m ≠ 0 := fun e => h (Int.emod_eq_emod_iff_emod_sub_eq_zero.2 e)
  refine ⟨by omega, ?_⟩
  have h2 := Int.emod_lt_of_pos (p - k) hm
  have h3 : p - (k + 1) = ((p - k) % m - 1) + m * ((p - k) / m) := by
    have := Int.emod_add_mul_ediv (p - k) m
    omega
  rw [h3, Int.add_mul_emod_self_left, Int.emod_eq_of_lt (by omega) (by omega)]
theorem TI.step {n k : Nat} {es ds ls : List Int} (h : TI n k es ds ls) {w : Nat} (hw : (enL es ds)[k % (enL es ds).length]? = some w) : TI n (k + 1) es (ds.set w (ds.getD w 0 + 1)) (ls.set w k) := by
  have hm := enL_mem.1 (List.mem_of_getElem? hw)
  have hwn : w < n := by rw [← h.le]; exact hm.1
  have hkl := (List.getElem?_eq_some_iff.1 hw).1
  have hmp : 0 < (enL es ds).length := by omega
  have hdw := h.d0 w hwn
  have hwd : w < ds.length := by rw [h.ld]; exact hwn
  have hwl : w < ls.length := by rw [h.ll]; exact hwn
  have hgd := fun j => getD_set ds w j (ds.getD w 0 + 1) hwd
  have hgl := fun j => getD_set ls w j (k : Int) hwl
  obtain ⟨dw, hdwe⟩ : ∃ d, ds.getD w 0 = d := ⟨_, rfl⟩
  rw [hdwe] at hgd hdw hm ⊢
  have hds : ds[w]? = some dw := by rw [← hdwe]; simp [hwd]
  have hnn : (0 : Int) ≤ n := by omega
  have hmn : (enL es ds).length ≤ n := by
    unfold enL
    exact Nat.le_trans (List.length_filter_le _ _) (by rw [List.length_range, h.le]; exact Nat.le_refl _)
  refine ⟨h.le, by rw [List.length_set]; exact h.ld, by rw [List.length_set]; exact h.ll, h.n64, h.e0, ?_, ?_, ?_, ?_⟩
  · intro i hi
    rw [hgd]
    by_cases e : w = i
    · subst e; rw [if_pos rfl]; omega
    · rw [if_neg e]; exact h.d0 i hi
  · rw [sumL_set ds w dw _ hds, h.sum]; omega
  · intro x hx
    rcases List.mem_or_eq_of_mem_set hx with hx | rfl
    · have := h.l0 x hx; omega
    · omega
  · by_cases hrem : dw + 1 ≤ es.getD w 0
    · have hen : enL es (ds.set w (dw + 1)) = enL es ds := by
        unfold enL
        refine List.filter_congr (fun i hi => ?_)
        rw [hgd]
        by_cases e : w = i
        · subst e; rw [if_pos rfl, hdwe]; exact decide_eq_decide.2 (by omega)
        · rw [if_neg e]
      rw [hen]
      intro p i hp
      have hpl := (List.getElem?_eq_some_iff.1 hp).1
      obtain ⟨m, hme⟩ : ∃ m, (enL es ds).length = m := ⟨_, rfl⟩
      have hf := h.fair p i hp
      rw [hme] at hf hmp hpl hw hmn ⊢
      rw [hgl]
      by_cases e : w = i
      · subst e
        rw [if_pos rfl]
        have h1 := Int.emod_lt_of_pos ((p : Int) - ((k + 1 : Nat) : Int)) (show (0 : Int) < m by omega)
        have h2 := tri_le m n (by omega) (by omega)
        rw [Int.mul_add] at h2
        rw [Int.mul_sub (m : Int) m 1]
        omega
      · rw [if_neg e]
        have hpk : p ≠ k % m := fun e2 => by
          subst e2
          rw [hw] at hp
          exact e (Option.some.inj hp)
        have hmod := mod_pos (p := (p : Int)) (k := (k : Int)) (m := (m : Int)) (by omega) (fun e2 => hpk (by
          rw [Int.emod_eq_of_lt (by omega) (by omega)] at e2
          have : ((k % m : Nat) : Int) = (k : Int) % m := by first | exact Int.natCast_emod k m | simp
          omega))
        have hc : ((k + 1 : Nat) : Int) = (k : Int) + 1 := by omega
        rw [hc, hmod.2]
        omega
    · have hen : enL es (ds.set w (dw + 1)) = (enL es ds).filter (fun i => i != w) := by
        unfold enL
        rw [List.filter_filter]
        refine List.filter_congr (fun i hi => ?_)
        rw [hgd]
        by_cases e : w = i
        · subst e; rw [if_pos rfl, decide_eq_false hrem]; simp
        · rw [if_neg e]
          have : (i != w) = true := bne_iff_ne.2 (fun e2 => e e2.symm)
          rw [this, Bool.true_and]
      have hlen : ((enL es ds).filter (fun i => i != w)).length = (enL es ds).length - 1 := by
        rw [← List.Nodup.erase_eq_filter (enL_nodup es ds), List.length_erase_of_mem (List.mem_of_getElem? hw)]
      rw [hen, hlen]
      intro p' i hp'
      have hpl := (List.getElem?_eq_some_iff.1 hp').1
      rw [hlen] at hpl
      have him := List.mem_filter.1 (List.mem_of_getElem? hp')
      have hiw : i ≠ w := by simpa using him.2
      obtain ⟨p, hp⟩ := List.mem_iff_getElem?.1 him.1
      have hpl2 := (List.getElem?_eq_some_iff.1 hp).1
      obtain ⟨m, hme⟩ : ∃ m, (enL es ds).length = m := ⟨_, rfl⟩
      have hf := h.fair p i hp
      rw [hme] at hf hmp hpl hpl2 hw hmn ⊢
      rw [hgl, if_neg (fun e => hiw e.symm)]
      have hpk : p ≠ k % m := fun e2 => by
        subst e2
        rw [hw] at hp
        exact hiw (Option.some.inj hp).symm
      have hmod := mod_pos (p := (p : Int)) (k := (k : Int)) (m := (m : Int)) (by omega) (fun e2 => hpk (by
        rw [Int.emod_eq_of_lt (by omega) (by omega)] at e2
        have : ((k % m : Nat) : Int) = (k : Int) % m := by first | exact Int.natCast_emod k m | simp
        omega))
      have hcast : ((m - 1 : Nat) : Int) = (m : Int) - 1 := by omega
      have h1 := Int.emod_lt_of_pos ((p' : Int) - ((k + 1 : Nat) : Int)) (show (0 : Int) < ((m - 1 : Nat) : Int) by omega)
      rw [hcast] at h1 ⊢
      have ht := tri (m : Int)
      omega
theorem TI.gap {n k : Nat} {es ds ls : List Int} (h : TI n k es ds ls) {p i : Nat} (hp : (enL es ds)[p]? = some i) : (k : Int) - 1 - ls.getD i 0 ≤ 2 * n * n := by
  have hf := h.fair p i hp
  have hpl := (List.getElem?_eq_some_iff.1 hp).1
  have h1 := Int.emod_nonneg ((p : Int) - k) (show ((enL es ds).length : Int) ≠ 0 by omega)
  obtain ⟨m, hme⟩ : ∃ m, (enL es ds).length = m := ⟨_, rfl⟩
  rw [hme] at hf h1 hpl
  have h2 : 0 ≤ (m : Int) * (m - 1) := Int.mul_nonneg (by omega) (by omega)
  have h3 : (n : Int) ≤ n * n := by
    rcases Nat.eq_zero_or_pos n with e | e
    · subst e; simp
    · have := Nat.le_mul_of_pos_left n e
      exact_mod_cast this
  rw [Int.mul_add (n : Int) n 1] at hf
  rw [Int.mul_assoc]
  omega
theorem TI.small {n k : Nat} {es ds ls : List Int} (h : TI n k es ds ls) : k ≤ 16384 := by
  have h1 : ∀ x ∈ ds, x ≤ 256 := by
    intro x hx
    obtain ⟨i, hi⟩ := List.mem_iff_getElem?.1 hx
    have hil := (List.getElem?_eq_some_iff.1 hi).1
    rw [h.ld] at hil
    have h2 := (h.d0 i hil).2
    have h3 : ds.getD i 0 = x := by simp [hi]
    have h4 : es.getD i 0 ≤ 255 := by
      have : es[i]? = some (es.getD i 0) := by simp [h.le, hil]
      exact (h.e0 _ (List.mem_of_getElem? this)).2
    omega
  have h2 := sumL_le ds 256 h1
  have h3 := h.n64
  rw [h.sum, h.ld] at h2
  omega
theorem TI.start {n : Nat} {es : List Int} (hl : es.length = n) (hn : n ≤ 64) (he : ∀ x ∈ es, 0 ≤ x ∧ x ≤ 255) : TI n 0 es (List.replicate n 0) (List.replicate n 0) := by
  have hz : ∀ i, (List.replicate n (0 : Int)).getD i 0 = 0 := by
    intro i
    simp only [List.getD_eq_getElem?_getD, List.getElem?_replicate]
    split <;> rfl
  refine ⟨hl, by simp, by simp, hn, he, ?_, ?_, ?_, ?_⟩
  · intro i hi
    rw [hz]
    have : es[i]? = some (es.getD i 0) := by simp [hl, hi]
    have := (he _ (List.mem_of_getElem? this)).1
    omega
  · have : ∀ n, sumL (List.replicate n (0 : Int)) = 0 := by
      intro n
      induction n with
      | zero => rfl
      | succ n ih => simp [List.replicate_succ, sumL, ih]
    exact this n
  · intro x hx
    have := List.eq_of_mem_replicate hx
    omega
  · intro p i hp
    have hpl := (List.getElem?_eq_some_iff.1 hp).1
    have hmn : (enL es (List.replicate n 0)).length ≤ n := by
      unfold enL
      exact Nat.le_trans (List.length_filter_le _ _) (by rw [List.length_range, hl]; exact Nat.le_refl _)
    rw [hz]
    obtain ⟨m, hme⟩ : ∃ m, (enL es (List.replicate n 0)).length = m := ⟨_, rfl⟩
    rw [hme] at hpl hmn ⊢
    have h1 := Int.emod_lt_of_pos ((p : Int) - ((0 : Nat) : Int)) (show (0 : Int) < m by omega)
    have h2 := tri_le m n (by omega) (by omega)
    rw [Int.mul_add] at h2
    rw [Int.mul_sub (m : Int) m 1]
    omega
end Go.Sed
