/- Arguments opened to cells and lists, whatever their elements. No condition but those that each theorem names. -/
import Derived.Test.YtmopjoeomjdikaaFr
import Derived.Deep.Slices
import Derived.Deep.Fields
import Derived.ChangeSame
import Derived.OpenShut
namespace Go.Sed
open Go.ChangeShapes Go.WideShapes Go.Deep
theorem flat_at {α β : Type} (f : α → List β) (k : Nat) (hf : ∀ a, (f a).length = k) : ∀ (l : List α) (i j : Nat) (a : α), l[i]? = some a → j < k → (l.flatMap f)[i * k + j]? = (f a)[j]?
  | [], i, j, a, h, _ => by simp at h
  | x :: l, 0, j, a, h, hj => by
    simp only [List.getElem?_cons_zero, Option.some.injEq] at h
    subst h
    rw [List.flatMap_cons, Nat.zero_mul, Nat.zero_add, List.getElem?_append_left (by rw [hf]; exact hj)]
  | x :: l, i + 1, j, a, h, hj => by
    rw [List.flatMap_cons, List.getElem?_append_right (by rw [hf, Nat.add_mul]; omega), hf, show (i + 1) * k + j - k = i * k + j by rw [Nat.add_mul]; omega]
    exact flat_at f k hf l i j a (by simpa using h) hj
theorem flat_len {α β : Type} (f : α → List β) (k : Nat) (hf : ∀ a, (f a).length = k) : ∀ l : List α, (l.flatMap f).length = l.length * k
  | [] => by simp
  | x :: l => by rw [List.flatMap_cons, List.length_append, hf, flat_len f k hf l, List.length_cons, Nat.add_mul]; omega
/-- the cells of element i of a row. -/
theorem Rd.elem {α : Type} {f : α → List Value} {k : Nat} (hf : ∀ a, (f a).length = k) {w : World} {b o : Nat} {l : List α} (h : Rd w k (some ⟨b, o, none⟩) l.length (l.flatMap f)) {i : Nat} {a : α} (hi : l[i]? = some a) {j : Nat} {v : Value} (hj : (f a)[j]? = some v) :
    w.cell? ⟨b, o + (i * k + j), none⟩ = some v :=
  h.cellAt (by rw [flat_at f k hf l i j a hi (by have := (List.getElem?_eq_some_iff.1 hj).1; rwa [hf] at this)]; exact hj)
theorem list_of {α : Type} {R : Nat → α → Prop} : ∀ (n : Nat), (∀ i, i < n → ∃ a, R i a) → ∃ l : List α, l.length = n ∧ ∀ i a, l[i]? = some a → R i a
  | 0, _ => ⟨[], rfl, fun i a h => by simp at h⟩
  | n + 1, h => by
    obtain ⟨l, hl, hr⟩ := list_of n (fun i hi => h i (by omega))
    obtain ⟨a, ha⟩ := h n (by omega)
    refine ⟨l ++ [a], by simp [hl], fun i b hb => ?_⟩
    by_cases hi : i < n
    · rw [List.getElem?_append_left (by omega)] at hb
      exact hr i b hb
    · rw [List.getElem?_append_right (by omega)] at hb
      have : i - l.length = 0 := by
        have := (List.getElem?_eq_some_iff.1 hb).1
        simp at this; omega
      rw [this] at hb
      simp only [List.getElem?_cons_zero, Option.some.injEq] at hb
      subst hb
      obtain rfl : i = n := by omega
      exact ha
section
variable {H : Type} {enc : TypeId × Value → H} {P : Program} {w : World} {base : Nat} {spare : Nat → Bool} {held : Bool}
/-- a slice among what was read, nil or not: the list of its elements. -/
theorem open_list {α : Type} (f : α → List Value) (Q : α → DataW H → Prop) {t e : TypeId} (k : Nat) (ht : P.underlying t = some (.slice e)) (hC : P.cellsOf e = k) (hk : 0 < k) (hf : ∀ a, (f a).length = k)
    (hel : ∀ n cs x, DataW.trod enc P w base spare held n e cs = some x → ∃ a, cs = f a ∧ Q a x.1) {fuel : Nat} {cs : List Value} {x : DataW H × List MemPlace} (h : DataW.trod enc P w base spare held fuel t cs = some x) :
    ∃ (p : Option Addr) (l : List α) (c : Nat), cs = [.slice p l.length c] ∧ Rd w k p l.length (l.flatMap f) ∧ l.length ≤ c ∧ c ≤ maxLen ∧
      ((l = [] ∧ p = none ∧ x.1 = .nil) ∨ ∃ (a : Addr) (elems sp : List (DataW H)), p = some a ∧ x.1 = .slice elems sp ∧ elems.length = l.length ∧ ∀ (i : Nat) (a : α) (d : DataW H), l[i]? = some a → elems[i]? = some d → Q a d) := by
  rcases open_slice ht h with ⟨rfl, rfl⟩ | ⟨a, len, cap, m, n, D, Pl, rfl, hb, hl, hm, hmm, rfl, hi⟩
  · exact ⟨none, [], 0, rfl, Rd.nil _ _ _, Nat.le_refl _, by unfold maxLen; omega, .inl ⟨rfl, rfl, rfl⟩⟩
  · rw [hC] at hi
    have hml : len ≤ m := by rw [hmm]; split <;> omega
    obtain ⟨l, hll, hr⟩ := list_of (R := fun i b => Q b (D i) ∧ ∀ j v, (f b)[j]? = some v → w.cell? ((a.add (i * k)).add j) = some v) len (fun i hil => by
      obtain ⟨cs', hc, ht'⟩ := hi i (by omega)
      obtain ⟨b, rfl, hq⟩ := hel _ _ _ ht'
      obtain ⟨_, hcl, hat⟩ := World.cells?_some hc
      refine ⟨b, hq, fun j v hv => ?_⟩
      have hj : j < k := by have := (List.getElem?_eq_some_iff.1 hv).1; rwa [hf] at this
      rw [hat j hj]; exact hv)
    subst hll
    have hflat := flat_len f k hf l
    have hat : ∀ i, i < (l.flatMap f).length → w.cell? (a.add i) = (l.flatMap f)[i]? := by
      intro i hil
      have hik : i / k < l.length := by
        apply Nat.div_lt_of_lt_mul; rw [hflat, Nat.mul_comm] at hil; exact hil
      have hmod : i % k < k := Nat.mod_lt _ hk
      obtain ⟨b, hbe⟩ : ∃ b, l[i / k]? = some b := ⟨_, List.getElem?_eq_getElem hik⟩
      have hdm : i / k * k + i % k = i := by rw [Nat.mul_comm]; exact Nat.div_add_mod i k
      have h1 := flat_at f k hf l (i / k) (i % k) b hbe hmod
      rw [hdm] at h1
      obtain ⟨v, hv⟩ : ∃ v, (f b)[i % k]? = some v := ⟨_, List.getElem?_eq_getElem (by rw [hf]; exact hmod)⟩
      rw [h1, hv, ← (hr _ _ hbe).2 _ _ hv, Go.Deep.add_add, hdm]
    refine ⟨some a, l, cap, rfl, ⟨hflat, fun hn => ?_⟩, hl, hm, .inr ⟨a, (List.range l.length).map D, _, rfl, rfl, by simp, ?_⟩⟩
    · have h0 : 0 < (l.flatMap f).length := by rw [hflat]; exact Nat.mul_pos hn hk
      obtain ⟨hs, hcell⟩ := row_at h0 hat
      exact ⟨a.block, a.off, by rw [← hs], hcell⟩
    · intro i b d hb' hd
      have := hr i b hb'
      have hil := (List.getElem?_eq_some_iff.1 hb').1
      rw [List.getElem?_map, List.getElem?_range hil] at hd
      simp only [Option.map_some, Option.some.injEq] at hd
      subst hd
      exact this.1
theorem int_cells {t : TypeId} {k : IntKind} (ht : P.underlying t = some (.int k)) {fuel : Nat} {cs : List Value} {x : DataW H × List MemPlace} (h : DataW.trod enc P w base spare held fuel t cs = some x) : ∃ n, cs = [.int k n] ∧ (Lit.int k n).wf = true := by
  obtain ⟨n, h1, _, h2⟩ := DataW.trod_int ht h; exact ⟨n, h1, h2⟩
/-- a struct's cells, field by field. -/
theorem struct_cells {t : TypeId} {fs : Array Field} (ht : P.underlying t = some (.struct fs)) {fuel : Nat} {cs : List Value} {x : DataW H × List MemPlace} (h : DataW.trod enc P w base spare held fuel t cs = some x) :
    cs.length = P.cellsOf t ∧ ∃ ys : List (DataW H × List MemPlace), ys.length = fs.size ∧ x.1 = .agg (ys.map (·.1)) ∧ ∃ n, ∀ (j : Nat) (f : Field), fs[j]? = some f → ∃ y, ys[j]? = some y ∧ DataW.trod enc P w base spare held n f.type ((cs.drop f.offset).take (P.cellsOf f.type)) = some y := by
  obtain ⟨ys, n, _, hy, hlen, hyl, hf⟩ := DataW.trod_struct ht h
  refine ⟨hlen, ys, hyl, by rw [hy], n, fun j f hj => ?_⟩
  have hjl : j < fs.size := (Array.getElem?_eq_some_iff.1 hj).1
  exact ⟨ys[j]'(by omega), List.getElem?_eq_getElem (by omega), by rw [hf j f hj, List.getElem?_eq_getElem (by omega)]⟩
end
end Go.Sed
