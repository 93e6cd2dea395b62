/- Elements of a slice of one's own, set; what may be written. No condition but those that each theorem names. -/
import Derived.Test.YtmopjoeomjdikaaArg
import Derived.Laws.IdiomCopy
namespace Go.Sed
open Go.RowKit
theorem OW.setElem {w : World} {base size n i g o c : Nat} {xs news : List Value} (h : OW w base size (.slice (some ⟨g, o, none⟩) n c) n xs) (hi : i < n) (hl : news.length = size) :
    OW (w.setCells g (o + i * size) news) base size (.slice (some ⟨g, o, none⟩) n c) n (xs.take (i * size) ++ news ++ xs.drop (i * size + size)) := by
  obtain ⟨h1, h2⟩ := h
  have hle : i * size + size ≤ n * size := by have := Nat.mul_le_mul_right size hi; rw [Nat.succ_mul] at this; exact this
  have htl : (xs.take (i * size)).length = i * size := by rw [List.length_take]; omega
  refine ⟨by simp only [List.length_append, List.length_take, List.length_drop]; omega, ?_⟩
  rcases h2 with ⟨e, _⟩ | ⟨g', o', c', e, hb, hg, hn, hm, hc, hf⟩
  · cases e
  · simp only [Value.slice.injEq, Option.some.injEq, Addr.mk.injEq, and_true, true_and] at e
    obtain ⟨⟨rfl, rfl⟩, rfl⟩ := e
    have hsz := setCells_same g news (o + i * size) w
    have hcn : n * size ≤ c * size := Nat.mul_le_mul_right size hn
    have hin : ∀ j, j < news.length → (w.cell? ⟨g, o + i * size + j, none⟩).isSome = true := fun j hj => by
      have := (hf (i * size + j) (by omega)).1
      rwa [show o + i * size + j = o + (i * size + j) by omega]
    refine .inr ⟨g, o, c, rfl, hb, by omega, hn, hm, fun j u hu => ?_, fun j hj => ?_⟩
    · by_cases hj1 : j < i * size
      · rw [World.cell?_setCells_out _ _ _ _ _ (fun _ _ => .inl (by simp only; omega))]
        refine hc j u ?_
        rw [List.append_assoc, List.getElem?_append_left (by omega), List.getElem?_take] at hu
        simpa [hj1] using hu
      · by_cases hj2 : j < i * size + size
        · have := World.cell?_setCells_in g news (o + i * size) w hin (j - i * size) (by omega)
          rw [show o + i * size + (j - i * size) = o + j by omega] at this
          rw [this, ← hu, List.append_assoc, List.getElem?_append_right (by omega), List.getElem?_append_left (by omega), htl, List.getElem?_eq_getElem (by omega)]
        · rw [World.cell?_setCells_out _ _ _ _ _ (fun _ _ => .inr (by simp only; omega))]
          refine hc j u ?_
          rw [List.getElem?_append_right (by simp only [List.length_append]; omega), List.getElem?_drop] at hu
          simp only [List.length_append, htl, hl] at hu
          rwa [show i * size + size + (j - (i * size + size)) = j by omega] at hu
    · obtain ⟨q1, q2⟩ := hf j hj
      refine ⟨?_, by rw [World.frozen?_setCells]; exact q2⟩
      by_cases hj1 : i * size ≤ j ∧ j < i * size + size
      · have := World.cell?_setCells_in g news (o + i * size) w hin (j - i * size) (by omega)
        rw [show o + i * size + (j - i * size) = o + j by omega] at this
        rw [this]; rfl
      · rw [World.cell?_setCells_out _ _ _ _ _ (fun _ _ => by simp only; omega)]
        exact q1
/-- the first elements, whatever is written behind them. -/
theorem OW.head {w : World} {base size n i g o c : Nat} {xs vs : List Value} (h : OW w base size (.slice (some ⟨g, o, none⟩) n c) n xs) (hi : i ≤ n) (hl : i * size + vs.length ≤ c * size) :
    OW (w.setCells g (o + i * size) vs) base size (.slice (some ⟨g, o, none⟩) i c) i (xs.take (i * size)) := by
  obtain ⟨h1, h2⟩ := h
  have hle : i * size ≤ n * size := Nat.mul_le_mul_right size hi
  refine ⟨by rw [List.length_take]; omega, ?_⟩
  rcases h2 with ⟨e, _⟩ | ⟨g', o', c', e, hb, hg, hn, hm, hc, hf⟩
  · cases e
  · simp only [Value.slice.injEq, Option.some.injEq, Addr.mk.injEq, and_true, true_and] at e
    obtain ⟨⟨rfl, rfl⟩, rfl⟩ := e
    have hsz := setCells_same g vs (o + i * size) w
    have hin : ∀ j, j < vs.length → (w.cell? ⟨g, o + i * size + j, none⟩).isSome = true := fun j hj => by
      have := (hf (i * size + j) (by omega)).1
      rwa [show o + i * size + j = o + (i * size + j) by omega]
    refine .inr ⟨g, o, c, rfl, hb, by omega, by omega, hm, fun j u hu => ?_, fun j hj => ?_⟩
    · have hj1 : j < i * size := by have := (List.getElem?_eq_some_iff.1 hu).1; rw [List.length_take] at this; omega
      rw [World.cell?_setCells_out _ _ _ _ _ (fun _ _ => .inl (by simp only; omega))]
      refine hc j u ?_
      rw [List.getElem?_take] at hu
      simpa [hj1] using hu
    · obtain ⟨q1, q2⟩ := hf j hj
      refine ⟨?_, by rw [World.frozen?_setCells]; exact q2⟩
      by_cases hj1 : i * size ≤ j ∧ j < i * size + vs.length
      · have := World.cell?_setCells_in g vs (o + i * size) w hin (j - i * size) (by omega)
        rw [show o + i * size + (j - i * size) = o + j by omega] at this
        rw [this]; rfl
      · rw [World.cell?_setCells_out _ _ _ _ _ (fun _ _ => by simp only; omega)]
        exact q1
theorem OW.free {w : World} {base size n g o c : Nat} {xs : List Value} (h : OW w base size (.slice (some ⟨g, o, none⟩) n c) n xs) {j : Nat} (hj : j < c * size) : (w.cell? ⟨g, o + j, none⟩).isSome = true ∧ w.frozen? ⟨g, o + j, none⟩ = false := by
  rcases h.2 with ⟨e, _⟩ | ⟨g', o', c', e, hb, hg, hn, hm, hc, hf⟩
  · cases e
  · simp only [Value.slice.injEq, Option.some.injEq, Addr.mk.injEq, and_true, true_and] at e
    obtain ⟨⟨rfl, rfl⟩, rfl⟩ := e
    exact hf j hj
theorem OW.capLe {w : World} {base size n c : Nat} {p : Option Addr} {xs : List Value} (h : OW w base size (.slice p n c) n xs) : n ≤ c := by
  obtain ⟨A, c', e, _, h2, _⟩ := h.shape
  simp only [Value.slice.injEq, true_and] at e
  rw [e.2]; exact h2
/-- one cell of a row of one's own, set. -/
theorem OW.setAt {w : World} {base size n g o c j : Nat} {xs : List Value} (h : OW w base size (.slice (some ⟨g, o, none⟩) n c) n xs) (hj : j < n * size) (v : Value) :
    OW (w.setCell ⟨g, o + j, none⟩ v) base size (.slice (some ⟨g, o, none⟩) n c) n (xs.set j v) := by
  obtain ⟨h1, h2⟩ := h
  refine ⟨by rw [List.length_set]; exact h1, ?_⟩
  rcases h2 with ⟨e, _⟩ | ⟨g', o', c', e, hb, hg, hn, hm, hc, hf⟩
  · cases e
  · simp only [Value.slice.injEq, Option.some.injEq, Addr.mk.injEq, and_true, true_and] at e
    obtain ⟨⟨rfl, rfl⟩, rfl⟩ := e
    have hcn : n * size ≤ c * size := Nat.mul_le_mul_right size hn
    have hin : ∀ i, i < [v].length → (w.cell? ⟨g, o + j + i, none⟩).isSome = true := fun i hi => by
      have : i = 0 := by simpa using hi
      subst this
      exact (hf j (by omega)).1
    have hsame : (w.setCell ⟨g, o + j, none⟩ v).cell? ⟨g, o + j, none⟩ = some v := by
      have := World.cell?_setCells_in g [v] (o + j) w hin 0 (by simp)
      simpa [World.setCells] using this
    have hother : ∀ i, i ≠ j → (w.setCell ⟨g, o + j, none⟩ v).cell? ⟨g, o + i, none⟩ = w.cell? ⟨g, o + i, none⟩ := fun i hi => by
      have := World.cell?_setCells_out g [v] (o + j) w ⟨g, o + i, none⟩ (fun _ _ => by simp only [List.length_singleton]; omega)
      simpa [World.setCells] using this
    have hfz : ∀ i, (w.setCell ⟨g, o + j, none⟩ v).frozen? ⟨g, o + i, none⟩ = w.frozen? ⟨g, o + i, none⟩ := fun i => by
      simp
    refine .inr ⟨g, o, c, rfl, hb, by rw [World.size_setCell]; exact hg, hn, hm, fun i u hu => ?_, fun i hi => ?_⟩
    · by_cases e : i = j
      · subst e
        rw [hsame]
        rw [List.getElem?_set_self (by omega)] at hu
        exact hu
      · rw [hother i e]
        rw [List.getElem?_set_ne (fun h => e h.symm)] at hu
        exact hc i u hu
    · obtain ⟨q1, q2⟩ := hf i hi
      refine ⟨?_, by rw [hfz]; exact q2⟩
      by_cases e : i = j
      · subst e; rw [hsame]; rfl
      · rw [hother i e]; exact q1
theorem flat_set {α β : Type} (f : α → List β) (k : Nat) (hf : ∀ a, (f a).length = k) : ∀ (l : List α) (i j : Nat) (a : α) (v : β) (b : α), l[i]? = some a → j < k → f b = (f a).set j v → (l.flatMap f).set (i * k + j) v = (l.set i b).flatMap f
  | [], i, j, a, v, b, h, _, _ => by simp at h
  | x :: l, 0, j, a, v, b, h, hj, hb => by
    simp only [List.getElem?_cons_zero, Option.some.injEq] at h
    subst h
    rw [List.flatMap_cons, Nat.zero_mul, Nat.zero_add, List.set_append_left _ _ (by rw [hf]; exact hj), List.set_cons_zero, List.flatMap_cons, hb]
  | x :: l, i + 1, j, a, v, b, h, hj, hb => by
    rw [List.flatMap_cons, List.set_append_right _ _ (by rw [hf, Nat.add_mul]; omega), hf, show (i + 1) * k + j - k = i * k + j by rw [Nat.add_mul]; omega, List.set_cons_succ, List.flatMap_cons, flat_set f k hf l i j a v b (by simpa using h) hj hb]
end Go.Sed
