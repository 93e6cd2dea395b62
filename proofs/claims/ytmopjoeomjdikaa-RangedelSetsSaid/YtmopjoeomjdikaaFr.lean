/- Frames: what a call may change of what was there; slices of elements of many cells. -/
import Derived.Test.YtmopjoeomjdikaaOwn
namespace Go.Sed
open Go.RowKit
/-- nothing of what was there is changed, but the blocks of F. -/
structure Fr (F : Nat → Prop) (w w' : World) : Prop where
  os : w'.os = w.os
  tape : w'.tape = w.tape
  output : w'.output = w.output
  size : w.heap.size ≤ w'.heap.size
  block : ∀ k, k < w.heap.size → ¬ F k → w'.heap[k]? = w.heap[k]?
theorem Fr.refl (F : Nat → Prop) (w : World) : Fr F w w := ⟨rfl, rfl, rfl, Nat.le_refl _, fun _ _ _ => rfl⟩
theorem Fr.of_below {F : Nat → Prop} {w w' : World} (h : Below w.heap.size w w') : Fr F w w' := ⟨h.os, h.tape, h.output, h.size, fun k hk _ => h.block k hk⟩
theorem Fr.then {F G : Nat → Prop} {a b c : World} (h : Fr F a b) (k : Fr G b c) (hg : ∀ i, i < a.heap.size → G i → F i) : Fr F a c :=
  ⟨k.os.trans h.os, k.tape.trans h.tape, k.output.trans h.output, Nat.le_trans h.size k.size, fun i hi hf => (k.block i (Nat.lt_of_lt_of_le hi h.size) (fun g => hf (hg i hi g))).trans (h.block i hi hf)⟩
theorem Fr.thenB {F : Nat → Prop} {a b c : World} (h : Fr F a b) (k : Below b.heap.size b c) : Fr F a c := h.then (Fr.of_below (F := fun _ => False) k) (fun _ _ g => g.elim)
theorem Fr.mono {F G : Nat → Prop} {a b : World} (h : Fr F a b) (hg : ∀ i, i < a.heap.size → F i → G i) : Fr G a b :=
  ⟨h.os, h.tape, h.output, h.size, fun i hi hf => h.block i hi (fun f => hf (hg i hi f))⟩
theorem Fr.below {F : Nat → Prop} {B : Nat} {a b : World} (h : Fr F a b) (hB : B ≤ a.heap.size) (hf : ∀ i, i < B → ¬ F i) : Below B a b :=
  ⟨h.os, h.tape, h.output, h.size, fun i hi => h.block i (Nat.lt_of_lt_of_le hi hB) (hf i hi)⟩
theorem Fr.thenBelow {F : Nat → Prop} {B : Nat} {a b c : World} (h : Below B a b) (k : Fr F b c) (hB : B ≤ a.heap.size) (hf : ∀ i, i < B → ¬ F i) : Below B a c := h.trans (k.below (Nat.le_trans hB h.size) hf)
theorem Fr.alloc {F : Nat → Prop} {a b : World} (h : Fr F a b) (o : Obj) : Fr F a (b.alloc o) := h.thenB ((Below.refl _ _).alloc (Nat.le_refl _) _)
theorem Fr.drew {F : Nat → Prop} {a b : World} (h : Fr F a b) : Fr F a b.drew := ⟨h.os, h.tape, h.output, h.size, h.block⟩
theorem Fr.set {F : Nat → Prop} {a b : World} (h : Fr F a b) {k i : Nat} (v : Value) (hk : k < a.heap.size → F k) : Fr F a (b.setCell ⟨k, i, none⟩ v) :=
  ⟨h.os, h.tape, h.output, by rw [World.size_setCell]; exact h.size, fun j hj hf => by
    have hne : j ≠ k := fun e => by subst e; exact hf (hk hj)
    rw [Below.heap_setCell _ _ _ _ hne]; exact h.block j hj hf⟩
theorem Fr.put {F : Nat → Prop} {a b : World} (h : Fr F a b) {k : Nat} (o : Obj) (hk : k < a.heap.size → F k) : Fr F a (b.putObj k o) :=
  ⟨h.os, h.tape, h.output, by rw [World.putObj_size]; exact h.size, fun j hj hf => by
    have hne : j ≠ k := fun e => by subst e; exact hf (hk hj)
    rw [World.putObj_heap_other hne]; exact h.block j hj hf⟩
theorem Fr.grown {F : Nat → Prop} {a b c : World} (h : Fr F a b) {row : Option Nat} (hg : b.grownBy c row) (hr : ∀ k, row = some k → k < a.heap.size → F k) : Fr F a c :=
  ⟨hg.os.trans h.os, hg.tape.trans h.tape, hg.output.trans h.output, Nat.le_trans h.size hg.size, fun j hj hf => by
    rw [hg.block j (Nat.lt_of_lt_of_le hj h.size) (fun e => hf (hr j e.symm hj))]; exact h.block j hj hf⟩
theorem Bl.fr {F : Nat → Prop} {w W : World} {k : Nat} {o : Obj} (h : Bl w k o) (hf : Fr F w W) (hk : ¬ F k) : Bl W k o := by
  have hl := h.lt
  unfold Bl at *; rw [hf.block k hl hk]; exact h
theorem OW.fr {F : Nat → Prop} {w w' : World} {base size n : Nat} {v : Value} {xs : List Value} (h : OW w base size v n xs) (hf : Fr F w w') (hk : ∀ k, v.ownBlock = some k → ¬ F k) : OW w' base size v n xs :=
  h.keepB hf.size (fun k e => hf.block k (h.lt k e).2 (hk k e))
theorem Rd.fr {F : Nat → Prop} {w w' : World} {size n : Nat} {A : Option Addr} {xs : List Value} (h : Rd w size A n xs) (hf : Fr F w w') (hk : ∀ a, A = some a → ¬ F a.block) : Rd w' size A n xs :=
  ⟨h.1, fun hn => by
    obtain ⟨b, o, e, hc⟩ := h.2 hn
    refine ⟨b, o, e, fun j u hu => ?_⟩
    have hcu := hc j u hu
    rw [World.cell?_of_block (a := ⟨b, o + j, none⟩) (hf.block b (cell_lt hcu) (hk _ e))]
    exact hcu⟩
theorem Rd.setFar {w : World} {size n b i : Nat} {A : Option Addr} {xs : List Value} (h : Rd w size A n xs) (v : Value) (hk : ∀ a, A = some a → a.block ≠ b) : Rd (w.setCell ⟨b, i, none⟩ v) size A n xs :=
  h.fr (F := fun k => k = b) ((Fr.refl _ _).set v (fun _ => rfl)) (fun a e => hk a e)
theorem Rd.alloc {w : World} {size n : Nat} {A : Option Addr} {xs : List Value} (h : Rd w size A n xs) (o : Obj) : Rd (w.alloc o) size A n xs := h.keep ((Below.refl _ _).alloc (Nat.le_refl _) _)
/-- a row without its first element. -/
theorem Rd.tail {w : World} {size n b o : Nat} {x xs : List Value} (h : Rd w size (some ⟨b, o, none⟩) (n + 1) (x ++ xs)) (hx : x.length = size) : Rd w size (some ⟨b, o + size, none⟩) n xs := by
  refine ⟨?_, fun hn => ⟨b, o + size, rfl, fun j u hu => ?_⟩⟩
  · have := h.1
    rw [List.length_append, hx, Nat.add_mul, Nat.one_mul] at this
    omega
  · obtain ⟨b', o', e, hc⟩ := h.2 (by omega)
    simp only [Option.some.injEq, Addr.mk.injEq, and_true] at e
    obtain ⟨rfl, rfl⟩ := e
    have := hc (size + j) u (by rw [List.getElem?_append_right (by omega), hx]; simpa using hu)
    rw [Nat.add_assoc]; exact this
theorem rd_new {w : World} {k : Nat} (hk : k = w.heap.size) (xs : List Value) (T : TypeId) (n size : Nat) (hl : xs.length = n * size) : Rd (w.alloc (.cells xs.toArray T)) size (some ⟨k, 0, none⟩) n xs :=
  ⟨hl, fun _ => ⟨k, 0, rfl, fun j u hu => by
    have := (Bl.new' (W := w) (o := .cells xs.toArray T) hk).cell j
    rw [Nat.zero_add, this]; simpa using hu⟩⟩
theorem Rd.drew {w : World} {size n : Nat} {A : Option Addr} {xs : List Value} (h : Rd w size A n xs) : Rd w.drew size A n xs := h.keep (Below.refl _ _).drew
/-- the cell of a row. -/
theorem Rd.cellAt {w : World} {size n b o : Nat} {xs : List Value} (h : Rd w size (some ⟨b, o, none⟩) n xs) {j : Nat} {u : Value} (hu : xs[j]? = some u) : w.cell? ⟨b, o + j, none⟩ = some u := by
  have hj := (List.getElem?_eq_some_iff.1 hu).1
  have hn : 0 < n := by
    rcases Nat.eq_zero_or_pos n with e | e
    · have := h.1; rw [e] at this; simp at this; rw [this] at hj; simp at hj
    · exact e
  obtain ⟨b', o', e, hc⟩ := h.2 hn
  simp only [Option.some.injEq, Addr.mk.injEq, and_true] at e
  obtain ⟨rfl, rfl⟩ := e
  exact hc j u hu
end Go.Sed
