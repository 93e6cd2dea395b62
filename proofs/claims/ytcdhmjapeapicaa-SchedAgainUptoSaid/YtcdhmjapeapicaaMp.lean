/- Maps of the call's own with keys of kind int and plain elements, told by a list of entries. No condition but those that each theorem names. -/
import Derived.Test.YtcdhmjapeapicaaFr
import Derived.Maps.OwnSet
import Derived.Maps.Views
namespace Go.Sed
open Go.RowKit Go.Maps
variable {P : Program}
abbrev ik (i : Int) : Lit := .int .i64 i
theorem ik_key (i : Int) : WideAt.IsKeyLit (ik i) := by simp [WideAt.IsKeyLit]
theorem ik_ne {i j : Int} (h : i ≠ j) : ik i ≠ ik j := by intro e; injection e with _ e; exact h e
/-- D holds just these entries. -/
structure MapIs (D : DataW Unit) (l : List (Int × Lit)) : Prop where
  tidy : Tidy D
  size : Maps.size D = l.length
  nodup : (l.map (·.1)).Nodup
  there : ∀ p, p ∈ l → Maps.has D (ik p.1) = true ∧ ∀ z, D.atKey (ik p.1) z = .lit p.2
  none : ∀ i, (∀ p, p ∈ l → p.1 ≠ i) → Maps.has D (ik i) = false
theorem MapIs.empty : MapIs (.map []) [] := ⟨tidy_empty, rfl, List.nodup_nil, (fun p h => by cases h), fun i _ => rfl⟩
theorem MapIs.perm {D : DataW Unit} {l l' : List (Int × Lit)} (h : MapIs D l) (hp : l.Perm l') : MapIs D l' :=
  ⟨h.tidy, h.size.trans hp.length_eq, (hp.map (·.1)).nodup_iff.1 h.nodup, fun p hm => h.there p (hp.mem_iff.2 hm), fun i hi => h.none i (fun p hm => hi p (hp.mem_iff.1 hm))⟩
theorem MapIs.put {D : DataW Unit} {l : List (Int × Lit)} (h : MapIs D l) (i : Int) (v : Lit) (hi : ∀ p, p ∈ l → p.1 ≠ i) : MapIs (D.put (ik i) (.lit v)) ((i, v) :: l) := by
  refine ⟨h.tidy.put (ik_key i) _, ?_, ?_, ?_, ?_⟩
  · rw [size_put h.tidy, h.none i hi, h.size]; simp
  · simp only [List.map_cons, List.nodup_cons]
    refine ⟨fun hm => ?_, h.nodup⟩
    simp only [List.mem_map] at hm
    obtain ⟨p, hp, e⟩ := hm
    exact hi p hp e
  · intro p hm
    rcases List.mem_cons.1 hm with rfl | hm
    · exact ⟨has_put_same h.tidy.isMap (ik_key _) _, fun z => atKey_put_same h.tidy.isMap (ik_key _) _ _⟩
    · have := h.there p hm
      have hne := ik_ne (hi p hm)
      exact ⟨(has_put_other hne _).trans this.1, fun z => (atKey_put_other hne _ _).trans (this.2 z)⟩
  · intro j hj
    have hne : j ≠ i := fun e => hj (i, v) (by simp) e.symm
    rw [has_put_other (ik_ne hne)]
    exact h.none j (fun p hm => hj p (by simp [hm]))
theorem MapIs.del {D : DataW Unit} {l : List (Int × Lit)} {i : Int} {v : Lit} (h : MapIs D ((i, v) :: l)) : MapIs (D.del (ik i)) l := by
  have hn := h.nodup
  simp only [List.map_cons, List.nodup_cons, List.mem_map, not_exists, not_and] at hn
  have h0 := h.there (i, v) (by simp)
  refine ⟨h.tidy.del _, ?_, hn.2, ?_, ?_⟩
  · have := size_del (k := ik i) h.tidy
    rw [h0.1, h.size] at this
    simp at this; omega
  · intro p hm
    have hne : p.1 ≠ i := hn.1 p hm
    have := h.there p (by simp [hm])
    exact ⟨(has_del_other (ik_ne hne)).trans this.1, fun z => (atKey_del_other (ik_ne hne) _).trans (this.2 z)⟩
  · intro j hj
    by_cases e : j = i
    · subst e; exact has_del_same
    · rw [has_del_other (ik_ne e)]
      refine h.none j (fun p hm => ?_)
      rcases List.mem_cons.1 hm with rfl | hm
      · exact fun e' => e e'.symm
      · exact hj p hm
def litV : Lit → Value
  | .int q a => .int q a
  | .bool b => .bool b
  | .string s => .string ⟨s.toArray⟩
  | _ => undef
theorem plainElem_lit_inv {e : TypeId} {v : Value} {x : Lit} {ps : List MemPlace} (h : plainElem (H := Unit) P e v = some (.lit x, ps)) : v = litV x := by
  unfold plainElem at h
  split at h
  · simp only [Option.some.injEq, Prod.mk.injEq, DataW.lit.injEq] at h; rw [← h.1]; rfl
  · split at h
    · rename_i hh; simp only [Option.some.injEq, Prod.mk.injEq, DataW.lit.injEq] at h; rw [← h.1, hh.1]; rfl
    · cases h
  · split at h
    · simp only [Option.some.injEq, Prod.mk.injEq, DataW.lit.injEq] at h; rw [← h.1]; rfl
    · cases h
  · cases h
/-- block b is a map with just these entries. -/
def Mp (P : Program) (K E : TypeId) (w : World) (b : Nat) (l : List (Int × Lit)) : Prop := ∃ D, w.ownsMap P K (plainElem (H := Unit) P E) b l.length D ∧ MapIs D l
theorem ownsMap_tight {K : TypeId} {R : Value → Option (DataW Unit × List MemPlace)} {w : World} {b n : Nat} {D : DataW Unit} (h : w.ownsMap P K R b n D) : w.ownsMap P K R b (Maps.size D) D := by
  obtain ⟨es, clock, hb, F, hs, rfl⟩ := h
  exact ⟨es, clock, hb, F, by simp [Maps.size, length_sorted], rfl⟩
theorem Mp.lt {K E : TypeId} {w : World} {b : Nat} {l : List (Int × Lit)} (h : Mp P K E w b l) : b < w.heap.size := by
  obtain ⟨D, h1, _⟩ := h; exact h1.lt
theorem Mp.made (K E : TypeId) (w : World) (b : Nat) (hb : b = w.heap.size) : Mp P K E (w.alloc (.map #[] 0)) b [] := by
  subst hb; exact ⟨_, World.ownsMap_made w P K _, MapIs.empty⟩
theorem Mp.perm {K E : TypeId} {w : World} {b : Nat} {l l' : List (Int × Lit)} (h : Mp P K E w b l) (hp : l.Perm l') : Mp P K E w b l' := by
  obtain ⟨D, h1, h2⟩ := h
  exact ⟨D, hp.length_eq ▸ h1, h2.perm hp⟩
theorem Mp.block {K E : TypeId} {w w' : World} {b : Nat} {l : List (Int × Lit)} (h : Mp P K E w b l) (he : w'.heap[b]? = w.heap[b]?) : Mp P K E w' b l := by
  obtain ⟨D, ⟨es, clock, hb, F, hs, hD⟩, h2⟩ := h
  exact ⟨D, ⟨es, clock, he.trans hb, F, hs, hD⟩, h2⟩
theorem Mp.keep {K E : TypeId} {w w' : World} {b : Nat} {l : List (Int × Lit)} (h : Mp P K E w b l) (hB : Below w.heap.size w w') : Mp P K E w' b l := h.block (hB.block b h.lt)
theorem Mp.fr {K E : TypeId} {F : Nat → Prop} {w w' : World} {b : Nat} {l : List (Int × Lit)} (h : Mp P K E w b l) (hf : Fr F w w') (hk : ¬ F b) : Mp P K E w' b l := h.block (hf.block b h.lt hk)
theorem Mp.grown {K E : TypeId} {w w' : World} {b : Nat} {row : Option Nat} {l : List (Int × Lit)} (h : Mp P K E w b l) (hg : w.grownBy w' row) (hk : row ≠ some b) : Mp P K E w' b l := h.block (hg.block b h.lt (fun e => hk e.symm))
theorem Mp.nodup {K E : TypeId} {w : World} {b : Nat} {l : List (Int × Lit)} (h : Mp P K E w b l) : (l.map (·.1)).Nodup := by obtain ⟨D, _, h2⟩ := h; exact h2.nodup
theorem i64_wf {i : Int} (h : -9223372036854775808 ≤ i ∧ i ≤ 9223372036854775807) : (Lit.int .i64 i).wf = true := by
  simp [Lit.wf, IntKind.min, IntKind.max, IntKind.signed, IntKind.bits]; omega
section
variable (w : World) {ops : Array Oper} {rest : List Oper} {o : Oper} {a : Act} {Q : Exit → Act → World → Prop}
theorem wpList_mp_put (hg : o.guard = none) (m x v : Operand) (t : TypeId) (hop : o.op = Op.mapUpdate t m x v)
    (K E : TypeId) (hK : P.underlying K = some (.int .i64)) (ht : P.underlying t = some (.map K E)) (b : Nat) (l : List (Int × Lit))
    (hm : a.eval m = .map (some b)) (h : Mp P K E w b l) (hn : l.length < maxLen) (i : Int) (hi : -9223372036854775808 ≤ i ∧ i ≤ 9223372036854775807) (hf : ∀ p, p ∈ l → p.1 ≠ i) (val : Value) (y : Lit)
    (hx : a.eval x = .int .i64 i) (hv : a.eval v = val) (hval : plainElem (H := Unit) P E val = some (.lit y, []))
    (hQ : ∀ w', Mp P K E w' b ((i, y) :: l) → w.grownBy w' (some b) → wpList P ops Q rest (a.put o.dst undef) w') : wpList P ops Q (o :: rest) a w := by
  obtain ⟨D, h1, h2⟩ := h
  refine wpList_mapUpdate_own w hg m x v t hop K E (int_keyed hK) ht _ b _ D hm h1 hn _ val (ik i) hx hv (keyOf_int_mk hK (i64_wf hi)) (.lit y) [] hval ?_
  intro w' h3 h4
  refine hQ w' ⟨_, ?_, h2.put i y hf⟩ h4
  have := ownsMap_tight h3
  rwa [(h2.put i y hf).size] at this
theorem wpList_mp_has (hg : o.guard = none) (m x : Operand) (t : TypeId) (hop : o.op = Op.lookup t m x true)
    (K E : TypeId) (hK : P.underlying K = some (.int .i64)) (ht : P.underlying t = some (.map K E)) {z : Value} (hz : (zeroValue E).run P w = .ok z w) (zd : DataW Unit) (hzd : plainElem P E z = some (zd, [])) (b : Nat) (l : List (Int × Lit)) (i : Int) (y : Lit)
    (hm : a.eval m = .map (some b)) (h : Mp P K E w b ((i, y) :: l)) (hi : -9223372036854775808 ≤ i ∧ i ≤ 9223372036854775807)
    (hx : a.eval x = .int .i64 i) {yv : Value} (hy : litV y = yv) (hQ : wpList P ops Q rest (a.put o.dst (.tuple #[yv, .bool true])) w) : wpList P ops Q (o :: rest) a w := by
  subst hy
  obtain ⟨D, h1, h2⟩ := h
  refine wpList_lookup_own_ok w hg m x t hop K E (int_keyed hK) ht _ hz zd [] hzd b _ D hm h1 _ (ik i) hx (keyOf_int_mk hK (i64_wf hi)) ?_
  intro v ps hv
  have h3 := h2.there (i, y) (by simp)
  rw [h3.2 zd] at hv
  rw [h3.1, plainElem_lit_inv hv]
  exact hQ
theorem wpList_mp_del (hg : o.guard = none) (m x : Operand) (t K : TypeId) (hop : o.op = Op.call { callee := Callee.builtin Builtin.delete, args := #[m, x], argTypes := #[t, K] })
    (E : TypeId) (hK : P.underlying K = some (.int .i64)) (ht : P.underlying t = some (.map K E)) (b : Nat) (l : List (Int × Lit)) (i : Int) (y : Lit)
    (hm : a.eval m = .map (some b)) (h : Mp P K E w b ((i, y) :: l)) (hi : -9223372036854775808 ≤ i ∧ i ≤ 9223372036854775807)
    (hx : a.eval x = .int .i64 i) (hQ : ∀ w', Mp P K E w' b l → w.grownBy w' (some b) → wpList P ops Q rest (a.put o.dst (.tuple #[])) w') : wpList P ops Q (o :: rest) a w := by
  obtain ⟨D, h1, h2⟩ := h
  refine wpList_delete_own w hg m x t K hop E (int_keyed hK) ht _ b _ D hm h1 _ (ik i) hx (keyOf_int_mk hK (i64_wf hi)) ?_
  intro w' h3 h4
  refine hQ w' ⟨_, ?_, h2.del⟩ h4.grown
  have := ownsMap_tight h3
  rwa [h2.del.size] at this
theorem wpList_mp_len (hg : o.guard = none) (m : Operand) (t : TypeId) (hop : o.op = Op.call { callee := Callee.builtin Builtin.len, args := #[m], argTypes := #[t] })
    (K E : TypeId) (ht : P.underlying t = some (.map K E)) (b : Nat) (l : List (Int × Lit)) (hm : a.eval m = .map (some b)) (h : Mp P K E w b l) (n : Nat) (hn : l.length = n)
    (hQ : wpList P ops Q rest (a.put o.dst (.int .i64 n)) w) : wpList P ops Q (o :: rest) a w := by
  subst hn
  obtain ⟨D, h1, h2⟩ := h
  refine wpList_len_own w hg m t hop K E ht _ b _ D hm h1 ?_
  rw [h2.size]; exact hQ
end
end Go.Sed
