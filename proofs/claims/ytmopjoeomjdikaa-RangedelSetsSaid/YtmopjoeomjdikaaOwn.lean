/- Laws of the author's own, over any program: a slice of the call's own, wherever it begins in its row and whatever marks lie behind it; append. No condition but those that each theorem names. -/
import Derived.Test.YtmopjoeomjdikaaSed
import Derived.Laws.IdiomCopy
import Derived.Lib.ConvBytes
namespace Go.Sed
open Go.RowKit
variable {P : Program}
/-- the slice value v, of n elements of so many cells, is the call's own (its row lies at or beyond base) and holds xs; its spare room is there, too. -/
def OW (w : World) (base size : Nat) (v : Value) (n : Nat) (xs : List Value) : Prop :=
  xs.length = n * size ∧
  ((v = .slice none 0 0 ∧ n = 0) ∨
   ∃ g o cap, v = .slice (some ⟨g, o, none⟩) n cap ∧ base ≤ g ∧ g < w.heap.size ∧ n ≤ cap ∧ cap ≤ maxLen ∧
     (∀ j u, xs[j]? = some u → w.cell? ⟨g, o + j, none⟩ = some u) ∧ ∀ j, j < cap * size → (w.cell? ⟨g, o + j, none⟩).isSome = true ∧ w.frozen? ⟨g, o + j, none⟩ = false)
theorem OW.nil (w : World) (base size : Nat) : OW w base size (.slice none 0 0) 0 [] := ⟨by simp, .inl ⟨rfl, rfl⟩⟩
theorem OW.rd {w : World} {base size n c : Nat} {A : Option Addr} {xs : List Value} (h : OW w base size (.slice A n c) n xs) : Rd w size A n xs := by
  refine ⟨h.1, fun hn => ?_⟩
  rcases h.2 with ⟨_, h0⟩ | ⟨g, o, cap, hv, _, _, _, _, hc, _⟩
  · omega
  · injection hv with hA
    exact ⟨g, o, hA, hc⟩
theorem OW.shape {w : World} {base size n : Nat} {v : Value} {xs : List Value} (h : OW w base size v n xs) :
    ∃ A c, v = .slice A n c ∧ Rd w size A n xs ∧ n ≤ c ∧ c ≤ maxLen ∧ ∀ a, A = some a → base ≤ a.block ∧ a.block < w.heap.size := by
  have h' := h
  rcases h.2 with ⟨rfl, rfl⟩ | ⟨g, o, cap, rfl, hb, hl, hn, hm, hc, _⟩
  · exact ⟨none, 0, rfl, h'.rd, Nat.le_refl _, by unfold maxLen; omega, fun a h => by cases h⟩
  · exact ⟨_, _, rfl, h'.rd, hn, hm, fun a h => by cases h; exact ⟨hb, hl⟩⟩
theorem OW.lt {w : World} {base size n : Nat} {v : Value} {xs : List Value} (h : OW w base size v n xs) : ∀ k, v.ownBlock = some k → base ≤ k ∧ k < w.heap.size := by
  intro k hk
  rcases h.2 with ⟨rfl, _⟩ | ⟨g, o, cap, rfl, hb, hl, _⟩
  · simp [Value.ownBlock] at hk
  · simp only [Value.ownBlock, Option.some.injEq] at hk
    subst hk; exact ⟨hb, hl⟩
/-- a world in which the row's block is as it was. -/
theorem OW.keepB {w w' : World} {base size n : Nat} {v : Value} {xs : List Value} (h : OW w base size v n xs) (hs : w.heap.size ≤ w'.heap.size) (hb : ∀ k, v.ownBlock = some k → w'.heap[k]? = w.heap[k]?) : OW w' base size v n xs := by
  refine ⟨h.1, ?_⟩
  rcases h.2 with ⟨rfl, h0⟩ | ⟨g, o, cap, rfl, hbb, hl, hn, hm, hc, hf⟩
  · exact .inl ⟨rfl, h0⟩
  · have e := hb g rfl
    refine .inr ⟨g, o, cap, rfl, hbb, by omega, hn, hm, fun j u hu => ?_, fun j hj => ?_⟩
    · rw [World.cell?_of_block (a := ⟨g, o + j, none⟩) e]; exact hc j u hu
    · rw [World.cell?_of_block (a := ⟨g, o + j, none⟩) e, World.frozen?_of_block (a := ⟨g, o + j, none⟩) e]; exact hf j hj
theorem OW.keep {w w' : World} {base size n : Nat} {v : Value} {xs : List Value} (h : OW w base size v n xs) (hb : Below w.heap.size w w') : OW w' base size v n xs :=
  h.keepB hb.size (fun k hk => hb.block k (h.lt k hk).2)
theorem OW.alloc {w : World} {base size n : Nat} {v : Value} {xs : List Value} (h : OW w base size v n xs) (o : Obj) : OW (w.alloc o) base size v n xs := h.keep ((Below.refl _ _).alloc (Nat.le_refl _) _)
theorem OW.drew {w : World} {base size n : Nat} {v : Value} {xs : List Value} (h : OW w base size v n xs) : OW w.drew base size v n xs := h.keep ((Below.refl _ _).drew)
theorem OW.put {w : World} {base size n : Nat} {v : Value} {xs : List Value} (h : OW w base size v n xs) {r : Nat} (o : Obj) (hr : v.ownBlock ≠ some r) : OW (w.putObj r o) base size v n xs :=
  h.keepB (by rw [World.putObj_size]; exact Nat.le_refl _) (fun k hk => World.putObj_heap_other (fun e => hr (e ▸ hk)))
theorem OW.set {w : World} {base size n : Nat} {v : Value} {xs : List Value} (h : OW w base size v n xs) {b i : Nat} (u : Value) (hr : v.ownBlock ≠ some b) : OW (w.setCell ⟨b, i, none⟩ u) base size v n xs :=
  h.keepB (by simp) (fun k hk => Below.heap_setCell _ _ _ _ (fun e => hr (by rw [hk, e])))
theorem OW.more {w : World} {base base' size n : Nat} {v : Value} {xs : List Value} (h : OW w base size v n xs) (hb : base' ≤ base) : OW w base' size v n xs := by
  refine ⟨h.1, ?_⟩
  rcases h.2 with h0 | ⟨g, o, cap, rfl, hbb, r⟩
  · exact .inl h0
  · exact .inr ⟨g, o, cap, rfl, by omega, r⟩
theorem OW.of_block {w : World} {base size n cap g : Nat} {cs : Array Value} {T : TypeId} {xs : List Value} (hb : base ≤ g) (h : Bl w g (.cells cs T (0, 0))) (hn : n ≤ cap) (hm : cap ≤ maxLen) (hc : cs.size = cap * size) (hx : cs.toList.take (n * size) = xs) :
    OW w base size (.slice (some ⟨g, 0, none⟩) n cap) n xs := by
  have hl : xs.length = n * size := by
    rw [← hx, List.length_take, Array.length_toList, hc]
    exact Nat.min_eq_left (Nat.mul_le_mul_right _ hn)
  refine ⟨hl, .inr ⟨g, 0, cap, rfl, hb, h.lt, hn, hm, fun j u hu => ?_, fun j hj => ?_⟩⟩
  · rw [Nat.zero_add, h.cell]
    rw [← hx, List.getElem?_take] at hu
    split at hu
    · simpa using hu
    · cases hu
  · rw [Nat.zero_add, h.cell]
    exact ⟨by simp [hc, hj], h.frozen j⟩
theorem OW.ints {w : World} {base g : Nat} {k : IntKind} {T : TypeId} {xs : List Int} (hb : base ≤ g) (h : Bl w g (.cells (ci k xs) T (0, 0))) (hm : xs.length ≤ maxLen) :
    OW w base 1 (.slice (some ⟨g, 0, none⟩) xs.length xs.length) xs.length (xs.map (Value.int k)) :=
  OW.of_block hb h (Nat.le_refl _) hm (by rw [ci_size]; omega) (by simp only [ci, Nat.mul_one]; exact List.take_of_length_le (by simp))
theorem OW.empty {w : World} {base size g : Nat} {T : TypeId} (hb : base ≤ g) (h : Bl w g (.cells #[] T (0, 0))) : OW w base size (.slice (some ⟨g, 0, none⟩) 0 0) 0 [] :=
  OW.of_block hb h (Nat.le_refl _) (by unfold maxLen; omega) (by simp) (by simp)
theorem setCells_other (g : Nat) : ∀ (vs : List Value) (q : Nat) (w : World) (k : Nat), k ≠ g → (w.setCells g q vs).heap[k]? = w.heap[k]?
  | [], _, _, _, _ => rfl
  | v :: r, q, w, k, h => by rw [World.setCells, setCells_other g r (q + 1) _ k h, Below.heap_setCell _ _ _ _ h]
theorem setCells_same (g : Nat) : ∀ (vs : List Value) (q : Nat) (w : World), (w.setCells g q vs).heap.size = w.heap.size ∧ (w.setCells g q vs).os = w.os ∧ (w.setCells g q vs).tape = w.tape ∧ (w.setCells g q vs).output = w.output
  | [], _, _ => ⟨rfl, rfl, rfl, rfl⟩
  | v :: r, q, w => by
    have h := setCells_same g r (q + 1) (w.setCell ⟨g, q, none⟩ v)
    rw [World.setCells]
    exact ⟨h.1.trans (by simp), h.2.1, h.2.2.1, h.2.2.2⟩
theorem zero_oneCell {z : Value} {size : Nat} (hz : z.cells.size = size) (n : Nat) : (Builtin.zeroCells z.cells n).size = n * size := by rw [size_zeroCells, hz]
/-- a new row, grown out of olds and news. -/
theorem OW.grown {w : World} {base size need cap : Nat} {e : TypeId} {z : Value} {olds news : List Value} (hzs : z.cells.size = size) (hb : base ≤ w.heap.size) (hl : (olds ++ news).length = need * size) (hn : need ≤ cap) (hm : cap ≤ maxLen) :
    OW (w.drew.alloc (.cells (olds.toArray ++ news.toArray ++ Builtin.zeroCells z.cells (cap - need)) e)) base size (.slice (some ⟨w.heap.size, 0, none⟩) need cap) need (olds ++ news) := by
  refine OW.of_block (T := e) hb (Bl.new' (W := w.drew) rfl) hn hm ?_ ?_
  · simp only [Array.size_append, List.size_toArray, size_zeroCells, hzs]
    rw [← List.length_append, hl, ← Nat.add_mul]; congr 1; omega
  · simp only [Array.toList_append, List.append_assoc]
    rw [← List.append_assoc, ← hl]
    exact List.take_left
/-- append onto a slice of the call's own, the source nil or not. -/
theorem run_append_ow (w : World) (base : Nat) (t ty e : TypeId) {z : Value} {size bytes : Nat} (ht : P.underlying t = some (.slice e))
    (hinfo : (P.info? e).map (fun i => (i.zero, i.size, i.bytes)) = some (some z, size, bytes)) (hzs : z.cells.size = size) (hsz : 0 < size)
    (v : Value) (n : Nat) (xs : List Value) (hown : OW w base size v n xs) (A : Option Addr) (m c : Nat) (news : List Value) (hr : Rd w size A m news) (h1 : ∀ u ∈ news, u.oneCell' = true)
    (h63 : n + m ≤ maxLen) (hbytes : (n + m) * bytes ≤ 140737488355328) (hbase : base ≤ w.heap.size) :
    ∃ v' w', (Builtin.append_ #[t, t] ty #[v, .slice A m c]).run P w = .ok v' w' ∧ OW w' base size v' (n + m) (xs ++ news) ∧ w.grownBy w' v.ownBlock ∧ (v'.ownBlock = v.ownBlock ∨ v'.ownBlock = some w.heap.size) := by
  obtain ⟨i, hi, hz, hsize, hby⟩ := info_parts hinfo
  have hlen : (xs ++ news).length = (n + m) * size := by rw [List.length_append, hown.1, hr.1, Nat.add_mul]
  have hsmall : n + m ≤ 9223372036854775807 := by simp only [maxLen] at h63; omega
  rcases A with _ | ad
  · have hm : m = 0 := by
      rcases Nat.eq_zero_or_pos m with h | h
      · exact h
      · obtain ⟨b, o, e, _⟩ := hr.2 h; cases e
    subst hm
    have hn : news = [] := List.eq_nil_of_length_eq_zero (by simpa using hr.1)
    subst hn
    refine ⟨v, w, ?_, by simpa using hown, ⟨rfl, rfl, rfl, Nat.le_refl _, fun _ _ _ => rfl⟩, .inl rfl⟩
    rcases hown.2 with ⟨rfl, rfl⟩ | ⟨g, o, cap, rfl, _, _, hnc, _⟩
    · simp [Builtin.append_, run_underlying ht, sizeOf, typeInfo, hi, Builtin.lenOf, Builtin.firstCells]
    · simp [Builtin.append_, run_underlying ht, sizeOf, typeInfo, hi, Builtin.lenOf, Builtin.firstCells, hnc, storeCells]
  · have hcells : ∀ j u, news[j]? = some u → w.cell? (ad.add j) = some u := by
      intro j u hu
      rcases Nat.eq_zero_or_pos m with h0 | h0
      · subst h0
        have hn : news = [] := List.eq_nil_of_length_eq_zero (by simpa using hr.1)
        subst hn
        simp at hu
      · obtain ⟨b, o, e, hc⟩ := hr.2 h0
        injection e with e
        subst e
        rw [add_mk]; exact hc j u hu
    subst hsize
    subst hby
    rcases hown.2 with ⟨rfl, rfl⟩ | ⟨g, o, cap, rfl, hbg, hgl, hnc, hcm, hcell, hfree⟩
    · have hx : xs = [] := List.eq_nil_of_length_eq_zero (by simpa using hown.1)
      subst hx
      by_cases hm : m = 0
      · subst hm
        have hn : news = [] := List.eq_nil_of_length_eq_zero (by simpa using hr.1)
        subst hn
        refine ⟨.slice none 0 0, w, ?_, OW.nil w base i.size, ⟨rfl, rfl, rfl, Nat.le_refl _, fun _ _ _ => rfl⟩, .inl rfl⟩
        simp [Builtin.append_, run_underlying ht, sizeOf, typeInfo, hi, Builtin.lenOf, Builtin.firstCells, loadCells, loadCellsFrom]
      · have hrun := run_append_nil (P := P) w t ty e i z ht hi hz ad m c news hr.1 hcells (by omega) (by omega) (by have hb := hbytes; simp only [Nat.zero_add] at hb; omega)
        have hge := grownCap_ge w m 0 e
        have hgm := grownCap_le_maxLen w m 0 e (by omega)
        have hg := OW.grown (w := w) (e := e) (olds := []) (news := news) hzs hbase (by simpa using hr.1) hge hgm
        simp only [List.nil_append, Nat.zero_add] at hg ⊢
        refine ⟨_, _, hrun, ?_, ⟨rfl, rfl, rfl, by simp, fun k hk _ => heap_alloc_old w.drew _ k hk⟩, .inr rfl⟩
        simpa using hg
    · by_cases hroom : n + m ≤ cap
      · have hf := run_firstCells_some (P := P) w i.size m ad m c news hr.1 hcells
        have hst := run_storeCells_cells (P := P) g (o + n * i.size) news 0 w
          (fun j hj => by
            have := (hfree (n * i.size + j) (by rw [hr.1] at hj; have := Nat.mul_le_mul_right i.size hroom; rw [Nat.add_mul] at this; omega)).1
            rwa [show o + n * i.size + 0 + j = o + (n * i.size + j) by omega])
          (fun j hj => by
            have := (hfree (n * i.size + j) (by rw [hr.1] at hj; have := Nat.mul_le_mul_right i.size hroom; rw [Nat.add_mul] at this; omega)).2
            rwa [show o + n * i.size + 0 + j = o + (n * i.size + j) by omega]) h1
        rw [Nat.add_zero] at hst
        have hrun : (Builtin.append_ #[t, t] ty #[.slice (some ⟨g, o, none⟩) n cap, .slice (some ad) m c]).run P w = .ok (.slice (some ⟨g, o, none⟩) (n + m) cap) (w.setCells g (o + n * i.size) news) := by
          simp [Builtin.append_, run_underlying ht, sizeOf, typeInfo, hi, Builtin.lenOf, hroom, hf, add_mk, hst]
        have hsz2 := setCells_same g news (o + n * i.size) w
        refine ⟨_, _, hrun, ⟨hlen, .inr ⟨g, o, cap, rfl, hbg, by omega, hroom, hcm, ?_, ?_⟩⟩, ⟨hsz2.2.1, hsz2.2.2.1, hsz2.2.2.2, by omega, fun k hk he => setCells_other g news _ w k (fun e => he (by simp [Value.ownBlock, e]))⟩, .inl rfl⟩
        · intro j u hu
          by_cases hj : j < xs.length
          · rw [List.getElem?_append_left hj] at hu
            rw [World.cell?_setCells_out _ _ _ _ _ (fun _ _ => .inl (by have := hown.1; simp only; omega))]
            exact hcell j u hu
          · rw [List.getElem?_append_right (by omega)] at hu
            have hj2 : j - xs.length < news.length := (List.getElem?_eq_some_iff.1 hu).1
            have := World.cell?_setCells_in g news (o + n * i.size) w (fun j hj => by
              have := (hfree (n * i.size + j) (by rw [hr.1] at hj; have := Nat.mul_le_mul_right i.size hroom; rw [Nat.add_mul] at this; omega)).1
              rwa [show o + n * i.size + j = o + (n * i.size + j) by omega]) (j - xs.length) hj2
            rw [show o + n * i.size + (j - xs.length) = o + j by rw [hown.1] at hj ⊢; omega] at this
            rw [this, ← hu, List.getElem?_eq_getElem hj2]
        · intro j hj
          obtain ⟨h1', h2'⟩ := hfree j hj
          refine ⟨?_, by rw [World.frozen?_setCells]; exact h2'⟩
          by_cases hin : o + n * i.size ≤ o + j ∧ o + j < o + n * i.size + news.length
          · have := World.cell?_setCells_in g news (o + n * i.size) w (fun j hj => by
              have := (hfree (n * i.size + j) (by rw [hr.1] at hj; have := Nat.mul_le_mul_right i.size hroom; rw [Nat.add_mul] at this; omega)).1
              rwa [show o + n * i.size + j = o + (n * i.size + j) by omega]) (j - n * i.size) (by omega)
            rw [show o + n * i.size + (j - n * i.size) = o + j by omega] at this
            rw [this]; rfl
          · rw [World.cell?_setCells_out _ _ _ _ _ (fun _ _ => by simp only; omega)]
            exact h1'
      · have holds : ∀ j u, xs[j]? = some u → w.cell? ((⟨g, o, none⟩ : Addr).add j) = some u := fun j u hu => by rw [add_mk]; exact hcell j u hu
        have hrun := run_append_grow (P := P) w t ty e i z ht hi hz ⟨g, o, none⟩ n cap xs hown.1 holds ad m c news hr.1 hcells (by omega) (by omega) (growslice_fits (by omega) hbytes)
        have hge := grownCap_ge w (n + m) cap e
        have hgm := grownCap_le_maxLen w (n + m) cap e h63
        exact ⟨_, _, hrun, OW.grown (w := w) (e := e) hzs hbase hlen hge hgm, ⟨rfl, rfl, rfl, by simp, fun k hk _ => heap_alloc_old w.drew _ k hk⟩, .inr rfl⟩
theorem wpList_append_ow {w : World} {ops : Array Oper} {rest : List Oper} {o : Oper} {a : Act} {Q : Exit → Act → World → Prop} (hgd : o.guard = none) (s x : Operand) (t : TypeId)
    (ho : o.op = .call { callee := .builtin .append, args := #[s, x], argTypes := #[t, t] })
    (base : Nat) (e : TypeId) {z : Value} {size bytes : Nat} (ht : P.underlying t = some (.slice e)) (hinfo : (P.info? e).map (fun i => (i.zero, i.size, i.bytes)) = some (some z, size, bytes)) (hzs : z.cells.size = size) (hsz : 0 < size)
    (v : Value) (n : Nat) (xs : List Value) (hs : a.eval s = v) (hown : OW w base size v n xs)
    (A : Option Addr) (m c : Nat) (news : List Value) (hx : a.eval x = .slice A m c) (hr : Rd w size A m news) (h1 : ∀ u ∈ news, u.oneCell' = true)
    (h63 : n + m ≤ maxLen) (hbytes : (n + m) * bytes ≤ 140737488355328) (hbase : base ≤ w.heap.size)
    (h : ∀ v' w', OW w' base size v' (n + m) (xs ++ news) → w.grownBy w' v.ownBlock → (v'.ownBlock = v.ownBlock ∨ v'.ownBlock = some w.heap.size) → wpList P ops Q rest (a.put o.dst v') w') : wpList P ops Q (o :: rest) a w :=
  wpList_plain hgd fun K hK => by
    obtain ⟨v', w', hr, h2, h3, h4⟩ := run_append_ow (P := P) w base t o.type e ht hinfo hzs hsz v n xs hown A m c news hr h1 h63 hbytes hbase
    unfold Oper.wp execOp
    simp only [ho, resolve, invoke, builtin, Sem.run_bind, Sem.run_pure, Result.andThen_ok, List.map_toArray, List.map_cons, List.map_nil, hs, hx, hr]
    exact hK _ _ (h v' w' h2 h3 h4)
theorem wpListIn_append_ow {F : Fence} {N : Nat} {w : World} {ops : Array Oper} {rest : List Oper} {o : Oper} {a : Act} {Q : Exit → Act → World → Prop} (hgd : o.guard = none) (s x : Operand) (t : TypeId)
    (ho : o.op = .call { callee := .builtin .append, args := #[s, x], argTypes := #[t, t] })
    (base : Nat) (e : TypeId) {z : Value} {size bytes : Nat} (ht : P.underlying t = some (.slice e)) (hinfo : (P.info? e).map (fun i => (i.zero, i.size, i.bytes)) = some (some z, size, bytes)) (hzs : z.cells.size = size) (hsz : 0 < size)
    (v : Value) (n : Nat) (xs : List Value) (hs : a.eval s = v) (hown : OW w base size v n xs)
    (A : Option Addr) (m c : Nat) (news : List Value) (hx : a.eval x = .slice A m c) (hr : Rd w size A m news) (h1 : ∀ u ∈ news, u.oneCell' = true)
    (h63 : n + m ≤ maxLen) (hbytes : (n + m) * bytes ≤ 140737488355328) (hbase : base ≤ w.heap.size)
    (h : ∀ v' w', OW w' base size v' (n + m) (xs ++ news) → w.grownBy w' v.ownBlock → (v'.ownBlock = v.ownBlock ∨ v'.ownBlock = some w.heap.size) → wpListIn F N P ops Q rest (a.put o.dst v') w') : wpListIn F N P ops Q (o :: rest) a w := by
  obtain ⟨v', w', hrun, h2, h3, h4⟩ := run_append_ow (P := P) w base t o.type e ht hinfo hzs hsz v n xs hown A m c news hr h1 h63 hbytes hbase
  refine wpListIn_plain hgd fun K hK' => ?_
  unfold Oper.wpIn
  refine ⟨?_, ?_⟩
  · simp [Oper.about, ho, resolve, Target.leads, Sem.run_pure]
  · rw [Oper.semAt_plain F _ _ (by rw [ho]; intro c hc'; cases hc')]
    have hk := hK' _ _ (h v' w' h2 h3 h4)
    simp [execOp, ho, resolve, invoke, builtin, hs, hx, hrun, Result.andThen]
    exact hk
theorem step_append_ow {w : World} {ops : Array Oper} {o : Oper} {a : Act} {K : Act → World → Prop} {Q : Exit → Act → World → Prop} {E : Prop} (hgd : o.guard = none) (s x : Operand) (t : TypeId)
    (ho : o.op = .call { callee := .builtin .append, args := #[s, x], argTypes := #[t, t] })
    (base : Nat) (e : TypeId) {z : Value} {size bytes : Nat} (ht : P.underlying t = some (.slice e)) (hinfo : (P.info? e).map (fun i => (i.zero, i.size, i.bytes)) = some (some z, size, bytes)) (hzs : z.cells.size = size) (hsz : 0 < size)
    (v : Value) (n : Nat) (xs : List Value) (hs : a.eval s = v) (hown : OW w base size v n xs)
    (A : Option Addr) (m c : Nat) (news : List Value) (hx : a.eval x = .slice A m c) (hr : Rd w size A m news) (h1 : ∀ u ∈ news, u.oneCell' = true)
    (h63 : n + m ≤ maxLen) (hbytes : (n + m) * bytes ≤ 140737488355328) (hbase : base ≤ w.heap.size)
    (h : ∀ v' w', OW w' base size v' (n + m) (xs ++ news) → w.grownBy w' v.ownBlock → (v'.ownBlock = v.ownBlock ∨ v'.ownBlock = some w.heap.size) → K (a.put o.dst v') w') :
    if Region.wanted o (yielded ops a.tmps) = true then Oper.wp P o a w K Q else E := by
  have hw : Region.wanted o (yielded ops a.tmps) = true := by simp [Region.wanted, hgd]
  rw [if_pos hw]
  obtain ⟨v', w', hr, h2, h3, h4⟩ := run_append_ow (P := P) w base t o.type e ht hinfo hzs hsz v n xs hown A m c news hr h1 h63 hbytes hbase
  unfold Oper.wp execOp
  simp only [ho, resolve, invoke, builtin, Sem.run_bind, Sem.run_pure, Result.andThen_ok, List.map_toArray, List.map_cons, List.map_nil, hs, hx, hr]
  exact h v' w' h2 h3 h4
/-- a world behind a growth of a row of the call's own. -/
theorem below_grow {B : Nat} {w0 w w' : World} {v : Value} {base size n : Nat} {xs : List Value} (hb : Below B w0 w) (hB : B ≤ w.heap.size) (hown : OW w base size v n xs) (hbase : B ≤ base) (hg : w.grownBy w' v.ownBlock) : Below B w0 w' :=
  hb.grown hg hB (fun k hk => Nat.le_trans hbase (hown.lt k hk).1)
/-- a string's bytes, as cells. -/
def bcells (s : ByteArray) : List Value := s.data.toList.map fun b => Value.int .u8 b.toNat
theorem bcells_len (s : ByteArray) : (bcells s).length = s.size := by simp only [bcells, List.length_map, Array.length_toList]; rfl
theorem bcells_one (s : ByteArray) : ∀ u ∈ bcells s, u.oneCell' = true := by
  intro u hu
  simp only [bcells, List.mem_map] at hu
  obtain ⟨b, _, rfl⟩ := hu
  rfl
theorem ints_one (k : IntKind) (xs : List Int) : ∀ u ∈ xs.map (Value.int k), u.oneCell' = true := by
  intro u hu
  simp only [List.mem_map] at hu
  obtain ⟨b, _, rfl⟩ := hu
  rfl
theorem conv_below (w : World) (e : TypeId) (s : ByteArray) : Below w.heap.size w (Lib.bytesWorld w e s) := by
  refine ⟨?_, ?_, ?_, by rw [Lib.bytesWorld_size]; omega, fun k hk => Lib.bytesWorld_at_old w e s k hk⟩
  all_goals
    unfold Lib.bytesWorld World.freeze
    split <;> rfl
theorem conv_own (w : World) (base : Nat) (e : TypeId) (s : ByteArray) (hb : base ≤ w.heap.size) (hs : s.size ≤ maxLen) :
    OW (Lib.bytesWorld w e s) base 1 (.slice (some ⟨w.heap.size, 0, none⟩) s.size (grownCap w s.size 0 e)) s.size (bcells s) := by
  have hge := grownCap_ge w s.size 0 e
  have hgm := grownCap_le_maxLen w s.size 0 e hs
  have hnew := Lib.bytesWorld_at_new w e s
  have hsz : (Lib.bytesCells w e s).size = grownCap w s.size 0 e := by
    simp only [Lib.bytesCells, Array.size_append, Array.size_map, Array.size_replicate]
    have : s.data.size = s.size := rfl
    omega
  refine ⟨by simp [bcells_len], .inr ⟨w.heap.size, 0, _, rfl, hb, by rw [Lib.bytesWorld_size]; omega, hge, hgm, fun j u hu => ?_, fun j hj => ?_⟩⟩
  · rw [Nat.zero_add]
    have hj : j < s.size := by rw [← bcells_len]; exact (List.getElem?_eq_some_iff.1 hu).1
    rw [Lib.bytesWorld_cell w e s j hj, ← hu]
    have : j < s.data.toList.length := by simp only [Array.length_toList]; exact hj
    simp only [bcells, List.getElem?_map, List.getElem?_eq_getElem this, Option.map_some, List.getD_eq_getElem?_getD, Option.getD_some]
  · rw [Nat.zero_add]
    constructor
    · simp only [World.cell?, hnew]
      simp [hsz]; omega
    · simp only [World.frozen?, hnew]
      simp [hsz]; omega
/-- bytes as a string. -/
theorem conv_rd {w : World} {p : Option Addr} {n c : Nat} {src e dst : TypeId} (hs : P.underlying src = some (.slice e)) (he : P.underlying e = some (.int .u8)) (xs : List Int) (hr : Rd w 1 p n (xs.map (Value.int .u8))) (hd : P.underlying dst = some .string) :
    (convert src dst (.slice p n c)).run P w = .ok (.string (strOfNums xs)) w := by
  have hl : xs.length = n := by have := hr.1; simpa using this
  rcases Nat.eq_zero_or_pos n with h | h
  · subst h
    obtain rfl : xs = [] := List.eq_nil_of_length_eq_zero hl
    rcases p with _ | a
    · exact run_convert_bytes_nil w src e hs he _ _ dst hd
    · rw [run_convert_bytes_string w src dst e _ _ _ hs he hd]
      simp [Conv.bytesToString, loadCells, loadCellsFrom, strOfNums]
      rfl
  · obtain ⟨b, o, rfl, hc⟩ := hr.2 h
    exact run_convert_bytes_arg w src e hs he b o n c xs hl (fun i hi => hc i _ (by simp [List.getElem?_map, List.getElem?_eq_getElem (show i < xs.length by omega)])) dst hd
/-- a conversion in a drawn region, by what it does. -/
theorem step_conv {w w' : World} {ops : Array Oper} {o : Oper} {a : Act} {K : Act → World → Prop} {Q : Exit → Act → World → Prop} {E : Prop} (hgd : o.guard = none) (src dst : TypeId) (x : Operand) (ho : o.op = .convert src dst x)
    {v : Value} (hr : (convert src dst (a.eval x)).run P w = .ok v w') (h : K (a.put o.dst v) w') :
    if Region.wanted o (yielded ops a.tmps) = true then Oper.wp P o a w K Q else E := by
  have hw : Region.wanted o (yielded ops a.tmps) = true := by simp [Region.wanted, hgd]
  rw [if_pos hw]
  unfold Oper.wp execOp
  simp only [ho, Sem.run_bind, hr, Result.andThen_ok, Sem.run_pure]
  exact h
theorem rd_of_ri {w : World} {k : IntKind} {p : Option Addr} {l : List Int} (h : RI w k p l) : Rd w 1 p l.length (l.map (Value.int k)) := by
  refine ⟨by simp, fun hn => ?_⟩
  obtain ⟨b, o, rfl, _⟩ := h 0 hn
  refine ⟨b, o, rfl, fun j u hu => ?_⟩
  have hj : j < l.length := by
    have := (List.getElem?_eq_some_iff.1 hu).1
    simpa using this
  rw [h.at hj, ← hu]
  simp [hj]
theorem ri_of_rd {w : World} {k : IntKind} {p : Option Addr} {l : List Int} (h : Rd w 1 p l.length (l.map (Value.int k))) : RI w k p l := by
  intro i hi
  obtain ⟨b, o, rfl, hc⟩ := h.2 (by omega)
  exact ⟨b, o, rfl, hc i _ (by simp [hi])⟩
theorem rd_one {w : World} {k : Nat} (hk : k = w.heap.size) (v : Value) (T : TypeId) : Rd (w.alloc (.cells #[v] T)) 1 (some ⟨k, 0, none⟩) 1 [v] :=
  ⟨rfl, fun _ => ⟨k, 0, rfl, fun j u hu => by
    have hj : j < 1 := (List.getElem?_eq_some_iff.1 hu).1
    obtain rfl : j = 0 := by omega
    rw [← hu]
    exact (Bl.new' (W := w) (o := .cells #[v] T) hk).cell 0⟩⟩
end Go.Sed
