/- Laws of the author's own, over any program: a range over a function at the wide fence; blocks known whole; rows of integers and of cells; append. No condition but those that each theorem names. -/
import Derived.RangeFuncNested
import Derived.RangeFuncBound
import Derived.RangeFuncCalls
import Derived.RangeFuncLeaves
import Derived.Shelf.Abstract
import Derived.WalkKit
import Derived.OwnWalkIn
import Derived.Lib.Hide
namespace Go.Sed
open Go.Proofs Go.RowKit
variable {P : Program}

/-- a range over a function at the wide fence, the loop's record laid open: what is asked is the iterator's one call. -/
theorem rf_law {n : Nat} {g : Operand} {ps : Array Tmp} {assign body : Code} {Q : Exit → Act → World → Prop} {a : Act} {w : World} {gf : FuncId} {cap : Array Value}
    (hg : a.eval g = .func (.func gf) #[] cap) (eg : Enters P gf)
    (h : ∀ (fn : FuncId) (r₀ : Loop), Hid (r₀ = { state := .ready, pending := none, fn, tmps := a.tmps, params := ps, assign, body, defers := w.heap.size }) →
      CallsIn Fence.wide (n - 1) P gf (#[.func (.yield (w.heap.size + 1)) #[] #[]] ++ cap)
      ((w.alloc (.deferred (some []))).alloc (.loop r₀))
      (fun e w3 => ∃ v, e = .returned v ∧ ∃ r : Loop, w3.heap[w.heap.size + 1]? = some (.loop r) ∧ r.state ≠ .busy ∧
        (match r.pending with
          | none => Q .normal { a with defers := [{ target := .collected w.heap.size, args := #[] }] ++ a.defers } (w3.putObj (w.heap.size + 1) (.loop { r with state := .exhausted }))
          | some c => c.wpIn Fence.wide n P Q { a with defers := [{ target := .collected w.heap.size, args := #[] }] ++ a.defers } (w3.putObj (w.heap.size + 1) (.loop { r with state := .exhausted }))))) :
    (Code.rangeFunc g ps assign body).wpIn Fence.wide n P Q a w := by
  refine wpIn_rangeFunc ?_
  intro fn _
  have h1 := run_enterLoop_outer (P := P) (w := w) fn a.tmps ps assign body
  generalize hW : ((w.alloc (.deferred (some []))).alloc (.loop { state := .ready, pending := none, fn, tmps := a.tmps, params := ps, assign, body, defers := w.heap.size })) = W at h1
  refine ⟨w.heap.size + 1, [{ target := .collected w.heap.size, args := #[] }], W, { target := .fn (.func gf) cap, args := #[.func (.yield (w.heap.size + 1)) #[] #[]] }, W, gf,
    #[.func (.yield (w.heap.size + 1)) #[] #[]] ++ cap, W, h1, ?_, fun _ _ => trivial, ?_, fun h => by simp [Fence.wide] at h, ?_⟩
  · simp only [resolve, hg]
    simp [go_sem]
  · simp [invoke, go_sem]
    exact eg _ _
  · rw [← hW]
    refine (h fn _ (Lib.hid rfl)).mono ?_
    rintro e w3 ⟨v, rfl, r, hr, hb, hm⟩
    exact ⟨r.pending, _, run_endLoop hr hb, hm⟩

/-- the temporaries of a round: the loop's own, what yield is handed laid over. -/
def rtmps (r : Loop) (args : Array Value) : Array Value := (r.params.zip args).foldl (fun tmps (t, a) => tmps.setIfInBounds t a) r.tmps

/-- one call of yield, the loop's record laid open. -/
theorem yield_law {l m : Nat} {r : Loop} {args tmps : Array Value} {assign body : Code} {W : World} {R : Ending → World → Prop}
    (hl : W.heap[l]? = some (.loop r)) (hs : args.size = r.params.size) (ha : r.assign = assign) (hb : r.body = body) (ht : rtmps r args = tmps)
    (h : assign.wpIn (Fence.wide.inRound l) m P (Exit.then (fun a1 w1 => ∃ r', w1.heap[l]? = some (.loop r') ∧ r'.state = .ready ∧
        body.wpIn (Fence.wide.inRound l) m P (roundPost P l R) a1 (w1.putObj l (.loop { r' with state := .busy }))) (fun _ _ _ => False))
        { tmps := tmps, defers := [] } W) :
    YieldAt Fence.wide m P l args W R := by
  subst ha hb ht
  refine ⟨r.fn, _, r.assign, r.body, run_yield hl hs, roundIn_of_wpIn trivial ?_⟩
  refine wpIn_mono h ?_
  intro e a1 w1 h1
  cases e with
  | normal =>
    obtain ⟨r', h2, h3, h4⟩ := h1
    exact ⟨_, run_beginRound h2 h3, h4⟩
  | exit id => exact h1
  | goto id => exact h1
  | ret => exact h1
  | panic id => exact h1
  | outgrown => exact h1

/-- likewise, at one loop variable. -/
theorem yield_law1 {l m : Nat} {r : Loop} {v : Value} {t0 : Array Value} {p : Tmp} {assign body : Code} {W : World} {R : Ending → World → Prop}
    (hl : W.heap[l]? = some (.loop r)) (hp : r.params = #[p]) (ha : r.assign = assign) (hb : r.body = body) (ht : r.tmps = t0)
    (h : assign.wpIn (Fence.wide.inRound l) m P (Exit.then (fun a1 w1 => ∃ r', w1.heap[l]? = some (.loop r') ∧ r'.state = .ready ∧
        body.wpIn (Fence.wide.inRound l) m P (roundPost P l R) a1 (w1.putObj l (.loop { r' with state := .busy }))) (fun _ _ _ => False))
        { tmps := t0.setIfInBounds p v, defers := [] } W) :
    YieldAt Fence.wide m P l #[v] W R := yield_law hl (by rw [hp]; rfl) ha hb (by simp [rtmps, hp, ht]) h
/-- at two. -/
theorem yield_law2 {l m : Nat} {r : Loop} {u v : Value} {t0 : Array Value} {p q : Tmp} {assign body : Code} {W : World} {R : Ending → World → Prop}
    (hl : W.heap[l]? = some (.loop r)) (hp : r.params = #[p, q]) (ha : r.assign = assign) (hb : r.body = body) (ht : r.tmps = t0)
    (h : assign.wpIn (Fence.wide.inRound l) m P (Exit.then (fun a1 w1 => ∃ r', w1.heap[l]? = some (.loop r') ∧ r'.state = .ready ∧
        body.wpIn (Fence.wide.inRound l) m P (roundPost P l R) a1 (w1.putObj l (.loop { r' with state := .busy }))) (fun _ _ _ => False))
        { tmps := (t0.setIfInBounds p u).setIfInBounds q v, defers := [] } W) :
    YieldAt Fence.wide m P l #[u, v] W R := yield_law hl (by rw [hp]; rfl) ha hb (by simp [rtmps, hp, ht]) h

/-- the end of a round: what 'roundPost' asks, with the record in hand. -/
theorem round_normal {l : Nat} {r : Loop} {R : Ending → World → Prop} {a : Act} {W : World} (hl : W.heap[l]? = some (.loop r))
    (h : R (.returned (.bool true)) (W.putObj l (.loop { r with state := .ready, pending := none }))) : roundPost P l R .normal a W :=
  ⟨_, _, run_endRound none hl, h⟩
theorem round_ret {l : Nat} {r : Loop} {R : Ending → World → Prop} {a : Act} {W : World} (hl : W.heap[l]? = some (.loop r))
    (h : R (.returned (.bool false)) (W.putObj l (.loop { r with state := .done, pending := some .ret }))) : roundPost P l R .ret a W :=
  ⟨_, _, run_endRound (some .ret) hl, h⟩
theorem round_exit {l id : Nat} {r : Loop} {R : Ending → World → Prop} {a : Act} {W : World} (hl : W.heap[l]? = some (.loop r))
    (h : R (.returned (.bool false)) (W.putObj l (.loop { r with state := .done, pending := some (.exit id) }))) : roundPost P l R (.exit id) a W :=
  ⟨_, _, run_endRound (some (.exit id)) hl, h⟩

/-! Blocks known whole. -/
def Bl (W : World) (k : Nat) (o : Obj) : Prop := W.heap[k]? = some o
theorem Bl.lt {W : World} {k : Nat} {o : Obj} (h : Bl W k o) : k < W.heap.size := (Array.getElem?_eq_some_iff.1 h).1
theorem Bl.alloc {W : World} {k : Nat} {o : Obj} (h : Bl W k o) (o' : Obj) : Bl (W.alloc o') k o := by
  have hl := h.lt
  unfold Bl at *; rw [Below.heap_alloc _ _ _ hl]; exact h
theorem Bl.new (W : World) (o : Obj) : Bl (W.alloc o) W.heap.size o := World.alloc_heap_new W o
theorem Bl.new' {W : World} {o : Obj} {k : Nat} (h : k = W.heap.size) : Bl (W.alloc o) k o := h ▸ Bl.new W o
theorem Bl.drew {W : World} {k : Nat} {o : Obj} (h : Bl W k o) : Bl W.drew k o := h
theorem Bl.set {W : World} {k : Nat} {o : Obj} (h : Bl W k o) {b i : Nat} (v : Value) (hne : k ≠ b) : Bl (W.setCell ⟨b, i, none⟩ v) k o := by
  unfold Bl at *; rw [Below.heap_setCell _ _ _ _ hne]; exact h
theorem Bl.put {W : World} {k : Nat} {o : Obj} (h : Bl W k o) {r : Nat} (o' : Obj) (hne : k ≠ r) : Bl (W.putObj r o') k o := by
  unfold Bl at *; rw [World.putObj_heap_other hne]; exact h
theorem Bl.putSame {W : World} {k : Nat} {o : Obj} (h : Bl W k o) (o' : Obj) : Bl (W.putObj k o') k o' := World.putObj_heap_same h.lt
theorem Bl.setSame {W : World} {k : Nat} {c : Array Value} {T : TypeId} {fz : Nat × Nat} (h : Bl W k (.cells c T fz)) (i : Nat) (v : Value) :
    Bl (W.setCell ⟨k, i, none⟩ v) k (.cells (c.setIfInBounds i v) T fz) := by
  unfold Bl at *
  have hlt := (Array.getElem?_eq_some_iff.1 h).1
  have he := (Array.getElem?_eq_some_iff.1 h).2
  simp only [World.setCell]
  rw [Array.getElem?_modify]
  simp [hlt, he]
theorem Bl.below {B : Nat} {w W : World} {k : Nat} {o : Obj} (h : Bl w k o) (hb : Below B w W) (hk : k < B) : Bl W k o := by
  unfold Bl at *; rw [hb.block k hk]; exact h
theorem Bl.keep {w W : World} {k : Nat} {o : Obj} (h : Bl w k o) (hb : Below w.heap.size w W) : Bl W k o := h.below hb h.lt
theorem Bl.cell {W : World} {k : Nat} {c : Array Value} {T : TypeId} {fz : Nat × Nat} (h : Bl W k (.cells c T fz)) (i : Nat) : W.cell? ⟨k, i, none⟩ = c[i]? := by
  unfold Bl at h; simp [World.cell?, h]
theorem Bl.frozen {W : World} {k : Nat} {c : Array Value} {T : TypeId} (h : Bl W k (.cells c T (0, 0))) (i : Nat) : W.frozen? ⟨k, i, none⟩ = false := by
  unfold Bl at h; simp [World.frozen?, h]
theorem Bl.cell1 {W : World} {k : Nat} {v : Value} {T : TypeId} {fz : Nat × Nat} (h : Bl W k (.cells #[v] T fz)) : W.cell? ⟨k, 0, none⟩ = some v := by
  rw [h.cell 0]; rfl
theorem Bl.setSame1 {W : World} {k : Nat} {u : Value} {T : TypeId} {fz : Nat × Nat} (h : Bl W k (.cells #[u] T fz)) (v : Value) :
    Bl (W.setCell ⟨k, 0, none⟩ v) k (.cells #[v] T fz) := h.setSame 0 v
theorem below_put {B : Nat} {a w : World} (h : Below B a w) {r : Nat} (hr : B ≤ r) (o : Obj) : Below B a (w.putObj r o) :=
  ⟨h.os, h.tape, h.output, by rw [World.putObj_size]; exact h.size, fun k hk => by rw [World.putObj_heap_other (by omega)]; exact h.block k hk⟩
/-- a cell that is there stays where nothing that was is changed. -/
theorem cell_lt {w : World} {b o : Nat} {v : Value} (h : w.cell? ⟨b, o, none⟩ = some v) : b < w.heap.size := by
  unfold World.cell? at h
  cases e : w.heap[b]? with
  | none => simp [e] at h
  | some o => exact (Array.getElem?_eq_some_iff.1 e).1
theorem cell_keep {w w' : World} (hb : Below w.heap.size w w') {a : Addr} {v : Value} (h : w.cell? a = some v) : w'.cell? a = some v := by
  have : a.block < w.heap.size := by
    unfold World.cell? at h
    cases e : w.heap[a.block]? with
    | none => simp [e] at h
    | some o => exact (Array.getElem?_eq_some_iff.1 e).1
  rw [hb.cell this]; exact h
/-- a cell behind the making of a block. -/
theorem cellA (w : World) (c : Array Value) (t : TypeId) (fz : Nat × Nat) (k i : Nat) : (w.alloc (.cells c t fz)).cell? ⟨k, i, none⟩ = if k = w.heap.size then c[i]? else w.cell? ⟨k, i, none⟩ := by
  split
  · exact (Bl.new' (by assumption)).cell i
  · exact World.cell?_of_block (a := ⟨k, i, none⟩) (by simp only [World.alloc]; rw [Array.getElem?_push]; split; contradiction; rfl)
theorem below_alloc {B : Nat} {a w : World} (h : Below B a w) (hb : B ≤ w.heap.size) (o : Obj) : Below B a (w.alloc o) ∧ B ≤ (w.alloc o).heap.size := ⟨h.alloc hb o, by simp; omega⟩
theorem run_zero {P : Program} {t : TypeId} {z : Value} (h : (P.info? t).map (·.zero) = some (some z)) (w : World) : (zeroValue t).run P w = .ok z w := by
  cases hi : P.info? t with
  | none => simp [hi] at h
  | some i =>
    rw [hi] at h
    simp only [Option.map_some, Option.some.injEq] at h
    simp [zeroValue, typeInfo, hi, h]
theorem below_then {a b c : World} (h : Below a.heap.size a b) (k : Below b.heap.size b c) : Below a.heap.size a c := h.trans (k.mono h.size)
theorem below_thenGrown {a b c : World} {row : Option Nat} (h : Below a.heap.size a b) (hg : b.grownBy c row) (hr : ∀ k, row = some k → a.heap.size ≤ k) : Below a.heap.size a c :=
  h.grown hg h.size hr
/-- integers that a slice's place holds. -/
def RI (w : World) (k : IntKind) (p : Option Addr) (l : List Int) : Prop :=
  ∀ i, i < l.length → ∃ b o, p = some ⟨b, o, none⟩ ∧ w.cell? ⟨b, o + i, none⟩ = some (.int k (l.getD i 0))
theorem RI.keep {w w' : World} {k : IntKind} {p : Option Addr} {l : List Int} (h : RI w k p l) (hb : Below w.heap.size w w') : RI w' k p l := by
  intro i hi
  obtain ⟨b, o, rfl, hc⟩ := h i hi
  exact ⟨b, o, rfl, cell_keep hb hc⟩
theorem RI.at {w : World} {k : IntKind} {b o : Nat} {l : List Int} (h : RI w k (some ⟨b, o, none⟩) l) {i : Nat} (hi : i < l.length) :
    w.cell? ⟨b, o + i, none⟩ = some (.int k (l.getD i 0)) := by
  obtain ⟨b', o', e1, hc⟩ := h i hi
  simp only [Option.some.injEq, Addr.mk.injEq, and_true] at e1
  obtain ⟨rfl, rfl⟩ := e1
  exact hc

/-! Rows of integers. -/
def ci (k : IntKind) (xs : List Int) : Array Value := (xs.map (Value.int k)).toArray
theorem ci_size (k : IntKind) (xs : List Int) : (ci k xs).size = xs.length := by simp [ci]
theorem ci_get (k : IntKind) (xs : List Int) (i : Nat) (h : i < xs.length) : (ci k xs)[i]? = some (.int k (xs[i]?.getD 0)) := by simp [ci, h]
theorem ci_set (k : IntKind) (xs : List Int) (i : Nat) (v : Int) : (ci k xs).setIfInBounds i (.int k v) = ci k (xs.set i v) := by
  simp [ci, List.map_set]
theorem Bl.int {W : World} {b : Nat} {k : IntKind} {xs : List Int} {T : TypeId} {fz : Nat × Nat} (h : Bl W b (.cells (ci k xs) T fz)) (i : Nat) (hi : i < xs.length) :
    W.cell? ⟨b, i, none⟩ = some (.int k (xs[i]?.getD 0)) := by rw [h.cell]; exact ci_get k xs i hi
theorem Bl.setInt {W : World} {b : Nat} {k : IntKind} {xs : List Int} {T : TypeId} {fz : Nat × Nat} (h : Bl W b (.cells (ci k xs) T fz)) (i : Nat) (v : Int) :
    Bl (W.setCell ⟨b, i, none⟩ (.int k v)) b (.cells (ci k (xs.set i v)) T fz) := by rw [← ci_set]; exact h.setSame i _
theorem Bl.RI {W : World} {b : Nat} {k : IntKind} {xs : List Int} {T : TypeId} {fz : Nat × Nat} (h : Bl W b (.cells (ci k xs) T fz)) : RI W k (some ⟨b, 0, none⟩) xs :=
  fun i hi => ⟨b, 0, rfl, by rw [Nat.zero_add, h.int i hi]; simp⟩
theorem madeCells_ints (k : IntKind) (n : Nat) : madeCells #[.int k 0] n = ci k (List.replicate n 0) := by
  apply Array.ext
  · simp [size_madeCells, ci_size]
  · intro i h1 h2
    simp [madeCells, ci, Nat.mod_one]
theorem run_make_ints {t e : TypeId} {k : IntKind} {bytes : Nat} (ht : P.underlying t = some (.slice e))
    (hinfo : (P.info? e).map (fun i => (i.zero, i.size, i.bytes)) = some (some (.int k 0), 1, bytes)) (x : Int) (n : Nat) (hx : x = n) (hb : bytes * n ≤ 281474976710656) (h63 : n ≤ 9223372036854775807) (w : World) :
    (Instr.makeSlice t (.int .i64 x) (.int .i64 x)).run P w = .ok (.slice (some ⟨w.heap.size, 0, none⟩) n n) (w.alloc (.cells (ci k (List.replicate n 0)) e)) := by
  obtain ⟨i, hi, hz0, hz1, hz2⟩ := info_parts hinfo
  subst hx
  have := run_make (P := P) w t e i (.int k 0) ht hi hz0 .i64 .i64 n n (by omega) (by omega) (by rw [hz2, ← Int.natCast_mul]; omega) (by omega)
  rw [this, hz1]
  rw [Int.toNat_natCast, Nat.mul_one]
  simp only [Value.cells, madeCells_ints]

/-! Slices that read as rows of cells, nil among them. -/
theorem add_block (a : Addr) (n : Nat) : (a.add n).block = a.block := by unfold Addr.add; split <;> rfl
theorem add_add (a : Addr) (i j : Nat) : (a.add i).add j = a.add (i + j) := by
  unfold Addr.add
  by_cases hi : i = 0 <;> by_cases hj : j = 0 <;> simp [hi, hj, Nat.add_assoc]
theorem add_mk (b o n : Nat) : (⟨b, o, none⟩ : Addr).add n = ⟨b, o + n, none⟩ := by
  unfold Addr.add; split
  · simp [*]
  · rfl
/-- the slice value of address A holds n elements of so many cells: xs. -/
def Rd (w : World) (size : Nat) (A : Option Addr) (n : Nat) (xs : List Value) : Prop :=
  xs.length = n * size ∧ (0 < n → ∃ b o, A = some ⟨b, o, none⟩ ∧ ∀ j u, xs[j]? = some u → w.cell? ⟨b, o + j, none⟩ = some u)
theorem Rd.nil (w : World) (size : Nat) (A : Option Addr) : Rd w size A 0 [] := ⟨by simp, fun h => absurd h (by omega)⟩
theorem Rd.keep {w w' : World} {size n : Nat} {A : Option Addr} {xs : List Value} (h : Rd w size A n xs) (hb : Below w.heap.size w w') : Rd w' size A n xs :=
  ⟨h.1, fun hn => by
    obtain ⟨b, o, e, hc⟩ := h.2 hn
    exact ⟨b, o, e, fun j u hu => cell_keep hb (hc j u hu)⟩⟩
theorem Rd.at1 {w : World} {n : Nat} {A : Option Addr} {xs : List Value} (h : Rd w 1 A n xs) {k : Nat} (hk : k < n) :
    ∃ b o u, A = some ⟨b, o, none⟩ ∧ xs[k]? = some u ∧ w.cell? ⟨b, o + k, none⟩ = some u := by
  obtain ⟨b, o, e, hc⟩ := h.2 (by omega)
  have hl : k < xs.length := by have := h.1; omega
  exact ⟨b, o, xs[k], e, List.getElem?_eq_getElem hl, hc k _ (List.getElem?_eq_getElem hl)⟩
theorem Rd.of_own {w : World} {base size n c : Nat} {e : TypeId} {A : Option Addr} {xs : List Value} (h : w.ownsRow base e size (.slice A n c) n xs) : Rd w size A n xs := by
  refine ⟨h.1, fun hn => ?_⟩
  rcases h.2 with ⟨hv, h0⟩ | ⟨g, cap, cur, hv, _, _, _⟩
  · omega
  · have hA : A = some ⟨g, 0, none⟩ := by injection hv
    subst hA
    exact ⟨g, 0, rfl, fun j u hu => by have := h.cells (g := g) rfl j u hu; rwa [add_mk] at this⟩
/-- append onto a row of the call's own, the source nil or not. -/
theorem run_append_rd (w : World) (base : Nat) (t ty e : TypeId) (i : TypeInfo) (z : Value) (size bytes : Nat) (ht : P.underlying t = some (.slice e)) (hi : P.info? e = some i) (hz : i.zero = some z)
    (hsize : i.size = size) (hby : i.bytes = bytes) (hzs : z.cells.size = size) (hsz : 0 < size)
    (v : Value) (n : Nat) (xs : List Value) (hown : w.ownsRow base e size v n xs) (A : Option Addr) (m c : Nat) (news : List Value) (hr : Rd w size A m news) (h1 : ∀ u ∈ news, u.oneCell' = true)
    (h63 : n + m ≤ maxLen) (hbytes : (n + m) * bytes ≤ 140737488355328) (hbase : base ≤ w.heap.size) :
    ∃ v' w', (Builtin.append_ #[t, t] ty #[v, .slice A m c]).run P w = .ok v' w' ∧ w'.ownsRow base e size v' (n + m) (xs ++ news) ∧ w.grownBy w' v.ownBlock := by
  rcases A with _ | ad
  · have hm : m = 0 := by
      rcases Nat.eq_zero_or_pos m with h | h
      · exact h
      · obtain ⟨b, o, e, _⟩ := hr.2 h; cases e
    subst hm
    have hn : news = [] := List.eq_nil_of_length_eq_zero (by simpa using hr.1)
    subst hn
    refine ⟨v, w, ?_, by simpa using hown, ⟨rfl, rfl, rfl, Nat.le_refl _, fun _ _ _ => rfl⟩⟩
    rcases hown.2 with ⟨rfl, rfl⟩ | ⟨g, cap, cur, rfl, _, _, hnc, _⟩
    · simp [Builtin.append_, run_underlying ht, sizeOf, typeInfo, hi, Builtin.lenOf, Builtin.firstCells]
    · simp [Builtin.append_, run_underlying ht, sizeOf, typeInfo, hi, Builtin.lenOf, Builtin.firstCells, hnc, storeCells]
  · have hcells : ∀ j u, news[j]? = some u → w.cell? (ad.add j) = some u := by
      intro j u hu
      rcases Nat.eq_zero_or_pos m with h0 | h0
      · subst h0
        have hn : news = [] := List.eq_nil_of_length_eq_zero (by simpa using hr.1)
        subst hn
        simp at hu
      · obtain ⟨b, o, e, hc⟩ := hr.2 h0
        injection e with e
        subst e
        rw [add_mk]; exact hc j u hu
    obtain ⟨v', w', hrun, h2, h3, _⟩ := run_append_own (P := P) w base t ty e i z size bytes ht hi hz hsize hby hzs hsz v n xs hown ad m c news hr.1 hcells h1 h63 hbytes hbase
    exact ⟨v', w', hrun, h2, h3⟩
/-- what an append leaves: the row, and what became of the world. -/
theorem run_append_info (w : World) (base : Nat) (t ty e : TypeId) {z : Value} {size bytes : Nat} (ht : P.underlying t = some (.slice e))
    (hinfo : (P.info? e).map (fun i => (i.zero, i.size, i.bytes)) = some (some z, size, bytes)) (hzs : z.cells.size = size) (hsz : 0 < size)
    (v : Value) (n : Nat) (xs : List Value) (hown : w.ownsRow base e size v n xs) (A : Option Addr) (m c : Nat) (news : List Value) (hr : Rd w size A m news) (h1 : ∀ u ∈ news, u.oneCell' = true)
    (h63 : n + m ≤ maxLen) (hbytes : (n + m) * bytes ≤ 140737488355328) (hbase : base ≤ w.heap.size) :
    ∃ v' w', (Builtin.append_ #[t, t] ty #[v, .slice A m c]).run P w = .ok v' w' ∧ w'.ownsRow base e size v' (n + m) (xs ++ news) ∧ w.grownBy w' v.ownBlock := by
  obtain ⟨i, hi, hz0, hz1, hz2⟩ := info_parts hinfo
  exact run_append_rd w base t ty e i z size bytes ht hi hz0 hz1 hz2 hzs hsz v n xs hown A m c news hr h1 h63 hbytes hbase
theorem wpList_append_rd {w : World} {ops : Array Oper} {rest : List Oper} {o : Oper} {a : Act} {Q : Exit → Act → World → Prop} (hgd : o.guard = none) (s x : Operand) (t : TypeId)
    (ho : o.op = .call { callee := .builtin .append, args := #[s, x], argTypes := #[t, t] })
    (base : Nat) (e : TypeId) {z : Value} {size bytes : Nat} (ht : P.underlying t = some (.slice e)) (hinfo : (P.info? e).map (fun i => (i.zero, i.size, i.bytes)) = some (some z, size, bytes)) (hzs : z.cells.size = size) (hsz : 0 < size)
    (v : Value) (n : Nat) (xs : List Value) (hs : a.eval s = v) (hown : w.ownsRow base e size v n xs)
    (A : Option Addr) (m c : Nat) (news : List Value) (hx : a.eval x = .slice A m c) (hr : Rd w size A m news) (h1 : ∀ u ∈ news, u.oneCell' = true)
    (h63 : n + m ≤ maxLen) (hbytes : (n + m) * bytes ≤ 140737488355328) (hbase : base ≤ w.heap.size)
    (h : ∀ v' w', w'.ownsRow base e size v' (n + m) (xs ++ news) → w.grownBy w' v.ownBlock → wpList P ops Q rest (a.put o.dst v') w') : wpList P ops Q (o :: rest) a w :=
  wpList_plain hgd fun K hK => by
    obtain ⟨v', w', hr, h2, h3⟩ := run_append_info (P := P) w base t o.type e ht hinfo hzs hsz v n xs hown A m c news hr h1 h63 hbytes hbase
    unfold Oper.wp execOp
    simp only [ho, resolve, invoke, builtin, Sem.run_bind, Sem.run_pure, Result.andThen_ok, List.map_toArray, List.map_cons, List.map_nil, hs, hx, hr]
    exact hK _ _ (h v' w' h2 h3)
theorem ownsRow_shape {w : World} {base size n : Nat} {e : TypeId} {v : Value} {xs : List Value} (h : w.ownsRow base e size v n xs) :
    ∃ A c, v = .slice A n c ∧ Rd w size A n xs ∧ n ≤ c ∧ c ≤ maxLen ∧ ∀ a, A = some a → base ≤ a.block ∧ a.block < w.heap.size := by
  rcases h.2 with ⟨rfl, rfl⟩ | ⟨g, cap, cur, rfl, hb, hh, hn, hc, _, _⟩
  · exact ⟨none, 0, rfl, Rd.of_own h, Nat.le_refl _, by unfold maxLen; omega, fun a h => by cases h⟩
  · exact ⟨_, _, rfl, Rd.of_own h, hn, hc, fun a h => by cases h; exact ⟨hb, (Array.getElem?_eq_some_iff.1 hh).1⟩⟩
/-- nothing that was below B is changed by a growth of a row at or beyond B. -/
theorem below_grown {B base size n : Nat} {e : TypeId} {w0 w w' : World} {v : Value} {xs : List Value} (hb : Below B w0 w) (hB : B ≤ w.heap.size) (hown : w.ownsRow base e size v n xs) (hbase : B ≤ base) (hg : w.grownBy w' v.ownBlock) : Below B w0 w' :=
  hb.grown hg hB (fun k hk => Nat.le_trans hbase (hown.lt k hk).1)
/-- the address of a row that holds a cell has no spot. -/
theorem row_at {w : World} {a : Addr} {xs : List Value} (h0 : 0 < xs.length) (h : ∀ i, i < xs.length → w.cell? (a.add i) = xs[i]?) :
    a = ⟨a.block, a.off, none⟩ ∧ ∀ i u, xs[i]? = some u → w.cell? ⟨a.block, a.off + i, none⟩ = some u := by
  have h1 := h 0 h0
  rw [List.getElem?_eq_getElem h0] at h1
  have hs : a.spot = none := by
    cases e : a.spot with
    | none => rfl
    | some s =>
      exfalso
      unfold World.cell? at h1
      simp only [Addr.add, if_true] at h1
      split at h1
      · rw [e] at h1; simp at h1
      · cases h1
  have ha : a = ⟨a.block, a.off, none⟩ := by rw [← hs]
  refine ⟨ha, fun i u hu => ?_⟩
  have hl : i < xs.length := (List.getElem?_eq_some_iff.1 hu).1
  have := h i hl
  rw [ha, add_mk] at this
  rw [this]; exact hu
/-! Shifts by a count that is no numeral. -/
theorem run_shr {kx ky : IntKind} (x y : Int) (c : Nat) (hy : y = c) (hc : c ≤ kx.bits) (w : World) : (Op.shift .shr kx x ky y).run P w = .ok (.int kx (x / 2 ^ c)) w := by
  subst hy
  unfold Op.shift
  rw [if_neg (by omega)]
  have h1 : min c kx.bits = c := by omega
  have h2 : x.fdiv (2 ^ c) = x / 2 ^ c := Int.fdiv_eq_ediv_of_nonneg x (Int.le_of_lt (Int.pow_pos (by omega)))
  simp [h1, h2]
theorem run_shl {kx ky : IntKind} (x y : Int) (c : Nat) (hy : y = c) (hc : c ≤ kx.bits) (w : World) : (Op.shift .shl kx x ky y).run P w = .ok (.int kx (kx.wrap (x * 2 ^ c))) w := by
  subst hy
  unfold Op.shift
  rw [if_neg (by omega)]
  have h1 : min c kx.bits = c := by omega
  simp [h1]
theorem Bl.rd {W : World} {b n : Nat} {k : IntKind} {xs : List Int} {T : TypeId} {fz : Nat × Nat} (h : Bl W b (.cells (ci k xs) T fz)) (hn : xs.length = n) : Rd W 1 (some ⟨b, 0, none⟩) n (xs.map (Value.int k)) := by
  refine ⟨by simp [hn], fun _ => ⟨b, 0, rfl, fun j u hu => ?_⟩⟩
  rw [Nat.zero_add, h.cell]
  simpa [ci] using hu
end Go.Sed
