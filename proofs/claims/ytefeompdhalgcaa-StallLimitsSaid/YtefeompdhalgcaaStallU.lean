/- Elements written in a row of the call's own; clear; slices.DeleteFunc over asks. -/
import Derived.Test.YtefeompdhalgcaaProg
import Derived.RangeFuncNested
import Derived.RangeFuncBound
import Derived.RangeFuncCalls
import Derived.RangeFuncLeaves
import Derived.Shelf.Abstract
import Derived.Shelf.RegionOpen
import Derived.WalkKit
import Derived.OwnWalkIn
import Derived.TacticsInMore
import Derived.LoopNIn
import Derived.LoopIn
import Derived.Lib.Hide
import Derived.Outline
import Derived.RegionTactic
import Derived.BigRegion
import Derived.WalkLawsBesides
import Derived.WalkSpells
import Derived.Deep.QuietTactic
import Derived.BigQuiet
import Derived.Deep.RegionHeld3
import Derived.Lib.Bytealg
import Derived.Lib.ConvBytes
import Derived.Laws.BytesArg
import Derived.Test.YtefeompdhalgcaaSed
import Derived.Test.YtefeompdhalgcaaOwn
import Derived.Deep.DeepCutAuto
import Derived.Deep.CutBlock
import Derived.StillTailTactics
import Derived.WalkSmall
import Derived.Laws.IdiomCopy
import Derived.Lib.SliceRun
import Derived.Test.YtefeompdhalgcaaStallS
namespace Go.Sed
variable {P : Program}
theorem OW.setElem {w : World} {base size n i g o c : Nat} {xs news : List Value} (h : OW w base size (.slice (some ⟨g, o, none⟩) n c) n xs) (hi : i < n) (hl : news.length = size) :
    OW (w.setCells g (o + i * size) news) base size (.slice (some ⟨g, o, none⟩) n c) n (xs.take (i * size) ++ news ++ xs.drop (i * size + size)) := by
  obtain ⟨h1, h2⟩ := h
  have hle : i * size + size ≤ n * size := by have := Nat.mul_le_mul_right size hi; rw [Nat.succ_mul] at this; exact this
  have htl : (xs.take (i * size)).length = i * size := by rw [List.length_take]; omega
  refine ⟨by simp only [List.length_append, List.length_take, List.length_drop]; omega, ?_⟩
  rcases h2 with ⟨e, _⟩ | ⟨g', o', c', e, hb, hg, hn, hm, hc, hf⟩
  · cases e
  · simp only [Value.slice.injEq, Option.some.injEq, Addr.mk.injEq, and_true, true_and] at e
    obtain ⟨⟨rfl, rfl⟩, rfl⟩ := e
    have hsz := setCells_same g news (o + i * size) w
    have hcn : n * size ≤ c * size := Nat.mul_le_mul_right size hn
    have hin : ∀ j, j < news.length → (w.cell? ⟨g, o + i * size + j, none⟩).isSome = true := fun j hj => by
      have := (hf (i * size + j) (by omega)).1
      rwa [show o + i * size + j = o + (i * size + j) by omega]
    refine .inr ⟨g, o, c, rfl, hb, by omega, hn, hm, fun j u hu => ?_, fun j hj => ?_⟩
    · by_cases hj1 : j < i * size
      · rw [World.cell?_setCells_out _ _ _ _ _ (fun _ _ => .inl (by simp only; omega))]
        refine hc j u ?_
        rw [List.append_assoc, List.getElem?_append_left (by omega), List.getElem?_take] at hu
        simpa [hj1] using hu
      · by_cases hj2 : j < i * size + size
        · have := World.cell?_setCells_in g news (o + i * size) w hin (j - i * size) (by omega)
          rw [show o + i * size + (j - i * size) = o + j by omega] at this
          rw [this, ← hu, List.append_assoc, List.getElem?_append_right (by omega), List.getElem?_append_left (by omega), htl, List.getElem?_eq_getElem (by omega)]
        · rw [World.cell?_setCells_out _ _ _ _ _ (fun _ _ => .inr (by simp only; omega))]
          refine hc j u ?_
          rw [List.getElem?_append_right (by simp only [List.length_append]; omega), List.getElem?_drop] at hu
          simp only [List.length_append, htl, hl] at hu
          rwa [show i * size + size + (j - (i * size + size)) = j by omega] at hu
    · obtain ⟨q1, q2⟩ := hf j hj
      refine ⟨?_, by rw [World.frozen?_setCells]; exact q2⟩
      by_cases hj1 : i * size ≤ j ∧ j < i * size + size
      · have := World.cell?_setCells_in g news (o + i * size) w hin (j - i * size) (by omega)
        rw [show o + i * size + (j - i * size) = o + j by omega] at this
        rw [this]; rfl
      · rw [World.cell?_setCells_out _ _ _ _ _ (fun _ _ => by simp only; omega)]
        exact q1
/-- the first elements, whatever is written behind them. -/
theorem OW.head {w : World} {base size n i g o c : Nat} {xs vs : List Value} (h : OW w base size (.slice (some ⟨g, o, none⟩) n c) n xs) (hi : i ≤ n) (hl : i * size + vs.length ≤ c * size) :
    OW (w.setCells g (o + i * size) vs) base size (.slice (some ⟨g, o, none⟩) i c) i (xs.take (i * size)) := by
  obtain ⟨h1, h2⟩ := h
  have hle : i * size ≤ n * size := Nat.mul_le_mul_right size hi
  refine ⟨by rw [List.length_take]; omega, ?_⟩
  rcases h2 with ⟨e, _⟩ | ⟨g', o', c', e, hb, hg, hn, hm, hc, hf⟩
  · cases e
  · simp only [Value.slice.injEq, Option.some.injEq, Addr.mk.injEq, and_true, true_and] at e
    obtain ⟨⟨rfl, rfl⟩, rfl⟩ := e
    have hsz := setCells_same g vs (o + i * size) w
    have hin : ∀ j, j < vs.length → (w.cell? ⟨g, o + i * size + j, none⟩).isSome = true := fun j hj => by
      have := (hf (i * size + j) (by omega)).1
      rwa [show o + i * size + j = o + (i * size + j) by omega]
    refine .inr ⟨g, o, c, rfl, hb, by omega, by omega, hm, fun j u hu => ?_, fun j hj => ?_⟩
    · have hj1 : j < i * size := by have := (List.getElem?_eq_some_iff.1 hu).1; rw [List.length_take] at this; omega
      rw [World.cell?_setCells_out _ _ _ _ _ (fun _ _ => .inl (by simp only; omega))]
      refine hc j u ?_
      rw [List.getElem?_take] at hu
      simpa [hj1] using hu
    · obtain ⟨q1, q2⟩ := hf j hj
      refine ⟨?_, by rw [World.frozen?_setCells]; exact q2⟩
      by_cases hj1 : i * size ≤ j ∧ j < i * size + vs.length
      · have := World.cell?_setCells_in g vs (o + i * size) w hin (j - i * size) (by omega)
        rw [show o + i * size + (j - i * size) = o + j by omega] at this
        rw [this]; rfl
      · rw [World.cell?_setCells_out _ _ _ _ _ (fun _ _ => by simp only; omega)]
        exact q1
theorem OW.free {w : World} {base size n g o c : Nat} {xs : List Value} (h : OW w base size (.slice (some ⟨g, o, none⟩) n c) n xs) {j : Nat} (hj : j < c * size) : (w.cell? ⟨g, o + j, none⟩).isSome = true ∧ w.frozen? ⟨g, o + j, none⟩ = false := by
  rcases h.2 with ⟨e, _⟩ | ⟨g', o', c', e, hb, hg, hn, hm, hc, hf⟩
  · cases e
  · simp only [Value.slice.injEq, Option.some.injEq, Addr.mk.injEq, and_true, true_and] at e
    obtain ⟨⟨rfl, rfl⟩, rfl⟩ := e
    exact hf j hj
theorem OW.capLe {w : World} {base size n c : Nat} {p : Option Addr} {xs : List Value} (h : OW w base size (.slice p n c) n xs) : n ≤ c := by
  obtain ⟨A, c', e, _, h2, _⟩ := h.shape
  simp only [Value.slice.injEq, true_and] at e
  rw [e.2]; exact h2
theorem zeroCells_one {z : Value} (h1 : ∀ u ∈ z.cells.toList, u.oneCell' = true) (n : Nat) : ∀ u ∈ (Builtin.zeroCells z.cells n).toList, u.oneCell' = true := by
  intro u hu
  simp only [Builtin.zeroCells, Array.toList_map, Array.toList_range, List.mem_map, List.mem_range] at hu
  obtain ⟨i, hi, rfl⟩ := hu
  have hp : 0 < z.cells.size := by
    rcases Nat.eq_zero_or_pos z.cells.size with h | h
    · rw [h] at hi; simp at hi
    · exact h
  have hm : i % z.cells.size < z.cells.size := Nat.mod_lt _ hp
  rw [getElem!_pos z.cells _ hm]
  exact h1 _ (by simp)
theorem run_clear_any (w : World) (t e ty : TypeId) (z : Value) (ht : P.underlying t = some (.slice e)) (hv : ∀ w, (zeroValue e).run P w = .ok z w) (h1 : ∀ u ∈ z.cells.toList, u.oneCell' = true) (b o n c : Nat) (hn : 0 < n)
    (hc : ∀ j, j < n * z.cells.size → (w.cell? ⟨b, o + j, none⟩).isSome = true) (hf : ∀ j, j < n * z.cells.size → w.frozen? ⟨b, o + j, none⟩ = false) :
    (Builtin.clear_ #[t] ty #[.slice (some ⟨b, o, none⟩) n c]).run P w = .ok (.tuple #[]) (w.setCells b o (Builtin.zeroCells z.cells n).toList) := by
  have hsz : (Builtin.zeroCells z.cells n).toList.length = n * z.cells.size := by rw [Array.length_toList, size_zeroCells]
  have hst := run_storeCells_cells (P := P) b o (Builtin.zeroCells z.cells n).toList 0 w (by simpa [hsz] using hc) (by simpa [hsz] using hf) (zeroCells_one h1 n)
  simp only [Nat.add_zero] at hst
  obtain ⟨m, rfl⟩ : ∃ m, n = m + 1 := ⟨n - 1, by omega⟩
  simp [Builtin.clear_, run_underlying ht, hv, hst]
end Go.Sed
namespace Go.Proofs.Ytefeompdhalgcaa
open Go.RowKit Go.Sed
set_option maxHeartbeats 1000000
def cnt (who : Int) (l : List A3) : Int := ((l.filter fun a => a.1 == who).length : Nat)
/-- the closure of a drop: is it somebody's? -/
theorem del_any (a : A3) (who n : Int) (bw bn : Nat) (w : World) (hw : w.cell? ⟨bw, 0, none⟩ = some (.int .i64 who)) (hb : Bl w bn (.cells #[.int .i64 n] 3 (0, 0))) (hne : bw ≠ bn) (hn : 0 ≤ n ∧ n ≤ 100000) :
    Calls Try.prog 34 #[aV a, .pointer (some ⟨bw, 0, none⟩), .pointer (some ⟨bn, 0, none⟩)] w fun e w' => e = .returned (.bool (a.1 == who)) ∧ Bl w' bn (.cells #[.int .i64 (if a.1 = who then n + 1 else n)] 3 (0, 0)) ∧ Fr (fun k => k = bn) w w' := by
  obtain ⟨a1, a2, a3⟩ := a
  have k0 : w.cell? ⟨bn, 0, none⟩ = some (.int .i64 n) := hb.cell 0
  have f0 := hb.frozen 0
  have hbl : bn < w.heap.size := hb.lt
  have hwl : bw < w.heap.size := cell_lt hw
  have hx1 : ¬ bn = bw := fun e => hne e.symm
  have hw1 : wrap64 (n + 1) = n + 1 := by unfold wrap64; omega
  have hn1 := hn.1
  have hn2 := hn.2
  unfold aV
  simp only
  by_cases he : a1 = who
  · subst he
    have hbq : (a1 == a1) = true := beq_self_eq_true _
    rw [if_pos rfl]
    replace hb := Lib.hid hb
    go_enter Try.func34, Try.ntmps34
    go_wp2_with fail
    go_ret
    exact ⟨by rw [hbq]; rfl, (Bl.setSame hb.out 0 _).alloc _, ((Fr.refl (fun k => k = bn) w).set _ (fun _ => rfl)).alloc _⟩
  · have hbq : (a1 == who) = false := beq_eq_false_iff_ne.2 he
    rw [if_neg he]
    replace hb := Lib.hid hb
    go_enter Try.func34, Try.ntmps34
    go_wp2_with fail
    go_ret
    exact ⟨by rw [hbq]; rfl, hb.out.alloc _, (Fr.refl (fun k => k = bn) w).alloc _⟩
theorem cnt_take {who : Int} {l : List A3} {k : Nat} {a : A3} (h : l[k]? = some a) : cnt who (l.take (k + 1)) = if a.1 = who then cnt who (l.take k) + 1 else cnt who (l.take k) := by
  obtain ⟨hl, rfl⟩ := List.getElem?_eq_some_iff.1 h
  rw [List.take_succ_eq_append_getElem hl]
  unfold cnt
  rw [List.filter_append, List.length_append]
  split
  · rename_i e; simp [e]
  · rename_i e; simp [e]
theorem cnt_bd (who : Int) (l : List A3) (k : Nat) : 0 ≤ cnt who (l.take k) ∧ cnt who (l.take k) ≤ k := by
  unfold cnt
  have := List.length_filter_le (fun a : A3 => a.1 == who) (l.take k)
  have := List.length_take_le k l
  omega
/-- none of the first k is somebody's. -/
def NoneOf (who : Int) (l : List A3) : Prop := ∀ a, a ∈ l → a.1 ≠ who
theorem none_cnt {who : Int} {l : List A3} (h : NoneOf who l) : cnt who l = 0 ∧ fw who l = l := by
  constructor
  · unfold cnt
    rw [List.filter_eq_nil_iff.2 (fun a ha => by simp [h a ha])]; rfl
  · unfold fw
    rw [List.filter_eq_self.2 (fun a ha => by simp [h a ha])]
set_option maxRecDepth 100000 in
theorem index_any (A : Option Addr) (c : Nat) (l : List A3) (who n : Int) (bw bn : Nat) (w : World) (hr : Rd w 3 A l.length (fl l)) (hA : ∀ a, A = some a → a.block ≠ bn) (hl : l.length ≤ 4096) (hw : w.cell? ⟨bw, 0, none⟩ = some (.int .i64 who)) (hb : Bl w bn (.cells #[.int .i64 n] 3 (0, 0))) (hne : bw ≠ bn) (hn : 0 ≤ n ∧ n ≤ 90000) :
    Calls Try.prog 44 #[.slice A l.length c, .func (.func 34) #[] #[.pointer (some ⟨bw, 0, none⟩), .pointer (some ⟨bn, 0, none⟩)]] w fun e w' =>
      ((e = .returned (.int .i64 (-1)) ∧ NoneOf who l ∧ Bl w' bn (.cells #[.int .i64 n] 3 (0, 0))) ∨ ∃ i : Nat, ∃ a, e = .returned (.int .i64 i) ∧ l[i]? = some a ∧ a.1 = who ∧ NoneOf who (l.take i) ∧ Bl w' bn (.cells #[.int .i64 (n + 1)] 3 (0, 0))) ∧ Fr (fun k => k = bn) w w' := by
  have hlz : (l.length : Int) ≤ 4096 := by omega
  replace hr := Lib.hid hr
  replace hb := Lib.hid hb
  replace hw := Lib.hid hw
  go_enter Try.func44, Try.ntmps44
  go_wp2_with fail
  go_loopw [5, 8] (fun _ vi wr => ∃ k : Nat, vi = .int .i64 (k : Nat) ∧ k ≤ l.length ∧ NoneOf who (l.take k) ∧ Bl wr bn (.cells #[.int .i64 n] 3 (0, 0)) ∧ Fr (fun k => k = bn) w wr) (fun _ vi _ => l.length - (intOf vi).toNat)
  case atStart => exact ⟨0, rfl, Nat.zero_le _, fun a h => by simp at h, hb.out, Fr.refl _ _⟩
  case round =>
    clear hb
    obtain ⟨k, rfl, hk, hno, hb, hf⟩ := hrel
    have hwr : wr.cell? ⟨bw, 0, none⟩ = some (.int .i64 who) := by
      rw [World.cell?_of_block (a := ⟨bw, 0, none⟩) (hf.block bw (cell_lt hw.out) hne)]; exact hw.out
    by_cases hlt : k < l.length
    · obtain ⟨⟨a1, a2, a3⟩, hak⟩ : ∃ a, l[k]? = some a := ⟨l[k], List.getElem?_eq_getElem hlt⟩
      obtain ⟨p, o, rfl, -⟩ := hr.out.2 (by omega)
      obtain ⟨q0, q1, q2⟩ := fl_at (hr.out.fr hf hA) hak
      have hkz : (0 : Int) ≤ (k : Int) := by omega
      have hdel := del_any (a1, a2, a3) who n bw bn wr hwr hb hne (by omega)
      unfold aV at hdel
      by_cases he : a1 = who
      · subst he
        simp only [beq_self_eq_true, if_true] at hdel
        replace hdel := Lib.hid hdel
        replace hno := Lib.hid hno
        replace hak := Lib.hid hak
        replace hf := Lib.hid hf
        clear hb hwr
        go_wp2_with (go_at_call 34; refine hdel.out.mono ?_; rintro e w3 ⟨rfl, hb3, hf3⟩; replace hb3 := Lib.hid hb3; replace hf3 := Lib.hid hf3)
        go_ret
        exact ⟨.inr ⟨k, _, rfl, hak.out, rfl, hno.out, hb3.out⟩, hf.out.then hf3.out (fun i _ e => e)⟩
      · simp only [beq_eq_false_iff_ne.2 he, if_neg he] at hdel
        have hno' : NoneOf who (l.take (k + 1)) := by
          obtain ⟨hl', e'⟩ := List.getElem?_eq_some_iff.1 hak
          rw [List.take_succ_eq_append_getElem hl', e']
          intro a ha
          simp only [List.mem_append, List.mem_singleton] at ha
          rcases ha with ha | rfl
          · exact hno a ha
          · exact he
        replace hdel := Lib.hid hdel
        replace hno' := Lib.hid hno'
        replace hf := Lib.hid hf
        clear hb hwr hno hak
        go_wp2_with (go_at_call 34; refine hdel.out.mono ?_; rintro e w3 ⟨rfl, hb3, hf3⟩; replace hb3 := Lib.hid hb3; replace hf3 := Lib.hid hf3)
        go_roundw
        case rel => exact ⟨k + 1, by go_num, by omega, hno'.out, hb3.out, hf.out.then hf3.out (fun i _ e => e)⟩
        case measure => simp [intOf]; omega
    · obtain rfl : k = l.length := by omega
      rw [List.take_length] at hno
      replace hno := Lib.hid hno
      replace hf := Lib.hid hf
      replace hb := Lib.hid hb
      clear hwr
      go_wp2_with fail
      go_ret
      exact ⟨.inl ⟨rfl, hno.out, hb.out⟩, hf.out⟩
theorem fl_set {m : List A3} {i : Nat} (h : i < m.length) (a : A3) : (fl m).take (i * 3) ++ [.int .i64 a.1, .int .u64 a.2.1, .bool a.2.2] ++ (fl m).drop (i * 3 + 3) = fl (m.set i a) := by
  have e1 : (fl m).take (i * 3) = fl (m.take i) := by
    conv => lhs; rw [← List.take_append_drop i m, fl_append]
    rw [List.take_left' (by rw [fl_len, List.length_take]; congr 1; omega)]
  have e2 : (fl m).drop (i * 3 + 3) = fl (m.drop (i + 1)) := by
    conv => lhs; rw [← List.take_append_drop (i + 1) m, fl_append]
    rw [List.drop_left' (by rw [fl_len, List.length_take]; have : min (i + 1) m.length = i + 1 := by omega
                            rw [this]; omega)]
  rw [e1, e2, List.set_eq_take_append_cons_drop, if_pos h, fl_append, fl_cons, List.append_assoc]
structure DF (w0 : World) (bn g : Nat) (who n : Int) (base : Nat) (v : Value) (l : List A3) (i j : Nat) (m : List A3) (W : World) : Prop where
  own : OW W base 3 v l.length (fl m)
  len : m.length = l.length
  ij : i < j ∧ j ≤ l.length
  done : m.take i = fw who (l.take j)
  rest : m.drop j = l.drop j
  nn : Bl W bn (.cells #[.int .i64 (n + cnt who (l.take j))] 3 (0, 0))
  fr : Fr (fun k => k = bn ∨ k = g) w0 W
theorem DF.skip {w0 W W' : World} {bn g : Nat} {who n : Int} {base : Nat} {o c : Nat} {l m : List A3} {i j : Nat} {a : A3} (h : DF w0 bn g who n base (.slice (some ⟨g, o, none⟩) l.length c) l i j m W) (hgb : g ≠ bn) (hj : l[j]? = some a) (he : a.1 = who)
    (hb : Bl W' bn (.cells #[.int .i64 (n + cnt who (l.take j) + 1)] 3 (0, 0))) (hf : Fr (fun k => k = bn) W W') : DF w0 bn g who n base (.slice (some ⟨g, o, none⟩) l.length c) l i (j + 1) m W' := by
  have hjl := (List.getElem?_eq_some_iff.1 hj).1
  have h1 := fw_take (who := who) hj
  have h2 := cnt_take (who := who) hj
  rw [if_pos he] at h1 h2
  refine ⟨h.own.fr hf (fun k e e' => by simp [Value.ownBlock] at e; omega), h.len, ⟨by have := h.ij; omega, hjl⟩, by rw [h1]; exact h.done, ?_, ?_, h.fr.then hf (fun i _ e => .inl e)⟩
  · have := congrArg (List.drop 1) h.rest
    simpa [List.drop_drop, Nat.add_comm] using this
  · rw [h2, show n + (cnt who (l.take j) + 1) = n + cnt who (l.take j) + 1 by omega]; exact hb
theorem DF.move {w0 W W' : World} {bn g : Nat} {who n : Int} {base : Nat} {o c : Nat} {l m : List A3} {i j : Nat} {a : A3} (h : DF w0 bn g who n base (.slice (some ⟨g, o, none⟩) l.length c) l i j m W) (hgb : g ≠ bn) (hj : l[j]? = some a) (he : a.1 ≠ who)
    (hb : Bl W' bn (.cells #[.int .i64 (n + cnt who (l.take j))] 3 (0, 0))) (hf : Fr (fun k => k = bn) W W') :
    DF w0 bn g who n base (.slice (some ⟨g, o, none⟩) l.length c) l (i + 1) (j + 1) (m.set i a) (((W'.setCell ⟨g, o + i * 3, none⟩ (.int .i64 a.1)).setCell ⟨g, o + i * 3 + 1, none⟩ (.int .u64 a.2.1)).setCell ⟨g, o + i * 3 + 2, none⟩ (.bool a.2.2)) := by
  have hjl := (List.getElem?_eq_some_iff.1 hj).1
  have h1 := fw_take (who := who) hj
  have h2 := cnt_take (who := who) hj
  rw [if_neg he] at h1 h2
  have hij := h.ij
  have hil : i < m.length := by have := h.len; omega
  have hown : OW W' base 3 (.slice (some ⟨g, o, none⟩) l.length c) l.length (fl m) := h.own.fr hf (fun k e e' => by simp [Value.ownBlock] at e; omega)
  refine ⟨?_, by simp [h.len], ⟨by omega, hjl⟩, ?_, ?_, ?_, (((h.fr.then hf (fun i _ e => .inl e)).set _ (fun _ => .inr rfl)).set _ (fun _ => .inr rfl)).set _ (fun _ => .inr rfl)⟩
  · have := hown.setElem (i := i) (news := [.int .i64 a.1, .int .u64 a.2.1, .bool a.2.2]) (by omega) rfl
    rw [fl_set hil] at this
    exact this
  · rw [h1, ← h.done]
    rw [List.set_eq_take_append_cons_drop, if_pos hil, List.take_append, List.length_take, List.take_of_length_le (by rw [List.length_take]; omega)]
    have : i + 1 - min i m.length = 1 := by omega
    rw [this]; rfl
  · have h3 := congrArg (List.drop 1) h.rest
    rw [List.drop_drop, List.drop_drop] at h3
    rw [← h3]
    apply List.ext_getElem?
    intro q
    rw [List.getElem?_drop, List.getElem?_drop, List.getElem?_set_ne (by omega)]
  · rw [h2]; exact ((hb.set _ (Ne.symm hgb)).set _ (Ne.symm hgb)).set _ (Ne.symm hgb)
theorem zeroAsk (w : World) : (zeroValue 77).run Try.prog w = .ok (.agg #[.int .i64 0, .int .u64 0, .bool false]) w := by kernel_rfl
set_option maxRecDepth 100000 in
theorem delfunc_any (v : Value) (l : List A3) (who n : Int) (bw bn base : Nat) (w : World) (ho : OW w base 3 v l.length (fl l)) (hA : v.ownBlock ≠ some bn ∧ v.ownBlock ≠ some bw) (hl : l.length ≤ 4096) (hw : w.cell? ⟨bw, 0, none⟩ = some (.int .i64 who)) (hb : Bl w bn (.cells #[.int .i64 n] 3 (0, 0))) (hne : bw ≠ bn) (hn : 0 ≤ n ∧ n ≤ 80000) :
    Calls Try.prog 32 #[v, .func (.func 34) #[] #[.pointer (some ⟨bw, 0, none⟩), .pointer (some ⟨bn, 0, none⟩)]] w fun e w' =>
      ∃ v', e = .returned v' ∧ OW w' base 3 v' (fw who l).length (fl (fw who l)) ∧ v'.ownBlock = v.ownBlock ∧ Bl w' bn (.cells #[.int .i64 (n + cnt who l)] 3 (0, 0)) ∧ Fr (fun k => k = bn ∨ v.ownBlock = some k) w w' := by
  obtain ⟨A, c, rfl, hr, hc, hm, hAb⟩ := ho.shape
  have hA1 : ∀ a, A = some a → a.block ≠ bn := fun a e => by subst e; simpa [Value.ownBlock] using hA.1
  have hix := index_any A c l who n bw bn w hr hA1 hl hw hb hne (by omega)
  have hlz : (l.length : Int) ≤ 4096 := by omega
  replace hix := Lib.hid hix
  replace ho := Lib.hid ho
  replace hr := Lib.hid hr
  replace hb := Lib.hid hb
  replace hw := Lib.hid hw
  replace hA := Lib.hid hA
  replace hA1 := Lib.hid hA1
  replace hAb := Lib.hid hAb
  go_enter Try.func32, Try.ntmps32
  go_wp2_with fail
  refine hix.out.mono ?_
  rintro e w1 ⟨⟨rfl, hno, hb1⟩ | ⟨i, a, rfl, hia, hwa, hno, hb1⟩, hf1⟩
  · have hq := none_cnt hno
    have ho1 := ho.out.fr hf1 (fun k e e' => hA.out.1 (by rw [e, e']))
    replace hb1 := Lib.hid hb1
    replace hq := Lib.hid hq
    replace ho1 := Lib.hid ho1
    clear hno hix
    go_wp2_with fail
    go_ret
    exact ⟨_, rfl, by rw [hq.out.2]; exact ho1.out, rfl, by rw [hq.out.1, Int.add_zero]; exact hb1.out, hf1.mono (fun i _ e => .inl e)⟩
  · have hil := (List.getElem?_eq_some_iff.1 hia).1
    obtain ⟨g, o, rfl, -⟩ := hr.out.2 (by omega)
    have hgb : g ≠ bn := hA1.out _ rfl
    have hgw : g ≠ bw := fun e => hA.out.2 (by rw [← e]; rfl)
    have hiz : (0 : Int) ≤ (i : Int) := by omega
    have hieq : ((i : Int) == -1) = false := by rw [beq_eq_false_iff_ne]; omega
    have hst : DF w bn g who n base (.slice (some ⟨g, o, none⟩) l.length c) l i (i + 1) l w1 := by
      have h1 := fw_take (who := who) hia
      have h2 := cnt_take (who := who) hia
      rw [if_pos hwa] at h1 h2
      have hq := none_cnt hno
      rw [hq.2] at h1
      rw [hq.1] at h2
      exact ⟨ho.out.fr hf1 (fun k e e' => hA.out.1 (by rw [e, e'])), rfl, ⟨by omega, hil⟩, h1.symm, rfl, by rw [h2]; exact hb1, hf1.mono (fun i _ e => .inl e)⟩
    clear hb1 hf1 hno hwa hia hix hb
    replace hst := Lib.hid hst
    go_wp2_with fail
    go_loopw [5, 6, 7] (fun vi vj _ wr => ∃ (i j : Nat) (m : List A3), vi = .int .i64 (i : Nat) ∧ vj = .int .i64 (j : Nat) ∧ DF w bn g who n base (.slice (some ⟨g, o, none⟩) l.length c) l i j m wr) (fun _ vj _ _ => l.length - (intOf vj).toNat)
    case atStart => exact ⟨i, i + 1, l, rfl, by congr 1, hst.out⟩
    case round =>
      clear hst
      obtain ⟨i, j, m, rfl, rfl, hd⟩ := hrel
      have hij := hd.ij
      have hwr : wr.cell? ⟨bw, 0, none⟩ = some (.int .i64 who) := by
        rw [World.cell?_of_block (a := ⟨bw, 0, none⟩) (hd.fr.block bw (cell_lt hw.out) (by omega))]; exact hw.out
      have hiz : (0 : Int) ≤ (i : Int) := by omega
      have hjz : (0 : Int) ≤ (j : Int) := by omega
      have hgl : g < wr.heap.size := (hd.own.lt g rfl).2
      by_cases hlt : j < l.length
      · obtain ⟨⟨a1, a2, a3⟩, haj⟩ : ∃ a, l[j]? = some a := ⟨l[j], List.getElem?_eq_getElem hlt⟩
        have hmj : m[j]? = some (a1, a2, a3) := by
          have h1 := congrArg (fun l => l[0]?) hd.rest
          simpa [List.getElem?_drop, haj] using h1
        have hr1 := hd.own.rd
        rw [← hd.len] at hr1
        obtain ⟨q0, q1, q2⟩ := fl_at hr1 hmj
        have hcb := cnt_bd who l j
        have hdel := del_any (a1, a2, a3) who (n + cnt who (l.take j)) bw bn (wr.alloc (.cells #[.int .i64 a1, .int .u64 a2, .bool a3] 77)) (by rw [World.cell?_of_block (a := ⟨bw, 0, none⟩) (Below.heap_alloc _ _ _ (cell_lt hwr))]; exact hwr) (hd.nn.alloc _) hne (by omega)
        unfold aV at hdel
        have hlj : (j : Int) < l.length := by omega
        by_cases he : a1 = who
        · subst he
          simp only [beq_self_eq_true, if_true] at hdel
          have hsk := fun W' => DF.skip (W' := W') hd hgb haj rfl
          replace hsk := Lib.hid hsk
          replace hdel := Lib.hid hdel
          replace hd := Lib.hid hd
          clear hr1 hmj haj hwr hcb hij
          go_wp2_with (go_at_call 34; refine hdel.out.mono ?_; rintro e w3 ⟨rfl, hb3, hf3⟩; have hd3 := Lib.hid (hsk.out w3 hb3 (((Fr.refl _ _).alloc _).then hf3 (fun _ _ e => e))); clear hb3 hf3)
          go_roundw
          case rel => exact ⟨i, j + 1, m, rfl, by go_num, hd3.out⟩
          case measure => simp [intOf]; omega
        · simp only [beq_eq_false_iff_ne.2 he, if_neg he] at hdel
          have hmv := fun W' => DF.move (W' := W') hd hgb haj he
          have hil : i < m.length := by have := hd.len; omega
          obtain ⟨b1, hbi⟩ : ∃ b1, m[i]? = some b1 := ⟨m[i], List.getElem?_eq_getElem hil⟩
          have hown := hd.own
          have hcap := hown.capLe
          have hbnl := hd.nn.lt
          have hlz2 : (i : Int) < l.length := by omega
          replace hmv := Lib.hid hmv
          replace hdel := Lib.hid hdel
          replace hd := Lib.hid hd
          replace hown := Lib.hid hown
          replace hcap := Lib.hid hcap
          clear hr1 hmj haj hwr hcb hij
          go_wp2_with fail
          refine hdel.out.mono ?_
          rintro e w3 ⟨rfl, hb3, hf3⟩
          have hf3' : Fr (fun k => k = bn) wr w3 := ((Fr.refl _ _).alloc _).then hf3 (fun _ _ e => e)
          have hd3 := Lib.hid (hmv.out w3 hb3 hf3')
          have hloc : Bl w3 wr.heap.size (.cells #[.int .i64 a1, .int .u64 a2, .bool a3] 77 (0, 0)) := Bl.fr (Bl.new' rfl) hf3 (by omega)
          have ho3 := hown.out.fr hf3' (fun k e e' => by simp [Value.ownBlock] at e; omega)
          have hr3 := ho3.rd
          rw [← hd.out.len] at hr3
          obtain ⟨y0, y1, y2⟩ := fl_at hr3 hbi
          have g0 := (ho3.free (j := i * 3) (by have := hcap.out; have := hd.out.len; omega)).2
          have g1 := (ho3.free (j := i * 3 + 1) (by have := hcap.out; have := hd.out.len; omega)).2
          have g2 := (ho3.free (j := i * 3 + 2) (by have := hcap.out; have := hd.out.len; omega)).2
          rw [← Nat.add_assoc] at g1 g2
          have x0 : w3.cell? ⟨wr.heap.size, 0, none⟩ = some (.int .i64 a1) := hloc.cell 0
          have x1 : w3.cell? ⟨wr.heap.size, 1, none⟩ = some (.int .u64 a2) := hloc.cell 1
          have x2 : w3.cell? ⟨wr.heap.size, 2, none⟩ = some (.bool a3) := hloc.cell 2
          clear hb3 hf3 hf3' hloc ho3 hr3
          go_wp2_with fail
          go_roundw
          case rel => exact ⟨i + 1, j + 1, _, by go_num, by go_num, hd3.out⟩
          case measure => simp [intOf]; omega
      · obtain rfl : j = l.length := by omega
        have hd1 := hd.done
        have hd2 := hd.nn
        have hfr := hd.fr
        rw [List.take_length] at hd1 hd2
        have hil : i < m.length := by have := hd.len; omega
        have hown := hd.own
        have hcap := hown.capLe
        have hlm := hd.len
        have hfl : (fw who l).length = i := by rw [← hd1, List.length_take]; omega
        have hzl : (Builtin.zeroCells (Value.agg #[.int .i64 0, .int .u64 0, .bool false]).cells (l.length - i)).toList.length = (l.length - i) * 3 := by
          rw [Array.length_toList, size_zeroCells]; rfl
        have hcl := run_clear_any (P := Try.prog) wr 71 77 0 (.agg #[.int .i64 0, .int .u64 0, .bool false]) Try.underlying71 zeroAsk (by decide) g (o + i * 3) (l.length - i) (c - i) (by omega)
          (fun q hq => by
            have h3 : q < (l.length - i) * 3 := hq
            rw [Nat.add_assoc]; exact (hown.free (by omega)).1)
          (fun q hq => by
            have h3 : q < (l.length - i) * 3 := hq
            rw [Nat.add_assoc]; exact (hown.free (by omega)).2)
        have hhd := hown.head (i := i) (vs := (Builtin.zeroCells (Value.agg #[.int .i64 0, .int .u64 0, .bool false]).cells (l.length - i)).toList) (by omega) (by rw [hzl]; omega)
        have htk : (fl m).take (i * 3) = fl (fw who l) := by
          rw [← hd1]
          conv => lhs; rw [← List.take_append_drop i m, fl_append]
          rw [List.take_left' (by rw [fl_len, List.length_take]; congr 1; omega)]
        rw [htk] at hhd
        have hsc : ∀ vs : List Value, Bl (wr.setCells g (o + i * 3) vs) bn (.cells #[.int .i64 (n + cnt who l)] 3 (0, 0)) ∧ Fr (fun k => k = bn ∨ k = g) w (wr.setCells g (o + i * 3) vs) := by
          intro vs
          have hs := setCells_same g vs (o + i * 3) wr
          have hF : Fr (fun k => k = g) wr (wr.setCells g (o + i * 3) vs) := ⟨hs.2.1, hs.2.2.1, hs.2.2.2, by omega, fun k _ hk => setCells_other g vs _ wr k hk⟩
          exact ⟨Bl.fr hd2 hF (Ne.symm hgb), hfr.then hF (fun i _ e => .inr e)⟩
        replace hsc := Lib.hid hsc
        replace hhd := Lib.hid hhd
        have hii : (i : Int) < l.length := by omega
        have hii2 : (i : Int) ≤ l.length := by omega
        have hcc : ¬ c = i := by omega
        clear hd hd1 hd2 hown hzl htk hwr hij hfr hlm hil
        go_wp2_with fail
        go_ret
        exact ⟨_, rfl, by rw [hfl]; exact hhd.out, rfl, (hsc.out _).1, (hsc.out _).2.mono (fun k _ e => by rcases e with e | e; exact .inl e; exact .inr (by rw [e]; rfl))⟩
end Go.Proofs.Ytefeompdhalgcaa
