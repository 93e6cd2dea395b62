/- Tasks' lists and rows of bytes among what was read. -/
import Derived.Test.YtcdhmjapeapicaaProg
import Derived.Test.YtcdhmjapeapicaaArg
import Derived.Test.YtcdhmjapeapicaaBulk
import Derived.Test.YtcdhmjapeapicaaSchS
namespace Go.Proofs.Ytcdhmjapeapicaa
open Go.RowKit Go.Sed
variable {H : Type} {enc : TypeId × Value → H} {w : World} {base : Nat} {spare : Nat → Bool} {held : Bool}
theorem inI_wf {i : Int} (h : (Lit.int .i64 i).wf = true) : InI i := by
  simp [Lit.wf, IntKind.min, IntKind.max, IntKind.signed, IntKind.bits] at h
  unfold InI; omega
set_option maxRecDepth 100000 in
theorem does_cells {n : Nat} {cs : List Value} {x : DataW H × List MemPlace} (h : DataW.trod enc Try.prog w base spare held n 50 cs = some x) :
    ∃ a : Int × Int, cs = dsC a ∧ InI a.1 ∧ InI a.2 := by
  obtain ⟨hl, ys, _, _, m, hf⟩ := struct_cells Try.underlying50 h
  replace hl : cs.length = 2 := hl.trans (by kernel_rfl)
  match cs, hl with
  | [c0, c1], _ =>
    obtain ⟨y0, _, g0⟩ := hf 0 _ rfl
    obtain ⟨y1, _, g1⟩ := hf 1 _ rfl
    have ci : Try.prog.cellsOf 3 = 1 := by kernel_rfl
    replace g0 : DataW.trod enc Try.prog w base spare held m 3 (List.take (Try.prog.cellsOf 3) (List.drop 0 [c0, c1])) = some y0 := g0
    rw [ci] at g0
    replace g1 : DataW.trod enc Try.prog w base spare held m 3 (List.take (Try.prog.cellsOf 3) (List.drop 1 [c0, c1])) = some y1 := g1
    rw [ci] at g1
    obtain ⟨n0, e0, w0⟩ := int_cells Try.underlying3 g0
    obtain ⟨n1, e1, w1⟩ := int_cells Try.underlying3 g1
    simp at e0 e1
    subst e0 e1
    exact ⟨(n0, n1), rfl, inI_wf w0, inI_wf w1⟩
/-- one task's list. -/
def RowQ (w : World) (a : Value × List (Int × Int)) (d : DataW H) : Prop :=
  (∃ p c, a.1 = .slice p a.2.length c ∧ Rd w 2 p a.2.length (a.2.flatMap dsC)) ∧ a.2.length ≤ Rows.uptoBulk d ∧ ∀ e ∈ a.2, InI e.1 ∧ InI e.2
theorem list_all {α : Type} {Q : α → DataW H → Prop} {l : List α} {p : Option Addr} {d : DataW H} (h : (l = [] ∧ p = none ∧ d = .nil) ∨ ∃ (a : Addr) (elems sp : List (DataW H)), p = some a ∧ d = .slice elems sp ∧ elems.length = l.length ∧ ∀ (i : Nat) (a : α) (e : DataW H), l[i]? = some a → elems[i]? = some e → Q a e) :
    l.length ≤ Rows.uptoBulk d ∧ ∀ a ∈ l, ∃ e, Q a e ∧ Rows.uptoBulk e ≤ Rows.uptoBulk d := by
  rcases h with ⟨rfl, _, rfl⟩ | ⟨_, elems, sp, _, rfl, he, hq⟩
  · exact ⟨by simp, fun a ha => by cases ha⟩
  · have h1 := bulks.slice_le elems sp
    have h2 := bulks.slice_elems elems sp
    refine ⟨by omega, fun a ha => ?_⟩
    obtain ⟨i, hi⟩ := List.mem_iff_getElem?.1 ha
    have hil := (List.getElem?_eq_some_iff.1 hi).1
    obtain ⟨e, hei⟩ : ∃ e, elems[i]? = some e := ⟨_, List.getElem?_eq_getElem (by omega)⟩
    have h3 := bulks.part_le (List.mem_of_getElem? hei)
    exact ⟨e, hq i a e hi hei, by omega⟩
theorem flat_one {α : Type} (g : α → Value) : ∀ l : List α, l.flatMap (fun a => [g a]) = l.map g
  | [] => rfl
  | a :: l => by rw [List.flatMap_cons, flat_one g l]; rfl
theorem row_open {n : Nat} {cs : List Value} {x : DataW H × List MemPlace} (h : DataW.trod enc Try.prog w base spare held n 47 cs = some x) :
    ∃ a : Value × List (Int × Int), cs = [a.1] ∧ RowQ w a x.1 := by
  obtain ⟨p, l, c, hcs, hrd, hlc, hcm, hrest⟩ := open_list dsC (fun a _ => InI a.1 ∧ InI a.2) 2 Try.underlying47 (by kernel_rfl) (by decide) dsC_len (fun n cs x hx => does_cells hx) h
  have ha := list_all hrest
  exact ⟨(.slice p l.length c, l), hcs, ⟨p, c, rfl, hrd⟩, ha.1, fun e he => by obtain ⟨_, hq, _⟩ := ha.2 e he; exact hq⟩
theorem open_tasks {n : Nat} {cs : List Value} {x : DataW H × List MemPlace} (h : DataW.trod enc Try.prog w base spare held n 36 cs = some x) :
    ∃ (p : Option Addr) (vs : List Value) (ls : List (List (Int × Int))) (c : Nat), cs = [.slice p ls.length c] ∧ Rd w 1 p ls.length vs ∧ DL w vs ls ∧ ls.length ≤ Rows.uptoBulk x.1 ∧ ls.length ≤ maxLen ∧ ∀ l ∈ ls, l.length ≤ Rows.uptoBulk x.1 ∧ ∀ d ∈ l, InI d.1 ∧ InI d.2 := by
  obtain ⟨p, L, c, hcs, hrd, hlc, hcm, hrest⟩ := open_list (fun a : Value × List (Int × Int) => [a.1]) (RowQ w) 1 Try.underlying36 (by kernel_rfl) (by decide) (fun _ => rfl) (fun n cs x hx => row_open hx) h
  have ha := list_all hrest
  have hfm : L.flatMap (fun a : Value × List (Int × Int) => [a.1]) = L.map (·.1) := flat_one _ L
  rw [hfm] at hrd
  have hll : (L.map (·.2)).length = L.length := by simp
  refine ⟨p, L.map (·.1), L.map (·.2), c, by rw [hll]; exact hcs, by rw [hll]; exact hrd, ⟨by simp, fun i l hi => ?_⟩, by rw [hll]; exact ha.1, by rw [hll]; omega, fun l hl => ?_⟩
  · rw [List.getElem?_map] at hi
    obtain ⟨a, hL, rfl⟩ := Option.map_eq_some_iff.1 hi
    obtain ⟨e, hq, _⟩ := ha.2 a (List.mem_of_getElem? hL)
    obtain ⟨⟨q, c', h1, h2⟩, _, _⟩ := hq
    refine ⟨q, c', by rw [List.getElem?_map, hL, ← h1]; rfl, h2, fun y e h0 => ?_⟩
    obtain ⟨b, o, e2, hc⟩ := h2.2 h0
    rw [e2] at e
    injection e with e
    subst e
    have hp : 0 < (a.2.flatMap dsC).length := by rw [h2.1]; omega
    exact cell_lt (hc 0 _ (List.getElem?_eq_getElem hp))
  · obtain ⟨a, hL, rfl⟩ := List.mem_map.1 hl
    obtain ⟨e, hq, hb⟩ := ha.2 a hL
    exact ⟨Nat.le_trans hq.2.1 hb, hq.2.2⟩
theorem open_u8s {n : Nat} {cs : List Value} {x : DataW H × List MemPlace} (h : DataW.trod enc Try.prog w base spare held n 22 cs = some x) :
    ∃ (p : Option Addr) (l : List Int) (c : Nat), cs = [.slice p l.length c] ∧ Rd w 1 p l.length (l.map (Value.int .u8)) ∧ l.length ≤ Rows.uptoBulk x.1 ∧ ∀ y ∈ l, 0 ≤ y ∧ y < 256 := by
  obtain ⟨p, l, c, hcs, hrd, hlc, hcm, hrest⟩ := open_list (fun a : Int => [.int .u8 a]) (fun a _ => 0 ≤ a ∧ a < 256) 1 Try.underlying22 (by kernel_rfl) (by decide) (fun _ => rfl) (fun n cs x hx => by
    obtain ⟨m, e, hw⟩ := int_cells Try.underlying5 hx
    refine ⟨m, e, ?_⟩
    simp [Lit.wf, IntKind.min, IntKind.max, IntKind.signed, IntKind.bits] at hw
    omega) h
  have ha := list_all hrest
  have hfm : l.flatMap (fun a : Int => [Value.int .u8 a]) = l.map (Value.int .u8) := flat_one _ l
  rw [hfm] at hrd
  exact ⟨p, l, c, hcs, hrd, ha.1, fun y hy => by obtain ⟨_, hq, _⟩ := ha.2 y hy; exact hq⟩
end Go.Proofs.Ytcdhmjapeapicaa
