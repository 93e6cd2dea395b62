/- A tombstone, and a text, among what was read. -/
import Derived.Test.YtmopjoeomjdikaaProg
import Derived.Test.YtmopjoeomjdikaaOpen
import Derived.Test.YtmopjoeomjdikaaArg
import Derived.Test.YtmopjoeomjdikaaRgA
namespace Go.Proofs.Ytmopjoeomjdikaa
open Go.RowKit Go.Sed
variable {H : Type} {enc : TypeId × Value → H} {w : World} {base : Nat} {spare : Nat → Bool} {held : Bool}
set_option maxRecDepth 100000 in
theorem tomb_cells {n : Nat} {cs : List Value} {x : DataW H × List MemPlace} (h : DataW.trod enc Try.prog w base spare held n 38 cs = some x) :
    ∃ a : Tb, cs = tc a ∧ (a.b.size ≤ maxLen ∧ a.e.size ≤ maxLen) ∧ 0 ≤ a.s ∧ a.s < 18446744073709551616 := by
  obtain ⟨hl, ys, _, _, m, hf⟩ := struct_cells Try.underlying38 h
  replace hl : cs.length = 3 := hl.trans (by kernel_rfl)
  match cs, hl with
  | [c0, c1, c2], _ =>
    obtain ⟨y0, _, g0⟩ := hf 0 _ rfl
    obtain ⟨y1, _, g1⟩ := hf 1 _ rfl
    obtain ⟨y2, _, g2⟩ := hf 2 _ rfl
    have cs' : Try.prog.cellsOf 9 = 1 := by kernel_rfl
    have cu : Try.prog.cellsOf 36 = 1 := by kernel_rfl
    replace g0 : DataW.trod enc Try.prog w base spare held m 9 (List.take (Try.prog.cellsOf 9) (List.drop 0 [c0, c1, c2])) = some y0 := g0
    rw [cs'] at g0
    replace g1 : DataW.trod enc Try.prog w base spare held m 9 (List.take (Try.prog.cellsOf 9) (List.drop 1 [c0, c1, c2])) = some y1 := g1
    rw [cs'] at g1
    replace g2 : DataW.trod enc Try.prog w base spare held m 36 (List.take (Try.prog.cellsOf 36) (List.drop 2 [c0, c1, c2])) = some y2 := g2
    rw [cu] at g2
    obtain ⟨b, e0, _, hb⟩ := DataW.trod_string Try.underlying9 g0
    obtain ⟨e, e1, _, he⟩ := DataW.trod_string Try.underlying9 g1
    obtain ⟨s, e2, hs⟩ := int_cells Try.underlying36 g2
    simp at e0 e1 e2
    subst e0 e1 e2
    exact ⟨⟨b, e, s⟩, rfl, ⟨hb, he⟩, (bounds_u64 hs).1, by have := (bounds_u64 hs).2; simp only; omega⟩
theorem str_cells {n : Nat} {cs : List Value} {x : DataW H × List MemPlace} (h : DataW.trod enc Try.prog w base spare held n 9 cs = some x) : ∃ a : ByteArray, cs = [.string a] ∧ a.size ≤ maxLen := by
  obtain ⟨b, e0, _, hb⟩ := DataW.trod_string Try.underlying9 h
  exact ⟨b, e0, hb⟩
end Go.Proofs.Ytmopjoeomjdikaa
