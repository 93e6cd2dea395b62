/- What a set is asked, among what was read. -/
import Derived.Test.YtmopjoeomjdikaaRgO
import Derived.Test.YtmopjoeomjdikaaOpen
import Derived.Test.YtmopjoeomjdikaaRgJ
namespace Go.Proofs.Ytmopjoeomjdikaa
open Go.RowKit Go.Sed
variable {H : Type} {enc : TypeId × Value → H} {w : World} {base : Nat} {spare : Nat → Bool} {held : Bool}
theorem u64_wf {n : Int} (h : (Lit.int .u64 n).wf = true) : 0 ≤ n := (bounds_u64 h).1
set_option maxRecDepth 100000 in
theorem asked_cells {n : Nat} {cs : List Value} {x : DataW H × List MemPlace} (h : DataW.trod enc Try.prog w base spare held n 56 cs = some x) :
    ∃ a : Ak, cs = ac a ∧ 0 ≤ a.ks ∧ 0 ≤ a.lo := by
  obtain ⟨hl, ys, _, _, m, hf⟩ := struct_cells Try.underlying56 h
  replace hl : cs.length = 7 := hl.trans (by kernel_rfl)
  match cs, hl with
  | [c0, c1, c2, c3, c4, c5, c6], _ =>
    obtain ⟨y0, _, g0⟩ := hf 0 _ rfl
    obtain ⟨y1, _, g1⟩ := hf 1 _ rfl
    obtain ⟨y2, _, g2⟩ := hf 2 _ rfl
    obtain ⟨y3, _, g3⟩ := hf 3 _ rfl
    obtain ⟨y4, _, g4⟩ := hf 4 _ rfl
    have cs' : Try.prog.cellsOf 9 = 1 := by kernel_rfl
    have cu : Try.prog.cellsOf 36 = 1 := by kernel_rfl
    have ck : Try.prog.cellsOf 54 = 3 := by kernel_rfl
    replace g0 : DataW.trod enc Try.prog w base spare held m 9 (List.take (Try.prog.cellsOf 9) (List.drop 0 [c0, c1, c2, c3, c4, c5, c6])) = some y0 := g0
    rw [cs'] at g0
    replace g1 : DataW.trod enc Try.prog w base spare held m 9 (List.take (Try.prog.cellsOf 9) (List.drop 1 [c0, c1, c2, c3, c4, c5, c6])) = some y1 := g1
    rw [cs'] at g1
    replace g2 : DataW.trod enc Try.prog w base spare held m 54 (List.take (Try.prog.cellsOf 54) (List.drop 2 [c0, c1, c2, c3, c4, c5, c6])) = some y2 := g2
    rw [ck] at g2
    replace g3 : DataW.trod enc Try.prog w base spare held m 36 (List.take (Try.prog.cellsOf 36) (List.drop 5 [c0, c1, c2, c3, c4, c5, c6])) = some y3 := g3
    rw [cu] at g3
    replace g4 : DataW.trod enc Try.prog w base spare held m 36 (List.take (Try.prog.cellsOf 36) (List.drop 6 [c0, c1, c2, c3, c4, c5, c6])) = some y4 := g4
    rw [cu] at g4
    obtain ⟨b, e0, _, _⟩ := DataW.trod_string Try.underlying9 g0
    obtain ⟨e, e1, _, _⟩ := DataW.trod_string Try.underlying9 g1
    obtain ⟨u, ks, kd, e2, _, w2, _⟩ := key_cells Try.underlying54 rfl rfl rfl (by kernel_rfl) (by kernel_rfl) (by kernel_rfl) (by kernel_rfl) Try.underlying9 Try.underlying36 Try.underlying3 g2
    obtain ⟨lo, e3, w3⟩ := int_cells Try.underlying36 g3
    obtain ⟨s, e4, _⟩ := int_cells Try.underlying36 g4
    simp at e0 e1 e2 e3 e4
    obtain ⟨rfl, rfl, rfl⟩ := e2
    subst e0 e1 e3 e4
    exact ⟨⟨b, e, u, ks, kd, lo, s⟩, rfl, u64_wf w2, u64_wf w3⟩
end Go.Proofs.Ytmopjoeomjdikaa
