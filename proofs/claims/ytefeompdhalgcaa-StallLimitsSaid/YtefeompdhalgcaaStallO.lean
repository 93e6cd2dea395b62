/- An act among what was read. -/
import Derived.Test.YtefeompdhalgcaaProg
import Derived.Test.YtefeompdhalgcaaArg
namespace Go.Proofs.Ytefeompdhalgcaa
open Go.RowKit Go.Sed
variable {H : Type} {enc : TypeId × Value → H} {w : World} {base : Nat} {spare : Nat → Bool} {held : Bool}
set_option maxRecDepth 100000 in
theorem act_cells {n : Nat} {cs : List Value} {x : DataW H × List MemPlace} (h : DataW.trod enc Try.prog w base spare held n 33 cs = some x) :
    ∃ a : Int × Int × Int × Bool, cs = [.int .i64 a.1, .int .i64 a.2.1, .int .u64 a.2.2.1, .bool a.2.2.2] ∧ 0 ≤ a.2.2.1 ∧ a.2.2.1 < 18446744073709551616 := by
  obtain ⟨hl, ys, _, _, m, hf⟩ := struct_cells Try.underlying33 h
  replace hl : cs.length = 4 := hl.trans (by kernel_rfl)
  match cs, hl with
  | [c0, c1, c2, c3], _ =>
    obtain ⟨y0, _, g0⟩ := hf 0 _ rfl
    obtain ⟨y1, _, g1⟩ := hf 1 _ rfl
    obtain ⟨y2, _, g2⟩ := hf 2 _ rfl
    obtain ⟨y3, _, g3⟩ := hf 3 _ rfl
    have ci : Try.prog.cellsOf 3 = 1 := by kernel_rfl
    have cu : Try.prog.cellsOf 29 = 1 := by kernel_rfl
    have cb : Try.prog.cellsOf 4 = 1 := by kernel_rfl
    replace g0 : DataW.trod enc Try.prog w base spare held m 3 (List.take (Try.prog.cellsOf 3) (List.drop 0 [c0, c1, c2, c3])) = some y0 := g0
    rw [ci] at g0
    replace g1 : DataW.trod enc Try.prog w base spare held m 3 (List.take (Try.prog.cellsOf 3) (List.drop 1 [c0, c1, c2, c3])) = some y1 := g1
    rw [ci] at g1
    replace g2 : DataW.trod enc Try.prog w base spare held m 29 (List.take (Try.prog.cellsOf 29) (List.drop 2 [c0, c1, c2, c3])) = some y2 := g2
    rw [cu] at g2
    replace g3 : DataW.trod enc Try.prog w base spare held m 4 (List.take (Try.prog.cellsOf 4) (List.drop 3 [c0, c1, c2, c3])) = some y3 := g3
    rw [cb] at g3
    obtain ⟨n0, e0, _⟩ := int_cells Try.underlying3 g0
    obtain ⟨n1, e1, _⟩ := int_cells Try.underlying3 g1
    obtain ⟨n2, e2, w2⟩ := int_cells Try.underlying29 g2
    obtain ⟨n3, e3, _⟩ := DataW.trod_bool Try.underlying4 g3
    simp at e0 e1 e2 e3
    subst e0 e1 e2 e3
    refine ⟨(n0, n1, n2, n3), rfl, ?_⟩
    simp [Lit.wf, IntKind.min, IntKind.max, IntKind.signed, IntKind.bits] at w2
    simp only; omega
end Go.Proofs.Ytefeompdhalgcaa
