/- An entry among what was read. -/
import Derived.Test.YtkohoondgegmfaaProg
import Derived.Test.YtkohoondgegmfaaOpen
import Derived.Test.YtkohoondgegmfaaArg
import Derived.Test.YtkohoondgegmfaaBlkF
namespace Go.Proofs.Ytkohoondgegmfaa
open Go.RowKit Go.Sed
variable {H : Type} {enc : TypeId × Value → H} {w : World} {base : Nat} {spare : Nat → Bool} {held : Bool}
set_option maxRecDepth 100000 in
theorem entry_cells {n : Nat} {cs : List Value} {x : DataW H × List MemPlace} (h : DataW.trod enc Try.prog w base spare held n 48 cs = some x) :
    ∃ a : E4, cs = e4c a ∧ a.1.size ≤ maxLen ∧ a.val.size ≤ maxLen ∧ 0 ≤ a.2.1 ∧ a.2.1 < 18446744073709551616 := by
  obtain ⟨hl, ys, _, _, m, hf⟩ := struct_cells Try.underlying48 h
  replace hl : cs.length = 4 := hl.trans (by kernel_rfl)
  match cs, hl with
  | [c0, c1, c2, c3], _ =>
    obtain ⟨y0, _, g0⟩ := hf 0 _ rfl
    obtain ⟨y1, _, g1⟩ := hf 1 _ rfl
    have ck : Try.prog.cellsOf 33 = 3 := by kernel_rfl
    have cs' : Try.prog.cellsOf 9 = 1 := by kernel_rfl
    replace g0 : DataW.trod enc Try.prog w base spare held m 33 (List.take (Try.prog.cellsOf 33) (List.drop 0 [c0, c1, c2, c3])) = some y0 := g0
    rw [ck] at g0
    replace g1 : DataW.trod enc Try.prog w base spare held m 9 (List.take (Try.prog.cellsOf 9) (List.drop 3 [c0, c1, c2, c3])) = some y1 := g1
    rw [cs'] at g1
    obtain ⟨u, s, k, e0, hu, hs, _⟩ := key_cells Try.underlying33 rfl rfl rfl (by kernel_rfl) (by kernel_rfl) (by kernel_rfl) (by kernel_rfl) Try.underlying9 Try.underlying31 Try.underlying3 g0
    obtain ⟨v, e1, _, hv⟩ := DataW.trod_string Try.underlying9 g1
    simp at e0 e1
    obtain ⟨rfl, rfl, rfl⟩ := e0
    subst e1
    exact ⟨(u, s, k, v), rfl, hu, hv, (bounds_u64 hs).1, by have := (bounds_u64 hs).2; simp only; omega⟩
end Go.Proofs.Ytkohoondgegmfaa
