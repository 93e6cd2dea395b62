/- Openings of arguments that the kit has not: keys by value, three of them, at the level of cells. -/
import Derived.Test.YtmopjoeomjdikaaProg
import Derived.ProofKit
import Derived.OpenShut
import Derived.ShutString
import Derived.ChangeOld
import Derived.SizedLaws
import Derived.Deep.Strs
namespace Go.Sed
variable {P : Program} {w : World} {H : Type} {enc : TypeId × Value → H} {base : Nat} {spare : Nat → Bool} {held : Bool}
/-- a key's cells. -/
theorem key_cells {t : TypeId} {f0 f1 f2 : Field} {fuel : Nat} {cs : List Value} {x : DataW H × List MemPlace} (ht : P.underlying t = some (.struct #[f0, f1, f2]))
    (o0 : f0.offset = 0) (o1 : f1.offset = 1) (o2 : f2.offset = 2) (c : P.cellsOf t = 3) (c0 : P.cellsOf f0.type = 1) (c1 : P.cellsOf f1.type = 1) (c2 : P.cellsOf f2.type = 1)
    (u0 : P.underlying f0.type = some .string) (u1 : P.underlying f1.type = some (.int .u64)) (u2 : P.underlying f2.type = some (.int .i64))
    (h : DataW.trod enc P w base spare held fuel t cs = some x) :
    ∃ (u : ByteArray) (s k : Int), cs = [.string u, .int .u64 s, .int .i64 k] ∧ u.size ≤ maxLen ∧ (Lit.int .u64 s).wf = true ∧ (Lit.int .i64 k).wf = true := by
  obtain ⟨y0, y1, y2, n, _, hl, h0, h1, h2⟩ := Deep.trod_struct3 ht h
  rw [c] at hl
  match cs, hl with
  | [a, b, d], _ =>
    rw [o0, c0] at h0
    rw [o1, c1] at h1
    rw [o2, c2] at h2
    obtain ⟨u, e0, _, hu⟩ := DataW.trod_string u0 h0
    obtain ⟨s, e1, _, hs⟩ := DataW.trod_int u1 h1
    obtain ⟨k, e2, _, hk⟩ := DataW.trod_int u2 h2
    simp at e0 e1 e2
    subst e0 e1 e2
    exact ⟨u, s, k, rfl, hu, hs, hk⟩
theorem take3 {α : Type} {l : List α} (h : l.length = 9) : l = (l.drop 0).take 3 ++ ((l.drop 3).take 3 ++ (l.drop 6).take 3) := by
  match l, h with
  | [_, _, _, _, _, _, _, _, _], _ => rfl
end Go.Sed
