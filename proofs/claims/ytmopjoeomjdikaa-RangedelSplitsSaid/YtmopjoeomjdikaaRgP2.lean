/- A fragment among what was read. -/
import Derived.Test.YtmopjoeomjdikaaRgO
import Derived.Test.YtmopjoeomjdikaaRgD
import Derived.SizedLaws
namespace Go.Proofs.Ytmopjoeomjdikaa
open Go.RowKit Go.Sed
variable {H : Type} {enc : TypeId × Value → H} {w : World} {base : Nat} {spare : Nat → Bool} {held : Bool}
theorem weights_all_mem {P : Program} {e : TypeId} : ∀ {l : List (DataW H)} {d : DataW H} {n : Nat}, d ∈ l → n ∈ d.weights P e → n ∈ DataW.weightsAll P e l
  | x :: r, d, n, hd, hn => by
    rw [DataW.weightsAll]
    rcases List.mem_cons.1 hd with rfl | hd
    · exact List.mem_append_left _ hn
    · exact List.mem_append_right _ (weights_all_mem hd hn)
/-- what is known of a fragment that was read. -/
def FragQ (w : World) (a : Fg × Value) (d : DataW H) : Prop :=
  (∃ B c, a.2 = .slice B a.1.q.length c ∧ Rd w 1 B a.1.q.length (u64C a.1.q)) ∧ (a.1.b.size ≤ maxLen ∧ a.1.e.size ≤ maxLen) ∧ ((∀ n ∈ d.weights Try.prog 34, n ≤ reachBytes) → a.1.q.length * 8 ≤ reachBytes)
set_option maxRecDepth 100000 in
theorem frag_cells {n : Nat} {cs : List Value} {x : DataW H × List MemPlace} (h : DataW.trod enc Try.prog w base spare held n 34 cs = some x) :
    ∃ a : Fg × Value, cs = fcs a ∧ FragQ w a x.1 := by
  obtain ⟨hl, ys, hyl, hx, m, hf⟩ := struct_cells Try.underlying34 h
  replace hl : cs.length = 3 := hl.trans (by kernel_rfl)
  match cs, hl with
  | [c0, c1, c2], _ =>
    obtain ⟨y0, _, g0⟩ := hf 0 _ rfl
    obtain ⟨y1, _, g1⟩ := hf 1 _ rfl
    obtain ⟨y2, e2, g2⟩ := hf 2 _ rfl
    have cs' : Try.prog.cellsOf 9 = 1 := by kernel_rfl
    have cu : Try.prog.cellsOf 32 = 1 := by kernel_rfl
    replace g0 : DataW.trod enc Try.prog w base spare held m 9 (List.take (Try.prog.cellsOf 9) (List.drop 0 [c0, c1, c2])) = some y0 := g0
    rw [cs'] at g0
    replace g1 : DataW.trod enc Try.prog w base spare held m 9 (List.take (Try.prog.cellsOf 9) (List.drop 1 [c0, c1, c2])) = some y1 := g1
    rw [cs'] at g1
    replace g2 : DataW.trod enc Try.prog w base spare held m 32 (List.take (Try.prog.cellsOf 32) (List.drop 2 [c0, c1, c2])) = some y2 := g2
    rw [cu] at g2
    obtain ⟨b, e0, _, hb⟩ := DataW.trod_string Try.underlying9 g0
    obtain ⟨e, e1, _, he⟩ := DataW.trod_string Try.underlying9 g1
    obtain ⟨p, l, c, hcs, hrd, hlc, hcm, hrest⟩ := open_list (fun s : Int => [Value.int .u64 s]) (fun _ _ => True) 1 Try.underlying32 (by kernel_rfl) (by decide) (fun _ => rfl) (fun n cs x hx => by obtain ⟨s, e, _⟩ := int_cells Try.underlying36 hx; exact ⟨s, e, trivial⟩) g2
    simp at e0 e1 hcs
    subst e0 e1 hcs
    have hu : l.flatMap (fun s : Int => [Value.int .u64 s]) = u64C l := by unfold u64C; rw [List.map_eq_flatMap]
    rw [hu] at hrd
    refine ⟨(⟨b, e, l⟩, .slice p l.length c), rfl, ⟨p, c, rfl, hrd⟩, ⟨hb, he⟩, fun hw => ?_⟩
    rcases hrest with ⟨rfl, _, _⟩ | ⟨_, elems, sp, _, hy, hel, _⟩
    · exact Nat.zero_le _
    · rw [hx] at hw
      have hmem : (elems.length + sp.length) * 8 ∈ (DataW.agg (ys.map (·.1))).weights Try.prog 34 := by
        have h2 : (elems.length + sp.length) * 8 ∈ y2.1.weights Try.prog 32 := by
          rw [hy, DataW.weights, Try.underlying32]
          refine List.mem_cons.2 (.inl ?_)
          rw [show Try.prog.bytesOf 36 = 8 by kernel_rfl]
        rw [DataW.weights, Try.underlying34]
        exact DataW.weights_mem_each (j := 2) (t := 32) (d := y2.1) rfl (by rw [List.getElem?_map, e2]; rfl) _ h2
      have := hw _ hmem
      simp only
      omega
end Go.Proofs.Ytmopjoeomjdikaa
