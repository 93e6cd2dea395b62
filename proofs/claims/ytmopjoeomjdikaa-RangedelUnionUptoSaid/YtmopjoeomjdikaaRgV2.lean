/- A further list of tombstones and a key, among what was read. -/
import Derived.Test.YtmopjoeomjdikaaRgO
import Derived.Test.YtmopjoeomjdikaaBulk
namespace Go.Proofs.Ytmopjoeomjdikaa
open Go.RowKit Go.Sed
variable {H : Type} {enc : TypeId × Value → H} {w : World} {base : Nat} {spare : Nat → Bool} {held : Bool}
set_option maxRecDepth 100000 in
theorem two_cells {n : Nat} {cs : List Value} {x : DataW H × List MemPlace} (h : DataW.trod enc Try.prog w base spare held n 41 cs = some x) :
    ∃ (p : Option Addr) (l : List Tb) (c : Nat) (key : ByteArray), cs = [.slice p l.length c, .string key] ∧ Rd w 3 p l.length (l.flatMap tc) ∧ (∀ a ∈ l, (a.b.size ≤ maxLen ∧ a.e.size ≤ maxLen) ∧ 0 ≤ a.s) ∧ l.length ≤ Rows.uptoBulk x.1 := by
  obtain ⟨hl, ys, hyl, hx, m, hf⟩ := struct_cells Try.underlying41 h
  replace hl : cs.length = 2 := hl.trans (by kernel_rfl)
  match cs, hl with
  | [c0, c1], _ =>
    obtain ⟨y0, z0, g0⟩ := hf 0 _ rfl
    obtain ⟨y1, _, g1⟩ := hf 1 _ rfl
    have cs' : Try.prog.cellsOf 9 = 1 := by kernel_rfl
    have cu : Try.prog.cellsOf 22 = 1 := by kernel_rfl
    replace g0 : DataW.trod enc Try.prog w base spare held m 22 (List.take (Try.prog.cellsOf 22) (List.drop 0 [c0, c1])) = some y0 := g0
    rw [cu] at g0
    replace g1 : DataW.trod enc Try.prog w base spare held m 9 (List.take (Try.prog.cellsOf 9) (List.drop 1 [c0, c1])) = some y1 := g1
    rw [cs'] at g1
    obtain ⟨key, e1, _, _⟩ := DataW.trod_string Try.underlying9 g1
    obtain ⟨p, l, c, hcs, hrd, hlc, hcm, hrest⟩ := open_list tc (fun a _ => (a.b.size ≤ maxLen ∧ a.e.size ≤ maxLen) ∧ 0 ≤ a.s ∧ a.s < 18446744073709551616) 3 Try.underlying22 (by kernel_rfl) (by decide) (fun _ => rfl) (fun n cs x hx => tomb_cells hx) g0
    simp at e1 hcs
    subst e1 hcs
    refine ⟨p, l, c, key, rfl, hrd, fun a ha => ?_, ?_⟩
    · obtain ⟨i, hi⟩ := List.mem_iff_getElem?.1 ha
      rcases hrest with ⟨rfl, _, _⟩ | ⟨_, elems, sp, _, _, he, hq⟩
      · cases ha
      · have hil := (List.getElem?_eq_some_iff.1 hi).1
        have := hq i a _ hi (List.getElem?_eq_getElem (by omega))
        exact ⟨this.1, this.2.1⟩
    · rcases hrest with ⟨rfl, _, _⟩ | ⟨_, elems, sp, _, hy, hel, _⟩
      · exact Nat.zero_le _
      · rw [hx, Rows.uptoBulk]
        have hmem : y0.1 ∈ ys.map (·.1) := List.mem_map.2 ⟨y0, List.mem_of_getElem? z0, rfl⟩
        have h1 := bulks.slice_le elems sp
        rw [hy] at hmem
        have h2 : ∀ (L : List (DataW H)) (d : DataW H), d ∈ L → Rows.uptoBulk d ≤ Rows.uptoBulkAll L := by
          intro L
          induction L with
          | nil => intro d hd; cases hd
          | cons a r ih =>
            intro d hd
            rw [Rows.uptoBulkAll]
            rcases List.mem_cons.1 hd with rfl | hd
            · omega
            · have := ih d hd; omega
        have h3 := h2 _ _ hmem
        omega
end Go.Proofs.Ytmopjoeomjdikaa
