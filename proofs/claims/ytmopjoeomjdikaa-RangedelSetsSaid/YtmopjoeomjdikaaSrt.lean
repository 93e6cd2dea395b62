/- A slice of the call's own, sorted by the library's sort: what is left of the world. No condition but those that each theorem names. -/
import Derived.Test.YtmopjoeomjdikaaFr
import Derived.Shelf.SlSortCmp.NoneTotal
namespace Go.Sed
open Go.Proofs Go.RowKit Go.Sort
variable {α : Type} [Inhabited α]
theorem OW.holds {enc : α → Value} {w : World} {base g o n cap : Nat} {d : Array α} (h : OW w base 1 (.slice (some ⟨g, o, none⟩) n cap) n (d.toList.map enc)) : d.size = n ∧ Holds enc w g o d := by
  have hl := h.1
  rw [List.length_map, Array.length_toList, Nat.mul_one] at hl
  refine ⟨hl, fun j hj => ?_⟩
  rcases h.2 with ⟨h1, h2⟩ | ⟨g', o', cap', hv, _, _, hn, _, hc, hf⟩
  · cases h1
  · injection hv with hA _ hcap
    injection hA with hA
    injection hA with e1 e2
    subst e1 e2 hcap
    refine ⟨hc j _ ?_, (hf j (by omega)).2⟩
    rw [List.getElem?_map, Array.getElem?_toList, Array.getElem?_eq_getElem hj, getElem!_pos d j hj]; rfl
theorem OW.sorted {enc : α → Value} {w : World} {base g o n cap m : Nat} {d d' : Array α} {os : Array Obj} (h : OW w base 1 (.slice (some ⟨g, o, none⟩) n cap) n (d.toList.map enc)) (hs : d'.size = d.size) :
    OW (sortWorld enc w g o m d' os) base 1 (.slice (some ⟨g, o, none⟩) n cap) n (d'.toList.map enc) ∧ Fr (fun k => k = g) w (sortWorld enc w g o m d' os) := by
  obtain ⟨hn, hH⟩ := h.holds
  have hsz : (sortWorld enc w g o m d' os).heap.size = w.heap.size + os.size := by unfold sortWorld; rw [size_grow, Sort.size_putRow, heap_ahead]
  refine ⟨⟨by rw [List.length_map, Array.length_toList]; omega, ?_⟩, ?_⟩
  · rcases h.2 with ⟨h1, h2⟩ | ⟨g', o', cap', hv, hb, hl, hnc, hm, hc, hf⟩
    · cases h1
    · injection hv with hA _ hcap
      injection hA with hA
      injection hA with e1 e2
      subst e1 e2 hcap
      refine .inr ⟨g, o, cap, rfl, hb, by omega, hnc, hm, fun j u hu => ?_, fun j hj => ?_⟩
      · have hjl := (List.getElem?_eq_some_iff.1 hu).1
        rw [List.length_map, Array.length_toList] at hjl
        unfold sortWorld
        rw [cell?_grow _ _ _ (by rw [Sort.size_putRow]; exact hl), cell?_putRow enc (Sort.ahead w m) g o d d' hH hs j hjl]
        rw [List.getElem?_map, Array.getElem?_toList, Array.getElem?_eq_getElem hjl] at hu
        rw [getElem!_pos d' j hjl]; exact hu
      · unfold sortWorld
        rw [cell?_grow _ _ _ (by rw [Sort.size_putRow]; exact hl), frozen?_grow _ _ _ (by rw [Sort.size_putRow]; exact hl), frozen?_putRow]
        refine ⟨?_, (hf j hj).2⟩
        by_cases hjd : j < d'.size
        · rw [cell?_putRow enc (Sort.ahead w m) g o d d' hH hs j hjd]; rfl
        · rw [cell?_putRow_other enc (Sort.ahead w m) g o d' ⟨g, o + j, none⟩ (.inr (.inr (by simp only; omega)))]
          exact (hf j hj).1
  · refine ⟨rfl, rfl, rfl, by omega, fun k hk hkg => ?_⟩
    unfold sortWorld
    rw [heap_grow_old _ _ (by rw [Sort.size_putRow]; exact hk)]
    simp only [putRow, mapBlock, Array.getElem?_modify]
    rw [if_neg (fun e => hkg e.symm)]
    rfl
end Go.Sed
