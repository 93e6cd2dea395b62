/- A slice of the call's own, sorted and compacted by the library: contracts ready for use. No condition but those that each theorem names. -/
import Derived.Test.YtmopjoeomjdikaaSrt
import Derived.Shelf.SlicesE.Compact
namespace Go.Sed
open Go.Proofs Go.RowKit Go.Sort Go.Lib
variable {P : Program} {α : Type} [Inhabited α]
theorem sort_ow {ρ : Shelf.Ren} (L : SlLaysF.n6 P ρ) (enc : α → Value) (h1 : OneCell enc) (cf : α → α → Int) (hO : SWO (ltOf cf)) (hT : ∀ x y, (ltOf cf) x y = false → (ltOf cf) y x = false → x = y) (g : Nat) (cb : Array Value)
    (eg : ∀ args w, (callFunc g args).run P w = .ok (.enter g args) w) (base n c : Nat) (A : Option Addr) (l : List α) (w : World) (h : OW w base 1 (.slice A n c) n (l.map enc)) (hn : n < 4611686018427387904)
    (hcmp : ∀ W, Fr (fun k => (Value.slice A n c).ownBlock = some k) w W → ∀ x y, Calls P g (#[enc x, enc y] ++ cb) W fun e w' => e = .returned (.int .i64 (cf x y)) ∧ W = w') :
    Calls P (ρ.f 6) #[.slice A n c, .func (.func g) #[] cb] w fun e w' => e = .returned (.tuple #[]) ∧ OW w' base 1 (.slice A n c) n ((l.mergeSort fun x y => !(ltOf cf) y x).map enc) ∧ Fr (fun k => (Value.slice A n c).ownBlock = some k) w w' := by
  have hl : l.length = n := by have := h.1; simpa using this
  by_cases h0 : n = 0
  · subst h0
    obtain rfl : l = [] := List.eq_nil_of_length_eq_zero hl
    refine (AnyF.slices_SortFunc_none (P := P) (ρ := ρ) { L with } A c (.func (.func g) #[] cb) w).mono fun e w' ⟨he, hw'⟩ => ?_
    subst hw'
    exact ⟨he, by simpa using h, Fr.refl _ _⟩
  · obtain ⟨b, o, rfl, -⟩ := h.rd.2 (by omega)
    have h' : OW w base 1 (.slice (some ⟨b, o, none⟩) n c) n (l.toArray.toList.map enc) := by simpa using h
    have hsz : l.toArray.size = n := by simpa using hl
    have hS := Any.slices_SortFunc_total (P := P) (ρ := ρ) L enc h1 cf hO g cb b o c l.toArray w eg (CmpReads.lays (fun m os dk hdk x y => (hcmp _ ((h'.sorted (m := m) (d' := dk) (os := os) hdk).2.mono (fun k _ e => by subst e; rfl)) x y).mono fun e w' ⟨he, hw⟩ => ⟨he, 0, hw.symm⟩)) h'.holds.2 (h.lt b rfl).2 (by omega) hT
    rw [hsz] at hS
    refine Calls.mono hS fun e w' ⟨he, m, os, hw'⟩ => ?_
    subst hw'
    have hso := h'.sorted (m := m) (d' := (l.toArray.toList.mergeSort fun x y => !(ltOf cf) y x).toArray) (os := os) (by simp)
    exact ⟨he, by simpa using hso.1, hso.2.mono (fun k _ e => by subst e; rfl)⟩
theorem OW.front {w : World} {base n k c g o : Nat} {xs : List Value} (h : OW w base 1 (.slice (some ⟨g, o, none⟩) n c) n xs) (hk : k ≤ n) : OW w base 1 (.slice (some ⟨g, o, none⟩) k c) k (xs.take k) := by
  have hl := h.1
  refine ⟨by rw [List.length_take]; omega, ?_⟩
  rcases h.2 with ⟨h1, _⟩ | ⟨g', o', cap', hv, hb, hgl, hn, hm, hc, hf⟩
  · cases h1
  · injection hv with hA _ hcap
    injection hA with hA
    injection hA with e1 e2
    subst e1 e2 hcap
    refine .inr ⟨g, o, c, rfl, hb, hgl, by omega, hm, fun j u hu => ?_, hf⟩
    rw [List.getElem?_take] at hu
    split at hu
    · exact hc j u hu
    · cases hu
theorem compact_ow [DecidableEq α] {ρ : Shelf.Ren} (L : SlLaysE.n43 P ρ) (enc : α → Value) (h1 : OneCell enc) (heq : EqlAt P (ρ.t 23) enc (fun x y => decide (x = y))) (hne : NeqAt P (ρ.t 23) enc (fun x y => decide (x = y))) (zr : α) (v23 : ∀ w, (zeroValue (ρ.t 23)).run P w = .ok (enc zr) w)
    (base n c b o : Nat) (l : List α) (w : World) (h : OW w base 1 (.slice (some ⟨b, o, none⟩) n c) n (l.map enc)) :
    Calls P (ρ.f 43) #[.slice (some ⟨b, o, none⟩) n c] w fun e w' => e = .returned (.slice (some ⟨b, o, none⟩) (Lib.compact l).length c) ∧ OW w' base 1 (.slice (some ⟨b, o, none⟩) (Lib.compact l).length c) (Lib.compact l).length ((Lib.compact l).map enc) ∧ Fr (fun k => k = b) w w' := by
  have hl : l.length = n := by have := h.1; simpa using this
  have h' : OW w base 1 (.slice (some ⟨b, o, none⟩) n c) n (l.toArray.toList.map enc) := by simpa using h
  have hsz : l.toArray.size = n := by simpa using hl
  have hnc : n ≤ c ∧ c ≤ maxLen := by
    obtain ⟨A, c', hv, _, h2, h3, _⟩ := h.shape
    injection hv with _ _ e
    subst e; exact ⟨h2, h3⟩
  have hcm : c ≤ 9223372036854775807 := by have := hnc.2; unfold maxLen at this; omega
  have hS := AnyE.slices_Compact (P := P) (ρ := ρ) L enc h1 heq hne zr v23 b o c l.toArray w h'.holds.2 (by omega) (by omega)
  have hK : compactUpTo l.toArray l.toArray.size = Lib.compact l := by simp [Lib.compact]
  have hKl : (Lib.compact l).length ≤ n := by
    unfold Lib.compact compactUpTo
    rw [List.length_map]
    refine Nat.le_trans (List.length_filter_le _ _) ?_
    rw [List.length_range]; omega
  rw [hK, hsz] at hS
  refine Calls.mono hS fun e w' ⟨he, q, hw'⟩ => ?_
  have hW : w' = sortWorld enc w b o q (Lib.compact l ++ List.replicate (n - (Lib.compact l).length) zr).toArray #[] := by
    rw [hw']
    unfold sortWorld
    rw [grow_empty]
  have hso := h'.sorted (m := q) (d' := (Lib.compact l ++ List.replicate (n - (Lib.compact l).length) zr).toArray) (os := #[]) (by simp; omega)
  rw [← hW] at hso
  refine ⟨he, ?_, hso.2⟩
  have := hso.1.front hKl
  simpa using this
end Go.Sed
