/- What a step lets go; the state of the law of rates. -/
import Derived.Test.YtefeompdhalgcaaProg
import Derived.RangeFuncNested
import Derived.RangeFuncBound
import Derived.RangeFuncCalls
import Derived.RangeFuncLeaves
import Derived.Shelf.Abstract
import Derived.Shelf.RegionOpen
import Derived.WalkKit
import Derived.OwnWalkIn
import Derived.TacticsInMore
import Derived.LoopNIn
import Derived.LoopIn
import Derived.Lib.Hide
import Derived.Outline
import Derived.RegionTactic
import Derived.BigRegion
import Derived.WalkLawsBesides
import Derived.WalkSpells
import Derived.Deep.QuietTactic
import Derived.BigQuiet
import Derived.Deep.RegionHeld3
import Derived.Lib.Bytealg
import Derived.Lib.ConvBytes
import Derived.Laws.BytesArg
import Derived.Test.YtefeompdhalgcaaSed
import Derived.Test.YtefeompdhalgcaaOwn
import Derived.Deep.DeepCutAuto
import Derived.Deep.CutBlock
import Derived.Test.YtefeompdhalgcaaStallE
namespace Go.Proofs.Ytefeompdhalgcaa
open Go.RowKit Go.Sed
set_option maxHeartbeats 1000000
def gs (g : List A3) : Int := (g.map (·.2.1)).sum
theorem nx_some {le le' row row' : Int} {U O U' O' : List A3} {a : A3} (h : nx le U O row = some (a, le', U', O', row')) :
    le' = le - a.2.1 ∧ a.2.1 ≤ le ∧ ((ahI U O row = 1 ∧ O = a :: O' ∧ U' = U ∧ row' = 0) ∨ (ahI U O row = 0 ∧ U = a :: U' ∧ O' = O ∧ row' = if O.length = 0 then 0 else row + 1)) := by
  unfold nx at h
  split at h
  · rename_i h1
    split at h
    · split at h
      · cases h
      · simp only [Option.some.injEq, Prod.mk.injEq] at h
        obtain ⟨rfl, rfl, rfl, rfl, rfl⟩ := h
        exact ⟨rfl, by omega, .inl ⟨h1, rfl, rfl, rfl⟩⟩
    · cases h
  · split at h
    · rename_i h1
      split at h
      · split at h
        · cases h
        · simp only [Option.some.injEq, Prod.mk.injEq] at h
          obtain ⟨rfl, rfl, rfl, rfl, rfl⟩ := h
          exact ⟨rfl, by omega, .inr ⟨h1, rfl, rfl, rfl⟩⟩
      · cases h
    · cases h
theorem ah0_row {U O : List A3} {row : Int} (h : ahI U O row = 0) (h0 : O.length ≠ 0) : row < 10 := by
  unfold ahI ahN at h
  rw [if_neg (by omega)] at h
  by_cases hu : U.length = 0
  · rw [if_pos hu] at h; omega
  · rw [if_neg hu] at h
    by_cases h10 : 10 ≤ row
    · rw [if_pos ⟨by omega, h10⟩] at h; omega
    · omega
theorem nx_row {le le' row row' : Int} {U O U' O' : List A3} {a : A3} (h : nx le U O row = some (a, le', U', O', row')) (hr : 0 ≤ row ∧ row ≤ 10) : 0 ≤ row' ∧ row' ≤ 10 := by
  obtain ⟨_, _, ⟨_, _, _, rfl⟩ | ⟨h1, _, _, rfl⟩⟩ := nx_some h
  · omega
  · by_cases h0 : O.length = 0
    · rw [if_pos h0]; omega
    · rw [if_neg h0]; have := ah0_row h1 h0; omega
theorem runS_gone : ∀ (f : Nat) (le : Int) (U O : List A3) (row : Int), ∃ g : List A3, (runS f le U O row).1 = g.map (·.1) ∧ (U ++ O).Perm (g ++ ((runS f le U O row).2.2.1 ++ (runS f le U O row).2.2.2.1)) ∧ (runS f le U O row).2.1 = le - gs g ∧ (0 ≤ le → 0 ≤ (runS f le U O row).2.1) ∧
      (0 ≤ row ∧ row ≤ 10 → 0 ≤ (runS f le U O row).2.2.2.2 ∧ (runS f le U O row).2.2.2.2 ≤ 10)
  | 0, le, U, O, row => ⟨[], rfl, List.Perm.refl _, by simp [runS, gs], fun h => h, fun h => h⟩
  | f + 1, le, U, O, row => by
    cases h : nx le U O row with
    | none => rw [runS_none h]; exact ⟨[], rfl, List.Perm.refl _, by simp [gs], fun h => h, fun h => h⟩
    | some x =>
      obtain ⟨a, le', U', O', row'⟩ := x
      obtain ⟨g, h1, h2, h3, h4, h5⟩ := runS_gone f le' U' O' row'
      have hr : runS (f + 1) le U O row = (a.1 :: (runS f le' U' O' row').1, (runS f le' U' O' row').2) := by
        conv => lhs; unfold runS
        rw [h]
      have hn := nx_some h
      rw [hr]
      refine ⟨a :: g, by rw [h1]; rfl, ?_, ?_, ?_, fun h' => h5 (nx_row h h')⟩
      · have hp : (U ++ O).Perm (a :: (U' ++ O')) := by
          rcases hn.2.2 with ⟨_, rfl, rfl, _⟩ | ⟨_, rfl, rfl, _⟩
          · exact List.perm_middle
          · exact List.Perm.refl _
        exact hp.trans (h2.cons a)
      · rw [h3, hn.1]; simp [gs]; omega
      · intro h0; apply h4; rw [hn.1]; omega
/-- the law's state, in plain numbers. -/
structure RP (r bu : Int) (k : Nat) (le : Int) (U O : List A3) (row : Int) (went : List Int) : Prop where
  all : ∀ a, a ∈ U ++ O → 0 ≤ a.1 ∧ a.1 < k ∧ 0 ≤ a.2.1 ∧ a.2.1 ≤ bu
  len : U.length + O.length ≤ 4096
  leb : 0 ≤ le ∧ le ≤ bu
  rowb : 0 ≤ row ∧ row ≤ 10
  wl : went.length ≤ k
  pos : ∀ x, x ∈ went → 0 ≤ x
  suf : ∀ j, j ≤ went.length → (went.drop j).sum + le ≤ bu + ((went.length : Int) - j) * r
theorem sum_nonneg {l : List Int} (h : ∀ x, x ∈ l → 0 ≤ x) : 0 ≤ l.sum := by
  induction l with
  | nil => simp
  | cons a l ih => simp only [List.sum_cons]; have := h a (by simp); have := ih (fun x hx => h x (by simp [hx])); omega
theorem gs_nonneg {g : List A3} (h : ∀ a, a ∈ g → 0 ≤ a.2.1) : 0 ≤ gs g := sum_nonneg (by simp only [List.mem_map]; rintro x ⟨a, ha, rfl⟩; exact h a ha)
theorem RP.next {r bu : Int} {k : Nat} {le : Int} {U O : List A3} {row : Int} {went : List Int} (h : RP r bu k le U O row went) : RP r bu (k + 1) le U O row went :=
  ⟨fun a ha => by have := h.all a ha; omega, h.len, h.leb, h.rowb, by have := h.wl; omega, h.pos, h.suf⟩
theorem RP.ask {r bu : Int} {k : Nat} {le : Int} {U O : List A3} {row : Int} {went : List Int} (h : RP r bu k le U O row went) (n : Int) (ur : Bool) (hn : 0 ≤ n ∧ n ≤ bu) (hl : U.length + O.length < 4096) :
    RP r bu (k + 1) le (if ur then U ++ [((k : Int), n, ur)] else U) (if ur then O else O ++ [((k : Int), n, ur)]) row went := by
  refine ⟨?_, ?_, h.leb, h.rowb, by have := h.wl; omega, h.pos, h.suf⟩
  · intro a ha
    have : a ∈ U ++ O ∨ a = ((k : Int), n, ur) := by
      cases ur <;> simp at ha ⊢ <;> grind
    rcases this with ha | rfl
    · have := h.all a ha; omega
    · simp only; omega
  · cases ur <;> simp <;> omega
theorem minI_eq (a b : Int) : minI a b ≤ a ∧ minI a b ≤ b ∧ (minI a b = a ∨ minI a b = b) := by unfold minI; split <;> omega
/-- a step: who goes, and what the state is then. -/
theorem RP.step {r bu : Int} {k : Nat} {le : Int} {U O : List A3} {row : Int} {went : List Int} (h : RP r bu k le U O row went) (hr : 0 ≤ r ∧ r ≤ 4294967295) (hb : 0 ≤ bu ∧ bu ≤ 4294967295) :
    ∃ g le' U' O' row', runS (U.length + O.length) (minI (plusI le r) bu) U O row = (g.map (·.1), le', U', O', row') ∧ (U ++ O).Perm (g ++ (U' ++ O')) ∧ RP r bu (k + 1) le' U' O' row' (went ++ [gs g]) ∧ (∀ a, a ∈ g → 0 ≤ a.2.1 ∧ a.2.1 ≤ bu ∧ 0 ≤ a.1 ∧ a.1 < k) ∧ gs g ≤ bu := by
  obtain ⟨g, h1, h2, h3, h4, h5⟩ := runS_gone (U.length + O.length) (minI (plusI le r) bu) U O row
  have hle := h.leb
  have hm := minI_eq (plusI le r) bu
  have hp : plusI le r = le + r := by unfold plusI; rw [if_neg (by omega)]
  rw [hp] at hm h1 h2 h3 h4 h5 ⊢
  have hL : 0 ≤ minI (le + r) bu := by omega
  obtain ⟨res, hrun⟩ : ∃ res, runS (U.length + O.length) (minI (le + r) bu) U O row = res := ⟨_, rfl⟩
  rw [hrun] at h1 h2 h3 h4 h5 ⊢
  obtain ⟨x, le', U', O', row'⟩ := res
  simp only at h1 h2 h3 h4 h5
  subst h1
  have hg : ∀ a, a ∈ g → 0 ≤ a.2.1 ∧ a.2.1 ≤ bu ∧ 0 ≤ a.1 ∧ a.1 < k := by
    intro a ha
    have := h.all a (h2.mem_iff.2 (by simp [ha]))
    omega
  have hgn := gs_nonneg (g := g) (fun a ha => (hg a ha).1)
  have hle' := h4 hL
  refine ⟨g, le', U', O', row', rfl, h2, ?_, hg, by omega⟩
  refine ⟨?_, ?_, by omega, h5 h.rowb, ?_, ?_, ?_⟩
  · intro a ha
    have := h.all a (h2.mem_iff.2 (by simp at ha; simp [ha]))
    omega
  · have := h2.length_eq
    simp only [List.length_append] at this
    have := h.len
    omega
  · have := h.wl; simp; omega
  · intro y hy
    simp only [List.mem_append, List.mem_singleton] at hy
    rcases hy with hy | rfl
    · exact h.pos y hy
    · exact hgn
  · intro j hj
    simp only [List.length_append, List.length_singleton] at hj ⊢
    by_cases hj' : j = went.length + 1
    · subst hj'
      rw [List.drop_eq_nil_of_le (by simp)]
      simp; omega
    · have hs := h.suf j (by omega)
      rw [List.drop_append_of_le_length (by omega), List.sum_append]
      simp only [List.sum_cons, List.sum_nil]
      have he : (((went.length + 1 : Nat) : Int) - j) * r = ((went.length : Int) - j) * r + r := by
        rw [show (((went.length + 1 : Nat) : Int) - j) = ((went.length : Int) - j) + 1 by omega, Int.add_mul, Int.one_mul]
      rw [he]
      omega
end Go.Proofs.Ytefeompdhalgcaa
