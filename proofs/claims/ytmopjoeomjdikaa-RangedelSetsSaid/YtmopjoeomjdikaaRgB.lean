/- What layer 9 computes: fragments of tombstones, and their laws. Plain: no run in it. -/
import Derived.RangeFuncNested
import Derived.RangeFuncBound
import Derived.RangeFuncCalls
import Derived.RangeFuncLeaves
import Derived.Shelf.Abstract
import Derived.Shelf.RegionOpen
import Derived.WalkKit
import Derived.OwnWalkIn
import Derived.TacticsInMore
import Derived.LoopNIn
import Derived.LoopIn
import Derived.Lib.Hide
import Derived.Outline
import Derived.RegionTactic
import Derived.BigRegion
import Derived.WalkLawsBesides
import Derived.WalkSpells
import Derived.Deep.QuietTactic
import Derived.BigQuiet
import Derived.Deep.RegionHeld3
import Derived.Deep.DeepCutAuto
import Derived.Deep.CutBlock
import Derived.StillTailTactics
import Derived.WalkSmall
import Derived.Lib.SlicesCompact
import Derived.Test.YtmopjoeomjdikaaRgA
import Derived.Test.YtmopjoeomjdikaaSrt
namespace Go.Proofs.Ytmopjoeomjdikaa
open Go.RowKit Go.Sed Go.Sort
set_option maxHeartbeats 1000000
section Plain
variable {α : Type} [Inhabited α] [DecidableEq α]
omit [Inhabited α] [DecidableEq α] in
/-- rows that rise, with the same members, are one. -/
theorem rise_uniq {lt : α → α → Prop} (hi : ∀ x, ¬ lt x x) (ht : ∀ x y z, lt x y → lt y z → lt x z) : ∀ (xs ys : List α), xs.Pairwise lt → ys.Pairwise lt → (∀ x, x ∈ xs ↔ x ∈ ys) → xs = ys
  | [], [], _, _, _ => rfl
  | [], y :: ys, _, _, h => absurd ((h y).2 (by simp)) (by simp)
  | x :: xs, [], _, _, h => absurd ((h x).1 (by simp)) (by simp)
  | x :: xs, y :: ys, hx, hy, h => by
    rw [List.pairwise_cons] at hx hy
    have e : x = y := by
      rcases List.mem_cons.1 ((h x).1 (by simp)) with e | e
      · exact e
      · rcases List.mem_cons.1 ((h y).2 (by simp)) with e2 | e2
        · exact e2.symm
        · exact absurd (ht _ _ _ (hx.1 y e2) (hy.1 x e)) (hi x)
    subst e
    rw [rise_uniq hi ht xs ys hx.2 hy.2 (fun z => ?_)]
    constructor
    · intro hz
      rcases List.mem_cons.1 ((h z).1 (List.mem_cons_of_mem _ hz)) with e | e
      · subst e; exact absurd (hx.1 z hz) (hi z)
      · exact e
    · intro hz
      rcases List.mem_cons.1 ((h z).2 (List.mem_cons_of_mem _ hz)) with e | e
      · subst e; exact absurd (hy.1 z hz) (hi z)
      · exact e
omit [DecidableEq α] in
theorem get!_of {d : Array α} {j : Nat} {x : α} (h : d[j]? = some x) : d[j]! = x := by
  have hj := (Array.getElem?_eq_some_iff.1 h).1
  rw [getElem!_pos d j hj]
  exact (Array.getElem?_eq_some_iff.1 h).2
/-- what is compacted of a row that does not fall. -/
theorem compact_rise {lt : α → α → Prop} (hi : ∀ x, ¬ lt x x) (ht : ∀ x y z, lt x y → lt y z → lt x z) (zs : List α) (hs : zs.Pairwise (fun x y => lt x y ∨ x = y)) :
    (Lib.compact zs).Pairwise lt ∧ ∀ x, x ∈ Lib.compact zs ↔ x ∈ zs := by
  have hget : ∀ (i j : Nat) (x y : α), i < j → zs[i]? = some x → zs[j]? = some y → lt x y ∨ x = y := by
    intro i j x y hij hx hy
    obtain ⟨h1, rfl⟩ := List.getElem?_eq_some_iff.1 hx
    obtain ⟨h2, rfl⟩ := List.getElem?_eq_some_iff.1 hy
    exact List.pairwise_iff_getElem.1 hs i j h1 h2 hij
  have key : ∀ m : Nat, m ≤ zs.length → (Lib.compactUpTo zs.toArray m).Pairwise lt ∧ (∀ x, x ∈ Lib.compactUpTo zs.toArray m ↔ ∃ j : Nat, j < m ∧ zs[j]? = some x) := by
    intro m
    induction m with
    | zero =>
      intro _
      refine ⟨List.Pairwise.nil, fun x => ⟨fun h => (List.not_mem_nil h).elim, fun ⟨j, hj, _⟩ => absurd hj (by omega)⟩⟩
    | succ m ih =>
      intro hm
      obtain ⟨i1, i2⟩ := ih (by omega)
      rw [Lib.compactUpTo_succ]
      obtain ⟨y, hy⟩ : ∃ y, zs[m]? = some y := ⟨_, List.getElem?_eq_getElem (by omega)⟩
      have hy' : zs.toArray[m]! = y := get!_of (by simpa using hy)
      rw [hy']
      by_cases hk : Lib.keeps zs.toArray m = true
      · rw [if_pos hk]
        refine ⟨List.pairwise_append.2 ⟨i1, List.pairwise_singleton _ _, fun x hx z hz => ?_⟩, fun x => ?_⟩
        · rw [List.mem_singleton] at hz
          subst hz
          obtain ⟨j, hj, hxj⟩ := (i2 x).1 hx
          rcases hget j m x z hj hxj hy with h | h
          · exact h
          · subst h
            exfalso
            have hm0 : m ≠ 0 := by omega
            obtain ⟨p, hp⟩ : ∃ p, zs[m - 1]? = some p := ⟨_, List.getElem?_eq_getElem (by omega)⟩
            have hp' : zs.toArray[m - 1]! = p := get!_of (by simpa using hp)
            unfold Lib.keeps at hk
            rw [hy', hp', decide_eq_true_eq] at hk
            rcases hk with hk | hk
            · omega
            · have h2 := hget (m - 1) m p x (by omega) hp hy
              rcases h2 with h2 | h2
              · by_cases e : j = m - 1
                · subst e
                  rw [hxj] at hp
                  exact hk (Option.some.inj hp)
                · rcases hget j (m - 1) x p (by omega) hxj hp with h3 | h3
                  · exact hi x (ht _ _ _ h3 h2)
                  · exact hk h3
              · exact hk h2.symm
        · rw [List.mem_append, i2 x, List.mem_singleton]
          constructor
          · rintro (⟨j, hj, h⟩ | rfl)
            · exact ⟨j, by omega, h⟩
            · exact ⟨m, by omega, hy⟩
          · rintro ⟨j, hj, h⟩
            by_cases e : j = m
            · subst e
              rw [hy] at h
              exact .inr (Option.some.inj h).symm
            · exact .inl ⟨j, by omega, h⟩
      · rw [if_neg hk, List.append_nil]
        refine ⟨i1, fun x => ?_⟩
        rw [i2 x]
        constructor
        · rintro ⟨j, hj, h⟩
          exact ⟨j, by omega, h⟩
        · rintro ⟨j, hj, h⟩
          by_cases e : j = m
          · subst e
            unfold Lib.keeps at hk
            rw [decide_eq_true_eq, not_or, Classical.not_not, hy'] at hk
            obtain ⟨p, hp⟩ : ∃ p, zs[j - 1]? = some p := ⟨_, List.getElem?_eq_getElem (by omega)⟩
            have hp' : zs.toArray[j - 1]! = p := get!_of (by simpa using hp)
            rw [hp'] at hk
            refine ⟨j - 1, by omega, ?_⟩
            rw [hp, ← hk.2, ← h, hy]
          · exact ⟨j, by omega, h⟩
  obtain ⟨k1, k2⟩ := key zs.length (Nat.le_refl _)
  refine ⟨k1, fun x => (k2 x).trans ?_⟩
  rw [List.mem_iff_getElem?]
  constructor
  · rintro ⟨j, _, h⟩; exact ⟨j, h⟩
  · rintro ⟨j, h⟩; exact ⟨j, (List.getElem?_eq_some_iff.1 h).1, h⟩
/-- a place where it turns. -/
theorem turns {p : Nat → Prop} : ∀ (n x : Nat), p x → ¬ p (x + n) → ∃ i, x ≤ i ∧ i < x + n ∧ p i ∧ ¬ p (i + 1)
  | 0, x, h1, h2 => absurd h1 (by simpa using h2)
  | n + 1, x, h1, h2 => by
    by_cases h : p (x + 1)
    · obtain ⟨i, a, b, c, d⟩ := turns n (x + 1) h (by rw [show x + 1 + n = x + (n + 1) by omega]; exact h2)
      exact ⟨i, by omega, by omega, c, d⟩
    · exact ⟨x, Nat.le_refl _, by omega, h1, h⟩
end Plain
/-- a fragment. -/
structure Fg where
  b : ByteArray
  e : ByteArray
  q : List Int
def liveT (how : Int) (l : List Tb) : List Tb := l.filter (fun t => decide (cmpH how t.b t.e < 0))
def endsT (l : List Tb) : List ByteArray := l.flatMap (fun t => [t.b, t.e])
def sortB (how : Int) (l : List ByteArray) : List ByteArray := l.mergeSort (fun x y => !(ltOf (cmpH how)) y x)
def fallI (x y : Int) : Int := cmpI y x
def sortI (l : List Int) : List Int := l.mergeSort (fun x y => !(ltOf fallI) y x)
def cutsT (how : Int) (l : List Tb) : List ByteArray := Lib.compact (sortB how (endsT (liveT how l)))
def covT (how : Int) (a b : ByteArray) (t : Tb) : Bool := decide (cmpH how t.b a ≤ 0) && decide (cmpH how b t.e ≤ 0)
def seqsT (how : Int) (L : List Tb) (a b : ByteArray) : List Int := Lib.compact (sortI ((L.filter (covT how a b)).map Tb.s))
def frag1 (how : Int) (L : List Tb) (a b : ByteArray) : List Fg := if 0 < (seqsT how L a b).length then [⟨a, b, seqsT how L a b⟩] else []
def fragsN (how : Int) (L : List Tb) (C : List ByteArray) (n : Nat) : List Fg := (List.range n).flatMap (fun j => frag1 how L (C.getD j .empty) (C.getD (j + 1) .empty))
def splitT (how : Int) (l : List Tb) : List Fg := fragsN how (liveT how l) (cutsT how l) ((cutsT how l).length - 1)
theorem fragsN_succ (how : Int) (L : List Tb) (C : List ByteArray) (n : Nat) (a b : ByteArray) (ha : C[n]? = some a) (hb : C[n + 1]? = some b) : fragsN how L C (n + 1) = fragsN how L C n ++ frag1 how L a b := by
  unfold fragsN
  rw [List.range_succ, List.flatMap_append]
  simp [List.getD_eq_getElem?_getD, ha, hb]
def ltB (how : Int) (x y : ByteArray) : Prop := cmpH how x y < 0
theorem ltB_irr (how : Int) (x : ByteArray) : ¬ ltB how x x := by unfold ltB; rw [cmpH_self]; omega
theorem ltB_trans (how : Int) (x y z : ByteArray) (h1 : ltB how x y) (h2 : ltB how y z) : ltB how x z := by
  unfold ltB at *
  exact (cmpH_trans how x y z (by omega) (by omega)).2 (.inl h1)
theorem leB_trans (how : Int) {x y z : ByteArray} (h1 : cmpH how x y ≤ 0) (h2 : cmpH how y z ≤ 0) : cmpH how x z ≤ 0 := (cmpH_trans how x y z h1 h2).1
theorem leB_lt (how : Int) {x y z : ByteArray} (h1 : cmpH how x y ≤ 0) (h2 : cmpH how y z < 0) : cmpH how x z < 0 := (cmpH_trans how x y z h1 (by omega)).2 (.inr h2)
theorem ltB_le (how : Int) {x y z : ByteArray} (h1 : cmpH how x y < 0) (h2 : cmpH how y z ≤ 0) : cmpH how x z < 0 := (cmpH_trans how x y z (by omega) h2).2 (.inl h1)
theorem swoB (how : Int) : SWO (ltOf (cmpH how)) where
  irrefl x := by unfold ltOf; rw [cmpH_self]; rfl
  trans x y z h1 h2 := by
    unfold ltOf at *
    rw [decide_eq_true_eq] at *
    exact ltB_trans how x y z h1 h2
  ntrans x y z h1 h2 := by
    unfold ltOf at *
    rw [decide_eq_false_iff_not] at *
    have e1 := cmpH_swap how x y
    have e2 := cmpH_swap how y z
    have e3 := cmpH_swap how x z
    have := leB_trans how (x := z) (y := y) (z := x) (by omega) (by omega)
    omega
theorem totB (how : Int) (x y : ByteArray) (h1 : ltOf (cmpH how) x y = false) (h2 : ltOf (cmpH how) y x = false) : x = y := by
  unfold ltOf at *
  rw [decide_eq_false_iff_not] at *
  have e1 := cmpH_swap how x y
  exact (cmpH_eq0 how x y).1 (by omega)
theorem fallI_lt (x y : Int) : fallI x y < 0 ↔ y < x := by unfold fallI cmpI; (repeat' split) <;> omega
theorem swoI : SWO (ltOf fallI) where
  irrefl x := by unfold ltOf; rw [decide_eq_false_iff_not, fallI_lt]; omega
  trans x y z h1 h2 := by
    unfold ltOf at *
    rw [decide_eq_true_eq, fallI_lt] at *
    omega
  ntrans x y z h1 h2 := by
    unfold ltOf at *
    rw [decide_eq_false_iff_not, fallI_lt] at *
    omega
theorem totI (x y : Int) (h1 : ltOf fallI x y = false) (h2 : ltOf fallI y x = false) : x = y := by
  unfold ltOf at *
  rw [decide_eq_false_iff_not, fallI_lt] at *
  omega
theorem sortB_rise (how : Int) (l : List ByteArray) : (sortB how l).Pairwise (fun x y => ltB how x y ∨ x = y) := by
  have h := List.pairwise_mergeSort (le := fun x y => !(ltOf (cmpH how)) y x) (fun a b c h1 h2 => ?_) (fun a b => ?_) l
  · refine List.Pairwise.imp (fun {x y} hxy => ?_) h
    unfold ltOf at hxy
    simp only [Bool.not_eq_true', decide_eq_false_iff_not] at hxy
    have e1 := cmpH_swap how x y
    by_cases h0 : cmpH how x y = 0
    · exact .inr ((cmpH_eq0 how x y).1 h0)
    · exact .inl (by unfold ltB; omega)
  · simp only [ltOf, Bool.not_eq_true', decide_eq_false_iff_not] at *
    have e1 := cmpH_swap how a b
    have e2 := cmpH_swap how b c
    have e3 := cmpH_swap how a c
    have := leB_trans how (x := a) (y := b) (z := c) (by omega) (by omega)
    omega
  · simp only [ltOf, Bool.or_eq_true, Bool.not_eq_true', decide_eq_false_iff_not]
    have e1 := cmpH_swap how a b
    omega
theorem sortI_fall (l : List Int) : (sortI l).Pairwise (fun x y => y < x ∨ x = y) := by
  have h := List.pairwise_mergeSort (le := fun x y => !(ltOf fallI) y x) (fun a b c h1 h2 => ?_) (fun a b => ?_) l
  · refine List.Pairwise.imp (fun {x y} hxy => ?_) h
    simp only [ltOf, Bool.not_eq_true', decide_eq_false_iff_not, fallI_lt] at hxy
    omega
  · simp only [ltOf, Bool.not_eq_true', decide_eq_false_iff_not, fallI_lt] at *
    omega
  · simp only [ltOf, Bool.or_eq_true, Bool.not_eq_true', decide_eq_false_iff_not, fallI_lt]
    omega
theorem cutsT_ok (how : Int) (l : List Tb) : (cutsT how l).Pairwise (ltB how) ∧ ∀ x, x ∈ cutsT how l ↔ ∃ t ∈ l, cmpH how t.b t.e < 0 ∧ (x = t.b ∨ x = t.e) := by
  have h := compact_rise (ltB_irr how) (ltB_trans how) _ (sortB_rise how (endsT (liveT how l)))
  refine ⟨h.1, fun x => (h.2 x).trans ?_⟩
  unfold sortB
  rw [List.mem_mergeSort]
  unfold endsT liveT
  simp only [List.mem_flatMap, List.mem_filter, decide_eq_true_eq, List.mem_cons, List.not_mem_nil, or_false, and_assoc]
theorem seqsT_ok (how : Int) (L : List Tb) (a b : ByteArray) : (seqsT how L a b).Pairwise (fun x y => y < x) ∧ ∀ x, x ∈ seqsT how L a b ↔ ∃ t ∈ L, covT how a b t = true ∧ x = t.s := by
  have h := compact_rise (lt := fun x y : Int => y < x) (fun x h => by omega) (fun x y z h1 h2 => by omega) _ (sortI_fall ((L.filter (covT how a b)).map Tb.s))
  refine ⟨h.1, fun x => (h.2 x).trans ?_⟩
  unfold sortI
  rw [List.mem_mergeSort, List.mem_map]
  constructor
  · rintro ⟨t, ht, rfl⟩
    rw [List.mem_filter] at ht
    exact ⟨t, ht.1, ht.2, rfl⟩
  · rintro ⟨t, ht, h2, rfl⟩
    exact ⟨t, List.mem_filter.2 ⟨ht, h2⟩, rfl⟩
theorem frag1_mem {how : Int} {L : List Tb} {a b : ByteArray} {f : Fg} (h : f ∈ frag1 how L a b) : f = ⟨a, b, seqsT how L a b⟩ ∧ 0 < (seqsT how L a b).length := by
  unfold frag1 at h
  split at h
  · exact ⟨List.mem_singleton.1 h, by assumption⟩
  · cases h
theorem cut_lt {how : Int} {l : List Tb} {i j : Nat} {x y : ByteArray} (hij : i < j) (hx : (cutsT how l)[i]? = some x) (hy : (cutsT how l)[j]? = some y) : cmpH how x y < 0 := by
  obtain ⟨h1, rfl⟩ := List.getElem?_eq_some_iff.1 hx
  obtain ⟨h2, rfl⟩ := List.getElem?_eq_some_iff.1 hy
  exact List.pairwise_iff_getElem.1 (cutsT_ok how l).1 i j h1 h2 hij
theorem cut_le {how : Int} {l : List Tb} {i j : Nat} {x y : ByteArray} (hij : i ≤ j) (hx : (cutsT how l)[i]? = some x) (hy : (cutsT how l)[j]? = some y) : cmpH how x y ≤ 0 := by
  rcases Nat.lt_or_eq_of_le hij with h | h
  · have := cut_lt h hx hy; omega
  · subst h
    rw [hx] at hy
    obtain rfl := Option.some.inj hy
    rw [cmpH_self]; omega
/-- what a fragment is. -/
theorem splitT_mem {how : Int} {l : List Tb} {f : Fg} (h : f ∈ splitT how l) : ∃ j a b, (cutsT how l)[j]? = some a ∧ (cutsT how l)[j + 1]? = some b ∧ f = ⟨a, b, seqsT how (liveT how l) a b⟩ ∧ 0 < (seqsT how (liveT how l) a b).length := by
  unfold splitT fragsN at h
  obtain ⟨j, hj, hf⟩ := List.mem_flatMap.1 h
  rw [List.mem_range] at hj
  obtain ⟨a, ha⟩ : ∃ a, (cutsT how l)[j]? = some a := ⟨_, List.getElem?_eq_getElem (by omega)⟩
  obtain ⟨b, hb⟩ : ∃ b, (cutsT how l)[j + 1]? = some b := ⟨_, List.getElem?_eq_getElem (by omega)⟩
  rw [List.getD_eq_getElem?_getD, List.getD_eq_getElem?_getD, ha, hb, Option.getD_some, Option.getD_some] at hf
  have := frag1_mem hf
  exact ⟨j, a, b, ha, hb, this.1, this.2⟩
theorem splitT_rises (how : Int) (l : List Tb) : (∀ f ∈ splitT how l, cmpH how f.b f.e < 0) ∧ (splitT how l).Pairwise (fun f g => cmpH how f.e g.b ≤ 0) := by
  refine ⟨fun f hf => ?_, ?_⟩
  · obtain ⟨j, a, b, ha, hb, rfl, _⟩ := splitT_mem hf
    exact cut_lt (Nat.lt_succ_self j) ha hb
  · unfold splitT fragsN
    rw [List.pairwise_flatMap]
    refine ⟨fun j _ => ?_, ?_⟩
    · unfold frag1
      split
      · exact List.pairwise_singleton _ _
      · exact List.Pairwise.nil
    · refine List.Pairwise.imp_of_mem (fun {i j} hi hj hij => ?_) (List.pairwise_lt_range)
      rw [List.mem_range] at hi hj
      intro f hf g hg
      obtain ⟨rfl, _⟩ := frag1_mem hf
      obtain ⟨rfl, _⟩ := frag1_mem hg
      obtain ⟨a, ha⟩ : ∃ a, (cutsT how l)[i + 1]? = some a := ⟨_, List.getElem?_eq_getElem (by omega)⟩
      obtain ⟨b, hb⟩ : ∃ b, (cutsT how l)[j]? = some b := ⟨_, List.getElem?_eq_getElem (by omega)⟩
      simp only [List.getD_eq_getElem?_getD, ha, hb, Option.getD_some]
      exact cut_le hij ha hb
theorem over_live {how : Int} {t : Tb} {k : ByteArray} (h : overT how t k = true) : cmpH how t.b k ≤ 0 ∧ cmpH how k t.e < 0 ∧ cmpH how t.b t.e < 0 := by
  unfold overT at h
  rw [Bool.and_eq_true, decide_eq_true_eq, decide_eq_true_eq] at h
  exact ⟨h.1, h.2, leB_lt how h.1 h.2⟩
def inF (how : Int) (k : ByteArray) (f : Fg) : Bool := decide (cmpH how f.b k ≤ 0) && decide (cmpH how k f.e < 0)
/-- the fragment over a key, and whose numbers it has. -/
theorem split_over {how : Int} {l : List Tb} {k : ByteArray} {t : Tb} (ht : t ∈ l) (h : overT how t k = true) : ∃ f ∈ splitT how l, inF how k f = true := by
  obtain ⟨h1, h2, h3⟩ := over_live h
  have hc := (cutsT_ok how l).2
  obtain ⟨x, hx⟩ := List.mem_iff_getElem?.1 ((hc t.b).2 ⟨t, ht, h3, .inl rfl⟩)
  obtain ⟨y, hy⟩ := List.mem_iff_getElem?.1 ((hc t.e).2 ⟨t, ht, h3, .inr rfl⟩)
  have hxy : x < y := by
    rcases Nat.lt_or_ge x y with e | e
    · exact e
    · have := cut_le e hy hx
      have e1 := cmpH_swap how t.b t.e
      omega
  obtain ⟨i, i1, i2, i3, i4⟩ := turns (p := fun i => ∃ a, (cutsT how l)[i]? = some a ∧ cmpH how a k ≤ 0) (y - x) x ⟨_, hx, h1⟩ (by
    rw [show x + (y - x) = y by omega]
    rintro ⟨a, ha, hk⟩
    rw [hy] at ha
    obtain rfl := Option.some.inj ha
    have e1 := cmpH_swap how k t.e
    omega)
  obtain ⟨a, ha, hak⟩ := i3
  have hyl := (List.getElem?_eq_some_iff.1 hy).1
  obtain ⟨b, hb⟩ : ∃ b, (cutsT how l)[i + 1]? = some b := ⟨_, List.getElem?_eq_getElem (by omega)⟩
  have hbk : cmpH how k b < 0 := by
    have e1 := cmpH_swap how k b
    rcases Classical.em (cmpH how b k ≤ 0) with e | e
    · exact absurd ⟨b, hb, e⟩ i4
    · omega
  have hcov : covT how a b t = true := by
    unfold covT
    rw [Bool.and_eq_true, decide_eq_true_eq, decide_eq_true_eq]
    exact ⟨cut_le i1 hx ha, cut_le (by omega) hb hy⟩
  have hmem : t.s ∈ seqsT how (liveT how l) a b := ((seqsT_ok how (liveT how l) a b).2 t.s).2 ⟨t, List.mem_filter.2 ⟨ht, by simpa using h3⟩, hcov, rfl⟩
  have hpos : 0 < (seqsT how (liveT how l) a b).length := List.length_pos_of_mem hmem
  refine ⟨⟨a, b, seqsT how (liveT how l) a b⟩, ?_, ?_⟩
  · unfold splitT fragsN
    refine List.mem_flatMap.2 ⟨i, List.mem_range.2 (by omega), ?_⟩
    rw [List.getD_eq_getElem?_getD, List.getD_eq_getElem?_getD, ha, hb, Option.getD_some, Option.getD_some]
    unfold frag1
    rw [if_pos hpos]
    exact List.mem_singleton.2 rfl
  · unfold inF
    rw [Bool.and_eq_true, decide_eq_true_eq, decide_eq_true_eq]
    exact ⟨hak, hbk⟩
/-- of a fragment over a key: its numbers are those of the tombstones over it. -/
theorem split_seqs {how : Int} {l : List Tb} {k : ByteArray} {f : Fg} (hf : f ∈ splitT how l) (h : inF how k f = true) : 0 < f.q.length ∧ f.q.Pairwise (fun x y => y < x) ∧ ∀ x, x ∈ f.q ↔ ∃ t ∈ l, overT how t k = true ∧ x = t.s := by
  obtain ⟨j, a, b, ha, hb, rfl, hp⟩ := splitT_mem hf
  unfold inF at h
  rw [Bool.and_eq_true, decide_eq_true_eq, decide_eq_true_eq] at h
  simp only at h hp ⊢
  have hs := seqsT_ok how (liveT how l) a b
  refine ⟨hp, hs.1, fun x => (hs.2 x).trans ?_⟩
  constructor
  · rintro ⟨t, ht, hc, rfl⟩
    have ht := List.mem_filter.1 ht
    unfold covT at hc
    rw [Bool.and_eq_true, decide_eq_true_eq, decide_eq_true_eq] at hc
    refine ⟨t, ht.1, ?_, rfl⟩
    unfold overT
    rw [Bool.and_eq_true, decide_eq_true_eq, decide_eq_true_eq]
    exact ⟨leB_trans how hc.1 h.1, ltB_le how h.2 hc.2⟩
  · rintro ⟨t, ht, ho, rfl⟩
    obtain ⟨h1, h2, h3⟩ := over_live ho
    have hc := (cutsT_ok how l).2
    obtain ⟨x, hx⟩ := List.mem_iff_getElem?.1 ((hc t.b).2 ⟨t, ht, h3, .inl rfl⟩)
    obtain ⟨y, hy⟩ := List.mem_iff_getElem?.1 ((hc t.e).2 ⟨t, ht, h3, .inr rfl⟩)
    refine ⟨t, List.mem_filter.2 ⟨ht, by simpa using h3⟩, ?_, rfl⟩
    unfold covT
    rw [Bool.and_eq_true, decide_eq_true_eq, decide_eq_true_eq]
    constructor
    · rcases Nat.lt_or_ge j x with e | e
      · have := cut_le (i := j + 1) (j := x) (by omega) hb hx
        have := ltB_le how h.2 this
        have e1 := cmpH_swap how k t.b
        omega
      · exact cut_le e hx ha
    · rcases Nat.lt_or_ge y (j + 1) with e | e
      · have := cut_le (i := y) (j := j) (by omega) hy ha
        have := leB_trans how this h.1
        have e1 := cmpH_swap how k t.e
        omega
      · exact cut_le e hb hy
theorem split_in {how : Int} {l : List Tb} {k : ByteArray} : (splitT how l).any (inF how k) = l.any (fun t => overT how t k) := by
  rw [Bool.eq_iff_iff, List.any_eq_true, List.any_eq_true]
  constructor
  · rintro ⟨f, hf, h⟩
    obtain ⟨hp, _, hm⟩ := split_seqs hf h
    obtain ⟨x, hx⟩ : ∃ x, x ∈ f.q := by
      cases hq : f.q with
      | nil => rw [hq] at hp; cases hp
      | cons x r => exact ⟨x, by simp⟩
    obtain ⟨t, ht, ho, _⟩ := (hm x).1 hx
    exact ⟨t, ht, ho⟩
  · rintro ⟨t, ht, ho⟩
    exact split_over ht ho
end Go.Proofs.Ytmopjoeomjdikaa
