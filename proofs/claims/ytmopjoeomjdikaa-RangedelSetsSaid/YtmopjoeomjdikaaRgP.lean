/- Fragments of the document: the same as the program's; fragments joined and split again; what is cut, what is next, what is hidden. Plain: no run in it. Conditions: what each theorem names. -/
import Derived.RangeFuncNested
import Derived.RangeFuncBound
import Derived.RangeFuncCalls
import Derived.RangeFuncLeaves
import Derived.Shelf.Abstract
import Derived.Shelf.RegionOpen
import Derived.WalkKit
import Derived.OwnWalkIn
import Derived.TacticsInMore
import Derived.LoopNIn
import Derived.LoopIn
import Derived.Lib.Hide
import Derived.Outline
import Derived.RegionTactic
import Derived.BigRegion
import Derived.WalkLawsBesides
import Derived.WalkSpells
import Derived.Deep.QuietTactic
import Derived.BigQuiet
import Derived.Deep.RegionHeld3
import Derived.Deep.DeepCutAuto
import Derived.Deep.CutBlock
import Derived.StillTailTactics
import Derived.WalkSmall
import Derived.Test.YtmopjoeomjdikaaRgU
namespace Go.Proofs.Ytmopjoeomjdikaa
open Go.RowKit Go.Sed Go.Sort
set_option maxHeartbeats 1000000
section Ins
variable {α : Type} [DecidableEq α]
/-- a row with one more, in order, each once. -/
def insU (lt : α → α → Bool) (s : α) : List α → List α
  | [] => [s]
  | x :: r => if lt x s = true then x :: insU lt s r else if x = s then x :: r else s :: x :: r
theorem insU_at (lt : α → α → Bool) (s : α) : ∀ (l : List α) (k : Nat), k ≤ l.length → (∀ (i : Nat) (x : α), i < k → l[i]? = some x → lt x s = true) → (∀ x : α, l[k]? = some x → lt x s = false) →
    insU lt s l = if l[k]? = some s then l else l.take k ++ s :: l.drop k
  | [], k, hk, _, _ => by
    obtain rfl : k = 0 := by simpa using hk
    rfl
  | x :: r, 0, _, _, h2 => by
    have h := h2 x rfl
    unfold insU
    rw [if_neg (by rw [h]; decide)]
    simp only [List.getElem?_cons_zero, Option.some.injEq, List.take_zero, List.nil_append, List.drop_zero]
  | x :: r, k + 1, hk, h1, h2 => by
    have h := h1 0 x (by omega) rfl
    unfold insU
    rw [if_pos h, insU_at lt s r k (by simpa using hk) (fun i y hi hy => h1 (i + 1) y (by omega) (by simpa using hy)) (fun y hy => h2 y (by simpa using hy))]
    simp only [List.getElem?_cons_succ, List.take_succ_cons, List.drop_succ_cons, List.cons_append]
    split <;> rfl
theorem insU_ok {lt : α → α → Bool} (hi : ∀ x, lt x x = false) (ht : ∀ x y z, lt x y = true → lt y z = true → lt x z = true) (htot : ∀ x y, lt x y = false → lt y x = false → x = y) (s : α) : ∀ l : List α, l.Pairwise (fun x y => lt x y = true) →
    (insU lt s l).Pairwise (fun x y => lt x y = true) ∧ ∀ x, x ∈ insU lt s l ↔ x = s ∨ x ∈ l
  | [], _ => ⟨List.pairwise_singleton _ _, fun x => by simp [insU]⟩
  | y :: r, h => by
    rw [List.pairwise_cons] at h
    unfold insU
    by_cases h1 : lt y s = true
    · rw [if_pos h1]
      obtain ⟨i1, i2⟩ := insU_ok hi ht htot s r h.2
      refine ⟨List.pairwise_cons.2 ⟨fun z hz => ?_, i1⟩, fun x => ?_⟩
      · rcases (i2 z).1 hz with rfl | hz
        · exact h1
        · exact h.1 z hz
      · rw [List.mem_cons, i2, List.mem_cons]
        constructor
        · rintro (a | a | a)
          · exact .inr (.inl a)
          · exact .inl a
          · exact .inr (.inr a)
        · rintro (a | a | a)
          · exact .inr (.inl a)
          · exact .inl a
          · exact .inr (.inr a)
    · rw [if_neg h1]
      by_cases h2 : y = s
      · rw [if_pos h2]
        refine ⟨List.pairwise_cons.2 h, fun x => ?_⟩
        subst h2
        rw [List.mem_cons]
        constructor
        · rintro (a | a)
          · exact .inl a
          · exact .inr (.inr a)
        · rintro (a | a | a)
          · exact .inl a
          · exact .inl a
          · exact .inr a
      · rw [if_neg h2]
        have h3 : lt s y = true := by
          cases e : lt s y with
          | true => rfl
          | false => exact absurd (htot y s (by simpa using h1) e) h2
        refine ⟨List.pairwise_cons.2 ⟨fun z hz => ?_, List.pairwise_cons.2 h⟩, fun x => List.mem_cons⟩
        rcases List.mem_cons.1 hz with rfl | hz
        · exact h3
        · exact ht _ _ _ h3 (h.1 z hz)
end Ins
def ltBb (how : Int) (x y : ByteArray) : Bool := decide (cmpH how x y < 0)
def gtI (x y : Int) : Bool := decide (y < x)
theorem insB_ok (how : Int) (s : ByteArray) (l : List ByteArray) (h : l.Pairwise (ltB how)) : (insU (ltBb how) s l).Pairwise (ltB how) ∧ ∀ x, x ∈ insU (ltBb how) s l ↔ x = s ∨ x ∈ l := by
  have hp : ∀ x y, ltBb how x y = true ↔ ltB how x y := fun x y => by unfold ltBb ltB; rw [decide_eq_true_eq]
  have := insU_ok (lt := ltBb how) (fun x => by unfold ltBb; rw [cmpH_self]; rfl) (fun x y z h1 h2 => (hp _ _).2 (ltB_trans how x y z ((hp _ _).1 h1) ((hp _ _).1 h2))) (fun x y h1 h2 => totB how x y h1 h2) s l (h.imp (fun {x y} e => (hp x y).2 e))
  exact ⟨this.1.imp (fun {x y} e => (hp x y).1 e), this.2⟩
theorem insI_ok (s : Int) (l : List Int) (h : l.Pairwise (fun x y => y < x)) : (insU gtI s l).Pairwise (fun x y => y < x) ∧ ∀ x, x ∈ insU gtI s l ↔ x = s ∨ x ∈ l := by
  have hp : ∀ x y, gtI x y = true ↔ y < x := fun x y => by unfold gtI; rw [decide_eq_true_eq]
  have := insU_ok (lt := gtI) (fun x => by unfold gtI; simp) (fun x y z h1 h2 => (hp _ _).2 (by have := (hp _ _).1 h1; have := (hp _ _).1 h2; omega)) (fun x y h1 h2 => by unfold gtI at h1 h2; rw [decide_eq_false_iff_not] at h1 h2; omega) s l (h.imp (fun {x y} e => (hp x y).2 e))
  exact ⟨this.1.imp (fun {x y} e => (hp x y).1 e), this.2⟩
/-- the ends, as the document collects them. -/
def rends (how : Int) (L : List Tb) : List ByteArray := L.foldl (fun c t => insU (ltBb how) t.e (insU (ltBb how) t.b c)) []
theorem rends_snoc (how : Int) (L : List Tb) (t : Tb) : rends how (L ++ [t]) = insU (ltBb how) t.e (insU (ltBb how) t.b (rends how L)) := by
  unfold rends; rw [List.foldl_append]; rfl
theorem rends_ok (how : Int) : ∀ (L : List Tb) (c : List ByteArray), c.Pairwise (ltB how) → (L.foldl (fun c t => insU (ltBb how) t.e (insU (ltBb how) t.b c)) c).Pairwise (ltB how) ∧ ∀ x, x ∈ L.foldl (fun c t => insU (ltBb how) t.e (insU (ltBb how) t.b c)) c ↔ x ∈ c ∨ ∃ t ∈ L, x = t.b ∨ x = t.e
  | [], c, h => ⟨h, fun x => by simp⟩
  | t :: r, c, h => by
    obtain ⟨a1, a2⟩ := insB_ok how t.b c h
    obtain ⟨b1, b2⟩ := insB_ok how t.e _ a1
    obtain ⟨i1, i2⟩ := rends_ok how r _ b1
    refine ⟨i1, fun x => (i2 x).trans ?_⟩
    rw [b2, a2]
    simp only [List.mem_cons, exists_eq_or_imp]
    constructor
    · rintro ((a | a | a) | a)
      · exact .inr (.inl (.inr a))
      · exact .inr (.inl (.inl a))
      · exact .inl a
      · exact .inr (.inr a)
    · rintro (a | (a | a) | a)
      · exact .inl (.inr (.inr a))
      · exact .inl (.inr (.inl a))
      · exact .inl (.inl a)
      · exact .inr a
theorem rends_eq (how : Int) (l : List Tb) : rends how (liveT how l) = cutsT how l := by
  obtain ⟨h1, h2⟩ := rends_ok how (liveT how l) [] List.Pairwise.nil
  obtain ⟨c1, c2⟩ := cutsT_ok how l
  refine rise_uniq (ltB_irr how) (ltB_trans how) _ _ h1 c1 (fun x => (h2 x).trans ((c2 x).trans ?_).symm)
  unfold liveT
  simp only [List.mem_filter, decide_eq_true_eq, and_assoc, List.not_mem_nil, false_or]
/-- the numbers over a key, as the document collects them. -/
def rseqs (how : Int) (l : List Tb) (a : ByteArray) : List Int := (l.filter (fun t => overT how t a)).foldl (fun q t => insU gtI t.s q) []
theorem rseqs_snoc (how : Int) (l : List Tb) (k : Nat) (t : Tb) (a : ByteArray) (ht : l[k]? = some t) : rseqs how (l.take (k + 1)) a = if overT how t a = true then insU gtI t.s (rseqs how (l.take k) a) else rseqs how (l.take k) a := by
  unfold rseqs
  rw [List.take_add_one, ht, List.filter_append]
  simp only [Option.toList_some, List.foldl_append]
  by_cases h : overT how t a = true
  · rw [if_pos h]; simp [List.filter_cons, h]
  · rw [if_neg h]; simp [List.filter_cons, h]
theorem rseqs_ok : ∀ (L : List Tb) (q : List Int), q.Pairwise (fun x y => y < x) → (L.foldl (fun q t => insU gtI t.s q) q).Pairwise (fun x y => y < x) ∧ ∀ x, x ∈ L.foldl (fun q t => insU gtI t.s q) q ↔ x ∈ q ∨ ∃ t ∈ L, x = t.s
  | [], q, h => ⟨h, fun x => by simp⟩
  | t :: r, q, h => by
    obtain ⟨a1, a2⟩ := insI_ok t.s q h
    obtain ⟨i1, i2⟩ := rseqs_ok r _ a1
    refine ⟨i1, fun x => (i2 x).trans ?_⟩
    rw [a2]
    simp only [List.mem_cons, exists_eq_or_imp]
    constructor
    · rintro ((a | a) | a)
      · exact .inr (.inl a)
      · exact .inl a
      · exact .inr (.inr a)
    · rintro (a | a | a)
      · exact .inl (.inr a)
      · exact .inl (.inl a)
      · exact .inr a
theorem over_cov {how : Int} {l : List Tb} {j : Nat} {a b : ByteArray} {t : Tb} (ha : (cutsT how l)[j]? = some a) (hb : (cutsT how l)[j + 1]? = some b) (ht : t ∈ l) : overT how t a = true ↔ t ∈ liveT how l ∧ covT how a b t = true := by
  have hab := cut_lt (Nat.lt_succ_self j) ha hb
  constructor
  · intro ho
    obtain ⟨h1, h2, h3⟩ := over_live ho
    obtain ⟨y, hy⟩ := List.mem_iff_getElem?.1 (((cutsT_ok how l).2 t.e).2 ⟨t, ht, h3, .inr rfl⟩)
    refine ⟨List.mem_filter.2 ⟨ht, by simpa using h3⟩, ?_⟩
    unfold covT
    rw [Bool.and_eq_true, decide_eq_true_eq, decide_eq_true_eq]
    refine ⟨h1, ?_⟩
    rcases Nat.lt_or_ge y (j + 1) with e | e
    · have := cut_le (i := y) (j := j) (by omega) hy ha
      have e1 := cmpH_swap how a t.e
      omega
    · exact cut_le e hb hy
  · rintro ⟨h0, hc⟩
    unfold covT at hc
    rw [Bool.and_eq_true, decide_eq_true_eq, decide_eq_true_eq] at hc
    unfold overT
    rw [Bool.and_eq_true, decide_eq_true_eq, decide_eq_true_eq]
    exact ⟨hc.1, ltB_le how hab hc.2⟩
theorem rseqs_eq {how : Int} {l : List Tb} {j : Nat} {a b : ByteArray} (ha : (cutsT how l)[j]? = some a) (hb : (cutsT how l)[j + 1]? = some b) : rseqs how l a = seqsT how (liveT how l) a b := by
  obtain ⟨h1, h2⟩ := rseqs_ok (l.filter (fun t => overT how t a)) [] List.Pairwise.nil
  obtain ⟨c1, c2⟩ := seqsT_ok how (liveT how l) a b
  refine rise_uniq (lt := fun x y : Int => y < x) (fun x h => by omega) (fun x y z h1 h2 => by omega) _ _ h1 c1 (fun x => (h2 x).trans ((c2 x).trans ?_).symm)
  simp only [List.mem_filter, List.not_mem_nil, false_or]
  constructor
  · rintro ⟨t, ht, hc, rfl⟩
    have htl := (List.mem_filter.1 ht).1
    exact ⟨t, ⟨htl, (over_cov ha hb htl).2 ⟨ht, hc⟩⟩, rfl⟩
  · rintro ⟨t, ⟨ht, ho⟩, rfl⟩
    obtain ⟨a1, a2⟩ := (over_cov ha hb ht).1 ho
    exact ⟨t, a1, a2, rfl⟩
/-- the tombstones of fragments. -/
def tombsF (F : List Fg) : List Tb := F.flatMap (fun f => f.q.map (fun n => ⟨f.b, f.e, n⟩))
def sumQ : List Fg → Nat
  | [] => 0
  | f :: r => f.q.length + sumQ r
theorem sumQ_append (F G : List Fg) : sumQ (F ++ G) = sumQ F + sumQ G := by
  induction F with
  | nil => simp [sumQ]
  | cons f r ih => rw [List.cons_append, sumQ, sumQ, ih]; omega
theorem tombsF_len (F : List Fg) : (tombsF F).length = sumQ F := by
  induction F with
  | nil => rfl
  | cons f r ih => unfold tombsF at ih ⊢; rw [List.flatMap_cons, List.length_append, List.length_map, ih]; rfl
theorem mem_tombs {F : List Fg} {t : Tb} : t ∈ tombsF F ↔ ∃ f ∈ F, t.b = f.b ∧ t.e = f.e ∧ t.s ∈ f.q := by
  unfold tombsF
  rw [List.mem_flatMap]
  constructor
  · rintro ⟨f, hf, h⟩
    obtain ⟨n, hn, rfl⟩ := List.mem_map.1 h
    exact ⟨f, hf, rfl, rfl, hn⟩
  · rintro ⟨f, hf, h1, h2, h3⟩
    refine ⟨f, hf, List.mem_map.2 ⟨t.s, h3, ?_⟩⟩
    rw [← h1, ← h2]
/-- how many ways there are to lie over a place. -/
def hillT : Nat → Nat
  | 0 => 0
  | k + 1 => hillT k + min k (2048 - k)
theorem hill_up {a b : Nat} (h : a ≤ b) : hillT a ≤ hillT b := by
  induction h with
  | refl => exact Nat.le_refl _
  | step _ ih => exact Nat.le_trans ih (Nat.le_add_right _ _)
theorem hill_top : hillT 2048 = 1048576 := by decide +kernel
def leCnt (how : Int) (L : List Tb) (a : ByteArray) : Nat := ((endsT L).filter (fun x => decide (cmpH how x a ≤ 0))).length
theorem leCnt_cons (how : Int) (t : Tb) (L : List Tb) (a : ByteArray) : leCnt how (t :: L) a = (if cmpH how t.b a ≤ 0 then 1 else 0) + (if cmpH how t.e a ≤ 0 then 1 else 0) + leCnt how L a := by
  unfold leCnt endsT
  rw [List.flatMap_cons]
  simp only [List.cons_append, List.nil_append, List.filter_cons, decide_eq_true_eq]
  split <;> split <;> simp <;> omega
theorem cov_cnt (how : Int) {a b : ByteArray} (hab : cmpH how a b < 0) : ∀ L : List Tb, (L.filter (covT how a b)).length ≤ leCnt how L a ∧ (L.filter (covT how a b)).length + leCnt how L a ≤ 2 * L.length
  | [] => ⟨Nat.zero_le _, by simp [leCnt, endsT]⟩
  | t :: r => by
    obtain ⟨h1, h2⟩ := cov_cnt how hab r
    rw [leCnt_cons, List.filter_cons, List.length_cons]
    by_cases h : covT how a b t = true
    · have hc := h
      unfold covT at hc
      rw [Bool.and_eq_true, decide_eq_true_eq, decide_eq_true_eq] at hc
      have hn : ¬ cmpH how t.e a ≤ 0 := fun h => by
        have := ltB_le how hab hc.2
        have := cmpH_swap how a t.e
        omega
      rw [if_pos h, if_pos hc.1, if_neg hn, List.length_cons]
      omega
    · rw [if_neg h]
      split <;> split <;> omega
theorem leCnt_lt {how : Int} {l : List Tb} {j : Nat} {a b : ByteArray} (ha : (cutsT how l)[j]? = some a) (hb : (cutsT how l)[j + 1]? = some b) : leCnt how (liveT how l) a < leCnt how (liveT how l) b := by
  have hab := cut_lt (Nat.lt_succ_self j) ha hb
  have hmem : b ∈ endsT (liveT how l) := by
    obtain ⟨t, ht, h1, h2⟩ := ((cutsT_ok how l).2 b).1 (List.mem_of_getElem? hb)
    unfold endsT
    refine List.mem_flatMap.2 ⟨t, List.mem_filter.2 ⟨ht, by simpa using h1⟩, ?_⟩
    rcases h2 with rfl | rfl <;> simp
  unfold leCnt
  have key : ∀ E : List ByteArray, (E.filter (fun x => decide (cmpH how x a ≤ 0))).length ≤ (E.filter (fun x => decide (cmpH how x b ≤ 0))).length ∧ (b ∈ E → (E.filter (fun x => decide (cmpH how x a ≤ 0))).length < (E.filter (fun x => decide (cmpH how x b ≤ 0))).length) := by
    intro E
    induction E with
    | nil => exact ⟨Nat.le_refl _, fun h => by cases h⟩
    | cons x r ih =>
      rw [List.filter_cons, List.filter_cons]
      by_cases h1 : cmpH how x a ≤ 0
      · have h2 : cmpH how x b ≤ 0 := leB_trans how h1 (by omega)
        rw [if_pos (decide_eq_true h1), if_pos (decide_eq_true h2), List.length_cons, List.length_cons]
        refine ⟨by omega, fun hm => ?_⟩
        rcases List.mem_cons.1 hm with e | e
        · subst e
          have := cmpH_swap how a b
          omega
        · have := ih.2 e; omega
      · rw [if_neg (by simpa using h1)]
        by_cases h2 : cmpH how x b ≤ 0
        · rw [if_pos (decide_eq_true h2), List.length_cons]
          exact ⟨by omega, fun _ => by omega⟩
        · rw [if_neg (by simpa using h2)]
          refine ⟨ih.1, fun hm => ?_⟩
          rcases List.mem_cons.1 hm with e | e
          · subst e
            rw [cmpH_self] at h2
            omega
          · exact ih.2 e
  exact (key _).2 hmem
theorem seqs_cov (how : Int) (L : List Tb) (a b : ByteArray) : (seqsT how L a b).length ≤ (L.filter (covT how a b)).length := by
  unfold seqsT
  refine Nat.le_trans (compact_len _) ?_
  unfold sortI
  rw [List.length_mergeSort, List.length_map]
  exact Nat.le_refl _
theorem sumQ_frag1 (how : Int) (L : List Tb) (a b : ByteArray) : sumQ (frag1 how L a b) ≤ (L.filter (covT how a b)).length := by
  have := seqs_cov how L a b
  unfold frag1
  split
  · simp only [sumQ]; omega
  · exact Nat.zero_le _
theorem sumQ_frags {how : Int} {l : List Tb} (hl : l.length ≤ 1024) : ∀ (n : Nat) (c : ByteArray), (cutsT how l)[n]? = some c → sumQ (fragsN how (liveT how l) (cutsT how l) n) ≤ hillT (leCnt how (liveT how l) c)
  | 0, c, _ => Nat.zero_le _
  | n + 1, c, hc => by
    obtain ⟨a, ha⟩ : ∃ a, (cutsT how l)[n]? = some a := ⟨_, List.getElem?_eq_getElem (by have := (List.getElem?_eq_some_iff.1 hc).1; omega)⟩
    have ih := sumQ_frags hl n a ha
    have h1 := leCnt_lt ha hc
    have h2 := cov_cnt how (cut_lt (Nat.lt_succ_self n) ha hc) (liveT how l)
    have h3 := sumQ_frag1 how (liveT how l) a c
    have h4 : hillT (leCnt how (liveT how l) a + 1) ≤ hillT (leCnt how (liveT how l) c) := hill_up h1
    have h5 := liveT_len how l
    rw [fragsN_succ how _ _ n a c ha hc, sumQ_append]
    have h6 : hillT (leCnt how (liveT how l) a + 1) = hillT (leCnt how (liveT how l) a) + min (leCnt how (liveT how l) a) (2048 - leCnt how (liveT how l) a) := rfl
    omega
theorem sumQ_split {how : Int} {l : List Tb} (hl : l.length ≤ 1024) : sumQ (splitT how l) ≤ 1048576 := by
  unfold splitT
  by_cases h : (cutsT how l).length - 1 < (cutsT how l).length
  · have h1 := sumQ_frags (how := how) hl _ _ (List.getElem?_eq_getElem h)
    have h2 := liveT_len how l
    have h3 : leCnt how (liveT how l) ((cutsT how l)[(cutsT how l).length - 1]) ≤ 2048 := by
      unfold leCnt
      refine Nat.le_trans (List.length_filter_le _ _) ?_
      rw [endsT_len]; omega
    have h4 := hill_up h3
    rw [hill_top] at h4
    omega
  · rw [show (cutsT how l).length - 1 = 0 by omega]
    exact Nat.zero_le _
end Go.Proofs.Ytmopjoeomjdikaa
