/- Fragments joined and split again; what is next, hidden, cut: the program's and the document's. Plain: no run in it. Conditions: what each theorem names. -/
import Derived.RangeFuncNested
import Derived.RangeFuncBound
import Derived.RangeFuncCalls
import Derived.RangeFuncLeaves
import Derived.Shelf.Abstract
import Derived.Shelf.RegionOpen
import Derived.WalkKit
import Derived.OwnWalkIn
import Derived.TacticsInMore
import Derived.LoopNIn
import Derived.LoopIn
import Derived.Lib.Hide
import Derived.Outline
import Derived.RegionTactic
import Derived.BigRegion
import Derived.WalkLawsBesides
import Derived.WalkSpells
import Derived.Deep.QuietTactic
import Derived.BigQuiet
import Derived.Deep.RegionHeld3
import Derived.Deep.DeepCutAuto
import Derived.Deep.CutBlock
import Derived.StillTailTactics
import Derived.WalkSmall
import Derived.Test.YtmopjoeomjdikaaRgP
namespace Go.Proofs.Ytmopjoeomjdikaa
open Go.RowKit Go.Sed Go.Sort
set_option maxHeartbeats 1000000
/-- whether falling numbers can be a fragment's. -/
def canQ : Option Int → List Int → Bool
  | _, [] => true
  | p, n :: r => if 72057594037927935 < n then false else if p.all (fun m => decide (n < m)) = true then canQ (some n) r else false
def canF (how : Int) : Option Fg → List Fg → Bool
  | _, [] => true
  | p, f :: r => if 0 ≤ cmpH how f.b f.e then false else if p.all (fun g => decide (cmpH how g.e f.b ≤ 0)) = false then false else if f.q.length = 0 then false else if canQ none f.q = false then false else canF how (some f) r
theorem canQ_cons (p : Option Int) (n : Int) (r : List Int) : canQ p (n :: r) = if 72057594037927935 < n then false else if p.all (fun m => decide (n < m)) = true then canQ (some n) r else false := rfl
theorem canF_cons (how : Int) (p : Option Fg) (f : Fg) (r : List Fg) : canF how p (f :: r) = if 0 ≤ cmpH how f.b f.e then false else if p.all (fun g => decide (cmpH how g.e f.b ≤ 0)) = false then false else if f.q.length = 0 then false else if canQ none f.q = false then false else canF how (some f) r := rfl
def longK (f : Fg) : Bool := decide (1024 < f.b.size) || decide (1024 < f.e.size)
def longF (F : List Fg) : Bool := F.any longK || decide (2048 < F.length) || decide (1048576 < sumQ F)
/-- what is wrong with fragments. -/
def joinE (how : Int) (F : List Fg) : Int := if longF F = true then 2 else if ¬ (how = 0 ∨ how = 1) then 1 else if canF how none F = false then 1 else 0
theorem canQ_ok : ∀ (q : List Int) (p : Option Int), (∀ x ∈ q, x ≤ 72057594037927935) → q.Pairwise (fun x y => y < x) → (∀ m, p = some m → ∀ x ∈ q, x < m) → canQ p q = true
  | [], _, _, _, _ => rfl
  | n :: r, p, h1, h2, h3 => by
    rw [List.pairwise_cons] at h2
    have hn := h1 n List.mem_cons_self
    rw [canQ_cons, if_neg (by omega), if_pos ?_]
    · exact canQ_ok r (some n) (fun x hx => h1 x (List.mem_cons_of_mem _ hx)) h2.2 (fun m hm x hx => by cases hm; exact h2.1 x hx)
    · cases p with
      | none => rfl
      | some m => exact decide_eq_true (h3 m rfl n List.mem_cons_self)
theorem canF_ok (how : Int) : ∀ (F : List Fg) (p : Option Fg), (∀ f ∈ F, cmpH how f.b f.e < 0 ∧ 0 < f.q.length ∧ canQ none f.q = true) → F.Pairwise (fun f g => cmpH how f.e g.b ≤ 0) → (∀ g, p = some g → ∀ f ∈ F, cmpH how g.e f.b ≤ 0) → canF how p F = true
  | [], _, _, _, _ => rfl
  | f :: r, p, h1, h2, h3 => by
    rw [List.pairwise_cons] at h2
    obtain ⟨a, b, c⟩ := h1 f List.mem_cons_self
    rw [canF_cons, if_neg (by omega), if_neg ?_, if_neg (by omega), if_neg (by rw [c]; decide)]
    · exact canF_ok how r (some f) (fun g hg => h1 g (List.mem_cons_of_mem _ hg)) h2.2 (fun m hm x hx => by cases hm; exact h2.1 x hx)
    · cases p with
      | none => simp
      | some g =>
        have := h3 g rfl f List.mem_cons_self
        simp only [Option.all_some, decide_eq_true this]
        decide
theorem chkTs_all : ∀ {l : List Tb}, chkTs l = 0 → ∀ t ∈ l, t.s ≤ 72057594037927935 ∧ t.b.size ≤ 1024 ∧ t.e.size ≤ 1024
  | t :: r, h, u, hu => by
    rw [chkTs_cons] at h
    split at h
    · cases h
    · split at h
      · cases h
      · split at h
        · cases h
        · rcases List.mem_cons.1 hu with rfl | hu
          · omega
          · exact chkTs_all h u hu
theorem chkTs_of : ∀ {l : List Tb}, (∀ t ∈ l, t.s ≤ 72057594037927935 ∧ t.b.size ≤ 1024 ∧ t.e.size ≤ 1024) → chkTs l = 0
  | [], _ => rfl
  | t :: r, h => by
    obtain ⟨a, b, c⟩ := h t List.mem_cons_self
    rw [chkTs_cons, if_neg (by omega), if_neg (by omega), if_neg (by omega)]
    exact chkTs_of (fun u hu => h u (List.mem_cons_of_mem _ hu))
theorem split_keys {how : Int} {l : List Tb} (h : chkTs l = 0) {f : Fg} (hf : f ∈ splitT how l) : f.b.size ≤ 1024 ∧ f.e.size ≤ 1024 := by
  obtain ⟨j, a, b, ha, hb, rfl, _⟩ := splitT_mem hf
  have key : ∀ x, x ∈ cutsT how l → x.size ≤ 1024 := fun x hx => by
    obtain ⟨t, ht, _, rfl | rfl⟩ := ((cutsT_ok how l).2 x).1 hx
    · exact (chkTs_all h t ht).2.1
    · exact (chkTs_all h t ht).2.2
  exact ⟨key a (List.mem_of_getElem? ha), key b (List.mem_of_getElem? hb)⟩
theorem split_nums {how : Int} {l : List Tb} {f : Fg} (hf : f ∈ splitT how l) : 0 < f.q.length ∧ f.q.Pairwise (fun x y => y < x) ∧ ∀ x ∈ f.q, ∃ t ∈ l, x = t.s := by
  obtain ⟨j, a, b, ha, hb, rfl, hp⟩ := splitT_mem hf
  have hs := seqsT_ok how (liveT how l) a b
  refine ⟨hp, hs.1, fun x hx => ?_⟩
  obtain ⟨t, ht, _, e⟩ := (hs.2 x).1 hx
  exact ⟨t, (List.mem_filter.1 ht).1, e⟩
theorem split_join {how : Int} {l : List Tb} (h : chkT how l = 0) : joinE how (splitT how l) = 0 := by
  obtain ⟨h1, h2, h3⟩ := chkT_ok.1 h
  have hlen := cuts_len how l
  have hF : (splitT how l).length ≤ 2048 := by
    have := fragsN_len how (liveT how l) (cutsT how l) ((cutsT how l).length - 1)
    unfold splitT; omega
  have hlong : longF (splitT how l) = false := by
    unfold longF
    rw [decide_eq_false (by omega), decide_eq_false (by have := sumQ_split (how := how) h2; omega), Bool.or_false, Bool.or_false, List.any_eq_false]
    intro f hf
    have := split_keys h3 hf
    unfold longK
    rw [decide_eq_false (by omega), decide_eq_false (by omega)]
    decide
  have hcan : canF how none (splitT how l) = true := by
    obtain ⟨r1, r2⟩ := splitT_rises how l
    refine canF_ok how _ none (fun f hf => ?_) r2 (fun g hg => by cases hg)
    obtain ⟨n1, n2, n3⟩ := split_nums hf
    refine ⟨r1 f hf, n1, canQ_ok _ none (fun x hx => ?_) n2 (fun m hm => by cases hm)⟩
    obtain ⟨t, ht, rfl⟩ := n3 x hx
    exact (chkTs_all h3 t ht).1
  unfold joinE
  rw [if_neg (by rw [hlong]; decide), if_neg (not_not_intro h1), if_neg (by rw [hcan]; decide)]
theorem frags_apart {how : Int} {F : List Fg} (hup : F.Pairwise (fun f g => cmpH how f.e g.b ≤ 0)) {g h : Fg} (hg : g ∈ F) (hh : h ∈ F) : h = g ∨ cmpH how h.e g.b ≤ 0 ∨ cmpH how g.e h.b ≤ 0 := by
  obtain ⟨i, hi, rfl⟩ := List.mem_iff_getElem.1 hg
  obtain ⟨j, hj, rfl⟩ := List.mem_iff_getElem.1 hh
  rcases Nat.lt_trichotomy i j with e | e | e
  · exact .inr (.inr (List.pairwise_iff_getElem.1 hup i j hi hj e))
  · subst e; exact .inl rfl
  · exact .inr (.inl (List.pairwise_iff_getElem.1 hup j i hj hi e))
theorem cmpH_le_eq {how : Int} {x y : ByteArray} (h1 : cmpH how x y ≤ 0) (h2 : cmpH how y x ≤ 0) : x = y := by
  have := cmpH_swap how x y
  exact (cmpH_eq0 how x y).1 (by omega)
/-- fragments are the fragments of their tombstones. -/
theorem split_tombs {how : Int} {F : List Fg} (hne : ∀ f ∈ F, cmpH how f.b f.e < 0) (hup : F.Pairwise (fun f g => cmpH how f.e g.b ≤ 0)) (hq : ∀ f ∈ F, 0 < f.q.length ∧ f.q.Pairwise (fun x y => y < x)) : splitT how (tombsF F) = F := by
  have hsw := cmpH_swap how
  have hcuts := (cutsT_ok how (tombsF F)).2
  have hout : ∀ x g, x ∈ cutsT how (tombsF F) → g ∈ F → cmpH how x g.b ≤ 0 ∨ cmpH how g.e x ≤ 0 := by
    intro x g hx hg
    obtain ⟨t, ht, _, hxt⟩ := (hcuts x).1 hx
    obtain ⟨h, hh, e1, e2, _⟩ := mem_tombs.1 ht
    have hl := hne h hh
    rcases frags_apart hup hg hh with e | e | e
    · subst e
      rcases hxt with rfl | rfl
      · exact .inl (by rw [e1, cmpH_self]; omega)
      · exact .inr (by rw [e2, cmpH_self]; omega)
    · rcases hxt with rfl | rfl
      · exact .inl (by rw [e1]; exact leB_trans how (by omega) e)
      · exact .inl (by rw [e2]; exact e)
    · rcases hxt with rfl | rfl
      · exact .inr (by rw [e1]; exact e)
      · exact .inr (by rw [e2]; exact leB_trans how e (by omega))
  have hin : ∀ g ∈ F, g.b ∈ cutsT how (tombsF F) ∧ g.e ∈ cutsT how (tombsF F) := by
    intro g hg
    obtain ⟨n, hn⟩ : ∃ n, n ∈ g.q := by
      cases h : g.q with
      | nil => have := (hq g hg).1; rw [h] at this; cases this
      | cons n r => exact ⟨n, List.mem_cons_self⟩
    have ht : (⟨g.b, g.e, n⟩ : Tb) ∈ tombsF F := mem_tombs.2 ⟨g, hg, rfl, rfl, hn⟩
    exact ⟨(hcuts _).2 ⟨_, ht, hne g hg, .inl rfl⟩, (hcuts _).2 ⟨_, ht, hne g hg, .inr rfl⟩⟩
  have hseq : ∀ g ∈ F, seqsT how (liveT how (tombsF F)) g.b g.e = g.q := by
    intro g hg
    obtain ⟨c1, c2⟩ := seqsT_ok how (liveT how (tombsF F)) g.b g.e
    refine rise_uniq (lt := fun x y : Int => y < x) (fun x h => by omega) (fun x y z h1 h2 => by omega) _ _ c1 (hq g hg).2 (fun x => (c2 x).trans ⟨?_, fun hx => ?_⟩)
    · rintro ⟨t, ht, hc, rfl⟩
      obtain ⟨h, hh, e1, e2, hs⟩ := mem_tombs.1 (List.mem_filter.1 ht).1
      unfold covT at hc
      rw [Bool.and_eq_true, decide_eq_true_eq, decide_eq_true_eq, e1, e2] at hc
      have hl := hne g hg
      rcases frags_apart hup hg hh with e | e | e
      · subst e; exact hs
      · have h1 := ltB_le how hl (leB_trans how hc.2 e)
        rw [cmpH_self] at h1; omega
      · have h1 := ltB_le how hl (leB_trans how e hc.1)
        rw [cmpH_self] at h1; omega
    · refine ⟨⟨g.b, g.e, x⟩, List.mem_filter.2 ⟨mem_tombs.2 ⟨g, hg, rfl, rfl, hx⟩, decide_eq_true (hne g hg)⟩, ?_, rfl⟩
      unfold covT
      simp only [cmpH_self]
      decide
  obtain ⟨s1, s2⟩ := splitT_rises how (tombsF F)
  refine rise_uniq (lt := fun f g : Fg => cmpH how f.b g.b < 0) (fun f h => by rw [cmpH_self] at h; omega) (fun x y z h1 h2 => ltB_trans how _ _ _ h1 h2) _ _ (s2.imp_of_mem (fun {f g} hf _ e => ltB_le how (s1 f hf) e)) (hup.imp_of_mem (fun {f g} hf _ e => ltB_le how (hne f hf) e)) (fun f => ⟨fun hf => ?_, fun hf => ?_⟩)
  · obtain ⟨j, a, b, ha, hb, rfl, hp⟩ := splitT_mem hf
    have hab := cut_lt (Nat.lt_succ_self j) ha hb
    obtain ⟨x, hx⟩ : ∃ x, x ∈ seqsT how (liveT how (tombsF F)) a b := by
      cases h : seqsT how (liveT how (tombsF F)) a b with
      | nil => rw [h] at hp; cases hp
      | cons n r => exact ⟨n, List.mem_cons_self⟩
    obtain ⟨t, ht, hc, _⟩ := ((seqsT_ok how _ a b).2 x).1 hx
    obtain ⟨g, hg, e1, e2, _⟩ := mem_tombs.1 (List.mem_filter.1 ht).1
    unfold covT at hc
    rw [Bool.and_eq_true, decide_eq_true_eq, decide_eq_true_eq, e1, e2] at hc
    have hl := hne g hg
    obtain rfl : a = g.b := by
      rcases hout a g (List.mem_of_getElem? ha) hg with e | e
      · exact cmpH_le_eq e hc.1
      · have h1 := ltB_le how hab (leB_trans how hc.2 e)
        rw [cmpH_self] at h1; omega
    obtain rfl : b = g.e := by
      rcases hout b g (List.mem_of_getElem? hb) hg with e | e
      · have h1 := ltB_le how hab e
        rw [cmpH_self] at h1; omega
      · exact cmpH_le_eq hc.2 e
    rw [hseq g hg]
    exact hg
  · obtain ⟨h1, h2⟩ := hin f hf
    have hl := hne f hf
    obtain ⟨i, hi⟩ := List.mem_iff_getElem?.1 h1
    obtain ⟨m, hm⟩ := List.mem_iff_getElem?.1 h2
    have him : i < m := by
      rcases Nat.lt_or_ge i m with e | e
      · exact e
      · have := cut_le e hm hi
        have := hsw f.b f.e
        omega
    obtain ⟨y, hy⟩ : ∃ y, (cutsT how (tombsF F))[i + 1]? = some y := ⟨_, List.getElem?_eq_getElem (by have := (List.getElem?_eq_some_iff.1 hm).1; omega)⟩
    have hfy : cmpH how f.e y ≤ 0 := by
      rcases hout y f (List.mem_of_getElem? hy) hf with e | e
      · have h1 := ltB_le how (cut_lt (Nat.lt_succ_self i) hi hy) e
        rw [cmpH_self] at h1; omega
      · exact e
    obtain rfl : y = f.e := by
      refine (cmpH_le_eq hfy (cut_le (by omega) hy hm)).symm
    unfold splitT fragsN
    refine List.mem_flatMap.2 ⟨i, List.mem_range.2 (by have := (List.getElem?_eq_some_iff.1 hy).1; omega), ?_⟩
    rw [List.getD_eq_getElem?_getD, List.getD_eq_getElem?_getD, hi, hy, Option.getD_some, Option.getD_some]
    unfold frag1
    rw [hseq f hf, if_pos (hq f hf).1]
    exact List.mem_singleton.2 rfl
theorem split_again {how : Int} {l : List Tb} : splitT how (tombsF (splitT how l)) = splitT how l := by
  obtain ⟨s1, s2⟩ := splitT_rises how l
  exact split_tombs s1 s2 (fun f hf => ⟨(split_nums hf).1, (split_nums hf).2.1⟩)
theorem tombs_chk {how : Int} {l : List Tb} (h : chkT how l = 0) : chkTs (tombsF (splitT how l)) = 0 := by
  obtain ⟨h1, h2, h3⟩ := chkT_ok.1 h
  refine chkTs_of (fun t ht => ?_)
  obtain ⟨f, hf, e1, e2, hs⟩ := mem_tombs.1 ht
  rw [e1, e2]
  obtain ⟨t', ht', e⟩ := (split_nums hf).2.2 _ hs
  exact ⟨by rw [e]; exact (chkTs_all h3 t' ht').1, split_keys h3 hf⟩
/-- the first end or begin behind a key. -/
def nextF (how : Int) (key : ByteArray) : List Fg → Option ByteArray
  | [] => none
  | f :: r => if 0 < cmpH how f.b key then some f.b else if 0 < cmpH how f.e key then some f.e else nextF how key r
theorem nextF_cons (how : Int) (key : ByteArray) (f : Fg) (r : List Fg) : nextF how key (f :: r) = if 0 < cmpH how f.b key then some f.b else if 0 < cmpH how f.e key then some f.e else nextF how key r := rfl
theorem next_at {how : Int} {key : ByteArray} : ∀ {F : List Fg} {k : Nat}, (∀ f ∈ F, cmpH how f.b f.e < 0) → AtF how F key k → nextF how key F = (F[k]?).map (fun f => if 0 < cmpH how f.b key then f.b else f.e)
  | [], k, _, _ => by simp [nextF]
  | f :: r, 0, hn, h => by
    have h0 := (h.2 0 f rfl)
    rw [nextF_cons]
    simp only [List.getElem?_cons_zero, Option.map_some]
    split
    · rfl
    · rw [if_pos (by have : ¬ cmpH how f.e key ≤ 0 := fun e => absurd (h0.2 e) (by omega); omega)]
  | f :: r, k + 1, hn, h => by
    have h0 := (h.2 0 f rfl).1 (by omega)
    have hf := hn f List.mem_cons_self
    have h1 := ltB_le how hf h0
    rw [nextF_cons, if_neg (by omega), if_neg (by omega), List.getElem?_cons_succ]
    refine next_at (fun g hg => hn g (List.mem_cons_of_mem _ hg)) ⟨by have := h.1; simp only [List.length_cons] at this; omega, fun i g hg => ?_⟩
    have := h.2 (i + 1) g (by simpa using hg)
    omega
/-- whether one of falling numbers lies above one and is at most another. -/
def hitQ (below s : Int) (q : List Int) : Bool := q.any (fun x => decide (below < x) && decide (x ≤ s))
theorem hit_upto {below s : Int} (h0 : 0 ≤ below) : ∀ {q : List Int}, q.Pairwise (fun x y => y < x) → hitQ below s q = decide (below < uptoQ q s)
  | [], _ => by rw [show uptoQ [] s = 0 from rfl, decide_eq_false (by omega)]; rfl
  | x :: r, h => by
    rw [List.pairwise_cons] at h
    have ih := hit_upto (s := s) h0 h.2
    unfold hitQ at ih ⊢
    rw [List.any_cons, ih]
    unfold uptoQ at *
    by_cases hx : x ≤ s
    · rw [List.find?_cons_of_pos (by simpa using hx), Option.getD_some, decide_eq_true hx, Bool.and_true, Bool.eq_iff_iff]
      simp only [Bool.or_eq_true, decide_eq_true_eq]
      constructor
      · rintro (a | a)
        · exact a
        · cases hf : r.find? (fun x => decide (x ≤ s)) with
          | none => rw [hf] at a; simp only [Option.getD_none] at a; omega
          | some y =>
            rw [hf] at a
            simp only [Option.getD_some] at a
            have := h.1 y (List.mem_of_find?_eq_some hf)
            omega
      · exact .inl
    · rw [List.find?_cons_of_neg (by simpa using hx), decide_eq_false hx, Bool.and_false, Bool.false_or]
/-- whether all is hidden from a key on, as the document says it. -/
def wholeR (how : Int) (e : ByteArray) (below s : Int) : List Fg → ByteArray → Bool
  | [], b => decide (0 ≤ cmpH how b e)
  | f :: r, b => if cmpH how b e < 0 then (if cmpH how f.e b ≤ 0 then wholeR how e below s r b else if hitQ below s f.q = false then false else if 0 < cmpH how f.b b then false else wholeR how e below s r f.e) else true
theorem wholeR_cons (how : Int) (e : ByteArray) (below s : Int) (f : Fg) (r : List Fg) (b : ByteArray) : wholeR how e below s (f :: r) b = if cmpH how b e < 0 then (if cmpH how f.e b ≤ 0 then wholeR how e below s r b else if hitQ below s f.q = false then false else if 0 < cmpH how f.b b then false else wholeR how e below s r f.e) else true := rfl
theorem wholeR_end {how : Int} {e : ByteArray} {below s : Int} {b : ByteArray} (h : ¬ cmpH how b e < 0) : ∀ F : List Fg, wholeR how e below s F b = true
  | [] => by simp only [wholeR, decide_eq_true_eq]; omega
  | f :: r => by rw [wholeR_cons, if_neg h]
theorem wholeL_end {how : Int} {e : ByteArray} {below s : Int} {b : ByteArray} (h : ¬ cmpH how b e < 0) : ∀ F : List Fg, wholeL how e below s F b = true
  | [] => by rw [wholeL_nil, if_neg h]
  | f :: r => by rw [wholeL_cons, if_neg h]
theorem whole_tail {how : Int} {e : ByteArray} {below s : Int} (h0 : 0 ≤ below) : ∀ (F : List Fg) (b : ByteArray), (∀ f ∈ F, cmpH how f.b f.e < 0 ∧ f.q.Pairwise (fun x y => y < x) ∧ 0 < cmpH how f.e b) → F.Pairwise (fun f g => cmpH how f.e g.b ≤ 0) → wholeL how e below s F b = wholeR how e below s F b
  | [], b, _, _ => by rw [wholeL_nil]; unfold wholeR; split <;> simp <;> omega
  | f :: r, b, h, hup => by
    rw [List.pairwise_cons] at hup
    obtain ⟨a1, a2, a3⟩ := h f List.mem_cons_self
    rw [wholeL_cons, wholeR_cons]
    by_cases hb : cmpH how b e < 0
    · rw [if_pos hb, if_pos hb, if_neg (by omega : ¬ cmpH how f.e b ≤ 0), hit_upto h0 a2]
      by_cases hu : uptoQ f.q s ≤ below
      · rw [if_pos hu, if_pos (decide_eq_false (by omega))]
        split <;> rfl
      · rw [if_neg hu, if_neg (show ¬ (decide (below < uptoQ f.q s) = false) by rw [decide_eq_true (by omega : below < uptoQ f.q s)]; decide)]
        split
        · rfl
        · refine whole_tail h0 r f.e (fun g hg => ?_) hup.2
          obtain ⟨b1, b2, _⟩ := h g (List.mem_cons_of_mem _ hg)
          have := leB_lt how (hup.1 g hg) b1
          have := cmpH_swap how f.e g.e
          exact ⟨b1, b2, by omega⟩
    · rw [if_neg hb, if_neg hb]
theorem whole_at {how : Int} {e b : ByteArray} {below s : Int} (h0 : 0 ≤ below) : ∀ {F : List Fg} {k : Nat}, FO how F → AtF how F b k → wholeL how e below s (F.drop k) b = wholeR how e below s F b
  | F, 0, ho, h => by
    refine whole_tail h0 F b (fun f hf => ?_) ho.up
    obtain ⟨i, hi⟩ := List.mem_iff_getElem?.1 hf
    exact ⟨ho.ne f hf, ho.fall f hf, by have : ¬ cmpH how f.e b ≤ 0 := fun e => absurd ((h.2 i f hi).2 e) (by omega); omega⟩
  | [], k + 1, ho, h => by have := h.1; simp at this
  | f :: r, k + 1, ho, h => by
    rw [List.drop_succ_cons]
    by_cases hb : cmpH how b e < 0
    · rw [wholeR_cons, if_pos hb, if_pos ((h.2 0 f rfl).1 (by omega))]
      refine whole_at h0 ⟨fun g hg => ho.ne g (List.mem_cons_of_mem _ hg), (List.pairwise_cons.1 ho.up).2, fun g hg => ho.fall g (List.mem_cons_of_mem _ hg), by have := ho.len; simp only [List.length_cons] at this; omega, fun g hg => ho.qlen g (List.mem_cons_of_mem _ hg)⟩ ⟨by have := h.1; simp only [List.length_cons] at this; omega, fun i g hg => ?_⟩
      have := h.2 (i + 1) g (by simpa using hg)
      omega
    · rw [wholeL_end hb, wholeR_end hb]
/-- the greatest number over a key, as the document says it. -/
def mostR (how : Int) (l : List Tb) (k : ByteArray) (s : Int) : Int := l.foldl (fun n t => if overT how t k = true then (if t.s ≤ s then (if n < t.s then t.s else n) else n) else n) 0
theorem mostR_snoc (how : Int) (l : List Tb) (i : Nat) (t : Tb) (k : ByteArray) (s : Int) (ht : l[i]? = some t) : mostR how (l.take (i + 1)) k s = if overT how t k = true then (if t.s ≤ s then (if mostR how (l.take i) k s < t.s then t.s else mostR how (l.take i) k s) else mostR how (l.take i) k s) else mostR how (l.take i) k s := by
  unfold mostR
  rw [List.take_add_one, ht, List.foldl_append]
  rfl
theorem mostR_is {how : Int} {l : List Tb} {k : ByteArray} {s : Int} (h0 : ∀ t ∈ l, 0 ≤ t.s) : IsMost how l k s (mostR how l k s) := by
  have key : ∀ i : Nat, i ≤ l.length → IsMost how (l.take i) k s (mostR how (l.take i) k s) := by
    intro i
    induction i with
    | zero => intro _; exact ⟨.inl rfl, fun t ht => by simp at ht⟩
    | succ i ih =>
      intro hi
      obtain ⟨t, ht⟩ : ∃ t, l[i]? = some t := ⟨_, List.getElem?_eq_getElem (by omega)⟩
      obtain ⟨m1, m2⟩ := ih (by omega)
      have hmem : ∀ u, u ∈ l.take (i + 1) ↔ u ∈ l.take i ∨ u = t := fun u => by rw [List.take_add_one, ht, List.mem_append]; simp
      have hm0 : 0 ≤ mostR how (l.take i) k s := by
        rcases m1 with e | ⟨u, hu, _, _, e⟩
        · omega
        · have := h0 u (List.mem_of_mem_take hu); omega
      rw [mostR_snoc how l i t k s ht]
      have hold : ∀ {m : Int}, m = mostR how (l.take i) k s → (overT how t k = true → t.s ≤ s → t.s ≤ m) → IsMost how (l.take (i + 1)) k s m := by
        rintro m rfl hle
        refine ⟨m1.imp (fun h => h) (fun ⟨u, hu, r⟩ => ⟨u, (hmem u).2 (.inl hu), r⟩), fun u hu ho hs => ?_⟩
        rcases (hmem u).1 hu with h | rfl
        · exact m2 u h ho hs
        · exact hle ho hs
      split
      · rename_i ho
        split
        · rename_i hs
          split
          · rename_i hlt
            refine ⟨.inr ⟨t, (hmem t).2 (.inr rfl), ho, hs, rfl⟩, fun u hu ho hs => ?_⟩
            rcases (hmem u).1 hu with h | rfl
            · have := m2 u h ho hs; omega
            · omega
          · exact hold rfl (fun _ _ => by omega)
        · exact hold rfl (fun _ h => absurd h (by assumption))
      · exact hold rfl (fun h => absurd h (by assumption))
  have := key l.length (Nat.le_refl _)
  rwa [List.take_length] at this
theorem most_law {how : Int} {l : List Tb} {k : ByteArray} {s : Int} (h0 : ∀ t ∈ l, 0 ≤ t.s) : uptoQ (overQ how (splitT how l) k) s = mostR how l k s :=
  isMost_uniq h0 (most_is how l k s h0) (mostR_is h0)
def coversR (how : Int) (l : List Tb) (k : ByteArray) (s m : Int) : Bool := l.any (fun t => overT how t k && decide (t.s ≤ s) && decide (m < t.s))
theorem covers_law {how : Int} {l : List Tb} {k : ByteArray} {s m : Int} (h0 : ∀ t ∈ l, 0 ≤ t.s) (hm : 0 ≤ m) : coversR how l k s m = decide (m < uptoQ (overQ how (splitT how l) k) s) := by
  obtain ⟨h1, h2⟩ := most_is how l k s h0
  unfold coversR
  rw [Bool.eq_iff_iff, List.any_eq_true, decide_eq_true_eq]
  constructor
  · rintro ⟨t, ht, h⟩
    rw [Bool.and_eq_true, Bool.and_eq_true, decide_eq_true_eq, decide_eq_true_eq] at h
    have := h2 t ht h.1.1 h.1.2
    omega
  · intro h
    rcases h1 with e | ⟨t, ht, a, b, c⟩
    · omega
    · refine ⟨t, ht, ?_⟩
      rw [a, decide_eq_true b, decide_eq_true (by omega : m < t.s)]
      rfl
/-- a fragment as far as it lies in a range. -/
def clipF (how : Int) (b e : ByteArray) (f : Fg) : Fg := ⟨if cmpH how f.b b < 0 then b else f.b, if 0 < cmpH how f.e e then e else f.e, f.q⟩
def cutF (how : Int) (b e : ByteArray) (F : List Fg) : List Fg := (F.map (clipF how b e)).filter (fun f => decide (cmpH how f.b f.e < 0))
theorem cutF_snoc (how : Int) (b e : ByteArray) (F : List Fg) (i : Nat) (f : Fg) (hf : F[i]? = some f) : cutF how b e (F.take (i + 1)) = cutF how b e (F.take i) ++ (if cmpH how (clipF how b e f).b (clipF how b e f).e < 0 then [clipF how b e f] else []) := by
  unfold cutF
  rw [List.take_add_one, hf, List.map_append, List.filter_append]
  simp only [Option.toList_some, List.map_cons, List.map_nil, List.filter_cons, List.filter_nil, decide_eq_true_eq]
theorem cutF_len (how : Int) (b e : ByteArray) (F : List Fg) : (cutF how b e F).length ≤ F.length := by
  unfold cutF
  refine Nat.le_trans (List.length_filter_le _ _) ?_
  rw [List.length_map]; exact Nat.le_refl _
theorem cutF_sum (how : Int) (b e : ByteArray) : ∀ F : List Fg, sumQ (cutF how b e F) ≤ sumQ F
  | [] => Nat.le_refl _
  | f :: r => by
    have ih := cutF_sum how b e r
    unfold cutF at ih ⊢
    rw [List.map_cons, List.filter_cons]
    split
    · simp only [sumQ, clipF]; omega
    · simp only [sumQ]; omega
theorem clip_over {how : Int} {b e k : ByteArray} {f : Fg} : (cmpH how (clipF how b e f).b k ≤ 0 ∧ cmpH how k (clipF how b e f).e < 0) ↔ (cmpH how b k ≤ 0 ∧ cmpH how k e < 0) ∧ inF how k f = true := by
  unfold inF clipF
  rw [Bool.and_eq_true, decide_eq_true_eq, decide_eq_true_eq]
  have s1 := cmpH_swap how f.b b
  have s2 := cmpH_swap how f.e e
  constructor
  · rintro ⟨h1, h2⟩
    simp only at h1 h2
    split at h1 <;> split at h2
    · exact ⟨⟨h1, h2⟩, leB_trans how (by omega) h1, ltB_le how h2 (by omega)⟩
    · exact ⟨⟨h1, ltB_le how h2 (by omega)⟩, leB_trans how (by omega) h1, h2⟩
    · exact ⟨⟨leB_trans how (by omega) h1, h2⟩, h1, ltB_le how h2 (by omega)⟩
    · exact ⟨⟨leB_trans how (by omega) h1, ltB_le how h2 (by omega)⟩, h1, h2⟩
  · rintro ⟨⟨h1, h2⟩, h3, h4⟩
    simp only
    constructor
    · split
      · exact h1
      · exact h3
    · split
      · exact h2
      · exact h4
theorem over_cut {how : Int} {b e k : ByteArray} {F : List Fg} {x : Int} : (∃ t ∈ tombsF (cutF how b e F), overT how t k = true ∧ x = t.s) ↔ (cmpH how b k ≤ 0 ∧ cmpH how k e < 0) ∧ ∃ f ∈ F, inF how k f = true ∧ x ∈ f.q := by
  constructor
  · rintro ⟨t, ht, ho, rfl⟩
    obtain ⟨g, hg, e1, e2, hs⟩ := mem_tombs.1 ht
    obtain ⟨hg, _⟩ := List.mem_filter.1 hg
    obtain ⟨f, hf, rfl⟩ := List.mem_map.1 hg
    unfold overT at ho
    rw [Bool.and_eq_true, decide_eq_true_eq, decide_eq_true_eq, e1, e2, clip_over] at ho
    exact ⟨ho.1, f, hf, ho.2, hs⟩
  · rintro ⟨h1, f, hf, hi, hx⟩
    have hc := clip_over.2 ⟨h1, hi⟩
    refine ⟨⟨(clipF how b e f).b, (clipF how b e f).e, x⟩, mem_tombs.2 ⟨clipF how b e f, List.mem_filter.2 ⟨List.mem_map.2 ⟨f, hf, rfl⟩, decide_eq_true (leB_lt how hc.1 hc.2)⟩, rfl, rfl, hx⟩, ?_, rfl⟩
    unfold overT
    rw [Bool.and_eq_true, decide_eq_true_eq, decide_eq_true_eq]
    exact hc
theorem isMost_of {how : Int} {l l' : List Tb} {k : ByteArray} {s m : Int} (h : ∀ x, (∃ t ∈ l, overT how t k = true ∧ x = t.s) ↔ ∃ t ∈ l', overT how t k = true ∧ x = t.s) (hm : IsMost how l k s m) : IsMost how l' k s m := by
  refine ⟨?_, fun t ht ho hs => ?_⟩
  · rcases hm.1 with e | ⟨t, ht, ho, hs, e⟩
    · exact .inl e
    · obtain ⟨u, hu, ho', e'⟩ := (h t.s).1 ⟨t, ht, ho, rfl⟩
      exact .inr ⟨u, hu, ho', by omega, by omega⟩
  · obtain ⟨u, hu, ho', e'⟩ := (h t.s).2 ⟨t, ht, ho, rfl⟩
    have := hm.2 u hu ho' (by omega)
    omega
theorem cut_nums {how : Int} {b e : ByteArray} {l : List Tb} (h0 : ∀ t ∈ l, 0 ≤ t.s) : ∀ t ∈ tombsF (cutF how b e (splitT how l)), 0 ≤ t.s := by
  intro t ht
  obtain ⟨g, hg, _, _, hs⟩ := mem_tombs.1 ht
  obtain ⟨hg, _⟩ := List.mem_filter.1 hg
  obtain ⟨f, hf, rfl⟩ := List.mem_map.1 hg
  obtain ⟨u, hu, e⟩ := (split_nums hf).2.2 _ hs
  have := h0 u hu
  omega
theorem cut_in {how : Int} {b e k : ByteArray} {s : Int} {l : List Tb} (h0 : ∀ t ∈ l, 0 ≤ t.s) (hin : cmpH how b k ≤ 0 ∧ cmpH how k e < 0) : mostR how (tombsF (cutF how b e (splitT how l))) k s = mostR how l k s := by
  refine isMost_uniq (cut_nums h0) (mostR_is (cut_nums h0)) (isMost_of (fun x => ?_) (mostR_is h0))
  rw [over_cut]
  constructor
  · rintro ⟨t, ht, ho, rfl⟩
    obtain ⟨f, hf, hi⟩ := split_over ht ho
    exact ⟨hin, f, hf, hi, ((split_seqs hf hi).2.2 t.s).2 ⟨t, ht, ho, rfl⟩⟩
  · rintro ⟨_, f, hf, hi, hx⟩
    exact ((split_seqs hf hi).2.2 x).1 hx
theorem cut_out {how : Int} {b e k : ByteArray} {s : Int} {l : List Tb} (h0 : ∀ t ∈ l, 0 ≤ t.s) (hin : ¬ (cmpH how b k ≤ 0 ∧ cmpH how k e < 0)) : mostR how (tombsF (cutF how b e (splitT how l))) k s = 0 := by
  refine isMost_uniq (cut_nums h0) (mostR_is (cut_nums h0)) ⟨.inl rfl, fun t ht ho _ => ?_⟩
  exact absurd (over_cut.1 ⟨t, ht, ho, rfl⟩).1 hin
end Go.Proofs.Ytmopjoeomjdikaa
