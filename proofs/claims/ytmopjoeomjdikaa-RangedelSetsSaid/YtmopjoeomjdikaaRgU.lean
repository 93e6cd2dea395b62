/- The greatest number over a key, of fragments and of tombstones; two lists of them put together. Conditions: what each theorem names. -/
import Derived.RangeFuncNested
import Derived.RangeFuncBound
import Derived.RangeFuncCalls
import Derived.RangeFuncLeaves
import Derived.Shelf.Abstract
import Derived.Shelf.RegionOpen
import Derived.WalkKit
import Derived.OwnWalkIn
import Derived.TacticsInMore
import Derived.LoopNIn
import Derived.LoopIn
import Derived.Lib.Hide
import Derived.Outline
import Derived.RegionTactic
import Derived.BigRegion
import Derived.WalkLawsBesides
import Derived.WalkSpells
import Derived.Deep.QuietTactic
import Derived.BigQuiet
import Derived.Deep.RegionHeld3
import Derived.Deep.DeepCutAuto
import Derived.Deep.CutBlock
import Derived.StillTailTactics
import Derived.WalkSmall
import Derived.Test.YtmopjoeomjdikaaRgG
namespace Go.Proofs.Ytmopjoeomjdikaa
open Go.RowKit Go.Sed Go.Sort
set_option maxHeartbeats 1000000
/-- m is the greatest number at most s of those over a key; 0 if there is none. -/
def IsMost (how : Int) (l : List Tb) (k : ByteArray) (s m : Int) : Prop := (m = 0 ∨ ∃ t ∈ l, overT how t k = true ∧ t.s ≤ s ∧ m = t.s) ∧ ∀ t ∈ l, overT how t k = true → t.s ≤ s → t.s ≤ m
theorem most_is (how : Int) (l : List Tb) (k : ByteArray) (s : Int) (h0 : ∀ t ∈ l, 0 ≤ t.s) : IsMost how l k s (uptoQ (overQ how (splitT how l) k) s) := by
  unfold overQ
  cases hf : (splitT how l).find? (inF how k) with
  | none =>
    refine ⟨.inl rfl, fun t ht ho _ => ?_⟩
    obtain ⟨f, hm, hi⟩ := split_over ht ho
    have := List.find?_eq_none.1 hf f hm
    exact absurd hi this
  | some f =>
    have hm := List.mem_of_find?_eq_some hf
    have hi := List.find?_some hf
    obtain ⟨_, hfall, hmem⟩ := split_seqs hm hi
    simp only [Option.map_some, Option.getD_some]
    unfold uptoQ
    cases hq : f.q.find? (fun x => decide (x ≤ s)) with
    | none =>
      refine ⟨.inl rfl, fun t ht ho hs => ?_⟩
      have h1 := List.find?_eq_none.1 hq t.s ((hmem t.s).2 ⟨t, ht, ho, rfl⟩)
      rw [decide_eq_true_eq] at h1
      exact absurd hs h1
    | some x =>
      simp only [Option.getD_some]
      have hx := List.find?_some hq
      rw [decide_eq_true_eq] at hx
      obtain ⟨t, ht, ho, rfl⟩ := (hmem x).1 (List.mem_of_find?_eq_some hq)
      refine ⟨.inr ⟨t, ht, ho, hx, rfl⟩, fun u hu hou hus => ?_⟩
      obtain ⟨h2, ys, zs, he, hn⟩ := List.find?_eq_some_iff_append.1 hq
      have hum := (hmem u.s).2 ⟨u, hu, hou, rfl⟩
      rw [he] at hum hfall
      rcases List.mem_append.1 hum with h | h
      · have := hn _ h
        rw [Bool.not_eq_true', decide_eq_false_iff_not] at this
        exact absurd hus this
      · rcases List.mem_cons.1 h with h | h
        · omega
        · have := (List.pairwise_cons.1 (List.pairwise_append.1 hfall).2.1).1 _ h
          omega
theorem isMost_uniq {how : Int} {l : List Tb} {k : ByteArray} {s m n : Int} (h0 : ∀ t ∈ l, 0 ≤ t.s) (h1 : IsMost how l k s m) (h2 : IsMost how l k s n) : m = n := by
  have key : ∀ {m n : Int}, IsMost how l k s m → IsMost how l k s n → m ≤ n := by
    intro m n h1 h2
    rcases h1.1 with e | ⟨t, ht, ho, hs, rfl⟩
    · subst e
      rcases h2.1 with e | ⟨t, ht, _, _, e⟩
      · omega
      · have := h0 t ht; omega
    · exact h2.2 t ht ho hs
  have := key h1 h2
  have := key h2 h1
  omega
theorem isMost_app {how : Int} {a b : List Tb} {k : ByteArray} {s x y : Int} (h0 : ∀ t ∈ a ++ b, 0 ≤ t.s) (h1 : IsMost how a k s x) (h2 : IsMost how b k s y) : IsMost how (a ++ b) k s (if x < y then y else x) := by
  have hx : 0 ≤ x := by
    rcases h1.1 with e | ⟨t, ht, _, _, e⟩
    · omega
    · have := h0 t (List.mem_append_left _ ht); omega
  have hy : 0 ≤ y := by
    rcases h2.1 with e | ⟨t, ht, _, _, e⟩
    · omega
    · have := h0 t (List.mem_append_right _ ht); omega
  refine ⟨?_, fun t ht ho hs => ?_⟩
  · split
    · rcases h2.1 with e | ⟨t, ht, ho, hs, e⟩
      · exact .inl e
      · exact .inr ⟨t, List.mem_append_right _ ht, ho, hs, e⟩
    · rcases h1.1 with e | ⟨t, ht, ho, hs, e⟩
      · exact .inl e
      · exact .inr ⟨t, List.mem_append_left _ ht, ho, hs, e⟩
  · rcases List.mem_append.1 ht with h | h
    · have := h1.2 t h ho hs
      split <;> omega
    · have := h2.2 t h ho hs
      split <;> omega
theorem union_law (how : Int) (a b : List Tb) (k : ByteArray) (s : Int) (h0 : ∀ t ∈ a ++ b, 0 ≤ t.s) :
    uptoQ (overQ how (splitT how (a ++ b)) k) s = (if uptoQ (overQ how (splitT how a) k) s < uptoQ (overQ how (splitT how b) k) s then uptoQ (overQ how (splitT how b) k) s else uptoQ (overQ how (splitT how a) k) s) :=
  isMost_uniq h0 (most_is how _ k s h0) (isMost_app h0 (most_is how a k s (fun t ht => h0 t (List.mem_append_left _ ht))) (most_is how b k s (fun t ht => h0 t (List.mem_append_right _ ht))))
theorem chkTs_app : ∀ (a b : List Tb), chkTs a = 0 → chkTs (a ++ b) = chkTs b
  | [], _, _ => rfl
  | t :: r, b, h => by
    rw [chkTs_cons] at h
    rw [List.cons_append, chkTs_cons]
    split at h
    · cases h
    · split at h
      · cases h
      · split at h
        · cases h
        · rw [if_neg (by assumption), if_neg (by assumption), if_neg (by assumption)]
          exact chkTs_app r b h
theorem chkTs_app0 : ∀ (a b : List Tb), chkTs (a ++ b) = 0 → chkTs a = 0 ∧ chkTs b = 0
  | [], _, h => ⟨rfl, h⟩
  | t :: r, b, h => by
    rw [List.cons_append, chkTs_cons] at h
    rw [chkTs_cons]
    split at h
    · cases h
    · split at h
      · cases h
      · split at h
        · cases h
        · rw [if_neg (by assumption), if_neg (by assumption), if_neg (by assumption)]
          exact chkTs_app0 r b h
theorem chkT_ok {how : Int} {l : List Tb} : chkT how l = 0 ↔ (how = 0 ∨ how = 1) ∧ l.length ≤ 1024 ∧ chkTs l = 0 := by
  unfold chkT
  split
  · exact ⟨fun h => (by cases h), fun h => absurd h.1 (by assumption)⟩
  · split
    · exact ⟨fun h => (by cases h), fun h => by omega⟩
    · exact ⟨fun h => ⟨Classical.byContradiction (by assumption), by omega, h⟩, fun h => h.2.2⟩
theorem chkT_app0 {how : Int} {a b : List Tb} (h : chkT how (a ++ b) = 0) : chkT how a = 0 ∧ chkT how b = 0 := by
  obtain ⟨h1, h2, h3⟩ := chkT_ok.1 h
  rw [List.length_append] at h2
  have := chkTs_app0 a b h3
  exact ⟨chkT_ok.2 ⟨h1, by omega, this.1⟩, chkT_ok.2 ⟨h1, by omega, this.2⟩⟩
theorem chkT_app {how : Int} {a b : List Tb} (ha : chkT how a = 0) (hb : chkT how b = 0) (h : chkT how (a ++ b) ≠ 0) : chkT how (a ++ b) = 2 ∧ 1024 < a.length + b.length := by
  obtain ⟨h1, _, h3⟩ := chkT_ok.1 ha
  obtain ⟨_, _, h4⟩ := chkT_ok.1 hb
  have h5 := chkTs_app a b h3
  rw [h4] at h5
  by_cases hl : 1024 < (a ++ b).length
  · refine ⟨?_, by rw [List.length_append] at hl; exact hl⟩
    unfold chkT
    rw [if_neg (not_not_intro h1), if_pos hl]
  · exact absurd (chkT_ok.2 ⟨h1, by omega, h5⟩) h
theorem new_any (how : Int) (l : List Tb) (A : Option Addr) (c n : Nat) (w : World) (hn : l.length = n) (hr : Rd w 3 A n (l.flatMap tc)) (hs : ∀ t ∈ l, t.b.size ≤ maxLen ∧ t.e.size ≤ maxLen) (hl : l.length ≤ maxLen) :
    Calls Try.prog 13 #[.int .i64 how, .slice A n c] w fun e w' => ∃ pv : Option Addr, e = .returned (.tuple #[.pointer pv, .int .i64 (chkT how l)]) ∧ (chkT how l = 0 → ∃ hb : Nat, pv = some ⟨hb, 0, none⟩ ∧ ST w' hb how (splitT how l)) ∧ (chkT how l ≠ 0 → pv = none) ∧ Below w.heap.size w w' := by
  subst hn
  by_cases h : chkT how l = 0
  · refine (new_yes how l A c w hr hs h (chkT_ok.1 h).2.1).mono ?_
    rintro e w' ⟨hb, rfl, hst, hB⟩
    exact ⟨_, by rw [h], fun _ => ⟨hb, rfl, hst⟩, fun h' => absurd h h', hB⟩
  · refine (new_no how l A c w hr hs hl (by rw [beq_eq_false_iff_ne]; exact h)).mono ?_
    rintro e w' ⟨rfl, hB⟩
    exact ⟨none, rfl, fun h' => absurd h' h, fun _ => rfl, hB⟩
end Go.Proofs.Ytmopjoeomjdikaa
