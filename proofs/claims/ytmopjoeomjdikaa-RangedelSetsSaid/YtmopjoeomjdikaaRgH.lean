/- The small living call of layer 9. Conditions: what each theorem names. -/
import Derived.RangeFuncNested
import Derived.RangeFuncBound
import Derived.RangeFuncCalls
import Derived.RangeFuncLeaves
import Derived.Shelf.Abstract
import Derived.Shelf.RegionOpen
import Derived.WalkKit
import Derived.OwnWalkIn
import Derived.TacticsInMore
import Derived.LoopNIn
import Derived.LoopIn
import Derived.Lib.Hide
import Derived.Outline
import Derived.RegionTactic
import Derived.BigRegion
import Derived.WalkLawsBesides
import Derived.WalkSpells
import Derived.Deep.QuietTactic
import Derived.BigQuiet
import Derived.Deep.RegionHeld3
import Derived.Deep.DeepCutAuto
import Derived.Deep.CutBlock
import Derived.StillTailTactics
import Derived.WalkSmall
import Derived.Test.YtmopjoeomjdikaaRgG
namespace Go.Proofs.Ytmopjoeomjdikaa
open Go.RowKit Go.Sed Go.Sort
set_option maxHeartbeats 2000000
set_option maxRecDepth 100000
def kA : ByteArray := { data := #[97] }
def kC : ByteArray := { data := #[99] }
def kD : ByteArray := { data := #[100] }
def kE : ByteArray := { data := #[101] }
def kG : ByteArray := { data := #[103] }
def l0 : List Tb := [⟨kA, kE, 5⟩, ⟨kC, kG, 9⟩]
def F0 : List Fg := [⟨kA, kC, [5]⟩, ⟨kC, kE, [9, 5]⟩, ⟨kE, kG, [9]⟩]
theorem live0 : liveT 0 l0 = l0 := rfl
theorem cuts0 : cutsT 0 l0 = [kA, kC, kE, kG] := by
  refine rise_uniq (ltB_irr 0) (ltB_trans 0) _ _ (cutsT_ok 0 l0).1 ?_ (fun x => ((cutsT_ok 0 l0).2 x).trans ?_)
  · unfold ltB; decide
  · have h1 : cmpH 0 kA kE < 0 := by decide
    have h2 : cmpH 0 kC kG < 0 := by decide
    unfold l0
    simp only [List.mem_cons, List.not_mem_nil, or_false, exists_eq_or_imp, exists_eq_left, h1, h2, true_and]
    constructor
    · rintro ((h | h) | (h | h)) <;> simp [h]
    · rintro (h | h | h | h) <;> simp [h]
theorem seqs0 {a b : ByteArray} {q : List Int} (hq : q.Pairwise (fun x y => y < x)) (h : ∀ x, (∃ t ∈ l0, covT 0 a b t = true ∧ x = t.s) ↔ x ∈ q) : seqsT 0 l0 a b = q :=
  rise_uniq (lt := fun x y : Int => y < x) (fun x h => by omega) (fun x y z h1 h2 => by omega) _ _ (seqsT_ok 0 l0 a b).1 hq (fun x => ((seqsT_ok 0 l0 a b).2 x).trans (h x))
theorem split0 : splitT 0 l0 = F0 := by
  have s1 : seqsT 0 l0 kA kC = [5] := seqs0 (by decide) (fun x => by
    have h1 : covT 0 kA kC ⟨kA, kE, 5⟩ = true := by decide
    have h2 : covT 0 kA kC ⟨kC, kG, 9⟩ = false := by decide
    unfold l0
    simp [h1, h2])
  have s2 : seqsT 0 l0 kC kE = [9, 5] := seqs0 (by decide) (fun x => by
    have h1 : covT 0 kC kE ⟨kA, kE, 5⟩ = true := by decide
    have h2 : covT 0 kC kE ⟨kC, kG, 9⟩ = true := by decide
    unfold l0
    simp [h1, h2, or_comm])
  have s3 : seqsT 0 l0 kE kG = [9] := seqs0 (by decide) (fun x => by
    have h1 : covT 0 kE kG ⟨kA, kE, 5⟩ = false := by decide
    have h2 : covT 0 kE kG ⟨kC, kG, 9⟩ = true := by decide
    unfold l0
    simp [h1, h2])
  unfold splitT
  rw [live0, cuts0]
  show fragsN 0 l0 [kA, kC, kE, kG] 3 = _
  rw [fragsN_succ 0 l0 _ 2 kE kG rfl rfl, fragsN_succ 0 l0 _ 1 kC kE rfl rfl, fragsN_succ 0 l0 _ 0 kA kC rfl rfl]
  unfold frag1
  rw [s1, s2, s3]
  rfl
theorem most0 : uptoQ (overQ 0 F0 kD) 8 = 5 := by decide
theorem whole0 {k : Nat} (h : AtF 0 F0 kA k) : wholeL 0 kG 4 9 (F0.drop k) kA = true := by
  have h0 := (h.2 0 ⟨kA, kC, [5]⟩ rfl)
  have h1 : ¬ cmpH 0 kC kA ≤ 0 := by decide
  have : ¬ 0 < k := fun e => h1 (h0.1 e)
  obtain rfl : k = 0 := by omega
  decide
theorem lives_any (w : World) : Calls Try.prog 10 #[] w fun e w' => e = .returned (.bool true) ∧ Below w.heap.size w w' := by
  obtain ⟨w1, hw1⟩ : ∃ w1, w.alloc (.cells #[.string kA, .string kE, .int .u64 5, .string kC, .string kG, .int .u64 9] 38) = w1 := ⟨_, rfl⟩
  have hB1 : Below w.heap.size w w1 := by rw [← hw1]; exact (Below.refl _ _).alloc (Nat.le_refl _) _
  have hr1 : Rd w1 3 (some ⟨w.heap.size, 0, none⟩) 2 (l0.flatMap tc) := by rw [← hw1]; exact rd_new rfl _ _ 2 3 rfl
  have hm : ∀ t ∈ l0, t.b.size ≤ maxLen ∧ t.e.size ≤ maxLen := by
    intro t ht
    unfold l0 at ht
    simp only [List.mem_cons, List.not_mem_nil, or_false] at ht
    rcases ht with rfl | rfl <;> decide
  have hc : chkT 0 l0 = 0 := by decide
  have hsp := Lib.hid (split_yes 0 l0 (some ⟨w.heap.size, 0, none⟩) 2 w1 hr1 hm hc (by decide))
  have hnw := Lib.hid (fun W (hW : Below w1.heap.size w1 W) => new_yes 0 l0 (some ⟨w.heap.size, 0, none⟩) 2 W (hr1.keep hW) hm hc (by decide))
  have hfo : FO 0 F0 := split0 ▸ split_fo 0 l0 (by decide)
  rw [split0] at hsp hnw
  have hmo := Lib.hid (fun hb W (hW : ST W hb 0 F0) => most_any 0 F0 kD 8 hb W hW hfo)
  have hwh := Lib.hid (fun hb W (hW : ST W hb 0 F0) => whole_any 0 F0 kA kG 4 9 hb W hW hfo)
  rw [most0] at hmo
  replace hw1 := Lib.hid (show w.alloc (.cells #[.string { data := #[97] }, .string { data := #[101] }, .int .u64 5, .string { data := #[99] }, .string { data := #[103] }, .int .u64 9] 38) = w1 from hw1)
  clear hm hc hfo
  go_enter Try.func10, Try.ntmps10
  go_wp2_with (first
    | (go_at_call 7; rw [hw1.out]; (refine hsp.out.mono ?_; rintro e w2 ⟨v, rfl, hFL, hB2⟩; obtain ⟨Av, cv, G, rfl, -⟩ := hFL.shape; clear hFL))
    | (go_at_call 13; (refine (hnw.out w2 hB2).mono ?_; rintro e w3 ⟨hb, rfl, hST, hB3⟩))
    | (go_at_call 14; (refine (hmo.out hb w3 hST).mono ?_; rintro e w4 ⟨rfl, hB4⟩))
    | (go_at_call 25; (refine (hwh.out hb w4 (hST.keep hB4)).mono ?_; rintro e w5 ⟨k, hk, rfl, hB5⟩; rw [whole0 hk])))
  go_ret
  exact ⟨rfl, below_then hB1 (below_then hB2 (below_then hB3 (below_then hB4 hB5)))⟩
end Go.Proofs.Ytmopjoeomjdikaa
