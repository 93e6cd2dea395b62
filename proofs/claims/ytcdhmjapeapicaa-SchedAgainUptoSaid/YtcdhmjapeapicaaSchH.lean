/- Two tasks that take two locks crosswise are dead. Conditions: what each theorem names. -/
import Derived.RangeFuncNested
import Derived.RangeFuncBound
import Derived.RangeFuncCalls
import Derived.RangeFuncLeaves
import Derived.Shelf.Abstract
import Derived.Shelf.RegionOpen
import Derived.WalkKit
import Derived.OwnWalkIn
import Derived.TacticsInMore
import Derived.LoopNIn
import Derived.LoopIn
import Derived.Lib.Hide
import Derived.Outline
import Derived.RegionTactic
import Derived.BigRegion
import Derived.WalkLawsBesides
import Derived.WalkSpells
import Derived.Deep.QuietTactic
import Derived.BigQuiet
import Derived.Deep.RegionHeld3
import Derived.Deep.DeepCutAuto
import Derived.Deep.CutBlock
import Derived.StillTailTactics
import Derived.WalkSmall
import Derived.Test.YtcdhmjapeapicaaProg
import Derived.Test.YtcdhmjapeapicaaFr
import Derived.Test.YtcdhmjapeapicaaMp
import Derived.Defers
import Derived.Recover
import Derived.Test.YtcdhmjapeapicaaSchG
import Derived.Lib.SliceRun
namespace Go.Proofs.Ytcdhmjapeapicaa
open Go.RowKit Go.Sed Go.Maps
set_option maxHeartbeats 1000000
set_option maxRecDepth 100000
theorem lives_enters : Enters Try.prog 27 := enters_of Try.func27 (by kernel_rfl) rfl
theorem Bl.frN {F : Nat → Prop} {w W : World} {k : Nat} {o : Obj} (h : Bl w k o) (hf : Fr F w W) (hk : ¬ F k) : Bl W k o := h.fr hf hk
theorem live_pick (base b mb n x p A B C D : Nat) (v : Value) (s : SS) (t : Tk) (w : World) (av fv : Int) (oc od : Obj) (h : SH w base b mb v s) (hst : Steady s) (hwi : s.within = false) (hw : 0 ≤ s.wishes ∧ s.wishes < 1000) (hs : s.steps < 1000) (hn64 : s.bs.length ≤ 64) (hlk : s.lk.length < 9223372036854775807)
    (hp : (thoseI (mayB s) s.ts)[p % (thoseI (mayB s) s.ts).length]? = some (n : Int)) (hx : s.bs[n]? = some x) (ht : s.ts[n]? = some t) (hste : t.st = .func (.func 27) #[] #[.pointer (some ⟨A, 0, none⟩), .pointer (some ⟨B, 0, none⟩)])
    (hA : Bl w A (.cells #[.int .i64 av] 3 (0, 0))) (hB : Bl w B (.cells #[.int .i64 fv] 3 (0, 0))) (hC : Bl w C oc) (hD : Bl w D od) (hAB : A ≠ B) (hAC : C ≠ A) (hAD : D ≠ A) (fA : ¬ foot b mb v s A) (fB : ¬ foot b mb v s B) (fC : ¬ foot b mb v s C) (fD : ¬ foot b mb v s D) (hav : 0 ≤ av ∧ av < 1000) (hfv : 0 ≤ fv ∧ fv < 1000) :
    Calls Try.prog 29 #[ptr b, .int .i64 p] w fun e w' => ∃ r, e = .returned r ∧
      SH w' base b mb v { bs := s.bs, ts := s.ts.set n { t with kd := 1, on := (fv + (av + 1)) % 2, si := s.steps + 1, od := s.wishes + 1 }, lk := lkN t n s.lk, steps := s.steps + 1, wishes := s.wishes + 1, within := false } ∧
      Bl w' A (.cells #[.int .i64 (av + 1)] 3 (0, 0)) ∧ Bl w' B (.cells #[.int .i64 fv] 3 (0, 0)) ∧ Bl w' C oc ∧ Bl w' D od ∧ Fr (fun k => foot b mb v s k ∨ k = A) w w' := by
  have hAz := hA.lt
  have hBz := hB.lt
  have hCz := hC.lt
  have hDz := hD.lt
  have hs0 := hst.1
  refine (pick_ok base b mb n x p 27 _ v s t w h hst hwi hw.1 hn64 hlk hp hx ht hste lives_enters (fun k => k = A) (fun k e => by subst e; exact hAz)
    (fun k o s' _ W' => k = 1 ∧ o = (fv + (av + 1)) % 2 ∧ s' = { s with lk := lkN t n s.lk, ts := s.ts.set n { t with kd := 0, on := 0 }, within := true } ∧ Bl W' A (.cells #[.int .i64 (av + 1)] 3 (0, 0)) ∧ Bl W' B (.cells #[.int .i64 fv] 3 (0, 0)) ∧ Bl W' C oc ∧ Bl W' D od) _ rfl ?_).mono ?_
  · intro W hW hf
    refine (lstep_any A B av fv W (hA.fr hf fA) (hB.fr hf fB) hAB hav hfv).mono ?_
    rintro e W' ⟨rfl, gA, gf⟩
    exact ⟨_, _, _, rfl, hW.fr gf (fun k hk e => by
      subst e
      exact fA hk), rfl, ⟨⟨rfl, rfl, rfl, gA, (hB.fr hf fB).fr gf (fun e => hAB e.symm), (hC.fr hf fC).fr gf hAC, (hD.fr hf fD).fr gf hAD⟩, hs0, by simp only; omega, hw.1, by simp only; omega⟩, gf⟩
  · rintro e w' ⟨k, o, s', t', W, W', rfl, ht', hS, ⟨rfl, rfl, rfl, gA, gB, gC, gD⟩, hf1, hf2⟩
    have hnt : n < s.ts.length := (List.getElem?_eq_some_iff.1 ht).1
    simp only at ht'
    rw [List.getElem?_set_self hnt] at ht'
    injection ht' with ht'
    subst ht'
    have hk1 : kdF 1 = 1 := rfl
    have ho1 : ∀ o, onF 1 o = o := fun _ => rfl
    simp only [List.set_set, hk1, ho1] at hS
    have nf : ∀ {k : Nat}, ¬ foot b mb v s k → k < w.heap.size → ¬ (foot b mb v s k ∨ w.heap.size ≤ k ∧ k < W.heap.size) := fun h1 h2 h3 => by
      rcases h3 with h3 | h3
      · exact h1 h3
      · omega
    exact ⟨_, rfl, hS, gA.fr hf1 (nf fA hAz), gB.fr hf1 (nf fB hBz), gC.fr hf1 (nf fC hCz), gD.fr hf1 (nf fD hDz), hf2⟩
def lnm : Value := .string { data := #[116] }
def livS (bs : List Nat) (f0 f1 : Value) : Nat → SS
  | 0 => ⟨bs, [⟨lnm, f0, 0, 0, 0, 0, false⟩, ⟨lnm, f1, 0, 0, 0, 0, false⟩], [], 0, 0, false⟩
  | 1 => ⟨bs, [⟨lnm, f0, 1, 1, 1, 1, false⟩, ⟨lnm, f1, 0, 0, 0, 0, false⟩], [], 1, 1, false⟩
  | 2 => ⟨bs, [⟨lnm, f0, 1, 1, 1, 1, false⟩, ⟨lnm, f1, 1, 0, 2, 2, false⟩], [], 2, 2, false⟩
  | 3 => ⟨bs, [⟨lnm, f0, 1, 0, 3, 3, false⟩, ⟨lnm, f1, 1, 0, 2, 2, false⟩], [(1, 0)], 3, 3, false⟩
  | _ => ⟨bs, [⟨lnm, f0, 1, 0, 3, 3, false⟩, ⟨lnm, f1, 1, 1, 4, 4, false⟩], [(0, 1), (1, 0)], 4, 4, false⟩
def la0 : Nat → Int | 0 => 0 | 1 => 1 | 2 => 1 | _ => 2
def la1 : Nat → Int | 0 => 0 | 1 => 0 | 2 => 1 | 3 => 1 | _ => 2
theorem liv_bs (bs : List Nat) (f0 f1 : Value) (j : Nat) : (livS bs f0 f1 j).bs = bs := by unfold livS; split <;> rfl
theorem liv_all (bs : List Nat) (f0 f1 : Value) (j : Nat) (hj : j < 4) : thoseI (mayB (livS bs f0 f1 j)) (livS bs f0 f1 j).ts = [0, 1] := by
  have h : j = 0 ∨ j = 1 ∨ j = 2 ∨ j = 3 := by omega
  rcases h with rfl | rfl | rfl | rfl <;> rfl
theorem liv_none (bs : List Nat) (f0 f1 : Value) : thoseI (mayB (livS bs f0 f1 4)) (livS bs f0 f1 4).ts = [] := rfl
theorem liv_dead (bs : List Nat) (f0 f1 : Value) : deadL (livS bs f0 f1 4) = [0, 1] := rfl
theorem liv_steady (bs : List Nat) (f0 f1 : Value) (j : Nat) (hj : j ≤ 4) : Steady (livS bs f0 f1 j) := by
  have h : j = 0 ∨ j = 1 ∨ j = 2 ∨ j = 3 ∨ j = 4 := by omega
  rcases h with rfl | rfl | rfl | rfl | rfl
  all_goals
    refine ⟨by simp [livS], by simp [livS], fun t ht => ?_⟩
    simp [livS] at ht
    rcases ht with rfl | rfl
    all_goals exact ⟨⟨by simp, by simp⟩, by simp [livS]⟩
theorem foot_spawn {b mb x k z : Nat} {v v' : Value} {s : SS} {t : Tk} (h : ¬ foot b mb v s k) (hk : k < z) (hx : z ≤ x) (hv : v'.ownBlock = v.ownBlock ∨ ∃ j, v'.ownBlock = some j ∧ z ≤ j) : ¬ foot b mb v' { s with bs := s.bs ++ [x], ts := s.ts ++ [t] } k := by
  intro hf
  apply h
  rcases hf with e | e | e | e
  · exact .inl e
  · exact .inr (.inl e)
  · rcases List.mem_append.1 e with e | e
    · exact .inr (.inr (.inl e))
    · simp at e; omega
  · rcases hv with hv | ⟨j, hv, hj⟩
    · rw [hv] at e; exact .inr (.inr (.inr e))
    · rw [hv] at e; injection e with e; omega
theorem SH.nfoot {W : World} {base b mb k : Nat} {v : Value} {s : SS} (h : SH W base b mb v s) (hk : W.heap.size ≤ k) : ¬ foot b mb v s k := fun hf => by
  have := (h.lo k hf).2
  omega
/-- what holds behind so many picks of the two tasks. -/
def LI (bs : List Nat) (A0 B0 A1 B1 : Nat) (j : Nat) (s : SS) (W : World) : Prop :=
  j ≤ 4 ∧ s = livS bs (.func (.func 27) #[] #[.pointer (some ⟨A0, 0, none⟩), .pointer (some ⟨B0, 0, none⟩)]) (.func (.func 27) #[] #[.pointer (some ⟨A1, 0, none⟩), .pointer (some ⟨B1, 0, none⟩)]) j ∧
  Bl W A0 (.cells #[.int .i64 (la0 j)] 3 (0, 0)) ∧ Bl W B0 (.cells #[.int .i64 0] 3 (0, 0)) ∧ Bl W A1 (.cells #[.int .i64 (la1 j)] 3 (0, 0)) ∧ Bl W B1 (.cells #[.int .i64 1] 3 (0, 0))
theorem LI.step {base b mb A0 B0 A1 B1 j x0 x1 : Nat} {v : Value} {s : SS} {w : World} {p : Int} (hI : LI [x0, x1] A0 B0 A1 B1 j s w) (h : SH w base b mb v s) (hne : thoseI (mayB s) s.ts ≠ []) (hp : [(0 : Int), 1][j % 2]? = some p)
    (n1 : A0 ≠ B0) (n2 : A0 ≠ A1) (n3 : A0 ≠ B1) (n4 : A1 ≠ B0) (n5 : A1 ≠ B1) (f1 : ¬ foot b mb v s A0) (f2 : ¬ foot b mb v s B0) (f3 : ¬ foot b mb v s A1) (f4 : ¬ foot b mb v s B1) :
    Calls Try.prog 29 #[ptr b, .int .i64 p] w fun e W' => ∃ r s', e = .returned r ∧ SH W' base b mb v s' ∧ Steady s' ∧ s'.bs.length ≤ 64 ∧ LI [x0, x1] A0 B0 A1 B1 (j + 1) s' W' ∧ Fr (fun k => foot b mb v s k ∨ k = A0 ∨ k = A1) w W' := by
  obtain ⟨hj, hs, hA0, hB0, hA1, hB1⟩ := hI
  have hj4 : j < 4 := by
    by_cases e : j = 4
    · subst e
      rw [hs] at hne
      exact absurd rfl hne
    · omega
  have hst := liv_steady [x0, x1] (.func (.func 27) #[] #[.pointer (some ⟨A0, 0, none⟩), .pointer (some ⟨B0, 0, none⟩)]) (.func (.func 27) #[] #[.pointer (some ⟨A1, 0, none⟩), .pointer (some ⟨B1, 0, none⟩)]) j hj
  have hst' := liv_steady [x0, x1] (.func (.func 27) #[] #[.pointer (some ⟨A0, 0, none⟩), .pointer (some ⟨B0, 0, none⟩)]) (.func (.func 27) #[] #[.pointer (some ⟨A1, 0, none⟩), .pointer (some ⟨B1, 0, none⟩)]) (j + 1) (by omega)
  have hall := liv_all [x0, x1] (.func (.func 27) #[] #[.pointer (some ⟨A0, 0, none⟩), .pointer (some ⟨B0, 0, none⟩)]) (.func (.func 27) #[] #[.pointer (some ⟨A1, 0, none⟩), .pointer (some ⟨B1, 0, none⟩)]) j hj4
  rw [← hs] at hst hall
  have mono0 : ∀ k, (foot b mb v s k ∨ k = A0) → (foot b mb v s k ∨ k = A0 ∨ k = A1) := fun k h => h.imp id .inl
  have mono1 : ∀ k, (foot b mb v s k ∨ k = A1) → (foot b mb v s k ∨ k = A0 ∨ k = A1) := fun k h => h.imp id .inr
  have hc : j = 0 ∨ j = 1 ∨ j = 2 ∨ j = 3 := by omega
  rcases hc with rfl | rfl | rfl | rfl
  · injection hp with hp
    subst hp hs
    refine (live_pick base b mb 0 x0 0 A0 B0 A1 B1 v _ _ w _ _ _ _ h hst rfl ⟨by simp [livS], by simp [livS]⟩ (by simp [livS]) (by simp [livS]) (by simp [livS]) (by rw [hall]; rfl) rfl rfl rfl hA0 hB0 hA1 hB1 n1 (fun e => n2 e.symm) (fun e => n3 e.symm) f1 f2 f3 f4 (by simp [la0]) (by simp)).mono ?_
    rintro e w' ⟨r, rfl, hS, g1, g2, g3, g4, hf⟩
    exact ⟨_, _, rfl, hS, hst', by simp [livS], ⟨by omega, rfl, g1, g2, g3, g4⟩, hf.mono (fun k _ => mono0 k)⟩
  · injection hp with hp
    subst hp hs
    refine (live_pick base b mb 1 x1 1 A1 B1 A0 B0 v _ _ w _ _ _ _ h hst rfl ⟨by simp [livS], by simp [livS]⟩ (by simp [livS]) (by simp [livS]) (by simp [livS]) (by rw [hall]; rfl) rfl rfl rfl hA1 hB1 hA0 hB0 n5 n2 (fun e => n4 e.symm) f3 f4 f1 f2 (by simp [la1]) (by simp)).mono ?_
    rintro e w' ⟨r, rfl, hS, g1, g2, g3, g4, hf⟩
    exact ⟨_, _, rfl, hS, hst', by simp [livS], ⟨by omega, rfl, g3, g4, g1, g2⟩, hf.mono (fun k _ => mono1 k)⟩
  · injection hp with hp
    subst hp hs
    refine (live_pick base b mb 0 x0 0 A0 B0 A1 B1 v _ _ w _ _ _ _ h hst rfl ⟨by simp [livS], by simp [livS]⟩ (by simp [livS]) (by simp [livS]) (by simp [livS]) (by rw [hall]; rfl) rfl rfl rfl hA0 hB0 hA1 hB1 n1 (fun e => n2 e.symm) (fun e => n3 e.symm) f1 f2 f3 f4 (by simp [la0]) (by simp)).mono ?_
    rintro e w' ⟨r, rfl, hS, g1, g2, g3, g4, hf⟩
    exact ⟨_, _, rfl, hS, hst', by simp [livS], ⟨by omega, rfl, g1, g2, g3, g4⟩, hf.mono (fun k _ => mono0 k)⟩
  · injection hp with hp
    subst hp hs
    refine (live_pick base b mb 1 x1 1 A1 B1 A0 B0 v _ _ w _ _ _ _ h hst rfl ⟨by simp [livS], by simp [livS]⟩ (by simp [livS]) (by simp [livS]) (by simp [livS]) (by rw [hall]; rfl) rfl rfl rfl hA1 hB1 hA0 hB0 n5 n2 (fun e => n4 e.symm) f3 f4 f1 f2 (by simp [la1]) (by simp)).mono ?_
    rintro e w' ⟨r, rfl, hS, g1, g2, g3, g4, hf⟩
    exact ⟨_, _, rfl, hS, hst', by simp [livS], ⟨by omega, rfl, g3, g4, g1, g2⟩, hf.mono (fun k _ => mono1 k)⟩
end Go.Proofs.Ytcdhmjapeapicaa
