/- Whether fragments can be: the program's answer and the document's. Conditions: what each theorem names. -/
import Derived.RangeFuncNested
import Derived.RangeFuncBound
import Derived.RangeFuncCalls
import Derived.RangeFuncLeaves
import Derived.Shelf.Abstract
import Derived.Shelf.RegionOpen
import Derived.WalkKit
import Derived.OwnWalkIn
import Derived.TacticsInMore
import Derived.LoopNIn
import Derived.LoopIn
import Derived.Lib.Hide
import Derived.Outline
import Derived.RegionTactic
import Derived.BigRegion
import Derived.WalkLawsBesides
import Derived.WalkSpells
import Derived.Deep.QuietTactic
import Derived.BigQuiet
import Derived.Deep.RegionHeld3
import Derived.Deep.DeepCutAuto
import Derived.Deep.CutBlock
import Derived.StillTailTactics
import Derived.WalkSmall
import Derived.Test.YtmopjoeomjdikaaRgR
import Derived.Test.YtmopjoeomjdikaaRgH
namespace Go.Proofs.Ytmopjoeomjdikaa
open Go.RowKit Go.Sed Go.Sort
set_option maxHeartbeats 2000000
set_option maxRecDepth 100000

/-- the element ahead of a place. -/
def prevI (q : List Int) (k : Nat) : Option Int := if k = 0 then none else q[k - 1]?
def prevF (F : List Fg) (k : Nat) : Option Fg := if k = 0 then none else F[k - 1]?
theorem prevI_succ {q : List Int} {k : Nat} {x : Int} (h : q[k]? = some x) : prevI q (k + 1) = some x := by unfold prevI; rw [if_neg (by omega)]; exact h
theorem prevF_succ {F : List Fg} {k : Nat} {x : Fg} (h : F[k]? = some x) : prevF F (k + 1) = some x := by unfold prevF; rw [if_neg (by omega)]; exact h
theorem rcan_any (how : Int) (F : List Fg) (A : Option Addr) (c : Nat) (w : World) (h : FR w A F) (hl : F.length ≤ maxLen) (hq : ∀ f ∈ F, f.q.length ≤ maxLen) :
    Calls Try.prog 47 #[.int .i64 how, .slice A F.length c] w fun e w' => e = .returned (.bool (canF how none F)) ∧ Below w.heap.size w w' := by
  obtain ⟨n, hn⟩ : ∃ n, F.length = n := ⟨_, rfl⟩
  rw [hn] at hl ⊢
  unfold maxLen at hl hq
  replace hq := Lib.hid hq
  replace hn := Lib.hid hn
  replace h := Lib.hid h
  have hcm := Lib.hid (fun x y W => rcompare_any how x y W)
  go_enter Try.func47, Try.ntmps47
  go_wp2_with fail
  go_loopw [5] (fun vi wr => ∃ i : Nat, i ≤ n ∧ vi = .int .i64 i ∧ canF how none F = canF how (prevF F i) (F.drop i) ∧ Below w.heap.size w wr) (fun vi _ => n - (intOf vi).toNat)
  case atStart => exact ⟨0, Nat.zero_le _, rfl, rfl, Below.refl _ _⟩
  case round =>
    obtain ⟨i, hi, rfl, hcan, hB⟩ := hrel
    obtain ⟨wo, hwo⟩ : ∃ wo, wo = wr := ⟨_, rfl⟩
    subst hwo
    replace hB := Lib.hid hB
    by_cases hlt : i < n
    · obtain ⟨f, hf⟩ : ∃ f, F[i]? = some f := ⟨_, List.getElem?_eq_getElem (by have := hn.out; omega)⟩
      obtain ⟨g, o, B, d, hA, hc⟩ := h.out.at hf
      rw [drop_at hf, canF_cons] at hcan
      have hm := hq.out f (List.mem_of_getElem? hf)
      have hfi := Lib.hid hf
      obtain ⟨e0, e1, e2, -⟩ := hc wo hB.out
      replace hc := Lib.hid hc
      have hcx := Lib.hid (hcm.out f.b f.e)
      obtain ⟨x, hx⟩ : ∃ x, cmpH how f.b f.e = x := ⟨_, rfl⟩
      rw [hx] at hcx hcan
      replace hx := Lib.hid hx
      have hcx2 := Lib.hid (fun m => Calls.quiet_of_same ((hcx.out (wo.drewN m)).mono fun _ _ h => ⟨h.1, h.2.symm⟩))
      have i0 : (0 : Int) ≤ (i : Int) := by omega
      have i1 : (i : Int) < (n : Int) := by omega
      by_cases hx0 : 0 ≤ x
      · rw [if_pos hx0] at hcan
        have d0 : decide (0 ≤ x) = true := decide_eq_true hx0
        replace hcan := Lib.hid hcan
        clear hf
        subst hA
        go_upto_region 4 with fail
        go_quiet ((go_at_call 11; exact hcx2.out _))
        go_wp2_with fail
        go_ret
        exact ⟨by rw [hcan.out]; rfl, below_drewN hB.out _⟩
      · rw [if_neg hx0] at hcan
        have d0 : decide (0 ≤ x) = false := decide_eq_false hx0
        by_cases hi0 : i = 0
        · subst hA
          have d3 : decide ((0 : Int) < (i : Int)) = false := decide_eq_false (by omega)
          have d4 : decide (0 < i) = false := decide_eq_false (by omega)
          rw [show prevF F i = none by rw [hi0]; rfl, Option.all_none, if_neg (by decide)] at hcan
          replace hi0 := Lib.hid hi0
          clear hf
          by_cases hq0 : f.q.length = 0
          · rw [if_pos hq0] at hcan
            have d1 : ((f.q.length : Int) == 0) = true := by rw [beq_iff_eq]; omega
            replace hcan := Lib.hid hcan
            go_upto_region 4 with fail
            go_quiet ((go_at_call 11; exact hcx2.out _))
            go_wp2_with fail
            go_ret
            exact ⟨by rw [hcan.out]; rfl, below_drewN hB.out _⟩
          · rw [if_neg hq0] at hcan
            have d1 : ((f.q.length : Int) == 0) = false := by rw [beq_eq_false_iff_ne]; omega
            have hcf := hcan
            clear hcan
            go_upto_region 4 with fail
            go_quiet ((go_at_call 11; exact hcx2.out _))
            go_wp2_with fail
            clear e0 e1 e2
            replace hcf := Lib.hid hcf
            go_loopw [6] (fun vi wr => ∃ k : Nat, k ≤ f.q.length ∧ vi = .int .i64 k ∧ canQ none f.q = canQ (prevI f.q k) (f.q.drop k) ∧ Below w.heap.size w wr) (fun vi _ => f.q.length - (intOf vi).toNat)
            case atStart => exact ⟨0, Nat.zero_le _, rfl, rfl, below_drewN hB.out _⟩
            case round =>
              clear hB
              obtain ⟨k, hk, rfl, hcq, hB⟩ := hrel
              obtain ⟨e0, e1, e2, r⟩ := hc.out wr hB
              clear e0 e1
              replace hB := Lib.hid hB
              by_cases hkl : k < f.q.length
              · obtain ⟨m, hm⟩ : ∃ m, f.q[k]? = some m := ⟨_, List.getElem?_eq_getElem hkl⟩
                rw [drop_at hm, canQ_cons] at hcq
                obtain ⟨gb, ob, hBe, hb⟩ := rd_at1 r hm
                have b0 := hb wr (Below.refl _ _)
                have k0 : (0 : Int) ≤ (k : Int) := by omega
                have k1 : (k : Int) < (f.q.length : Int) := by omega
                by_cases hbig : 72057594037927935 < m
                · rw [if_pos hbig] at hcq
                  have hr : canF how none F = false := by rw [hcf.out, if_pos hcq]
                  have d0 : decide ((72057594037927935 : Int) < m) = true := decide_eq_true hbig
                  replace hr := Lib.hid hr
                  subst hBe
                  clear hb r hm hcq
                  go_upto_region 9 with fail
                  go_quiet (fail)
                  go_wp2_with fail
                  go_ret
                  exact ⟨by rw [hr.out]; rfl, below_drewN hB.out _⟩
                · rw [if_neg hbig] at hcq
                  have d0 : decide ((72057594037927935 : Int) < m) = false := decide_eq_false hbig
                  by_cases hk00 : k = 0
                  · rw [show prevI f.q k = none by rw [hk00]; rfl, if_pos (show Option.all (fun m_1 : Int => decide (m < m_1)) none = true from rfl)] at hcq
                    have hcq2 : canQ none f.q = canQ (prevI f.q (k + 1)) (f.q.drop (k + 1)) := by rw [hcq, prevI_succ hm]
                    have d1 : decide ((0 : Int) < (k : Int)) = false := decide_eq_false (by omega)
                    have d2 : decide (0 < k) = false := decide_eq_false (by omega)
                    replace hcq2 := Lib.hid hcq2
                    replace hk00 := Lib.hid hk00
                    subst hBe
                    clear hb r hm hcq
                    go_upto_region 9 with fail
                    go_quiet (fail)
                    go_wp2_with fail
                    go_roundw
                    case measure => simp only [intOf]; omega
                    case rel => exact ⟨k + 1, by omega, by go_num, hcq2.out, below_drewN hB.out _⟩
                  · obtain ⟨u, rfl⟩ : ∃ u, k = u + 1 := ⟨k - 1, by omega⟩
                    obtain ⟨p, hp⟩ : ∃ p, f.q[u]? = some p := ⟨_, List.getElem?_eq_getElem (by omega)⟩
                    obtain ⟨gc, oc, hBe2, hb2⟩ := rd_at1 r hp
                    have b2 := hb2 wr (Below.refl _ _)
                    rw [prevI_succ hp, Option.all_some] at hcq
                    have hle : gc = gb ∧ oc = ob := by rw [hBe] at hBe2; simpa using (Option.some.inj hBe2).symm
                    obtain ⟨rfl, rfl⟩ := hle
                    have hcq2 : m < p → canQ none f.q = canQ (prevI f.q (u + 2)) (f.q.drop (u + 2)) := fun h => by rw [hcq, if_pos (decide_eq_true h), prevI_succ hm]
                    have hcq3 : ¬ m < p → canQ none f.q = false := fun h => by rw [hcq, if_neg (by rw [decide_eq_false h]; decide)]
                    replace hcq2 := Lib.hid hcq2
                    replace hcq3 := Lib.hid hcq3
                    clear hb hb2 hBe2 hcq
                    subst hBe
                    clear r hm hp hk00 k0 k1
                    have m1 : IntKind.i64.wrap ((u : Int) + 1 - 1) = (u : Int) := by simp [IntKind.wrap, IntKind.bits, IntKind.signed]; omega
                    have m2 : IntKind.i64.wrap (u : Int) = (u : Int) := by simp [IntKind.wrap, IntKind.bits, IntKind.signed]; omega
                    have m3 : (0 : Int) ≤ (u : Int) := by omega
                    have m4 : (u : Int) < (f.q.length : Int) := by omega
                    have m5 : (0 : Int) ≤ (u : Int) + 1 := by omega
                    have m6 : (u : Int) + 1 < (f.q.length : Int) := by omega
                    have m7 : ((u : Int) + 1).toNat = u + 1 := by omega
                    have m8 : decide ((0 : Int) < (u : Int) + 1) = true := decide_eq_true (by omega)
                    have m9 : ((u : Int) + 1 - 1).toNat = u := by omega
                    by_cases hmp : m < p
                    · have d1 : decide (p ≤ m) = false := decide_eq_false (by omega)
                      go_upto_region 9 with fail
                      go_quiet (fail)
                      go_wp2_with fail
                      go_roundw
                      case measure => simp only [intOf]; omega
                      case rel => exact ⟨u + 2, by omega, by go_num, hcq2.out hmp, below_drewN hB.out _⟩
                    · have d1 : decide (p ≤ m) = true := decide_eq_true (by omega)
                      have hr : canF how none F = false := by rw [hcf.out, if_pos (hcq3.out hmp)]
                      replace hr := Lib.hid hr
                      go_upto_region 9 with fail
                      go_quiet (fail)
                      go_wp2_with fail
                      go_ret
                      exact ⟨by rw [hr.out]; rfl, below_drewN hB.out _⟩
              · obtain rfl : k = f.q.length := by omega
                have hcan2 : canF how none F = canF how (prevF F (i + 1)) (F.drop (i + 1)) := by
                  rw [hcf.out, hcq, List.drop_of_length_le (Nat.le_refl _), if_neg (by simp [canQ]), prevF_succ hfi.out]
                replace hcan2 := Lib.hid hcan2
                clear hcq r
                go_wp2_with fail
                go_roundw
                case measure => simp only [intOf]; omega
                case rel => exact ⟨i + 1, by omega, by go_num, hcan2.out, hB.out⟩
        · obtain ⟨j, rfl⟩ : ∃ j, i = j + 1 := ⟨i - 1, by omega⟩
          obtain ⟨r, hrr⟩ : ∃ r, F[j]? = some r := ⟨_, List.getElem?_eq_getElem (by have := hn.out; omega)⟩
          obtain ⟨g', o', B', d', hA', hc'⟩ := h.out.at hrr
          obtain ⟨f0, f1, f2, -⟩ := hc' wo hB.out
          have hle : g' = g ∧ o' = o := by rw [hA] at hA'; simpa using (Option.some.inj hA').symm
          obtain ⟨rfl, rfl⟩ := hle
          rw [prevF_succ hrr, Option.all_some] at hcan
          clear hA' f0 f2 hc' hrr hf
          subst hA
          have hsw := cmpH_swap how r.e f.b
          have hcy := Lib.hid (hcm.out f.b r.e)
          obtain ⟨y, hy⟩ : ∃ y, cmpH how f.b r.e = y := ⟨_, rfl⟩
          rw [hy] at hcy hsw
          have hcy2 := Lib.hid (fun m => Calls.quiet_of_same ((hcy.out (wo.drewN m)).mono fun _ _ h => ⟨h.1, h.2.symm⟩))
          obtain ⟨y', hy'⟩ : ∃ y, cmpH how r.e f.b = y := ⟨_, rfl⟩
          rw [hy'] at hcan hsw
          replace hy := Lib.hid hy
          replace hy' := Lib.hid hy'
          clear i0 i1
          have j1 : IntKind.i64.wrap ((j : Int) + 1 - 1) = (j : Int) := by simp [IntKind.wrap, IntKind.bits, IntKind.signed]; omega
          have j2 : IntKind.i64.wrap (j : Int) = (j : Int) := by simp [IntKind.wrap, IntKind.bits, IntKind.signed]; omega
          have j3 : (0 : Int) ≤ (j : Int) := by omega
          have j4 : (j : Int) < (n : Int) := by omega
          have j5 : (0 : Int) ≤ (j : Int) + 1 := by omega
          have j6 : (j : Int) + 1 < (n : Int) := by omega
          have j7 : ((j : Int) + 1).toNat = j + 1 := by omega
          have j8 : decide ((0 : Int) < (j : Int) + 1) = true := decide_eq_true (by omega)
          have j9 : ((j : Int) + 1 - 1).toNat = j := by omega
          by_cases hy0 : y < 0
          · rw [if_pos (decide_eq_false (by omega))] at hcan
            have d2 : decide (y < 0) = true := decide_eq_true hy0
            replace hcan := Lib.hid hcan
            clear hsw
            go_upto_region 4 with fail
            go_quiet ((first
              | (go_at_call 11; with_reducible exact hcx2.out _)
              | (go_at_call 11; with_reducible exact hcy2.out _)))
            go_wp2_with fail
            go_ret
            exact ⟨by rw [hcan.out]; rfl, below_drewN hB.out _⟩
          · rw [if_neg (show ¬ (decide (y' ≤ 0) = false) by rw [decide_eq_true (by omega)]; decide)] at hcan
            have d2 : decide (y < 0) = false := decide_eq_false hy0
            clear hsw
            by_cases hq0 : f.q.length = 0
            · rw [if_pos hq0] at hcan
              have d1 : ((f.q.length : Int) == 0) = true := by rw [beq_iff_eq]; omega
              replace hcan := Lib.hid hcan
              go_upto_region 4 with fail
              go_quiet ((first
                | (go_at_call 11; with_reducible exact hcx2.out _)
                | (go_at_call 11; with_reducible exact hcy2.out _)))
              go_wp2_with fail
              go_ret
              exact ⟨by rw [hcan.out]; rfl, below_drewN hB.out _⟩
            · rw [if_neg hq0] at hcan
              have d1 : ((f.q.length : Int) == 0) = false := by rw [beq_eq_false_iff_ne]; omega
              have hcf := hcan
              clear hcan
              go_upto_region 4 with fail
              go_quiet ((first
                | (go_at_call 11; with_reducible exact hcx2.out _)
                | (go_at_call 11; with_reducible exact hcy2.out _)))
              go_wp2_with fail
              clear e0 e1 e2 f1
              replace hcf := Lib.hid hcf
              go_loopw [6] (fun vi wr => ∃ k : Nat, k ≤ f.q.length ∧ vi = .int .i64 k ∧ canQ none f.q = canQ (prevI f.q k) (f.q.drop k) ∧ Below w.heap.size w wr) (fun vi _ => f.q.length - (intOf vi).toNat)
              case atStart => exact ⟨0, Nat.zero_le _, rfl, rfl, below_drewN hB.out _⟩
              case round =>
                clear hB
                obtain ⟨k, hk, rfl, hcq, hB⟩ := hrel
                obtain ⟨e0, e1, e2, r⟩ := hc.out wr hB
                clear e0 e1
                replace hB := Lib.hid hB
                by_cases hkl : k < f.q.length
                · obtain ⟨m, hm⟩ : ∃ m, f.q[k]? = some m := ⟨_, List.getElem?_eq_getElem hkl⟩
                  rw [drop_at hm, canQ_cons] at hcq
                  obtain ⟨gb, ob, hBe, hb⟩ := rd_at1 r hm
                  have b0 := hb wr (Below.refl _ _)
                  have k0 : (0 : Int) ≤ (k : Int) := by omega
                  have k1 : (k : Int) < (f.q.length : Int) := by omega
                  by_cases hbig : 72057594037927935 < m
                  · rw [if_pos hbig] at hcq
                    have hr : canF how none F = false := by rw [hcf.out, if_pos hcq]
                    have d0 : decide ((72057594037927935 : Int) < m) = true := decide_eq_true hbig
                    replace hr := Lib.hid hr
                    subst hBe
                    clear hb r hm hcq
                    go_upto_region 9 with fail
                    go_quiet (fail)
                    go_wp2_with fail
                    go_ret
                    exact ⟨by rw [hr.out]; rfl, below_drewN hB.out _⟩
                  · rw [if_neg hbig] at hcq
                    have d0 : decide ((72057594037927935 : Int) < m) = false := decide_eq_false hbig
                    by_cases hk00 : k = 0
                    · rw [show prevI f.q k = none by rw [hk00]; rfl, if_pos (show Option.all (fun m_1 : Int => decide (m < m_1)) none = true from rfl)] at hcq
                      have hcq2 : canQ none f.q = canQ (prevI f.q (k + 1)) (f.q.drop (k + 1)) := by rw [hcq, prevI_succ hm]
                      have d1 : decide ((0 : Int) < (k : Int)) = false := decide_eq_false (by omega)
                      have d2 : decide (0 < k) = false := decide_eq_false (by omega)
                      replace hcq2 := Lib.hid hcq2
                      replace hk00 := Lib.hid hk00
                      subst hBe
                      clear hb r hm hcq
                      go_upto_region 9 with fail
                      go_quiet (fail)
                      go_wp2_with fail
                      go_roundw
                      case measure => simp only [intOf]; omega
                      case rel => exact ⟨k + 1, by omega, by go_num, hcq2.out, below_drewN hB.out _⟩
                    · obtain ⟨u, rfl⟩ : ∃ u, k = u + 1 := ⟨k - 1, by omega⟩
                      obtain ⟨p, hp⟩ : ∃ p, f.q[u]? = some p := ⟨_, List.getElem?_eq_getElem (by omega)⟩
                      obtain ⟨gc, oc, hBe2, hb2⟩ := rd_at1 r hp
                      have b2 := hb2 wr (Below.refl _ _)
                      rw [prevI_succ hp, Option.all_some] at hcq
                      have hle : gc = gb ∧ oc = ob := by rw [hBe] at hBe2; simpa using (Option.some.inj hBe2).symm
                      obtain ⟨rfl, rfl⟩ := hle
                      have hcq2 : m < p → canQ none f.q = canQ (prevI f.q (u + 2)) (f.q.drop (u + 2)) := fun h => by rw [hcq, if_pos (decide_eq_true h), prevI_succ hm]
                      have hcq3 : ¬ m < p → canQ none f.q = false := fun h => by rw [hcq, if_neg (by rw [decide_eq_false h]; decide)]
                      replace hcq2 := Lib.hid hcq2
                      replace hcq3 := Lib.hid hcq3
                      clear hb hb2 hBe2 hcq
                      subst hBe
                      clear r hm hp hk00 k0 k1
                      have m1 : IntKind.i64.wrap ((u : Int) + 1 - 1) = (u : Int) := by simp [IntKind.wrap, IntKind.bits, IntKind.signed]; omega
                      have m2 : IntKind.i64.wrap (u : Int) = (u : Int) := by simp [IntKind.wrap, IntKind.bits, IntKind.signed]; omega
                      have m3 : (0 : Int) ≤ (u : Int) := by omega
                      have m4 : (u : Int) < (f.q.length : Int) := by omega
                      have m5 : (0 : Int) ≤ (u : Int) + 1 := by omega
                      have m6 : (u : Int) + 1 < (f.q.length : Int) := by omega
                      have m7 : ((u : Int) + 1).toNat = u + 1 := by omega
                      have m8 : decide ((0 : Int) < (u : Int) + 1) = true := decide_eq_true (by omega)
                      have m9 : ((u : Int) + 1 - 1).toNat = u := by omega
                      by_cases hmp : m < p
                      · have d1 : decide (p ≤ m) = false := decide_eq_false (by omega)
                        go_upto_region 9 with fail
                        go_quiet (fail)
                        go_wp2_with fail
                        go_roundw
                        case measure => simp only [intOf]; omega
                        case rel => exact ⟨u + 2, by omega, by go_num, hcq2.out hmp, below_drewN hB.out _⟩
                      · have d1 : decide (p ≤ m) = true := decide_eq_true (by omega)
                        have hr : canF how none F = false := by rw [hcf.out, if_pos (hcq3.out hmp)]
                        replace hr := Lib.hid hr
                        go_upto_region 9 with fail
                        go_quiet (fail)
                        go_wp2_with fail
                        go_ret
                        exact ⟨by rw [hr.out]; rfl, below_drewN hB.out _⟩
                · obtain rfl : k = f.q.length := by omega
                  have hcan2 : canF how none F = canF how (prevF F (j + 2)) (F.drop (j + 2)) := by
                    rw [hcf.out, hcq, List.drop_of_length_le (Nat.le_refl _), if_neg (by simp [canQ]), prevF_succ hfi.out]
                  replace hcan2 := Lib.hid hcan2
                  clear hcq r
                  go_wp2_with fail
                  go_roundw
                  case measure => simp only [intOf]; omega
                  case rel => exact ⟨j + 2, by omega, by go_num, hcan2.out, hB.out⟩
    · obtain rfl : i = n := by omega
      have hr : canF how none F = true := by rw [hcan, List.drop_of_length_le (by have := hn.out; omega)]; rfl
      clear hcan
      replace hr := Lib.hid hr
      go_wp2_with fail
      go_ret
      exact ⟨by rw [hr.out]; rfl, hB.out⟩
end Go.Proofs.Ytmopjoeomjdikaa
