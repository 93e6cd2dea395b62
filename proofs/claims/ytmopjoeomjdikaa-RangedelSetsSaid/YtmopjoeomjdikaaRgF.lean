/- A set of fragments is asked: numbers over a key. Conditions: what each theorem names. -/
import Derived.RangeFuncNested
import Derived.RangeFuncBound
import Derived.RangeFuncCalls
import Derived.RangeFuncLeaves
import Derived.Shelf.Abstract
import Derived.Shelf.RegionOpen
import Derived.WalkKit
import Derived.OwnWalkIn
import Derived.TacticsInMore
import Derived.LoopNIn
import Derived.LoopIn
import Derived.Lib.Hide
import Derived.Outline
import Derived.RegionTactic
import Derived.BigRegion
import Derived.WalkLawsBesides
import Derived.WalkSpells
import Derived.Deep.QuietTactic
import Derived.BigQuiet
import Derived.Deep.RegionHeld3
import Derived.Deep.DeepCutAuto
import Derived.Deep.CutBlock
import Derived.StillTailTactics
import Derived.WalkSmall
import Derived.Test.YtmopjoeomjdikaaRgE
namespace Go.Proofs.Ytmopjoeomjdikaa
open Go.RowKit Go.Sed Go.Sort
set_option maxHeartbeats 2000000
set_option maxRecDepth 100000
theorem over_set (how : Int) (F : List Fg) (key : ByteArray) (hb : Nat) (w : World) (h : ST w hb how F) (ho : FO how F) :
    Calls Try.prog 39 #[.pointer (some ⟨hb, 0, none⟩), .string key] w fun ee w' => ∃ (A : Option Addr) (c : Nat), ee = .returned (.slice A (overQ how F key).length c) ∧ Rd w' 1 A (overQ how F key).length (u64C (overQ how F key)) ∧ Below w.heap.size w w' := by
  have hat := Lib.hid (at_any how F key hb w h ho)
  have hst := Lib.hid (fun W (hW : Below w.heap.size w W) => h.keep hW)
  have hcm := Lib.hid (fun b W => compare_any how b key W)
  have hno := Lib.hid (fun k => overQ_no (how := how) (F := F) (key := key) (k := k) ho)
  have hys := Lib.hid (fun k f => overQ_yes (how := how) (F := F) (key := key) (k := k) (f := f) ho)
  have hln := ho.len
  obtain ⟨Q, hQ⟩ : ∃ Q, overQ how F key = Q := ⟨_, rfl⟩
  rw [hQ] at hno hys ⊢
  clear h ho hQ
  go_enter Try.func39, Try.ntmps39
  go_upto_region 2 with (first
    | (go_at_call 48; refine hat.out.mono ?_; rintro e w1 ⟨k, rfl, hk, hB1⟩))
  obtain ⟨A, c, G, hG, c0, c1, hr, hq⟩ := hst.out w1 hB1
  obtain ⟨n, hn⟩ : ∃ n, F.length = n := ⟨_, rfl⟩
  have hkn : k ≤ n := hn ▸ hk.1
  rw [hn] at c1 hr hln
  have r0 : w1.drew.cell? ⟨hb, 0, none⟩ = some (.int .i64 how) := c0
  have r1 : w1.drew.cell? ⟨hb, 1, none⟩ = some (.slice A n c) := c1
  by_cases hlt : k < n
  · obtain ⟨f, hf⟩ : ∃ f, F[k]? = some f := ⟨_, List.getElem?_eq_getElem (by omega)⟩
    obtain ⟨p, hp⟩ : ∃ p, G[k]? = some p := ⟨_, List.getElem?_eq_getElem (by rw [← hn, ← hG, List.length_map] at hlt; exact hlt)⟩
    obtain rfl : f = p.1 := by
      rw [← hG, List.getElem?_map, hp] at hf
      exact (Option.some.inj hf).symm
    have hGl : G.length = n := by rw [← hn, ← hG, List.length_map]
    obtain ⟨g, o, rfl, -⟩ := hr.2 (by omega)
    rw [← hGl] at hr
    have e0 : w1.cell? ⟨g, o + k * 3, none⟩ = some (.string p.1.b) := hr.elem fcs_len hp (j := 0) rfl
    obtain ⟨Bq, dq, hp2, hrq⟩ := hq p (List.mem_of_getElem? hp)
    have e2 : w1.cell? ⟨g, o + k * 3 + 2, none⟩ = some (.slice Bq p.1.q.length dq) := by rw [← hp2]; exact hr.elem fcs_len hp (j := 2) rfl
    have t0 : w1.drew.cell? ⟨g, o + k * 3, none⟩ = some (.string p.1.b) := e0
    obtain ⟨x, hx⟩ : ∃ x, cmpH how p.1.b key = x := ⟨_, rfl⟩
    have hcx := hx ▸ hcm.out p.1.b
    have i0 : (0 : Int) ≤ (k : Int) := by omega
    have i1 : (k : Int) < (n : Int) := by omega
    have i2 : ((k : Int) == (n : Int)) = false := by rw [beq_eq_false_iff_ne]; omega
    clear hr hp hp2 hq hG
    have hns := Lib.hid (hys.out k p.1 hk hf)
    have hnn := Lib.hid (hno.out k hk)
    replace hB1 := Lib.hid hB1
    replace hf := Lib.hid hf
    replace hrq := Lib.hid hrq
    clear hk
    by_cases hx0 : x ≤ 0
    · rw [hx] at hns
      replace hx := Lib.hid hx
      go_region_held3 (fun w' => w'.cell? ⟨hb, 0, none⟩ = some (.int .i64 how) ∧ w'.cell? ⟨hb, 1, none⟩ = some (.slice (some ⟨g, o, none⟩) n c) ∧ w'.cell? ⟨g, o + k * 3, none⟩ = some (.string p.1.b)) (go_keep) ((first | (go_at_call 32; refine (hcx _).mono ?_; rintro e w' ⟨rfl, rfl⟩)))
      go_wp2_with fail
      go_ret
      rw [hns.out hx0]
      exact ⟨_, _, rfl, hrq.out, hB1.out.drew⟩
    · have hQ0 : Q = [] := hnn.out (fun f hf2 => by rw [hf.out] at hf2; obtain rfl := Option.some.inj hf2; omega)
      subst hQ0
      replace hx := Lib.hid hx
      go_region_held3 (fun w' => w'.cell? ⟨hb, 0, none⟩ = some (.int .i64 how) ∧ w'.cell? ⟨hb, 1, none⟩ = some (.slice (some ⟨g, o, none⟩) n c) ∧ w'.cell? ⟨g, o + k * 3, none⟩ = some (.string p.1.b)) (go_keep) ((first | (go_at_call 32; refine (hcx _).mono ?_; rintro e w' ⟨rfl, rfl⟩)))
      go_wp2_with fail
      go_ret
      exact ⟨none, 0, rfl, ⟨rfl, fun h => absurd h (by decide)⟩, hB1.out.drew⟩
  · have hQ0 : Q = [] := hno.out k hk (fun f hf => absurd (List.getElem?_eq_some_iff.1 hf).1 (by omega))
    subst hQ0
    have i2 : ((k : Int) == (n : Int)) = true := by rw [beq_iff_eq]; omega
    clear hr hq hG hlt hkn
    replace hB1 := Lib.hid hB1
    replace hn := Lib.hid hn
    replace hk := Lib.hid hk
    go_quiet (fail)
    go_wp2_with fail
    go_ret
    exact ⟨none, ⟨0, rfl⟩, ⟨rfl, fun h => absurd h (by decide)⟩, below_drewN hB1.out _⟩
def uptoQ (q : List Int) (s : Int) : Int := (q.find? (fun x => decide (x ≤ s))).getD 0
def AtQ (q : List Int) (s : Int) (k : Nat) : Prop := k ≤ q.length ∧ ∀ (i : Nat) (x : Int), q[i]? = some x → (i < k ↔ s < x)
theorem uptoQ_no {q : List Int} {s : Int} {k : Nat} (h : AtQ q s k) (hk : k = q.length) : uptoQ q s = 0 := by
  have : q.find? (fun x => decide (x ≤ s)) = none := by
    rw [List.find?_eq_none]
    intro x hx
    obtain ⟨i, hi⟩ := List.mem_iff_getElem?.1 hx
    have := (h.2 i x hi).1 (by have := (List.getElem?_eq_some_iff.1 hi).1; omega)
    rw [decide_eq_true_eq]; omega
  unfold uptoQ
  rw [this]; rfl
theorem uptoQ_yes {q : List Int} {s x : Int} {k : Nat} (h : AtQ q s k) (hk : q[k]? = some x) : uptoQ q s = x := by
  have : q.find? (fun x => decide (x ≤ s)) = some x := by
    rw [List.find?_eq_some_iff_getElem]
    have h1 := h.2 k x hk
    obtain ⟨a1, rfl⟩ := List.getElem?_eq_some_iff.1 hk
    refine ⟨by rw [decide_eq_true_eq]; omega, k, a1, rfl, fun j hj => ?_⟩
    obtain ⟨y, hy⟩ : ∃ y, q[j]? = some y := ⟨_, List.getElem?_eq_getElem (by omega)⟩
    have h2 := (h.2 j y hy).1 hj
    obtain ⟨a2, rfl⟩ := List.getElem?_eq_some_iff.1 hy
    simp only [Bool.not_eq_true', decide_eq_false_iff_not]
    omega
  unfold uptoQ
  rw [this]; rfl
theorem drewN_below {w w' : World} (h : ∃ m, w' = w.drewN m) : Below w.heap.size w w' := by
  obtain ⟨m, rfl⟩ := h
  exact below_drewN (Below.refl _ _) m
theorem bsU_any (q : List Int) (s : Int) (c : Nat) (A : Option Addr) (w : World) (hr : Rd w 1 A q.length (u64C q)) (hn : q.length ≤ 1000000000000) (hmo : q.Pairwise (fun x y => y < x)) :
    Calls Try.prog 56 #[.slice A q.length c, .int .u64 s, .func (.func 36) #[] #[]] w fun ee w' => ∃ (k : Nat) (r : Bool), ee = .returned (.tuple #[.int .i64 k, .bool r]) ∧ AtQ q s k ∧ ∃ m, w' = w.drewN m := by
  obtain ⟨n, hnn⟩ : ∃ n, q.length = n := ⟨_, rfl⟩
  have hle : ∀ (i j : Nat) (x y : Int), i < j → q[i]? = some x → q[j]? = some y → y < x := by
    intro i j f g hij hf hg
    obtain ⟨a1, rfl⟩ := List.getElem?_eq_some_iff.1 hf
    obtain ⟨a2, rfl⟩ := List.getElem?_eq_some_iff.1 hg
    exact List.pairwise_iff_getElem.1 hmo i j a1 a2 hij
  have hrG := Lib.hid hr
  rw [hnn] at hn hrG ⊢
  replace hle := Lib.hid hle
  clear hmo hr
  go_enter Try.func56, Try.ntmps56
  go_wp2_with fail
  go_loopw [9, 10] (fun vi vj wr => ∃ i j : Nat, vi = .int .i64 i ∧ vj = .int .i64 j ∧ i ≤ j ∧ j ≤ n ∧ (∀ (y : Nat) x, q[y]? = some x → y < i → s < x) ∧ (∀ (y : Nat) x, q[y]? = some x → j ≤ y → x ≤ s) ∧ ∃ m, wr = w.drewN m) (fun vi vj _ => (intOf vj).toNat - (intOf vi).toNat)
  case atStart => exact ⟨0, n, rfl, rfl, Nat.zero_le _, Nat.le_refl _, fun x f _ h => absurd h (by omega), fun x f hx h => absurd (List.getElem?_eq_some_iff.1 hx).1 (by omega), 0, rfl⟩
  case round =>
    obtain ⟨i, j, rfl, rfl, hij, hjn, hlo, hhi, hB⟩ := hrel
    replace hlo := Lib.hid hlo
    replace hhi := Lib.hid hhi
    replace hB := Lib.hid hB
    by_cases hlt : i < j
    · obtain ⟨m, hm, hm1, hm2⟩ := mid_i64 i j hlt (by omega)
      obtain ⟨p, hp⟩ : ∃ p, q[m]? = some p := ⟨_, List.getElem?_eq_getElem (by omega)⟩
      obtain ⟨g, o, rfl, -⟩ := hrG.out.2 (by omega)
      have hrw := hrG.out.keep (drewN_below hB.out)
      have e0 : wr.cell? ⟨g, o + m, none⟩ = some (.int .u64 p) := hrw.cellAt (by unfold u64C; rw [List.getElem?_map, hp]; rfl)
      clear hrw
      have hmi : ((i : Int) + (j : Int)) / 2 = (m : Int) := by omega
      have hcp := Lib.hid (falling_any p s wr)
      obtain ⟨y, hy⟩ : ∃ y, cmpI s p = y := ⟨_, rfl⟩
      rw [hy] at hcp
      replace hp := Lib.hid hp
      have hfl := fallI_lt p s
      unfold fallI at hfl
      rw [hy] at hfl
      replace hy := Lib.hid hy
      by_cases hq : s < p
      · have hy1 : y < 0 := hfl.2 hq
        clear hfl
        replace hq := Lib.hid hq
        go_wp2_with (first
          | (go_at_call 36; refine hcp.out.mono ?_; rintro e w2 ⟨rfl, rfl⟩))
        go_roundw
        case measure => simp only [intOf]; omega
        case rel =>
          refine ⟨m + 1, j, by go_num, rfl, by omega, hjn, fun x f hx hxm => ?_, hhi.out, hB.out⟩
          rcases Nat.lt_or_eq_of_le (Nat.le_of_lt_succ hxm) with e | e
          · have := hle.out x m f p e hx hp.out; have := hq.out; omega
          · subst e
            rw [hp.out] at hx
            obtain rfl := Option.some.inj hx
            exact hq.out
      · have hy1 : ¬ y < 0 := fun h => hq (hfl.1 h)
        clear hfl
        replace hq := Lib.hid hq
        go_wp2_with (first
          | (go_at_call 36; refine hcp.out.mono ?_; rintro e w2 ⟨rfl, rfl⟩))
        go_roundw
        case measure => simp only [intOf]; omega
        case rel =>
          refine ⟨i, m, rfl, by go_num, by omega, by omega, hlo.out, fun x f hx hxm => ?_, hB.out⟩
          rcases Nat.lt_or_eq_of_le hxm with e | e
          · have := hle.out m x p f e hp.out hx; have := hq.out; omega
          · subst e
            rw [hp.out] at hx
            obtain rfl := Option.some.inj hx
            have := hq.out; omega
    · obtain rfl : i = j := by omega
      have hat := Lib.hid (show AtQ q s i from ⟨by omega, fun x f hx => ⟨fun h => hlo.out x f hx h, fun h => Classical.byContradiction (fun hc => by have := hhi.out x f hx (by omega); omega)⟩⟩)
      by_cases hin : i < n
      · obtain ⟨p, hp⟩ : ∃ p, q[i]? = some p := ⟨_, List.getElem?_eq_getElem (by omega)⟩
        obtain ⟨g, o, rfl, -⟩ := hrG.out.2 (by omega)
        have hrw := hrG.out.keep (drewN_below hB.out)
        have e0 : wr.cell? ⟨g, o + i, none⟩ = some (.int .u64 p) := hrw.cellAt (by unfold u64C; rw [List.getElem?_map, hp]; rfl)
        have hcp := Lib.hid (falling_any p s wr)
        clear hrw hp
        go_wp2_with (first
          | (go_at_call 36; refine hcp.out.mono ?_; rintro e w2 ⟨rfl, rfl⟩))
        go_ret2
        exact ⟨i, _, rfl, hat.out, hB.out⟩
      · go_wp2_with fail
        go_ret2
        first
          | exact ⟨i, false, hat.out, hB.out⟩
          | exact ⟨i, false, rfl, hat.out, hB.out⟩
          | exact ⟨hat.out, hB.out⟩
theorem upto_any (q : List Int) (s : Int) (c : Nat) (A : Option Addr) (w : World) (hr : Rd w 1 A q.length (u64C q)) (hn : q.length ≤ 1000000000000) (hmo : q.Pairwise (fun x y => y < x)) :
    Calls Try.prog 38 #[.slice A q.length c, .int .u64 s] w fun ee w' => ee = .returned (.int .u64 (uptoQ q s)) ∧ ∃ m, w' = w.drewN m := by
  have hbs := Lib.hid (bsU_any q s c A w hr hn hmo)
  have hno := Lib.hid (fun k => uptoQ_no (q := q) (s := s) (k := k))
  have hys := Lib.hid (fun k x => uptoQ_yes (q := q) (s := s) (k := k) (x := x))
  obtain ⟨U, hU⟩ : ∃ U, uptoQ q s = U := ⟨_, rfl⟩
  rw [hU] at hno hys ⊢
  clear hU hmo
  obtain ⟨n, hnn⟩ : ∃ n, q.length = n := ⟨_, rfl⟩
  rw [hnn] at hr hn hbs hno ⊢
  go_enter Try.func38, Try.ntmps38
  go_upto_region 2 with (first
    | (go_at_call 56; refine hbs.out.mono ?_; rintro e w1 ⟨k, r, rfl, hk, hB1⟩))
  have hkn : k ≤ n := hnn ▸ hk.1
  have hr1 := hr.keep (drewN_below hB1)
  clear hr
  by_cases hlt : k < n
  · obtain ⟨x, hx⟩ : ∃ x, q[k]? = some x := ⟨_, List.getElem?_eq_getElem (by omega)⟩
    obtain rfl := hys.out k x hk hx
    obtain ⟨g, o, rfl, -⟩ := hr1.2 (by omega)
    have e0 : w1.cell? ⟨g, o + k, none⟩ = some (.int .u64 U) := hr1.cellAt (by unfold u64C; rw [List.getElem?_map, hx]; rfl)
    have i2 : ((k : Int) == (n : Int)) = false := by rw [beq_eq_false_iff_ne]; omega
    clear hr1 hx hk hys hno hbs
    go_wp2_with fail
    go_ret
    exact ⟨rfl, hB1⟩
  · obtain rfl : k = n := by omega
    obtain rfl := hno.out k hk rfl
    clear hr1 hk hys hno hbs
    go_wp2_with fail
    go_ret
    exact ⟨rfl, hB1⟩
theorem most_any (how : Int) (F : List Fg) (key : ByteArray) (s : Int) (hb : Nat) (w : World) (h : ST w hb how F) (ho : FO how F) :
    Calls Try.prog 14 #[.pointer (some ⟨hb, 0, none⟩), .string key, .int .u64 s] w fun ee w' => ee = .returned (.int .u64 (uptoQ (overQ how F key) s)) ∧ Below w.heap.size w w' := by
  have hov := Lib.hid (over_set how F key hb w h ho)
  have hq : (overQ how F key).length ≤ 1000000000000 ∧ (overQ how F key).Pairwise (fun x y => y < x) := by
    unfold overQ
    cases hf : F.find? (inF how key) with
    | none => exact ⟨Nat.zero_le _, List.Pairwise.nil⟩
    | some f =>
      have hm := List.mem_of_find?_eq_some hf
      have := ho.qlen f hm
      exact ⟨by simp only [Option.map_some, Option.getD_some]; omega, ho.fall f hm⟩
  obtain ⟨Q, hQ⟩ : ∃ Q, overQ how F key = Q := ⟨_, rfl⟩
  rw [hQ] at hov hq ⊢
  have hup := Lib.hid (fun A c W (hW : Rd W 1 A Q.length (u64C Q)) => upto_any Q s c A W hW hq.1 hq.2)
  clear h ho hQ hq
  go_enter Try.func14, Try.ntmps14
  go_wp2_with (first
    | (go_at_call 39; refine hov.out.mono ?_; rintro e w1 ⟨A, c, rfl, hr1, hB1⟩; have hu := hup.out A c w1 hr1; replace hr1 := Lib.hid hr1)
    | (go_at_call 38; refine hu.mono ?_; rintro e w2 ⟨rfl, hB2⟩))
  go_ret
  exact ⟨rfl, below_then hB1 (drewN_below hB2)⟩
end Go.Proofs.Ytmopjoeomjdikaa
