/- What is wrong with entries, in plain words; the document's Build and Size. Conditions: texts that can be. -/
import Derived.RangeFuncNested
import Derived.RangeFuncBound
import Derived.RangeFuncCalls
import Derived.RangeFuncLeaves
import Derived.Shelf.Abstract
import Derived.Shelf.RegionOpen
import Derived.WalkKit
import Derived.OwnWalkIn
import Derived.TacticsInMore
import Derived.LoopNIn
import Derived.LoopIn
import Derived.Lib.Hide
import Derived.Outline
import Derived.RegionTactic
import Derived.BigRegion
import Derived.WalkLawsBesides
import Derived.WalkSpells
import Derived.Deep.QuietTactic
import Derived.BigQuiet
import Derived.Deep.RegionHeld3
import Derived.Deep.DeepCutAuto
import Derived.Deep.CutBlock
import Derived.StillTailTactics
import Derived.WalkSmall
import Derived.Test.YtkohoondgegmfaaBlkG
namespace Go.Proofs.Ytkohoondgegmfaa
open Go.RowKit Go.Sed
set_option maxHeartbeats 1000000
set_option maxRecDepth 100000
/-- what is wrong with an entry by itself. -/
def E4.bad (e : E4) : Int := if chkK e.1 e.2.1 e.2.2.1 = 0 then (if 16384 < e.val.size then 2 else 0) else chkK e.1 e.2.1 e.2.2.1
def E4.ord (how : Int) (d e : E4) : Int := ordK how d.1 d.2.1 d.2.2.1 e.1 e.2.1 e.2.2.1
/-- what is wrong with an entry behind another. -/
def stepE (o : Option Int) (p : Option E4) (e : E4) : Int :=
  if e.bad = 0 then (match o, p with
    | some how, some d => if 0 ≤ E4.ord how d e then 1 else 0
    | _, _ => 0) else e.bad
def errE (o : Option Int) : Option E4 → List E4 → Int
  | _, [] => 0
  | p, e :: l => if stepE o p e = 0 then errE o (some e) l else stepE o p e
def prevE (l : List E4) : Nat → Option E4
  | 0 => none
  | k + 1 => l[k]?
theorem errE_at (o : Option Int) (l : List E4) (k : Nat) (e : E4) (h : l[k]? = some e) :
    errE o (prevE l k) (l.drop k) = if stepE o (prevE l k) e = 0 then errE o (prevE l (k + 1)) (l.drop (k + 1)) else stepE o (prevE l k) e := by
  have hi := (List.getElem?_eq_some_iff.1 h).1
  have he : l[k] = e := (List.getElem?_eq_some_iff.1 h).2
  have hp : prevE l (k + 1) = some e := h
  rw [List.drop_eq_getElem_cons hi, he, hp]
  rfl
theorem bad_can {e : E4} (h : e.bad = 0) : e.can := by
  unfold E4.bad at h
  by_cases h1 : chkK e.1 e.2.1 e.2.2.1 = 0
  · rw [if_pos h1] at h
    by_cases h2 : 16384 < e.val.size
    · rw [if_pos h2] at h; omega
    · exact ⟨h1, by omega⟩
  · rw [if_neg h1] at h; exact absurd h h1
theorem stepE_bad {o : Option Int} {p : Option E4} {e : E4} (h : stepE o p e = 0) : e.bad = 0 := by
  unfold stepE at h
  by_cases h1 : e.bad = 0
  · exact h1
  · rw [if_neg h1] at h; exact absurd h h1
theorem errE_can (o : Option Int) : ∀ (l : List E4) (p : Option E4), errE o p l = 0 → ∀ e ∈ l, e.can
  | [], _, _, e, h => by cases h
  | x :: l, p, h, e, he => by
    unfold errE at h
    by_cases h1 : stepE o p x = 0
    · rw [if_pos h1] at h
      rcases List.mem_cons.1 he with rfl | he
      · exact bad_can (stepE_bad h1)
      · exact errE_can o l _ h e he
    · rw [if_neg h1] at h; exact absurd h h1
theorem stepE_chk {o : Option Int} {p : Option E4} {e : E4} (h : ¬ chkK e.1 e.2.1 e.2.2.1 = 0) : stepE o p e = chkK e.1 e.2.1 e.2.2.1 := by
  have hb : e.bad = chkK e.1 e.2.1 e.2.2.1 := by unfold E4.bad; rw [if_neg h]
  unfold stepE
  rw [hb, if_neg h]
theorem stepE_val {o : Option Int} {p : Option E4} {e : E4} (h : chkK e.1 e.2.1 e.2.2.1 = 0) (h2 : 16384 < e.val.size) : stepE o p e = 2 := by
  have hb : e.bad = 2 := by unfold E4.bad; rw [if_pos h, if_pos h2]
  unfold stepE
  rw [hb, if_neg (by omega)]
theorem can_bad {e : E4} (h : e.can) : e.bad = 0 := by
  unfold E4.bad; rw [if_pos h.1, if_neg (by have := h.2; omega)]
theorem stepE_none {o : Option Int} {p : Option E4} {e : E4} (h : e.can) (hn : o = none ∨ p = none) : stepE o p e = 0 := by
  unfold stepE
  rw [if_pos (can_bad h)]
  rcases hn with rfl | rfl
  · rfl
  · cases o <;> rfl
theorem stepE_some {how : Int} {d e : E4} (h : e.can) : stepE (some how) (some d) e = if 0 ≤ E4.ord how d e then 1 else 0 := by
  unfold stepE
  rw [if_pos (can_bad h)]
/-- what Build and Size answer. -/
def bldE (how rs : Int) (l : List E4) : Int :=
  if (how = 0 ∨ how = 1) ∧ 1 ≤ rs ∧ rs ≤ 1024 then (if l.length ≤ 65536 then (if errE (some how) none l = 0 then (if (blk rs.toNat l).length ≤ 4194304 then 0 else 2) else errE (some how) none l) else 2) else 1
def bldB (how rs : Int) (l : List E4) : List Int := if bldE how rs l = 0 then blk rs.toNat l else []
def sizE (rs : Int) (l : List E4) : Int := if 1 ≤ rs ∧ rs ≤ 1024 then (if l.length ≤ 65536 then errE none none l else 2) else 1
def sizN (rs : Int) (l : List E4) : Int := if sizE rs l = 0 then (blk rs.toNat l).length else 0
theorem bld_arg {how rs : Int} {l : List E4} (h : ¬ ((how = 0 ∨ how = 1) ∧ 1 ≤ rs ∧ rs ≤ 1024)) : bldE how rs l = 1 ∧ bldB how rs l = [] := by
  have h1 : bldE how rs l = 1 := by unfold bldE; rw [if_neg h]
  exact ⟨h1, by unfold bldB; rw [h1, if_neg (by omega)]⟩
theorem bld_long {how rs : Int} {l : List E4} (h : (how = 0 ∨ how = 1) ∧ 1 ≤ rs ∧ rs ≤ 1024) (h2 : ¬ l.length ≤ 65536) : bldE how rs l = 2 ∧ bldB how rs l = [] := by
  have h1 : bldE how rs l = 2 := by unfold bldE; rw [if_pos h, if_neg h2]
  exact ⟨h1, by unfold bldB; rw [h1, if_neg (by omega)]⟩
theorem bld_err {how rs : Int} {l : List E4} (h : (how = 0 ∨ how = 1) ∧ 1 ≤ rs ∧ rs ≤ 1024) (h2 : l.length ≤ 65536) {x : Int} (h3 : errE (some how) none l = x) (h4 : x ≠ 0) : bldE how rs l = x ∧ bldB how rs l = [] := by
  have h1 : bldE how rs l = x := by unfold bldE; rw [if_pos h, if_pos h2, h3, if_neg h4]
  exact ⟨h1, by unfold bldB; rw [h1, if_neg h4]⟩
theorem bld_big {how rs : Int} {l : List E4} (h : (how = 0 ∨ how = 1) ∧ 1 ≤ rs ∧ rs ≤ 1024) (h2 : l.length ≤ 65536) (h3 : errE (some how) none l = 0) (h4 : ¬ (blk rs.toNat l).length ≤ 4194304) : bldE how rs l = 2 ∧ bldB how rs l = [] := by
  have h1 : bldE how rs l = 2 := by unfold bldE; rw [if_pos h, if_pos h2, if_pos h3, if_neg h4]
  exact ⟨h1, by unfold bldB; rw [h1, if_neg (by omega)]⟩
theorem bld_ok {how rs : Int} {l : List E4} (h : (how = 0 ∨ how = 1) ∧ 1 ≤ rs ∧ rs ≤ 1024) (h2 : l.length ≤ 65536) (h3 : errE (some how) none l = 0) (h4 : (blk rs.toNat l).length ≤ 4194304) : bldE how rs l = 0 ∧ bldB how rs l = blk rs.toNat l := by
  have h1 : bldE how rs l = 0 := by unfold bldE; rw [if_pos h, if_pos h2, if_pos h3, if_pos h4]
  exact ⟨h1, by unfold bldB; rw [h1, if_pos rfl]⟩
theorem ownres_nil {w w' : World} {r r' : Int} {xs : List Int} (h : r' = r ∧ xs = []) (hB : Below w.heap.size w w') : OwnRes w (vb xs) r' (.returned (.tuple #[.slice none 0 0, .int .i64 r])) w' := by
  obtain ⟨rfl, rfl⟩ := h
  exact ⟨_, rfl, OW.nil _ _ _, hB⟩
theorem ownres_of {w w' : World} {r r' : Int} {xs xs' : List Int} {v : Value} (h : r' = r ∧ xs = xs') (ho : OW w' w.heap.size 1 v xs'.length (vb xs')) (hB : Below w.heap.size w w') : OwnRes w (vb xs) r' (.returned (.tuple #[v, .int .i64 r])) w' := by
  obtain ⟨rfl, rfl⟩ := h
  exact ⟨_, rfl, by rw [vb_len]; exact ho, hB⟩
/-- entries whose texts can be. -/
def Fit (l : List E4) : Prop := ∀ e ∈ l, e.1.size ≤ maxLen ∧ e.val.size ≤ maxLen
theorem rhow_yes (how : Int) (w : World) (h : how = 0 ∨ how = 1) : Calls Try.prog 29 #[.int .i64 how] w fun e w' => e = .returned (.bool true) ∧ w = w' := by
  rcases h with rfl | rfl
  · go_enter Try.func29, Try.ntmps29
    go_wp2
    go_ret
    exact ⟨rfl, rfl⟩
  · go_enter Try.func29, Try.ntmps29
    go_wp2
    go_ret
    exact ⟨rfl, rfl⟩
theorem rhow_no (how : Int) (w : World) (h : ¬ (how = 0 ∨ how = 1)) : Calls Try.prog 29 #[.int .i64 how] w fun e w' => e = .returned (.bool false) ∧ w = w' := by
  have h1 : (how == 0) = false := beq_eq_false_iff_ne.2 (fun e => h (.inl e))
  have h2 : (how == 1) = false := beq_eq_false_iff_ne.2 (fun e => h (.inr e))
  go_enter Try.func29, Try.ntmps29
  go_wp2
  go_ret
  exact ⟨rfl, rfl⟩
theorem rbuild_any (how rs : Int) (A : Option Addr) (c : Nat) (l : List E4) (w : World) (hll : l.length ≤ maxLen) (hr : Rd w 4 A l.length (l.flatMap e4c)) (hfit : Fit l) :
    Calls Try.prog 8 #[.int .i64 how, .int .i64 rs, .slice A l.length c] w (OwnRes w (vb (bldB how rs l)) (bldE how rs l)) := by
  unfold maxLen at hll
  by_cases hh : how = 0 ∨ how = 1
  case neg =>
    have hb := Lib.hid (bld_arg (l := l) (show ¬ ((how = 0 ∨ how = 1) ∧ 1 ≤ rs ∧ rs ≤ 1024) from fun e => hh e.1))
    go_enter Try.func8, Try.ntmps8
    go_wp2_with (go_at_call 29; refine (rhow_no how _ hh).mono ?_; rintro e w' ⟨rfl, rfl⟩)
    go_ret2
    exact ownres_nil hb.out (Below.refl _ _)
  by_cases h1 : 1 ≤ rs
  case neg =>
    have hb := Lib.hid (bld_arg (l := l) (show ¬ ((how = 0 ∨ how = 1) ∧ 1 ≤ rs ∧ rs ≤ 1024) from fun e => h1 e.2.1))
    go_enter Try.func8, Try.ntmps8
    go_wp2_with (go_at_call 29; refine (rhow_yes how _ hh).mono ?_; rintro e w' ⟨rfl, rfl⟩)
    go_ret2
    exact ownres_nil hb.out (Below.refl _ _)
  by_cases h2 : rs ≤ 1024
  case neg =>
    have hb := Lib.hid (bld_arg (l := l) (show ¬ ((how = 0 ∨ how = 1) ∧ 1 ≤ rs ∧ rs ≤ 1024) from fun e => h2 e.2.2))
    go_enter Try.func8, Try.ntmps8
    go_wp2_with (go_at_call 29; refine (rhow_yes how _ hh).mono ?_; rintro e w' ⟨rfl, rfl⟩)
    go_ret2
    exact ownres_nil hb.out (Below.refl _ _)
  by_cases h3 : l.length ≤ 65536
  case neg =>
    have hb := Lib.hid (bld_long (l := l) ⟨hh, h1, h2⟩ h3)
    go_enter Try.func8, Try.ntmps8
    go_wp2_with (go_at_call 29; refine (rhow_yes how _ hh).mono ?_; rintro e w' ⟨rfl, rfl⟩)
    go_ret2
    exact ownres_nil hb.out (Below.refl _ _)
  obtain ⟨n, rfl⟩ : ∃ n : Nat, rs = n := ⟨rs.toNat, by omega⟩
  have hbe := Lib.hid (fun (x : Int) => bld_err (x := x) ⟨hh, h1, h2⟩ h3)
  have hbb := Lib.hid (bld_big ⟨hh, h1, h2⟩ h3)
  have hbo := Lib.hid (bld_ok ⟨hh, h1, h2⟩ h3)
  replace hfit := Lib.hid hfit
  go_enter Try.func8, Try.ntmps8
  go_wp2_with (go_at_call 29; refine (rhow_yes how _ hh).mono ?_; rintro e w' ⟨rfl, rfl⟩)
  replace hh := Lib.hid hh
  go_loopw [8] (fun i wr => ∃ k : Nat, k ≤ l.length ∧ i = .int .i64 k ∧ Below w.heap.size w wr ∧ errE (some how) (prevE l k) (l.drop k) = errE (some how) none l) (fun i _ => l.length - (intOf i).toNat)
  case atStart => exact ⟨0, Nat.zero_le _, rfl, Below.refl _ _, rfl⟩
  case round =>
    obtain ⟨k, hk, rfl, hB, heq⟩ := hrel
    by_cases hlt : k < l.length
    · obtain ⟨e, he⟩ : ∃ e, l[k]? = some e := ⟨_, List.getElem?_eq_getElem hlt⟩
      have hef := Lib.hid (hfit.out e (List.mem_of_getElem? he))
      rw [errE_at _ l k e he] at heq
      obtain ⟨u, s, kk, v⟩ := e
      obtain ⟨g1, o1, hA⟩ : ∃ g o, A = some ⟨g, o, none⟩ := by
        obtain ⟨b, o, e, _⟩ := hr.2 (by omega)
        exact ⟨b, o, e⟩
      subst hA
      have hu2 : v.size ≤ 9223372036854775807 := by have := hef.out.2; unfold maxLen E4.val at this; exact this
      have q0 : wr.cell? ⟨g1, o1 + k * 4, none⟩ = some (.string u) := (hr.keep hB).elem e4c_len he (j := 0) rfl
      have q1 : wr.cell? ⟨g1, o1 + k * 4 + 1, none⟩ = some (.int .u64 s) := (hr.keep hB).elem e4c_len he (j := 1) rfl
      have q2 : wr.cell? ⟨g1, o1 + k * 4 + 2, none⟩ = some (.int .i64 kk) := (hr.keep hB).elem e4c_len he (j := 2) rfl
      go_upto_region 9 with (first
        | (go_at_call 30; refine (rcheck_any u s kk _ hef.out.1).mono ?_; rintro e w1 ⟨rfl, hB1⟩))
      have hB2 := below_then hB hB1
      have q3 : w1.cell? ⟨g1, o1 + k * 4 + 3, none⟩ = some (.string v) := (hr.keep hB2).elem e4c_len he (j := 3) rfl
      have q0 : w1.cell? ⟨g1, o1 + k * 4, none⟩ = some (.string u) := (hr.keep hB2).elem e4c_len he (j := 0) rfl
      have q1 : w1.cell? ⟨g1, o1 + k * 4 + 1, none⟩ = some (.int .u64 s) := (hr.keep hB2).elem e4c_len he (j := 1) rfl
      have q2 : w1.cell? ⟨g1, o1 + k * 4 + 2, none⟩ = some (.int .i64 kk) := (hr.keep hB2).elem e4c_len he (j := 2) rfl
      clear hB1 hB
      by_cases hc : chkK u s kk = 0
      case neg =>
        have hst : stepE (some how) (prevE l k) (u, s, kk, v) = chkK u s kk := stepE_chk hc
        rw [hst, if_neg hc] at heq
        have hb := Lib.hid (hbe.out _ heq.symm hc)
        have hc0 : (chkK u s kk == 0) = false := beq_eq_false_iff_ne.2 hc
        have hc1 : (chkK u s kk != 0) = true := bne_iff_ne.2 hc
        clear heq hst
        obtain ⟨x, hx⟩ : ∃ x, chkK u s kk = x := ⟨_, rfl⟩
        rw [hx] at hb hc hc0 hc1
        rw [hx]
        replace hx := Lib.hid hx
        go_wp2_with fail
        go_quiet (fail)
        go_wp2_with fail
        go_ret2
        exact ownres_nil hb.out (below_drewN hB2 _)
      by_cases hv : v.size ≤ 16384
      case neg =>
        have hst : stepE (some how) (prevE l k) (u, s, kk, v) = 2 := stepE_val hc (by unfold E4.val; simp only; omega)
        rw [hst, if_neg (by omega)] at heq
        have hb := Lib.hid (hbe.out _ heq.symm (by omega))
        clear heq hst
        rw [hc]
        replace hc := Lib.hid hc
        have hv2 : (if 16384 < v.size then (2 : Int) else 0) = 2 := if_pos (by omega)
        go_wp2_with (first
          | (go_at_call 31; refine (rvalue_any v _ (by unfold maxLen; omega)).mono ?_; rintro e w' ⟨rfl, rfl⟩; rw [hv2]))
        go_quiet (fail)
        go_wp2_with fail
        go_ret2
        exact ownres_nil hb.out (below_drewN hB2 _)
      have hcan : E4.can (u, s, kk, v) := ⟨hc, hv⟩
      rw [hc]
      have hv2 : (if 16384 < v.size then (2 : Int) else 0) = 0 := if_neg (by omega)
      clear hc hv
      rcases k with _ | m
      · have hst : stepE (some how) (prevE l 0) (u, s, kk, v) = 0 := stepE_none hcan (.inr rfl)
        rw [hst, if_pos rfl] at heq
        replace heq := Lib.hid heq
        replace hcan := Lib.hid hcan
        clear hst
        go_upto_region 11 with (first
          | (go_at_call 31; refine (rvalue_any v _ (by unfold maxLen; omega)).mono ?_; rintro e w' ⟨rfl, rfl⟩; rw [hv2]))
        go_quiet (fail)
        go_wp2_with fail
        go_roundw
        case rel => exact ⟨1, by omega, by go_num, below_drewN hB2 _, heq.out⟩
        case measure => simp only [intOf]; omega
      · obtain ⟨d, hd⟩ : ∃ d, l[m]? = some d := ⟨_, List.getElem?_eq_getElem (by omega)⟩
        have hst : stepE (some how) (prevE l (m + 1)) (u, s, kk, v) = if 0 ≤ E4.ord how d (u, s, kk, v) then 1 else 0 := by
          rw [show prevE l (m + 1) = some d from hd]; exact stepE_some hcan
        obtain ⟨du, ds, dk, dv⟩ := d
        have p0 : w1.cell? ⟨g1, o1 + m * 4, none⟩ = some (.string du) := (hr.keep hB2).elem e4c_len hd (j := 0) rfl
        have p1 : w1.cell? ⟨g1, o1 + m * 4 + 1, none⟩ = some (.int .u64 ds) := (hr.keep hB2).elem e4c_len hd (j := 1) rfl
        have p2 : w1.cell? ⟨g1, o1 + m * 4 + 2, none⟩ = some (.int .i64 dk) := (hr.keep hB2).elem e4c_len hd (j := 2) rfl
        unfold E4.ord at hst
        simp only at hst
        obtain ⟨x, hx⟩ : ∃ x, ordK how du ds dk u s kk = x := ⟨_, rfl⟩
        rw [hx] at hst
        rw [hst] at heq
        replace hx := Lib.hid hx
        replace hcan := Lib.hid hcan
        have hsub : IntKind.i64.wrap ((m : Int) + 1 - 1) = m := by simp [IntKind.wrap, IntKind.bits, IntKind.signed]; omega
        clear hst
        have r0 : w1.drew.cell? ⟨g1, o1 + m * 4, none⟩ = some (.string du) := p0
        have r1 : w1.drew.cell? ⟨g1, o1 + m * 4 + 1, none⟩ = some (.int .u64 ds) := p1
        have r2 : w1.drew.cell? ⟨g1, o1 + m * 4 + 2, none⟩ = some (.int .i64 dk) := p2
        have t0 : w1.drew.cell? ⟨g1, o1 + (m + 1) * 4, none⟩ = some (.string u) := q0
        have t1 : w1.drew.cell? ⟨g1, o1 + (m + 1) * 4 + 1, none⟩ = some (.int .u64 s) := q1
        have t2 : w1.drew.cell? ⟨g1, o1 + (m + 1) * 4 + 2, none⟩ = some (.int .i64 kk) := q2
        have hgt : decide ((0 : Int) < (m : Int) + 1) = true := decide_eq_true (by omega)
        have z2 : IntKind.i64.wrap (m : Int) = m := by simp [IntKind.wrap, IntKind.bits, IntKind.signed]; omega
        have z3 : ((m : Int) + 1).toNat = m + 1 := by omega
        have z4 : (0 : Int) ≤ (m : Int) + 1 := by omega
        have z5 : (m : Int) + 1 < l.length := by omega
        have z6 : (m : Int) < l.length := by omega
        by_cases h0 : 0 ≤ x
        · rw [if_pos h0, if_neg (by omega)] at heq
          have hb := Lib.hid (hbe.out _ heq.symm (by omega))
          clear heq
          go_upto_region 11 with (first
            | (go_at_call 31; refine (rvalue_any v _ (by unfold maxLen; omega)).mono ?_; rintro e w' ⟨rfl, rfl⟩; rw [hv2]))
          rw [show Op.load 33 (Operand.tmp 57) = id (Op.load 33 (Operand.tmp 57)) from rfl, show Op.load 33 (Operand.tmp 62) = id (Op.load 33 (Operand.tmp 62)) from rfl]
          go_region_held3 (fun _ => True) (exact trivial) ((first
            | (go_at_call 32; refine (rorder_any how du ds dk u s kk _).mono ?_; rintro e w3 ⟨rfl, hB3⟩; have hB4 := below_then hB2 (below_then (Below.refl _ _).drew hB3); rw [hx.out]; clear hB3)))
          all_goals go_wp2_with fail
          all_goals go_ret2
          all_goals exact ownres_nil hb.out hB4
        · rw [if_neg h0, if_pos rfl] at heq
          replace heq := Lib.hid heq
          go_upto_region 11 with (first
            | (go_at_call 31; refine (rvalue_any v _ (by unfold maxLen; omega)).mono ?_; rintro e w' ⟨rfl, rfl⟩; rw [hv2]))
          rw [show Op.load 33 (Operand.tmp 57) = id (Op.load 33 (Operand.tmp 57)) from rfl, show Op.load 33 (Operand.tmp 62) = id (Op.load 33 (Operand.tmp 62)) from rfl]
          go_region_held3 (fun _ => True) (exact trivial) ((first
            | (go_at_call 32; refine (rorder_any how du ds dk u s kk _).mono ?_; rintro e w3 ⟨rfl, hB3⟩; have hB4 := below_then hB2 (below_then (Below.refl _ _).drew hB3); rw [hx.out]; clear hB3)))
          all_goals go_wp2_with fail
          all_goals go_roundw
          all_goals (first | exact ⟨m + 1 + 1, by omega, by go_num, hB4, heq.out⟩ | (simp only [intOf]; omega))
    · obtain rfl : k = l.length := by omega
      rw [List.drop_length] at heq
      have h0 : errE (some how) none l = 0 := heq.symm
      have hcan := errE_can _ _ _ h0
      obtain ⟨bl, hbl⟩ : ∃ b, blk n l = b := ⟨_, rfl⟩
      have hw := fun (W : World) (h : Rd W 4 A l.length (l.flatMap e4c)) => rwritten_any n A c l W (by omega) (by omega) h3 h hcan
      rw [hbl] at hw
      replace hw := Lib.hid hw
      clear heq hcan
      replace h0 := Lib.hid h0
      by_cases h4 : bl.length ≤ 4194304
      · have hb := hbo.out h0.out (by rw [Int.toNat_natCast, hbl]; exact h4)
        rw [Int.toNat_natCast, hbl] at hb
        replace hb := Lib.hid hb
        replace hbl := Lib.hid hbl
        go_wp2_with (first
          | (go_at_call 33; refine (hw.out _ (hr.keep hB)).mono ?_; rintro e w2 ⟨v2, rfl, hv2, hB2⟩; obtain ⟨A2, c2, rfl, -⟩ := hv2.shape))
        go_ret2
        exact ownres_of hb.out (hv2.more hB.size) (below_then hB hB2)
      · have hb := hbb.out h0.out (by rw [Int.toNat_natCast, hbl]; exact h4)
        replace hb := Lib.hid hb
        replace hbl := Lib.hid hbl
        go_wp2_with (first
          | (go_at_call 33; refine (hw.out _ (hr.keep hB)).mono ?_; rintro e w2 ⟨v2, rfl, hv2, hB2⟩; obtain ⟨A2, c2, rfl, -⟩ := hv2.shape))
        go_ret2
        exact ownres_nil hb.out (below_then hB hB2)
end Go.Proofs.Ytkohoondgegmfaa
