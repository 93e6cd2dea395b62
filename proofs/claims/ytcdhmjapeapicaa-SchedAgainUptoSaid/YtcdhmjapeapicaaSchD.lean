/- A scheduler: a pick. Conditions: what each theorem names. -/
import Derived.RangeFuncNested
import Derived.RangeFuncBound
import Derived.RangeFuncCalls
import Derived.RangeFuncLeaves
import Derived.Shelf.Abstract
import Derived.Shelf.RegionOpen
import Derived.WalkKit
import Derived.OwnWalkIn
import Derived.TacticsInMore
import Derived.LoopNIn
import Derived.LoopIn
import Derived.Lib.Hide
import Derived.Outline
import Derived.RegionTactic
import Derived.BigRegion
import Derived.WalkLawsBesides
import Derived.WalkSpells
import Derived.Deep.QuietTactic
import Derived.BigQuiet
import Derived.Deep.RegionHeld3
import Derived.Deep.DeepCutAuto
import Derived.Deep.CutBlock
import Derived.StillTailTactics
import Derived.WalkSmall
import Derived.Test.YtcdhmjapeapicaaProg
import Derived.Test.YtcdhmjapeapicaaFr
import Derived.Test.YtcdhmjapeapicaaMp
import Derived.Defers
import Derived.Recover
import Derived.Test.YtcdhmjapeapicaaSchC
namespace Go.Proofs.Ytcdhmjapeapicaa
open Go.RowKit Go.Sed Go.Maps
set_option maxHeartbeats 1000000
set_option maxRecDepth 100000
theorem thoseI_mem {P : Tk → Bool} {ts : List Tk} {n : Nat} {t : Tk} (h : (n : Int) ∈ thoseI P ts) (ht : ts[n]? = some t) : P t = true := by
  unfold thoseI at h
  obtain ⟨j, hj, he⟩ := List.mem_map.1 h
  obtain rfl : j = n := by omega
  have := (List.mem_filter.1 hj).2
  rw [ht] at this
  exact this
def badK (k : Int) : Bool := decide (k < 0) || decide (4 < k)
def kdF (k : Int) : Int := if 0 ≤ k ∧ k ≤ 4 then k else 4
def onF (k o : Int) : Int := if 0 ≤ k ∧ k ≤ 4 then o else 0
theorem badK_n {k : Int} (h : 0 ≤ k ∧ k ≤ 4) : badK k = false ∧ ∀ o, kdF k = k ∧ onF k o = o := ⟨by unfold badK; rw [decide_eq_false (by omega), decide_eq_false (by omega)]; rfl, fun o => ⟨if_pos h, if_pos h⟩⟩
theorem badK_y {k : Int} (h : ¬ (0 ≤ k ∧ k ≤ 4)) : badK k = true ∧ ∀ o, kdF k = 4 ∧ onF k o = 0 := ⟨by unfold badK; rw [Bool.or_eq_true, decide_eq_true_iff, decide_eq_true_iff]; omega, fun o => ⟨if_neg h, if_neg h⟩⟩
/-- the locks, one more held. -/
def lkN (t : Tk) (n : Nat) (l : List (Int × Int)) : List (Int × Int) := if t.kd = 1 then (t.on, (n : Int)) :: l else l
theorem pick_ok (base b mb n x p G : Nat) (cap : Array Value) (v : Value) (s : SS) (t : Tk) (w : World) (h : SH w base b mb v s) (hst : Steady s) (hwi : s.within = false) (hw : 0 ≤ s.wishes) (hn64 : s.bs.length ≤ 64) (hlk : s.lk.length < 9223372036854775807)
    (hp : (thoseI (mayB s) s.ts)[p % (thoseI (mayB s) s.ts).length]? = some (n : Int)) (hx : s.bs[n]? = some x) (ht : s.ts[n]? = some t) (hste : t.st = .func (.func G) #[] cap) (eg : Enters Try.prog G)
    (F : Nat → Prop) (hF : ∀ k, F k → k < w.heap.size) (R : Int → Int → SS → World → World → Prop)
    (s2 : SS) (hs2 : s2 = { s with lk := lkN t n s.lk, ts := s.ts.set n { t with kd := 0, on := 0 }, within := true })
    (hcall : ∀ W, SH W base b mb v s2 → Fr (foot b mb v s) w W → Calls Try.prog G cap W fun e W' => ∃ k o s', e = .returned (.agg #[.int .i64 k, .int .i64 o]) ∧ SH W' base b mb v s' ∧ s'.bs = s.bs ∧ (R k o s' W W' ∧ 0 ≤ s'.steps ∧ s'.steps < 4611686018427387904 ∧ 0 ≤ s'.wishes ∧ s'.wishes < 4611686018427387904) ∧ Fr F W W') :
    Calls Try.prog 29 #[ptr b, .int .i64 p] w fun e w' => ∃ k o s' t' W W', e = .returned (.tuple #[.int .i64 n, .int .i64 0]) ∧ s'.ts[n]? = some t' ∧
      SH w' base b mb v { s' with ts := s'.ts.set n { t' with kd := kdF k, on := onF k o, si := s'.steps + 1, od := s'.wishes + 1 }, steps := s'.steps + 1, wishes := s'.wishes + 1, within := false } ∧
      R k o s' W W' ∧ Fr (fun k => foot b mb v s k ∨ w.heap.size ≤ k ∧ k < W.heap.size) W' w' ∧ Fr (fun k => foot b mb v s k ∨ F k) w w' := by
  obtain ⟨L, hL⟩ : ∃ L, thoseI (mayB s) s.ts = L := ⟨_, rfl⟩
  have hc := enabled_any base b mb v s w h hst hn64
  rw [hL] at hp hc
  have hql : p % L.length < L.length := (List.getElem?_eq_some_iff.1 hp).1
  have hLp : 0 < L.length := by omega
  obtain ⟨q, hq⟩ : ∃ q, p % L.length = q := ⟨_, rfl⟩
  rw [hq] at hp hql
  have hmod : (p : Int) % L.length = (q : Int) := by rw [← hq]; first | exact (Int.natCast_emod p L.length).symm | simp | rfl
  have hbz := h.ld.lt
  have hnl : n < s.bs.length := (List.getElem?_eq_some_iff.1 hx).1
  have hxb := h.tk n x t hx ht
  have hxz := hxb.lt
  have hxm := List.mem_of_getElem? hx
  have hxne : x ≠ b := fun e => by subst e; exact h.bbs hxm
  have hp0 : (0 : Int) ≤ (p : Int) := by omega
  have hmay : mayB s t = true := thoseI_mem (by rw [hL]; exact List.mem_of_getElem? hp) ht
  replace hmay := Lib.hid hmay
  replace hq := Lib.hid hq
  replace hL := Lib.hid hL
  replace hcall := Lib.hid hcall
  replace hc := Lib.hid hc
  replace hF := Lib.hid hF
  have hone := Lib.hid (hst.2.2 t (List.mem_of_getElem? ht)).on
  have hst0 := hst.1
  have hst1 := hst.2.1
  replace hst := Lib.hid hst
  replace hs2 := Lib.hid hs2
  replace h := Lib.hid h
  replace hwi := Lib.hid hwi
  unfold ptr at hc ⊢
  go_enter Try.func29, Try.ntmps29
  go_upto_region 2 with (go_at_call 28; refine hc.out.mono ?_; rintro e w1 ⟨r, rfl, ho, hB1⟩; obtain ⟨A1, c1, rfl, hrd, -⟩ := ho.shape; have h1 := Lib.hid (h.out.keep hB1))
  obtain ⟨g1, o1, u1, rfl, hu1, r1⟩ := hrd.at1 hql
  obtain rfl : u1 = .int .i64 n := by
    rw [List.getElem?_map, hp] at hu1
    exact (Option.some.inj hu1).symm
  have d4 : w1.cell? ⟨b, 4, none⟩ = some (.bool false) := by rw [← hwi.out]; exact h1.out.ld.cell 4
  obtain ⟨A0, c0, rfl, -⟩ := h1.out.row.shape
  have d0 : w1.cell? ⟨b, 0, none⟩ = some (.slice A0 s.bs.length c0) := h1.out.ld.cell 0
  obtain ⟨g2, o2, u2, rfl, hu2, r2⟩ := h1.out.row.rd.at1 hnl
  obtain rfl : u2 = .pointer (some ⟨x, 0, none⟩) := by
    rw [List.getElem?_map, hx] at hu2
    exact (Option.some.inj hu2).symm
  have c2 : w1.cell? ⟨x, 2, none⟩ = some (.int .i64 t.kd) := (h1.out.tk n x t hx ht).cell 2
  clear hrd hu1 hu2 ho hxb
  go_upto_if 44 with (fail)
  go_cut [7] (fun y wx => y = .int .i64 n ∧ SH wx base b mb (.slice (some ⟨g2, o2, none⟩) s.bs.length c0) { s with lk := lkN t n s.lk } ∧ Fr (fun k => k = mb) w wx)
  case first =>
    by_cases hk : t.kd = 1
    · have hfr : lkOf s.lk t.on = none := by
        have := hmay.out
        unfold mayB at this
        rw [if_neg (by omega), if_pos hk] at this
        simpa using this
      have hfr := lkOf_none hfr
      have c3 : w1.cell? ⟨x, 3, none⟩ = some (.int .i64 t.on) := (h1.out.tk n x t hx ht).cell 3
      have d1 : w1.cell? ⟨b, 1, none⟩ = some (.map (some mb)) := h1.out.ld.cell 1
      have hlk' : lkN t n s.lk = (t.on, (n : Int)) :: s.lk := by unfold lkN; rw [if_pos hk]
      rw [hk] at c2
      have hm1 := (h1.out.keep (Below.refl _ _).drew).mp
      replace hfr := Lib.hid hfr
      replace hlk' := Lib.hid hlk'
      clear hmod d4
      go_wp2_with fail
      go_still_tail 10, (by kernel_rfl)
      change wpList _ _ _ _ _ w1.drew
      go_wp2_with (at_mapUpdate; refine wpList_mp_put _ rfl _ _ _ 68 rfl 3 3 Try.underlying3 Try.underlying68 mb _ rfl hm1 (by rw [List.length_map]; unfold maxLen; omega) t.on hone.out (fun p hp => by obtain ⟨p', hp', rfl⟩ := List.mem_map.1 hp; exact hfr.out p' hp') (.int .i64 n) (.int .i64 n) rfl rfl (plainElem_int Try.underlying3 (i64_wf ⟨by omega, by omega⟩)) ?_; intro w4 hm4 hg4; have h4 := Lib.hid ((h1.out.keep (Below.refl _ _).drew).setM (l := (t.on, (n : Int)) :: s.lk) hm4 hg4); have hf4 := Lib.hid (((Fr.of_below (F := fun k => k = mb) hB1).drew).grown hg4 (fun k e _ => (Option.some.inj e).symm)); clear hm4 hg4)
      go_meet
      exact ⟨rfl, by rw [hlk'.out]; exact h4.out, hf4.out⟩
    · have hk1 : (t.kd == 1) = false := beq_eq_false_iff_ne.2 hk
      have hlk' : lkN t n s.lk = s.lk := by unfold lkN; rw [if_neg hk]
      replace hlk' := Lib.hid hlk'
      clear hmod
      go_wp2_with fail
      go_meet
      exact ⟨rfl, by rw [hlk'.out]; exact h1.out, Fr.of_below hB1⟩
  case rest =>
    obtain ⟨rfl, h2, hf2⟩ := hcut
    have c2' : wc.cell? ⟨x, 2, none⟩ = some (.int .i64 t.kd) := (h2.tk n x t hx ht).cell 2
    have c3' : wc.cell? ⟨x, 3, none⟩ = some (.int .i64 t.on) := (h2.tk n x t hx ht).cell 3
    have z2 := (h2.tk n x t hx ht).frozen 2
    have z3 := (h2.tk n x t hx ht).frozen 3
    have hnt : n < s.ts.length := (List.getElem?_eq_some_iff.1 ht).1
    have h3 : SH ((wc.setCell ⟨x, 2, none⟩ (.int .i64 0)).setCell ⟨x, 3, none⟩ (.int .i64 0)) base b mb (.slice (some ⟨g2, o2, none⟩) s.bs.length c0) { s with lk := lkN t n s.lk, ts := s.ts.set n { t with kd := 0, on := 0 } } :=
      (h2.setT (t' := { t with kd := 0 }) hx ht 2 _ rfl rfl).setT (t := { t with kd := 0 }) (t' := { t with kd := 0, on := 0 }) hx (by simp [hnt]) 3 _ rfl (by simp)
    have hf3 : Fr (foot b mb (.slice (some ⟨g2, o2, none⟩) s.bs.length c0) s) w ((wc.setCell ⟨x, 2, none⟩ (.int .i64 0)).setCell ⟨x, 3, none⟩ (.int .i64 0)) :=
      ((hf2.mono (fun _ _ e => .inr (.inl e))).set _ (fun _ => .inr (.inr (.inl hxm)))).set _ (fun _ => .inr (.inr (.inl hxm)))
    replace h3 := Lib.hid h3
    replace hf3 := Lib.hid hf3
    replace hf2 := Lib.hid hf2
    replace h2 := Lib.hid h2
    clear h1 d0 d4 r1 r2 c2 hmod
    go_upto_region 9 with (fail)
    obtain ⟨w3, hw3⟩ : ∃ w3, (wc.setCell ⟨x, 2, none⟩ (.int .i64 0)).setCell ⟨x, 3, none⟩ (.int .i64 0) = w3 := ⟨_, rfl⟩
    rw [hw3] at h3 hf3 ⊢
    clear hw3 c2' c3' z2 z3 h2 hf2
    have hw3z : w.heap.size ≤ w3.heap.size := hf3.out.size
    have hd := Lib.hid (does_ok base b mb x n G cap _ _ { t with kd := 0, on := 0 } w3 h3.out hx (by simp [hnt]) hste eg F (fun k hk => Nat.lt_of_lt_of_le (hF.out k hk) hw3z) (fun k o s' W0 W => R k o s' W0 W ∧ 0 ≤ s'.steps ∧ s'.steps < 4611686018427387904 ∧ 0 ≤ s'.wishes ∧ s'.wishes < 4611686018427387904)
      (fun W hW hfW => by
        rw [hs2.out] at hcall
        exact hcall.out W hW (hf3.out.then (hfW.mono (fun _ _ e => .inl e)) (fun _ _ e => e))))
    unfold ptr at hd
    go_upto_region 10 with (go_at_call 54; refine hd.out.mono ?_; rintro e w4 ⟨k, o, s', W0, W', rfl, h4, hbs, hR, hf4, hg4⟩)
    obtain ⟨hR, hs0, hs1, hw0, hw1⟩ := hR
    obtain ⟨w5, hw5⟩ : ∃ w5, w4.alloc (.cells #[.int .i64 k, .int .i64 o] 31) = w5 := ⟨_, rfl⟩
    have hB5 : Below w4.heap.size w4 w5 := by rw [← hw5]; exact (Below.refl _ _).alloc (Nat.le_refl _) _
    have k5 : Bl w5 w4.heap.size (.cells #[.int .i64 k, .int .i64 o] 31 (0, 0)) := by rw [← hw5]; exact Bl.new' rfl
    rw [hw5]
    clear hw5
    have h5 := h4.keep hB5
    obtain ⟨ow, how⟩ : ∃ ow, w4.heap.size = ow := ⟨_, rfl⟩
    have hfo : ∀ j, foot b mb (.slice (some ⟨g2, o2, none⟩) s.bs.length c0) s j → j < w.heap.size := fun j hj => (h.out.lo j hj).2
    have howz : w.heap.size ≤ ow := by rw [← how]; exact Nat.le_trans hw3z hg4.size
    have hf5 : Fr (fun j => foot b mb (.slice (some ⟨g2, o2, none⟩) s.bs.length c0) s j ∨ w.heap.size ≤ j ∧ j < W0.heap.size) W' w5 := (hf4.mono (fun j _ e => by
      rcases e with e | ⟨e, e2⟩
      · exact .inl (.inl e)
      · exact .inr ⟨Nat.le_trans hw3z e, e2⟩)).thenB hB5
    have howW : W'.heap.size ≤ ow := by rw [← how]; exact hf4.size
    have hg5 : Fr (fun j => foot b mb (.slice (some ⟨g2, o2, none⟩) s.bs.length c0) s j ∨ F j) w w5 := ((hf3.out.mono (fun _ _ e => .inl e)).then (hg4.mono (fun j _ e => by
      rcases e with e | e
      · exact .inl (.inl e)
      · exact .inr e)) (fun _ _ e => e)).thenB hB5
    rw [how] at k5 ⊢
    clear hf4 hg4 h4 hB5 how hd h3 hf3
    have hns : n < s'.ts.length := by rw [h5.len]; simp only; rw [hbs]; exact hnl
    obtain ⟨t', ht'⟩ : ∃ t', s'.ts[n]? = some t' := ⟨_, List.getElem?_eq_getElem hns⟩
    have hx' : s'.bs[n]? = some x := by rw [hbs]; exact hx
    have d2 : w5.cell? ⟨b, 2, none⟩ = some (.int .i64 s'.steps) := h5.ld.cell 2
    have z2 := h5.ld.frozen 2
    have hne : b ≠ ow := by omega
    have hxo : x ≠ ow := by omega
    have h6 : SH (w5.setCell ⟨b, 2, none⟩ (.int .i64 (s'.steps + 1))) base b mb (.slice (some ⟨g2, o2, none⟩) s.bs.length c0) { s' with steps := s'.steps + 1, within := false } := h5.setS 2 _ rfl rfl rfl rfl
    have k6 := k5.set (.int .i64 (s'.steps + 1)) (b := b) (i := 2) (fun e => hne e.symm)
    have hf6 := hf5.set (i := 2) (.int .i64 (s'.steps + 1)) (fun _ => show foot b mb (.slice (some ⟨g2, o2, none⟩) s.bs.length c0) s b ∨ w.heap.size ≤ b ∧ b < W0.heap.size from .inl (.inl rfl))
    have hg6 := hg5.set (i := 2) (.int .i64 (s'.steps + 1)) (fun _ => show foot b mb (.slice (some ⟨g2, o2, none⟩) s.bs.length c0) s b ∨ F b from .inl (.inl rfl))
    replace h6 := Lib.hid h6
    replace k6 := Lib.hid k6
    replace hf6 := Lib.hid hf6
    replace hg6 := Lib.hid hg6
    clear hf5 hg5 h5 k5
    go_upto_region 11 with (fail)
    obtain ⟨w6, hw6⟩ : ∃ w6, w5.setCell ⟨b, 2, none⟩ (.int .i64 (s'.steps + 1)) = w6 := ⟨_, rfl⟩
    rw [hw6] at h6 k6 hf6 hg6 ⊢
    clear hw6 d2 z2
    go_upto_region 18 with (fail)
    have e0 : w6.cell? ⟨ow, 0, none⟩ = some (.int .i64 k) := k6.out.cell 0
    go_cut [103] (fun y wx => y = .bool (badK k) ∧ w6 = wx)
    case first =>
      by_cases hk0 : k < 0
      · have e : badK k = true := by unfold badK; rw [decide_eq_true hk0]; rfl
        replace e := Lib.hid e
        go_wp2_with fail
        go_meet
        exact ⟨by rw [e.out], rfl⟩
      · have e : badK k = decide (4 < k) := by unfold badK; rw [decide_eq_false hk0]; rfl
        replace e := Lib.hid e
        go_wp2_with fail
        go_meet
        exact ⟨by rw [e.out], rfl⟩
    case rest =>
    obtain ⟨rfl, rfl⟩ := hcut
    go_upto_if 103 with (fail)
    go_cut [10] (fun y wx => y = .bool true ∧ Bl wx ow (.cells #[.int .i64 (kdF k), .int .i64 (onF k o)] 31 (0, 0)) ∧ SH wx base b mb (.slice (some ⟨g2, o2, none⟩) s.bs.length c0) { s' with steps := s'.steps + 1, within := false } ∧ Fr (fun j => foot b mb (.slice (some ⟨g2, o2, none⟩) s.bs.length c0) s j ∨ w.heap.size ≤ j ∧ j < W0.heap.size) W' wx ∧ Fr (fun j => foot b mb (.slice (some ⟨g2, o2, none⟩) s.bs.length c0) s j ∨ F j) w wx)
    case first =>
      by_cases hkk : 0 ≤ k ∧ k ≤ 4
      · have hy := Lib.hid ((badK_n hkk).2 o)
        have hy1 := (badK_n hkk).1
        rw [hy1]
        clear hkk hy1
        go_wp2_with fail
        go_meet
        exact ⟨rfl, by rw [hy.out.1, hy.out.2]; exact k6.out, h6.out, hf6.out, hg6.out⟩
      · have hy := Lib.hid ((badK_y hkk).2 o)
        have hy1 := (badK_y hkk).1
        rw [hy1]
        clear hkk hy1
        have e1 : w6.cell? ⟨ow, 1, none⟩ = some (.int .i64 o) := k6.out.cell 1
        have f0 := k6.out.frozen 0
        have f1 := k6.out.frozen 1
        have k7 := Lib.hid ((k6.out.setSame 0 (.int .i64 4)).setSame 1 (.int .i64 0))
        have nfo : ∀ j, foot b mb (.slice (some ⟨g2, o2, none⟩) s.bs.length c0) { s' with steps := s'.steps + 1, within := false } j → ¬ j = ow := fun j hj hle => by
          have : foot b mb (.slice (some ⟨g2, o2, none⟩) s.bs.length c0) s j := by
            unfold foot at hj ⊢
            simp only at hj
            rw [hbs] at hj; exact hj
          have := hfo j this
          omega
        have fx := Lib.hid (show Fr (fun j => j = ow) w6 ((w6.setCell ⟨ow, 0, none⟩ (.int .i64 4)).setCell ⟨ow, 1, none⟩ (.int .i64 0)) from ((Fr.refl (fun j => j = ow) _).set _ (fun _ => rfl)).set _ (fun _ => rfl))
        replace nfo := Lib.hid nfo
        · go_wp2_with fail
          go_meet
          exact ⟨rfl, by rw [hy.out.1, hy.out.2]; exact k7.out, h6.out.fr fx.out nfo.out, hf6.out.then fx.out (fun j hj e => by omega), hg6.out.then fx.out (fun j hj e => by omega)⟩
    case rest =>
      obtain ⟨rfl, k7, h7, hf7, hg7⟩ := hcut
      have d3 : wc.cell? ⟨b, 3, none⟩ = some (.int .i64 s'.wishes) := h7.ld.cell 3
      have z3 := h7.ld.frozen 3
      have h8 : SH (wc.setCell ⟨b, 3, none⟩ (.int .i64 (s'.wishes + 1))) base b mb (.slice (some ⟨g2, o2, none⟩) s.bs.length c0) { s' with steps := s'.steps + 1, wishes := s'.wishes + 1, within := false } := h7.setS 3 _ rfl rfl rfl rfl
      have k8 := k7.set (.int .i64 (s'.wishes + 1)) (b := b) (i := 3) (fun e => hne e.symm)
      have hf8 := hf7.set (i := 3) (.int .i64 (s'.wishes + 1)) (fun _ => show foot b mb (.slice (some ⟨g2, o2, none⟩) s.bs.length c0) s b ∨ w.heap.size ≤ b ∧ b < W0.heap.size from .inl (.inl rfl))
      have hg8 := hg7.set (i := 3) (.int .i64 (s'.wishes + 1)) (fun _ => show foot b mb (.slice (some ⟨g2, o2, none⟩) s.bs.length c0) s b ∨ F b from .inl (.inl rfl))
      replace h8 := Lib.hid h8
      replace k8 := Lib.hid k8
      replace hf8 := Lib.hid hf8
      replace hg8 := Lib.hid hg8
      clear k7 h7 hf7 hg7 h6 k6 hf6 hg6 e0
      go_upto_region 21 with (fail)
      obtain ⟨w8, hw8⟩ : ∃ w8, wc.setCell ⟨b, 3, none⟩ (.int .i64 (s'.wishes + 1)) = w8 := ⟨_, rfl⟩
      rw [hw8] at h8 k8 hf8 hg8 ⊢
      clear hw8 d3 z3
      have d2 : w8.cell? ⟨b, 2, none⟩ = some (.int .i64 (s'.steps + 1)) := h8.out.ld.cell 2
      have d3 : w8.cell? ⟨b, 3, none⟩ = some (.int .i64 (s'.wishes + 1)) := h8.out.ld.cell 3
      have l0 : w8.cell? ⟨ow, 0, none⟩ = some (.int .i64 (kdF k)) := k8.out.cell 0
      have l1 : w8.cell? ⟨ow, 1, none⟩ = some (.int .i64 (onF k o)) := k8.out.cell 1
      have ht8 := h8.out.tk n x t' hx' ht'
      have t2 : w8.cell? ⟨x, 2, none⟩ = some (.int .i64 t'.kd) := ht8.cell 2
      have t3 : w8.cell? ⟨x, 3, none⟩ = some (.int .i64 t'.on) := ht8.cell 3
      have t4 : w8.cell? ⟨x, 4, none⟩ = some (.int .i64 t'.si) := ht8.cell 4
      have t5 : w8.cell? ⟨x, 5, none⟩ = some (.int .i64 t'.od) := ht8.cell 5
      have y2 := ht8.frozen 2
      have y3 := ht8.frozen 3
      have y4 := ht8.frozen 4
      have y5 := ht8.frozen 5
      clear ht8
      go_region
      go_upto_region 24 with (fail)
      have hxf : foot b mb (.slice (some ⟨g2, o2, none⟩) s.bs.length c0) s x := .inr (.inr (.inl hxm))
      have g1 : SH (w8.setCell ⟨x, 2, none⟩ (.int .i64 (kdF k))) base b mb (.slice (some ⟨g2, o2, none⟩) s.bs.length c0) { s' with ts := s'.ts.set n { t' with kd := kdF k }, steps := s'.steps + 1, wishes := s'.wishes + 1, within := false } :=
        h8.out.setT (t' := { t' with kd := kdF k }) hx' ht' 2 _ rfl rfl
      have g2' : SH ((w8.setCell ⟨x, 2, none⟩ (.int .i64 (kdF k))).setCell ⟨x, 3, none⟩ (.int .i64 (onF k o))) base b mb (.slice (some ⟨g2, o2, none⟩) s.bs.length c0) { s' with ts := s'.ts.set n { t' with kd := kdF k, on := onF k o }, steps := s'.steps + 1, wishes := s'.wishes + 1, within := false } :=
        g1.setT (t := { t' with kd := kdF k }) (t' := { t' with kd := kdF k, on := onF k o }) hx' (by simp [hns]) 3 _ rfl (by simp)
      have g3 : SH (((w8.setCell ⟨x, 2, none⟩ (.int .i64 (kdF k))).setCell ⟨x, 3, none⟩ (.int .i64 (onF k o))).setCell ⟨x, 4, none⟩ (.int .i64 (s'.steps + 1))) base b mb (.slice (some ⟨g2, o2, none⟩) s.bs.length c0) { s' with ts := s'.ts.set n { t' with kd := kdF k, on := onF k o, si := s'.steps + 1 }, steps := s'.steps + 1, wishes := s'.wishes + 1, within := false } :=
        g2'.setT (t := { t' with kd := kdF k, on := onF k o }) (t' := { t' with kd := kdF k, on := onF k o, si := s'.steps + 1 }) hx' (by simp [hns]) 4 _ rfl (by simp)
      have g4 : SH ((((w8.setCell ⟨x, 2, none⟩ (.int .i64 (kdF k))).setCell ⟨x, 3, none⟩ (.int .i64 (onF k o))).setCell ⟨x, 4, none⟩ (.int .i64 (s'.steps + 1))).setCell ⟨x, 5, none⟩ (.int .i64 (s'.wishes + 1))) base b mb (.slice (some ⟨g2, o2, none⟩) s.bs.length c0) { s' with ts := s'.ts.set n { t' with kd := kdF k, on := onF k o, si := s'.steps + 1, od := s'.wishes + 1 }, steps := s'.steps + 1, wishes := s'.wishes + 1, within := false } :=
        g3.setT (t := { t' with kd := kdF k, on := onF k o, si := s'.steps + 1 }) (t' := { t' with kd := kdF k, on := onF k o, si := s'.steps + 1, od := s'.wishes + 1 }) hx' (by simp [hns]) 5 _ rfl (by simp)
      have g5 := Lib.hid (g4.keep (Below.refl _ _).drew)
      have hf9 := Lib.hid ((((((hf8.out.set (i := 2) (.int .i64 (kdF k)) (fun _ => show foot b mb (.slice (some ⟨g2, o2, none⟩) s.bs.length c0) s x ∨ w.heap.size ≤ x ∧ x < W0.heap.size from .inl hxf)).set (i := 3) (.int .i64 (onF k o)) (fun _ => .inl hxf)).set (i := 4) (.int .i64 (s'.steps + 1)) (fun _ => .inl hxf)).set (i := 5) (.int .i64 (s'.wishes + 1)) (fun _ => .inl hxf))).drew)
      have hg9 := Lib.hid ((((((hg8.out.set (i := 2) (.int .i64 (kdF k)) (fun _ => show foot b mb (.slice (some ⟨g2, o2, none⟩) s.bs.length c0) s x ∨ F x from .inl hxf)).set (i := 3) (.int .i64 (onF k o)) (fun _ => .inl hxf)).set (i := 4) (.int .i64 (s'.steps + 1)) (fun _ => .inl hxf)).set (i := 5) (.int .i64 (s'.wishes + 1)) (fun _ => .inl hxf))).drew)
      clear g1 g2' g3 g4
      go_wp2_with fail
      go_ret2
      exact ⟨k, o, s', t', W0, W', rfl, ht', g5.out, hR, hf9.out, hg9.out⟩
end Go.Proofs.Ytcdhmjapeapicaa
