/- A pick whose step panics. Conditions: what each theorem names. -/
import Derived.RangeFuncNested
import Derived.RangeFuncBound
import Derived.RangeFuncCalls
import Derived.RangeFuncLeaves
import Derived.Shelf.Abstract
import Derived.Shelf.RegionOpen
import Derived.WalkKit
import Derived.OwnWalkIn
import Derived.TacticsInMore
import Derived.LoopNIn
import Derived.LoopIn
import Derived.Lib.Hide
import Derived.Outline
import Derived.RegionTactic
import Derived.BigRegion
import Derived.WalkLawsBesides
import Derived.WalkSpells
import Derived.Deep.QuietTactic
import Derived.BigQuiet
import Derived.Deep.RegionHeld3
import Derived.Deep.DeepCutAuto
import Derived.Deep.CutBlock
import Derived.StillTailTactics
import Derived.WalkSmall
import Derived.Test.YtcdhmjapeapicaaProg
import Derived.Test.YtcdhmjapeapicaaFr
import Derived.Test.YtcdhmjapeapicaaMp
import Derived.Defers
import Derived.Recover
import Derived.Test.YtcdhmjapeapicaaSchL
import Derived.Test.YtcdhmjapeapicaaSdD
import Derived.Maps.RangeWalk
namespace Go.Proofs.Ytcdhmjapeapicaa
open Go.RowKit Go.Sed Go.Maps
set_option maxHeartbeats 1000000
set_option maxRecDepth 100000
/-- the locks, those of n that have been met struck. -/
def lkL (l : List (Int × Int)) (n : Nat) (left : Lit → Bool) : List (Int × Int) := l.filter (fun p => p.2 != (n : Int) || left (ik p.1))
theorem lkL_start {D : DataW Unit} {l : List (Int × Int)} {n : Nat} (h : MapIs D (l.map lp)) : lkL l n (Maps.has D) = l := by
  unfold lkL
  rw [List.filter_eq_self]
  intro p hp
  rw [Bool.or_eq_true]
  exact .inr (h.there (lp p) (List.mem_map.2 ⟨p, hp, rfl⟩)).1
theorem lkL_end {l : List (Int × Int)} {n : Nat} {left : Lit → Bool} (h : ∀ kl, left kl = false) : lkL l n left = l.filter (fun p => p.2 != (n : Int)) := by
  unfold lkL
  refine List.filter_congr (fun p _ => ?_)
  rw [h, Bool.or_false]
theorem sameKey_ik (a b : Int) : (ik a).sameKey (ik b) = (a == b) := by simp [ik, Lit.sameKey]; first | rfl | (cases h : (a == b) <;> simp_all)
theorem lkL_there {D : DataW Unit} {l : List (Int × Int)} {n : Nat} {left : Lit → Bool} {x c : Int} (h : MapIs D ((lkL l n left).map lp)) (hat : ∀ zd, D.atKey (.int .i64 x) zd = .lit (.int .i64 c)) : (x, c) ∈ lkL l n left := by
  by_cases hx : ∃ p ∈ lkL l n left, p.1 = x
  · obtain ⟨p, hp, rfl⟩ := hx
    have h1 := (h.there (lp p) (List.mem_map.2 ⟨p, hp, rfl⟩)).2 .nil
    rw [show ik (lp p).1 = Lit.int .i64 p.1 from rfl, hat .nil] at h1
    injection h1 with h1
    injection h1 with _ h1
    subst h1
    exact hp
  · exfalso
    have h1 := h.none x (fun p hp e => by
      obtain ⟨q, hq, rfl⟩ := List.mem_map.1 hp
      exact hx ⟨q, hq, e⟩)
    have h2 := Maps.atKey_of_not_has h1 .nil
    rw [show ik x = Lit.int .i64 x from rfl, hat .nil] at h2
    cases h2
theorem lkL_of {l : List (Int × Int)} {n : Nat} {left : Lit → Bool} {p : Int × Int} (h : p ∈ lkL l n left) : p ∈ l := (List.mem_filter.1 h).1
theorem nodup_fst {l : List (Int × Int)} (hn : (l.map (·.1)).Nodup) {p q : Int × Int} (hp : p ∈ l) (hq : q ∈ l) (e : p.1 = q.1) : p = q := by
  induction l with
  | nil => cases hp
  | cons a l ih =>
    simp only [List.map_cons, List.nodup_cons] at hn
    rcases List.mem_cons.1 hp with e1 | e1 <;> rcases List.mem_cons.1 hq with e2 | e2
    · rw [e1, e2]
    · subst e1; exact absurd (List.mem_map.2 ⟨q, e2, e.symm⟩) hn.1
    · subst e2; exact absurd (List.mem_map.2 ⟨p, e1, e⟩) hn.1
    · exact ih hn.2 e1 e2
theorem lkL_stays {l : List (Int × Int)} {n : Nat} {left : Lit → Bool} {x c : Int} (hn : (l.map (·.1)).Nodup) (hm : (x, c) ∈ lkL l n left) (hc : c ≠ (n : Int)) : lkL l n (fun z => left z && !z.sameKey (.int .i64 x)) = lkL l n left := by
  unfold lkL
  refine List.filter_congr (fun p hp => ?_)
  by_cases e : p.1 = x
  · have : p = (x, c) := nodup_fst hn hp (lkL_of hm) e
    subst this
    have : (c != (n : Int)) = true := bne_iff_ne.2 hc
    simp only [this, Bool.true_or]
  · show (p.2 != (n : Int) || (left (ik p.1) && !(ik p.1).sameKey (ik x))) = _
    rw [sameKey_ik, beq_eq_false_iff_ne.2 e]
    simp
theorem lkL_struck {l : List (Int × Int)} {n : Nat} {left : Lit → Bool} {x : Int} (hn : (l.map (·.1)).Nodup) (hm : (x, (n : Int)) ∈ lkL l n left) : (lkL l n left).Perm ((x, (n : Int)) :: lkL l n (fun z => left z && !z.sameKey (.int .i64 x))) := by
  have h1 : ((lkL l n left).map (·.1)).Nodup := (List.Sublist.map _ List.filter_sublist).nodup hn
  have h2 := lk_perm hm h1
  have h3 : lkD (lkL l n left) x = lkL l n (fun z => left z && !z.sameKey (.int .i64 x)) := by
    unfold lkD lkL
    rw [List.filter_filter]
    refine List.filter_congr (fun p hp => ?_)
    by_cases e : p.1 = x
    · have : p = (x, (n : Int)) := nodup_fst hn hp (lkL_of hm) e
      subst this
      show _ = ((n : Int) != (n : Int) || (left (ik x) && !(ik x).sameKey (ik x)))
      rw [sameKey_ik]
      simp
    · show _ = (p.2 != (n : Int) || (left (ik p.1) && !(ik p.1).sameKey (ik x)))
      rw [sameKey_ik, beq_eq_false_iff_ne.2 e, bne_iff_ne.2 e]
      simp
  rw [← h3]
  exact h2
theorem pick_no (base b mb n x p G : Nat) (cap : Array Value) (v : Value) (s : SS) (t : Tk) (w : World) (h : SH w base b mb v s) (hst : Steady s) (hwi : s.within = false) (hw : 0 ≤ s.wishes) (hn64 : s.bs.length ≤ 64) (hlk : s.lk.length < 9223372036854775807)
    (hp : (thoseI (mayB s) s.ts)[p % (thoseI (mayB s) s.ts).length]? = some (n : Int)) (hx : s.bs[n]? = some x) (ht : s.ts[n]? = some t) (hste : t.st = .func (.func G) #[] cap) (eg : Enters Try.prog G)
    (F : Nat → Prop) (hF : ∀ k, F k → k < w.heap.size) (R : SS → World → World → Prop)
    (s2 : SS) (hs2 : s2 = { s with lk := lkN t n s.lk, ts := s.ts.set n { t with kd := 0, on := 0 }, within := true })
    (hcall : ∀ W, SH W base b mb v s2 → Fr (foot b mb v s) w W → Calls Try.prog G cap W fun e W' => ∃ u pv s', e = .panicked [{ v := .iface u pv, recovered := false }] ∧ SH W' base b mb v s' ∧ s'.bs = s.bs ∧ (R s' W W' ∧ 0 ≤ s'.steps ∧ s'.steps < 4611686018427387904 ∧ 0 ≤ s'.wishes ∧ s'.wishes < 4611686018427387904) ∧ Fr F W W') :
    Calls Try.prog 29 #[ptr b, .int .i64 p] w fun e w' => ∃ s' t' W W', e = .returned (.tuple #[.int .i64 n, .int .i64 9]) ∧ s'.ts[n]? = some t' ∧
      SH w' base b mb v { s' with ts := s'.ts.set n { t' with kd := 4, on := 0, si := s'.steps + 1, od := s'.wishes + 1, fl := true }, lk := s'.lk.filter (fun p => p.2 != (n : Int)), steps := s'.steps + 1, wishes := s'.wishes + 1, within := false } ∧
      R s' W W' ∧ Fr (fun k => foot b mb v s k ∨ w.heap.size ≤ k ∧ k < W.heap.size) W' w' ∧ Fr (fun k => foot b mb v s k ∨ F k) w w' := by
  obtain ⟨L, hL⟩ : ∃ L, thoseI (mayB s) s.ts = L := ⟨_, rfl⟩
  have hc := enabled_any base b mb v s w h hst hn64
  rw [hL] at hp hc
  have hql : p % L.length < L.length := (List.getElem?_eq_some_iff.1 hp).1
  have hLp : 0 < L.length := by omega
  obtain ⟨q, hq⟩ : ∃ q, p % L.length = q := ⟨_, rfl⟩
  rw [hq] at hp hql
  have hmod : (p : Int) % L.length = (q : Int) := by rw [← hq]; first | exact (Int.natCast_emod p L.length).symm | simp | rfl
  have hbz := h.ld.lt
  have hnl : n < s.bs.length := (List.getElem?_eq_some_iff.1 hx).1
  have hxb := h.tk n x t hx ht
  have hxz := hxb.lt
  have hxm := List.mem_of_getElem? hx
  have hxne : x ≠ b := fun e => by subst e; exact h.bbs hxm
  have hp0 : (0 : Int) ≤ (p : Int) := by omega
  have hmay : mayB s t = true := thoseI_mem (by rw [hL]; exact List.mem_of_getElem? hp) ht
  replace hmay := Lib.hid hmay
  replace hq := Lib.hid hq
  replace hL := Lib.hid hL
  replace hcall := Lib.hid hcall
  replace hc := Lib.hid hc
  replace hF := Lib.hid hF
  have hone := Lib.hid (hst.2.2 t (List.mem_of_getElem? ht)).on
  have hst0 := hst.1
  have hst1 := hst.2.1
  replace hst := Lib.hid hst
  replace hs2 := Lib.hid hs2
  replace h := Lib.hid h
  replace hwi := Lib.hid hwi
  unfold ptr at hc ⊢
  go_enter Try.func29, Try.ntmps29
  go_upto_region 2 with (go_at_call 28; refine hc.out.mono ?_; rintro e w1 ⟨r, rfl, ho, hB1⟩; obtain ⟨A1, c1, rfl, hrd, -⟩ := ho.shape; have h1 := Lib.hid (h.out.keep hB1))
  obtain ⟨g1, o1, u1, rfl, hu1, r1⟩ := hrd.at1 hql
  obtain rfl : u1 = .int .i64 n := by
    rw [List.getElem?_map, hp] at hu1
    exact (Option.some.inj hu1).symm
  have d4 : w1.cell? ⟨b, 4, none⟩ = some (.bool false) := by rw [← hwi.out]; exact h1.out.ld.cell 4
  obtain ⟨A0, c0, rfl, -⟩ := h1.out.row.shape
  have d0 : w1.cell? ⟨b, 0, none⟩ = some (.slice A0 s.bs.length c0) := h1.out.ld.cell 0
  obtain ⟨g2, o2, u2, rfl, hu2, r2⟩ := h1.out.row.rd.at1 hnl
  obtain rfl : u2 = .pointer (some ⟨x, 0, none⟩) := by
    rw [List.getElem?_map, hx] at hu2
    exact (Option.some.inj hu2).symm
  have c2 : w1.cell? ⟨x, 2, none⟩ = some (.int .i64 t.kd) := (h1.out.tk n x t hx ht).cell 2
  clear hrd hu1 hu2 ho hxb
  go_upto_if 44 with (fail)
  go_cut [7] (fun y wx => y = .int .i64 n ∧ SH wx base b mb (.slice (some ⟨g2, o2, none⟩) s.bs.length c0) { s with lk := lkN t n s.lk } ∧ Fr (fun k => k = mb) w wx)
  case first =>
    by_cases hk : t.kd = 1
    · have hfr : lkOf s.lk t.on = none := by
        have := hmay.out
        unfold mayB at this
        rw [if_neg (by omega), if_pos hk] at this
        simpa using this
      have hfr := lkOf_none hfr
      have c3 : w1.cell? ⟨x, 3, none⟩ = some (.int .i64 t.on) := (h1.out.tk n x t hx ht).cell 3
      have d1 : w1.cell? ⟨b, 1, none⟩ = some (.map (some mb)) := h1.out.ld.cell 1
      have hlk' : lkN t n s.lk = (t.on, (n : Int)) :: s.lk := by unfold lkN; rw [if_pos hk]
      rw [hk] at c2
      have hm1 := (h1.out.keep (Below.refl _ _).drew).mp
      replace hfr := Lib.hid hfr
      replace hlk' := Lib.hid hlk'
      clear hmod d4
      go_wp2_with fail
      go_still_tail 10, (by kernel_rfl)
      change wpList _ _ _ _ _ w1.drew
      go_wp2_with (at_mapUpdate; refine wpList_mp_put _ rfl _ _ _ 68 rfl 3 3 Try.underlying3 Try.underlying68 mb _ rfl hm1 (by rw [List.length_map]; unfold maxLen; omega) t.on hone.out (fun p hp => by obtain ⟨p', hp', rfl⟩ := List.mem_map.1 hp; exact hfr.out p' hp') (.int .i64 n) (.int .i64 n) rfl rfl (plainElem_int Try.underlying3 (i64_wf ⟨by omega, by omega⟩)) ?_; intro w4 hm4 hg4; have h4 := Lib.hid ((h1.out.keep (Below.refl _ _).drew).setM (l := (t.on, (n : Int)) :: s.lk) hm4 hg4); have hf4 := Lib.hid (((Fr.of_below (F := fun k => k = mb) hB1).drew).grown hg4 (fun k e _ => (Option.some.inj e).symm)); clear hm4 hg4)
      go_meet
      exact ⟨rfl, by rw [hlk'.out]; exact h4.out, hf4.out⟩
    · have hk1 : (t.kd == 1) = false := beq_eq_false_iff_ne.2 hk
      have hlk' : lkN t n s.lk = s.lk := by unfold lkN; rw [if_neg hk]
      replace hlk' := Lib.hid hlk'
      clear hmod
      go_wp2_with fail
      go_meet
      exact ⟨rfl, by rw [hlk'.out]; exact h1.out, Fr.of_below hB1⟩
  case rest =>
    obtain ⟨rfl, h2, hf2⟩ := hcut
    have c2' : wc.cell? ⟨x, 2, none⟩ = some (.int .i64 t.kd) := (h2.tk n x t hx ht).cell 2
    have c3' : wc.cell? ⟨x, 3, none⟩ = some (.int .i64 t.on) := (h2.tk n x t hx ht).cell 3
    have z2 := (h2.tk n x t hx ht).frozen 2
    have z3 := (h2.tk n x t hx ht).frozen 3
    have hnt : n < s.ts.length := (List.getElem?_eq_some_iff.1 ht).1
    have h3 : SH ((wc.setCell ⟨x, 2, none⟩ (.int .i64 0)).setCell ⟨x, 3, none⟩ (.int .i64 0)) base b mb (.slice (some ⟨g2, o2, none⟩) s.bs.length c0) { s with lk := lkN t n s.lk, ts := s.ts.set n { t with kd := 0, on := 0 } } :=
      (h2.setT (t' := { t with kd := 0 }) hx ht 2 _ rfl rfl).setT (t := { t with kd := 0 }) (t' := { t with kd := 0, on := 0 }) hx (by simp [hnt]) 3 _ rfl (by simp)
    have hf3 : Fr (foot b mb (.slice (some ⟨g2, o2, none⟩) s.bs.length c0) s) w ((wc.setCell ⟨x, 2, none⟩ (.int .i64 0)).setCell ⟨x, 3, none⟩ (.int .i64 0)) :=
      ((hf2.mono (fun _ _ e => .inr (.inl e))).set _ (fun _ => .inr (.inr (.inl hxm)))).set _ (fun _ => .inr (.inr (.inl hxm)))
    replace h3 := Lib.hid h3
    replace hf3 := Lib.hid hf3
    replace hf2 := Lib.hid hf2
    replace h2 := Lib.hid h2
    clear h1 d0 d4 r1 r2 c2 hmod
    go_upto_region 9 with (fail)
    obtain ⟨w3, hw3⟩ : ∃ w3, (wc.setCell ⟨x, 2, none⟩ (.int .i64 0)).setCell ⟨x, 3, none⟩ (.int .i64 0) = w3 := ⟨_, rfl⟩
    rw [hw3] at h3 hf3 ⊢
    clear hw3 c2' c3' z2 z3 h2 hf2
    have hw3z : w.heap.size ≤ w3.heap.size := hf3.out.size
    have hd := Lib.hid (does_no base b mb x n G cap _ _ { t with kd := 0, on := 0 } w3 h3.out hx (by simp [hnt]) hste eg F (fun k hk => Nat.lt_of_lt_of_le (hF.out k hk) hw3z) (fun s' W0 W => R s' W0 W ∧ 0 ≤ s'.steps ∧ s'.steps < 4611686018427387904 ∧ 0 ≤ s'.wishes ∧ s'.wishes < 4611686018427387904)
      (fun W hW hfW => by
        rw [hs2.out] at hcall
        exact hcall.out W hW (hf3.out.then (hfW.mono (fun _ _ e => .inl e)) (fun _ _ e => e))))
    unfold ptr at hd
    go_upto_region 10 with (go_at_call 54; refine hd.out.mono ?_; rintro e w4 ⟨s', W0, W', rfl, h4, hbs, hR, hf4, hg4⟩)
    obtain ⟨hR, hs0, hs1, hw0, hw1⟩ := hR
    obtain ⟨w5, hw5⟩ : ∃ w5, w4.alloc (.cells #[.int .i64 0, .int .i64 0] 31) = w5 := ⟨_, rfl⟩
    have hB5 : Below w4.heap.size w4 w5 := by rw [← hw5]; exact (Below.refl _ _).alloc (Nat.le_refl _) _
    have k5 : Bl w5 w4.heap.size (.cells #[.int .i64 0, .int .i64 0] 31 (0, 0)) := by rw [← hw5]; exact Bl.new' rfl
    rw [hw5]
    clear hw5
    have h5 := h4.keep hB5
    obtain ⟨ow, how⟩ : ∃ ow, w4.heap.size = ow := ⟨_, rfl⟩
    have hfo : ∀ j, foot b mb (.slice (some ⟨g2, o2, none⟩) s.bs.length c0) s j → j < w.heap.size := fun j hj => (h.out.lo j hj).2
    have howz : w.heap.size ≤ ow := by rw [← how]; exact Nat.le_trans hw3z hg4.size
    have hf5 : Fr (fun j => foot b mb (.slice (some ⟨g2, o2, none⟩) s.bs.length c0) s j ∨ w.heap.size ≤ j ∧ j < W0.heap.size) W' w5 := (hf4.mono (fun j _ e => by
      rcases e with e | ⟨e, e2⟩
      · exact .inl (.inl e)
      · exact .inr ⟨Nat.le_trans hw3z e, e2⟩)).thenB hB5
    have howW : W'.heap.size ≤ ow := by rw [← how]; exact hf4.size
    have hg5 : Fr (fun j => foot b mb (.slice (some ⟨g2, o2, none⟩) s.bs.length c0) s j ∨ F j) w w5 := ((hf3.out.mono (fun _ _ e => .inl e)).then (hg4.mono (fun j _ e => by
      rcases e with e | e
      · exact .inl (.inl e)
      · exact .inr e)) (fun _ _ e => e)).thenB hB5
    rw [how] at k5 ⊢
    clear hf4 hg4 h4 hB5 how hd h3 hf3
    have hns : n < s'.ts.length := by rw [h5.len]; simp only; rw [hbs]; exact hnl
    obtain ⟨t', ht'⟩ : ∃ t', s'.ts[n]? = some t' := ⟨_, List.getElem?_eq_getElem hns⟩
    have hx' : s'.bs[n]? = some x := by rw [hbs]; exact hx
    have d2 : w5.cell? ⟨b, 2, none⟩ = some (.int .i64 s'.steps) := h5.ld.cell 2
    have z2 := h5.ld.frozen 2
    have hne : b ≠ ow := by omega
    have hxo : x ≠ ow := by omega
    have h6 : SH (w5.setCell ⟨b, 2, none⟩ (.int .i64 (s'.steps + 1))) base b mb (.slice (some ⟨g2, o2, none⟩) s.bs.length c0) { s' with steps := s'.steps + 1, within := false } := h5.setS 2 _ rfl rfl rfl rfl
    have k6 := k5.set (.int .i64 (s'.steps + 1)) (b := b) (i := 2) (fun e => hne e.symm)
    have hf6 := hf5.set (i := 2) (.int .i64 (s'.steps + 1)) (fun _ => show foot b mb (.slice (some ⟨g2, o2, none⟩) s.bs.length c0) s b ∨ w.heap.size ≤ b ∧ b < W0.heap.size from .inl (.inl rfl))
    have hg6 := hg5.set (i := 2) (.int .i64 (s'.steps + 1)) (fun _ => show foot b mb (.slice (some ⟨g2, o2, none⟩) s.bs.length c0) s b ∨ F b from .inl (.inl rfl))
    replace h6 := Lib.hid h6
    replace k6 := Lib.hid k6
    replace hf6 := Lib.hid hf6
    replace hg6 := Lib.hid hg6
    clear hf5 hg5 h5 k5
    go_upto_region 11 with (fail)
    obtain ⟨w6, hw6⟩ : ∃ w6, w5.setCell ⟨b, 2, none⟩ (.int .i64 (s'.steps + 1)) = w6 := ⟨_, rfl⟩
    rw [hw6] at h6 k6 hf6 hg6 ⊢
    clear hw6 d2 z2
    have hxf : foot b mb (.slice (some ⟨g2, o2, none⟩) s.bs.length c0) s x := .inr (.inr (.inl hxm))
    have e0 : w6.cell? ⟨ow, 0, none⟩ = some (.int .i64 0) := k6.out.cell 0
    have e1 : w6.cell? ⟨ow, 1, none⟩ = some (.int .i64 0) := k6.out.cell 1
    have f0 := k6.out.frozen 0
    have f1 := k6.out.frozen 1
    have t6 : w6.cell? ⟨x, 6, none⟩ = some (.bool t'.fl) := (h6.out.tk n x t' hx' ht').cell 6
    have y6 := (h6.out.tk n x t' hx' ht').frozen 6
    have h7 : SH (w6.setCell ⟨x, 6, none⟩ (.bool true)) base b mb (.slice (some ⟨g2, o2, none⟩) s.bs.length c0) { s' with ts := s'.ts.set n { t' with fl := true }, steps := s'.steps + 1, within := false } := h6.out.setT (t' := { t' with fl := true }) hx' ht' 6 _ rfl rfl
    have k7 := ((k6.out.set (.bool true) (b := x) (i := 6) (fun e => hxo e.symm)).setSame 0 (.int .i64 4)).setSame 1 (.int .i64 0)
    have fx : Fr (fun j => j = ow) (w6.setCell ⟨x, 6, none⟩ (.bool true)) (((w6.setCell ⟨x, 6, none⟩ (.bool true)).setCell ⟨ow, 0, none⟩ (.int .i64 4)).setCell ⟨ow, 1, none⟩ (.int .i64 0)) := ((Fr.refl (fun j => j = ow) _).set _ (fun _ => rfl)).set _ (fun _ => rfl)
    have nfo : ∀ j, foot b mb (.slice (some ⟨g2, o2, none⟩) s.bs.length c0) { s' with ts := s'.ts.set n { t' with fl := true }, steps := s'.steps + 1, within := false } j → ¬ j = ow := fun j hj hle => by
      have : foot b mb (.slice (some ⟨g2, o2, none⟩) s.bs.length c0) s j := by
        unfold foot at hj ⊢
        simp only at hj
        rw [hbs] at hj; exact hj
      have := hfo j this
      omega
    have h8 := h7.fr fx nfo
    have hf8 := (hf6.out.set (i := 6) (.bool true) (fun _ => show foot b mb (.slice (some ⟨g2, o2, none⟩) s.bs.length c0) s x ∨ w.heap.size ≤ x ∧ x < W0.heap.size from .inl hxf)).then fx (fun j hj e => by omega)
    have hg8 := (hg6.out.set (i := 6) (.bool true) (fun _ => show foot b mb (.slice (some ⟨g2, o2, none⟩) s.bs.length c0) s x ∨ F x from .inl hxf)).then fx (fun j hj e => by omega)
    replace h8 := Lib.hid h8
    replace k7 := Lib.hid k7
    replace hf8 := Lib.hid hf8
    replace hg8 := Lib.hid hg8
    clear h7 fx nfo h6 k6 hf6 hg6
    go_upto_region 13 with (fail)
    obtain ⟨w7, hw7⟩ : ∃ w7, ((w6.setCell ⟨x, 6, none⟩ (.bool true)).setCell ⟨ow, 0, none⟩ (.int .i64 4)).setCell ⟨ow, 1, none⟩ (.int .i64 0) = w7 := ⟨_, rfl⟩
    rw [hw7] at h8 k7 hf8 hg8 ⊢
    clear hw7 e0 e1 f0 f1 t6 y6
    have d1 : w7.cell? ⟨b, 1, none⟩ = some (.map (some mb)) := h8.out.ld.cell 1
    obtain ⟨D0, hown0, hmi0⟩ := h8.out.mp
    obtain ⟨N0, hN0⟩ : ∃ N0, (s'.lk.map lp).length = N0 := ⟨_, rfl⟩
    replace hown0 : w7.ownsMap Try.prog 3 (plainElem (H := Unit) Try.prog 3) mb N0 D0 := hN0 ▸ hown0
    replace hN0 := Lib.hid hN0
    have hnd : (s'.lk.map (·.1)).Nodup := by have := h8.out.mp.nodup; rw [List.map_map] at this; exact this
    have hb7 := h8.out.ld.lt
    have hcb : ∀ W, w7.grownBy W (some mb) → W.cell? ⟨b, 1, none⟩ = some (.map (some mb)) := fun W hg => by
      rw [World.cell?_of_block (a := ⟨b, 1, none⟩) (hg.block b hb7 (fun e => h8.out.bmb (Option.some.inj e)))]; exact d1
    replace hnd := Lib.hid hnd
    replace hcb := Lib.hid hcb
    replace hmi0 := Lib.hid hmi0
    go_wp2_with (first
      | (at_range; refine wpList_range_own _ rfl _ 68 rfl 3 3 (int_keyed Try.underlying3) Try.underlying68 _ mb _ D0 rfl hown0 ?_; intro w8 hrg0 hz0 hs0))
    (try go_frame)
    clear d1
    go_loopw [11] (fun _ wr => ∃ (D : DataW Unit) (left : Lit → Bool) (cnt : Nat), wr.ranges Try.prog 3 (plainElem Try.prog 3) mb w7.heap.size N0 D left cnt ∧ MapIs D ((lkL s'.lk n left).map lp) ∧ w7.grownBy wr (some mb)) (fun _ wr => wr.rangeLeft mb w7.heap.size)
    case atStart => exact ⟨D0, _, _, hrg0, by rw [lkL_start hmi0.out]; exact hmi0.out, hz0.but _⟩
    case round =>
      obtain ⟨D, left, cnt, hrg, hmi, hgw⟩ := hrel
      go_wp2_with (first
        | (at_next; refine wpList_next_ranges_ii _ rfl _ rfl 3 3 .i64 .i64 (int_keyed Try.underlying3) Try.underlying3 Try.underlying3 mb w7.heap.size _ _ _ _ rfl hrg ?_ ?_))
      · intro _ hl0
        have hmp : Mp Try.prog 3 3 wr mb ((s'.lk.filter (fun p => p.2 != (n : Int))).map lp) := by
          have := ownsMap_tight hrg.owns
          rw [hmi.size, lkL_end hl0] at this
          exact ⟨D, this, by rw [← lkL_end hl0]; exact hmi⟩
        have h7 := Lib.hid (h8.out.setM hmp hgw)
        have k8 := Lib.hid (show Bl wr ow (.cells #[.int .i64 4, .int .i64 0] 31 (0, 0)) from by
          have h1 := k7.out
          have h2 := h1.lt
          unfold Bl at h1 ⊢
          rw [hgw.block ow h2 (fun e => by have := (h.out.lo mb (.inr (.inl rfl))).2; have := Option.some.inj e; omega)]; exact h1)
        have hf7 := Lib.hid (hf8.out.grown hgw (fun k e _ => .inl (.inr (.inl (Option.some.inj e).symm))))
        have hg7 := Lib.hid (hg8.out.grown hgw (fun k e _ => .inl (.inr (.inl (Option.some.inj e).symm))))
        clear hrg hmi hgw hmp hl0 hrg0 hz0 hs0 hown0
        obtain ⟨s9, hs9⟩ : ∃ s9 : SS, s9 = { s' with ts := s'.ts.set n { t' with fl := true }, lk := s'.lk.filter (fun p => p.2 != (n : Int)) } := ⟨_, rfl⟩
        obtain ⟨t9, ht9e⟩ : ∃ t9 : Tk, t9 = { t' with fl := true } := ⟨_, rfl⟩
        have hns9 : n < s9.ts.length := by rw [hs9]; simpa using hns
        have ht9 : s9.ts[n]? = some t9 := by rw [hs9, ht9e]; exact List.getElem?_set_self hns
        have hx9 : s9.bs[n]? = some x := by rw [hs9]; exact hx'
        have hw9 : 0 ≤ s9.wishes := by rw [hs9]; exact hw0
        have hw9' : s9.wishes < 4611686018427387904 := by rw [hs9]; exact hw1
        have hfin := Lib.hid (show ∀ W', SH W' base b mb (.slice (some ⟨g2, o2, none⟩) s.bs.length c0) { s9 with ts := s9.ts.set n { t9 with kd := 4, on := 0, si := s9.steps + 1, od := s9.wishes + 1 }, steps := s9.steps + 1, wishes := s9.wishes + 1, within := false } → SH W' base b mb (.slice (some ⟨g2, o2, none⟩) s.bs.length c0) { s' with ts := s'.ts.set n { t' with kd := 4, on := 0, si := s'.steps + 1, od := s'.wishes + 1, fl := true }, lk := s'.lk.filter (fun p => p.2 != (n : Int)), steps := s'.steps + 1, wishes := s'.wishes + 1, within := false } from by
          intro W' h
          rw [hs9, ht9e] at h
          simpa [List.set_set] using h)
        obtain ⟨wz, hwz⟩ : ∃ wz, wr = wz := ⟨_, rfl⟩
        have h7 : SH wz base b mb (.slice (some ⟨g2, o2, none⟩) s.bs.length c0) { s9 with steps := s9.steps + 1, within := false } := by rw [hs9, ← hwz]; exact h7.out
        have k7 : Bl wz ow (.cells #[.int .i64 4, .int .i64 0] 31 (0, 0)) := by rw [← hwz]; exact k8.out
        have hf7 : Fr (fun j => foot b mb (.slice (some ⟨g2, o2, none⟩) s.bs.length c0) s j ∨ w.heap.size ≤ j ∧ j < W0.heap.size) W' wz := by rw [← hwz]; exact hf7.out
        have hg7 : Fr (fun j => foot b mb (.slice (some ⟨g2, o2, none⟩) s.bs.length c0) s j ∨ F j) w wz := by rw [← hwz]; exact hg7.out
        rw [hwz]
        replace hs9 := Lib.hid hs9
        replace ht9e := Lib.hid ht9e
        clear k8 hwz h8 hf8 hg8 hcb
        have e0 : wz.cell? ⟨ow, 0, none⟩ = some (.int .i64 4) := k7.cell 0
        go_upto_region 20 with (fail)
        have d3 : wz.cell? ⟨b, 3, none⟩ = some (.int .i64 s9.wishes) := h7.ld.cell 3
        have z3 := h7.ld.frozen 3
        have h8 : SH (wz.setCell ⟨b, 3, none⟩ (.int .i64 (s9.wishes + 1))) base b mb (.slice (some ⟨g2, o2, none⟩) s.bs.length c0) { s9 with steps := s9.steps + 1, wishes := s9.wishes + 1, within := false } := h7.setS 3 _ rfl rfl rfl rfl
        have k8 := k7.set (.int .i64 (s9.wishes + 1)) (b := b) (i := 3) (fun e => hne e.symm)
        have hf8 := hf7.set (i := 3) (.int .i64 (s9.wishes + 1)) (fun _ => show foot b mb (.slice (some ⟨g2, o2, none⟩) s.bs.length c0) s b ∨ w.heap.size ≤ b ∧ b < W0.heap.size from .inl (.inl rfl))
        have hg8 := hg7.set (i := 3) (.int .i64 (s9.wishes + 1)) (fun _ => show foot b mb (.slice (some ⟨g2, o2, none⟩) s.bs.length c0) s b ∨ F b from .inl (.inl rfl))
        replace h8 := Lib.hid h8
        replace k8 := Lib.hid k8
        replace hf8 := Lib.hid hf8
        replace hg8 := Lib.hid hg8
        clear k7 h7 hf7 hg7 e0
        go_upto_region 21 with (fail)
        obtain ⟨w10, hw10⟩ : ∃ w10, wz.setCell ⟨b, 3, none⟩ (.int .i64 (s9.wishes + 1)) = w10 := ⟨_, rfl⟩
        rw [hw10] at h8 k8 hf8 hg8 ⊢
        clear hw10 d3 z3
        have d2 : w10.cell? ⟨b, 2, none⟩ = some (.int .i64 (s9.steps + 1)) := h8.out.ld.cell 2
        have d3 : w10.cell? ⟨b, 3, none⟩ = some (.int .i64 (s9.wishes + 1)) := h8.out.ld.cell 3
        have l0 : w10.cell? ⟨ow, 0, none⟩ = some (.int .i64 (4)) := k8.out.cell 0
        have l1 : w10.cell? ⟨ow, 1, none⟩ = some (.int .i64 (0)) := k8.out.cell 1
        have ht8 := h8.out.tk n x t9 hx9 ht9
        have t2 : w10.cell? ⟨x, 2, none⟩ = some (.int .i64 t9.kd) := ht8.cell 2
        have t3 : w10.cell? ⟨x, 3, none⟩ = some (.int .i64 t9.on) := ht8.cell 3
        have t4 : w10.cell? ⟨x, 4, none⟩ = some (.int .i64 t9.si) := ht8.cell 4
        have t5 : w10.cell? ⟨x, 5, none⟩ = some (.int .i64 t9.od) := ht8.cell 5
        have y2 := ht8.frozen 2
        have y3 := ht8.frozen 3
        have y4 := ht8.frozen 4
        have y5 := ht8.frozen 5
        clear ht8
        go_region
        go_upto_region 23 with (fail)
        have g1 : SH (w10.setCell ⟨x, 2, none⟩ (.int .i64 (4))) base b mb (.slice (some ⟨g2, o2, none⟩) s.bs.length c0) { s9 with ts := s9.ts.set n { t9 with kd := 4 }, steps := s9.steps + 1, wishes := s9.wishes + 1, within := false } :=
          h8.out.setT (t' := { t9 with kd := 4 }) hx9 ht9 2 _ rfl rfl
        have g2' : SH ((w10.setCell ⟨x, 2, none⟩ (.int .i64 (4))).setCell ⟨x, 3, none⟩ (.int .i64 (0))) base b mb (.slice (some ⟨g2, o2, none⟩) s.bs.length c0) { s9 with ts := s9.ts.set n { t9 with kd := 4, on := 0 }, steps := s9.steps + 1, wishes := s9.wishes + 1, within := false } :=
          g1.setT (t := { t9 with kd := 4 }) (t' := { t9 with kd := 4, on := 0 }) hx9 (by simp [hns9]) 3 _ rfl (by simp)
        have g3 : SH (((w10.setCell ⟨x, 2, none⟩ (.int .i64 (4))).setCell ⟨x, 3, none⟩ (.int .i64 (0))).setCell ⟨x, 4, none⟩ (.int .i64 (s9.steps + 1))) base b mb (.slice (some ⟨g2, o2, none⟩) s.bs.length c0) { s9 with ts := s9.ts.set n { t9 with kd := 4, on := 0, si := s9.steps + 1 }, steps := s9.steps + 1, wishes := s9.wishes + 1, within := false } :=
          g2'.setT (t := { t9 with kd := 4, on := 0 }) (t' := { t9 with kd := 4, on := 0, si := s9.steps + 1 }) hx9 (by simp [hns9]) 4 _ rfl (by simp)
        have g4 : SH ((((w10.setCell ⟨x, 2, none⟩ (.int .i64 (4))).setCell ⟨x, 3, none⟩ (.int .i64 (0))).setCell ⟨x, 4, none⟩ (.int .i64 (s9.steps + 1))).setCell ⟨x, 5, none⟩ (.int .i64 (s9.wishes + 1))) base b mb (.slice (some ⟨g2, o2, none⟩) s.bs.length c0) { s9 with ts := s9.ts.set n { t9 with kd := 4, on := 0, si := s9.steps + 1, od := s9.wishes + 1 }, steps := s9.steps + 1, wishes := s9.wishes + 1, within := false } :=
          g3.setT (t := { t9 with kd := 4, on := 0, si := s9.steps + 1 }) (t' := { t9 with kd := 4, on := 0, si := s9.steps + 1, od := s9.wishes + 1 }) hx9 (by simp [hns9]) 5 _ rfl (by simp)
        have g5 := Lib.hid (g4.keep (Below.refl _ _).drew)
        have hf9 := Lib.hid ((((((hf8.out.set (i := 2) (.int .i64 (4)) (fun _ => show foot b mb (.slice (some ⟨g2, o2, none⟩) s.bs.length c0) s x ∨ w.heap.size ≤ x ∧ x < W0.heap.size from .inl hxf)).set (i := 3) (.int .i64 (0)) (fun _ => .inl hxf)).set (i := 4) (.int .i64 (s9.steps + 1)) (fun _ => .inl hxf)).set (i := 5) (.int .i64 (s9.wishes + 1)) (fun _ => .inl hxf))).drew)
        have hg9 := Lib.hid ((((((hg8.out.set (i := 2) (.int .i64 (4)) (fun _ => show foot b mb (.slice (some ⟨g2, o2, none⟩) s.bs.length c0) s x ∨ F x from .inl hxf)).set (i := 3) (.int .i64 (0)) (fun _ => .inl hxf)).set (i := 4) (.int .i64 (s9.steps + 1)) (fun _ => .inl hxf)).set (i := 5) (.int .i64 (s9.wishes + 1)) (fun _ => .inl hxf))).drew)
        clear g1 g2' g3 g4
        go_wp2_with fail
        go_ret2
        exact ⟨rfl, s', t', ht', hfin.out _ g5.out, W0, W', hR, hf9.out, hg9.out⟩
      · intro y c w1' cnt1 hwx hwc hlx hat hrg1 hlt hg1 hs1 hen
        have hgw1 := hgw.andThen hg1 (fun j hj => by cases hj; exact Or.inl (Nat.le_refl _))
        have hth := lkL_there hmi hat
        have d1 := hcb.out _ hgw1
        have hinx : InI y := by have := hwx; simp [Lit.wf, IntKind.min, IntKind.max, IntKind.signed, IntKind.bits] at this; unfold InI; omega
        have hmeas : ∀ (c2 : Nat) (wq : World), c2 ≤ cnt1 → wq.rangeLeft mb w7.heap.size = c2 → wq.rangeLeft mb w7.heap.size < wr.rangeLeft mb w7.heap.size := fun c2 wq h1 h2 => by rw [h2, hrg.left_eq]; omega
        replace hth := Lib.hid hth
        replace hmi := Lib.hid hmi
        replace hgw1 := Lib.hid hgw1
        replace hmeas := Lib.hid hmeas
        replace hat := Lib.hid hat
        by_cases hc : c = (n : Int)
        · subst hc
          have hst := lkL_struck hnd.out hth.out
          have hmi2 : MapIs (D.del (ik y)) ((lkL s'.lk n (fun z => left z && !z.sameKey (.int .i64 y))).map lp) := (hmi.out.perm (hst.map lp)).del
          replace hst := Lib.hid hst
          replace hmi2 := Lib.hid hmi2
          go_wp2_with (first
            | (at_delete; refine wpList_delete_ranges _ rfl _ _ 68 3 rfl 3 (int_keyed Try.underlying3) Try.underlying68 _ mb w7.heap.size _ _ _ _ rfl hrg1 _ (ik y) rfl (keyOf_int_mk Try.underlying3 hwx) ?_; intro w2 cnt2 hrg2 hle hturn; go_frame))
          rw [Maps.strike_twice] at hrg2
          go_roundw
          case rel => exact ⟨_, _, cnt2, hrg2, hmi2.out, hgw1.out.andThen hturn.grown (fun j hj => by cases hj; exact Or.inr rfl)⟩
          case measure => exact hmeas.out cnt2 _ hle hrg2.left_eq
        · have hcn : (c == (n : Int)) = false := beq_eq_false_iff_ne.2 hc
          have hst := lkL_stays hnd.out hth.out hc
          replace hst := Lib.hid hst
          go_wp2_with fail
          go_roundw
          case rel => exact ⟨_, _, cnt1, hrg1, by rw [hst.out]; exact hmi.out, hgw1.out⟩
          case measure => exact hmeas.out cnt1 _ (Nat.le_refl _) hrg1.left_eq
end Go.Proofs.Ytcdhmjapeapicaa
