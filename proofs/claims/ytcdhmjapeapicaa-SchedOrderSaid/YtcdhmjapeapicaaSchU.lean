/- Locks taken in rising order: no program is walked here. Conditions: what each theorem names. -/
import Derived.RangeFuncNested
import Derived.RangeFuncBound
import Derived.RangeFuncCalls
import Derived.RangeFuncLeaves
import Derived.Shelf.Abstract
import Derived.Shelf.RegionOpen
import Derived.WalkKit
import Derived.OwnWalkIn
import Derived.TacticsInMore
import Derived.LoopNIn
import Derived.LoopIn
import Derived.Lib.Hide
import Derived.Outline
import Derived.RegionTactic
import Derived.BigRegion
import Derived.WalkLawsBesides
import Derived.WalkSpells
import Derived.Deep.QuietTactic
import Derived.BigQuiet
import Derived.Deep.RegionHeld3
import Derived.Deep.DeepCutAuto
import Derived.Deep.CutBlock
import Derived.StillTailTactics
import Derived.WalkSmall
import Derived.Test.YtcdhmjapeapicaaProg
import Derived.Test.YtcdhmjapeapicaaFr
import Derived.Test.YtcdhmjapeapicaaMp
import Derived.Defers
import Derived.Recover
import Derived.Test.YtcdhmjapeapicaaSchS
import Derived.Deep.LoopGhost
import Derived.Test.YtcdhmjapeapicaaSchF
import Derived.Test.YtcdhmjapeapicaaArg
import Derived.Lib.SliceRun
namespace Go.Proofs.Ytcdhmjapeapicaa
open Go.RowKit Go.Sed Go.Maps
set_option maxHeartbeats 1000000
set_option maxRecDepth 100000
/-- a task that takes locks in order, and lets them go. -/
def progL (L : List Nat) : List (Int × Int) := L.map (fun (x : Nat) => ((-2 : Int), (x : Int))) ++ L.reverse.flatMap (fun (x : Nat) => [((0 : Int), (x : Int)), (-1, 0)])
theorem flat2_len {α β : Type} (f : α → List β) (hf : ∀ a, (f a).length = 2) (l : List α) : (l.flatMap f).length = 2 * l.length := by
  rw [flat_len f 2 hf l]; omega
theorem progL_len (L : List Nat) : (progL L).length = 3 * L.length := by
  unfold progL
  rw [List.length_append, List.length_map, flat2_len _ (fun _ => rfl), List.length_reverse]; omega
theorem progL_lock (L : List Nat) (j : Nat) (hj : j < L.length) : (progL L)[j]? = some (-2, ((L.getD j 0 : Nat) : Int)) := by
  unfold progL
  rw [List.getElem?_append_left (by simpa using hj), List.getElem?_map]
  simp [hj]
theorem progL_un (L : List Nat) (q : Nat) (hq : q < L.length) : (progL L)[L.length + 2 * q]? = some (0, ((L.getD (L.length - 1 - q) 0 : Nat) : Int)) ∧ (progL L)[L.length + 2 * q + 1]? = some (-1, 0) := by
  have hr : L.reverse[q]? = some (L.getD (L.length - 1 - q) 0) := by
    rw [List.getElem?_reverse hq]
    simp [show L.length - 1 - q < L.length by omega]
  have h0 := flat_at (fun x : Nat => [((0 : Int), (x : Int)), (-1, 0)]) 2 (fun _ => rfl) L.reverse q 0 _ hr (by omega)
  have h1 := flat_at (fun x : Nat => [((0 : Int), (x : Int)), (-1, 0)]) 2 (fun _ => rfl) L.reverse q 1 _ hr (by omega)
  unfold progL
  constructor
  · rw [List.getElem?_append_right (by rw [List.length_map]; omega), List.length_map, show L.length + 2 * q - L.length = q * 2 + 0 by omega]; exact h0
  · rw [List.getElem?_append_right (by rw [List.length_map]; omega), List.length_map, show L.length + 2 * q + 1 - L.length = q * 2 + 1 by omega]; exact h1
theorem progL_simple (L : List Nat) (h : ∀ x ∈ L, x < 8) : Simple (progL L) := by
  intro d hd
  unfold progL at hd
  rcases List.mem_append.1 hd with hd | hd
  · obtain ⟨x, hx, rfl⟩ := List.mem_map.1 hd
    have := h x hx
    exact ⟨.inr ⟨by simp, by simp⟩, ⟨by simp only; omega, by simp only; omega⟩⟩
  · obtain ⟨x, hx, hd⟩ := List.mem_flatMap.1 hd
    have := h x (List.mem_reverse.1 hx)
    simp at hd
    rcases hd with rfl | rfl
    · exact ⟨.inl rfl, ⟨by simp only; omega, by simp only; omega⟩⟩
    · exact ⟨.inr ⟨by simp, by simp⟩, ⟨by simp, by simp⟩⟩
/-- where such a task is: its place, what it wishes, what it holds. -/
inductive OT (L : List Nat) : Nat → Int → Int → List Nat → Prop where
  | start : OT L 0 0 0 []
  | wait (j : Nat) (h : j < L.length) : OT L (j + 1) 1 ((L.getD j 0 : Nat) : Int) (L.take j)
  | free (q : Nat) (h : q < L.length) : OT L (L.length + 2 * (q + 1)) 0 0 (L.take (L.length - (q + 1)))
  | done : OT L (3 * L.length) 4 0 []
theorem OT.le {L : List Nat} {a : Nat} {kd on : Int} {h : List Nat} (o : OT L a kd on h) : a ≤ (progL L).length := by
  rw [progL_len]
  cases o <;> omega
def restN (L : List Nat) (a : Nat) (kd : Int) : Nat := if kd = 4 then 0 else 3 * L.length + 1 - a
theorem lk_some {l : List (Int × Int)} {x n : Int} (hn : (l.map (·.1)).Nodup) : lkOf l x = some n ↔ (x, n) ∈ l := by
  constructor
  · exact lkOf_some
  · intro h
    cases hc : lkOf l x with
    | none => exact absurd rfl (lkOf_none hc _ h)
    | some y =>
      have h2 := lkOf_some hc
      congr 1
      obtain ⟨i, hi⟩ := List.mem_iff_getElem?.1 h
      obtain ⟨j, hj⟩ := List.mem_iff_getElem?.1 h2
      have h3 : (l.map (·.1))[i]? = (l.map (·.1))[j]? := by rw [List.getElem?_map, List.getElem?_map, hi, hj]; rfl
      have hil : i < (l.map (·.1)).length := by rw [List.length_map]; exact (List.getElem?_eq_some_iff.1 hi).1
      have h4 := (List.getElem?_inj hil hn).1 h3
      subst h4
      rw [hi] at hj
      injection hj with hj
      injection hj with _ hj
      exact hj.symm
theorem lkD_cons {l : List (Int × Int)} {x n : Int} (h : lkOf l x = none) : lkD ((x, n) :: l) x = l := by
  unfold lkD
  rw [List.filter_cons]
  simp only [bne_self_eq_false, Bool.false_eq_true, if_false]
  rw [List.filter_eq_self]
  intro p hp
  have := lkOf_none h p hp
  simpa using this
theorem lkOf_cons (l : List (Int × Int)) (x n : Int) : lkOf ((x, n) :: l) x = some n := by unfold lkOf; simp
theorem take_last (L : List Nat) (j : Nat) (h : j < L.length) : L.take (j + 1) = L.take j ++ [L.getD j 0] := by
  rw [List.take_add_one, List.getElem?_eq_getElem h]
  simp [h]
/-- one step of one task: where it is then, what the locks are, what was told. -/
theorem OT.step {L : List Nat} {a n : Nat} {t : Tk} {h : List Nat} {lk : List (Int × Int)} {told : List Int} (o : OT L a t.kd t.on h) (hd : t.kd ≠ 4) (hfree : t.kd = 1 → lkOf lk t.on = none) (hown : ∀ x ∈ h, lkOf lk (x : Int) = some (n : Int)) (r : Int × Int × Nat × List (Int × Int) × List Int) (hr : exS n ((progL L).drop a) a (lkN t n lk) told = r) :
    ∃ h', OT L r.2.2.1 (kdF r.1) (onF r.1 r.2.1) h' ∧ (r.2.2.2.2 = told ∨ r.2.2.2.2 = told ++ [0]) ∧ restN L r.2.2.1 (kdF r.1) < restN L a t.kd ∧
      (r.2.2.2.1 = lk ∧ h' = h ∨ (∃ x : Nat, h' = h ++ [x] ∧ x ∈ L ∧ t.kd = 1 ∧ t.on = (x : Int) ∧ r.2.2.2.1 = ((x : Int), (n : Int)) :: lk) ∨ (∃ x : Nat, h = h' ++ [x] ∧ r.2.2.2.1 = lkD lk (x : Int))) := by
  have k1 : kdF 1 = 1 := rfl
  have k4 : kdF 4 = 4 := rfl
  have k0 : kdF 0 = 0 := rfl
  have hm : ∀ j, j < L.length → L.getD j 0 ∈ L := fun j hj => by
    have : L[j]? = some (L.getD j 0) := by simp [hj]
    exact List.mem_of_getElem? this
  generalize hkd : t.kd = kd at o hd hfree
  generalize hon : t.on = on at o hfree
  cases o with
  | start =>
    have hlk : lkN t n lk = lk := by unfold lkN; rw [if_neg (by omega)]
    rw [hlk] at hr
    rcases Nat.eq_zero_or_pos L.length with e | e
    · have hL : L = [] := List.eq_nil_of_length_eq_zero e
      subst hL
      have : r = (4, 0, 0, lk, told) := by rw [← hr]; rfl
      subst this
      exact ⟨[], OT.done, .inl rfl, by simp [restN, k4], .inl ⟨rfl, rfl⟩⟩
    · rw [exS_at n (progL L) 0 lk told _ (progL_lock L 0 e)] at hr
      simp only [show ((-2 : Int) < 0) = True from by simp, if_true] at hr
      subst hr
      refine ⟨L.take 0, OT.wait 0 e, .inl rfl, ?_, .inl ⟨rfl, rfl⟩⟩
      show restN L 1 1 < restN L 0 0
      unfold restN
      rw [if_neg (by omega), if_neg (by omega)]; omega
  | wait j hj =>
    have hlk : lkN t n lk = (t.on, (n : Int)) :: lk := by unfold lkN; rw [if_pos hkd]
    rw [hlk, hon] at hr
    by_cases e : j + 1 < L.length
    · rw [exS_at n (progL L) (j + 1) _ told _ (progL_lock L (j + 1) e)] at hr
      simp only [show ((-2 : Int) < 0) = True from by simp, if_true] at hr
      subst hr
      refine ⟨L.take (j + 1), OT.wait (j + 1) e, .inl rfl, ?_, .inr (.inl ⟨L.getD j 0, take_last L j hj, hm j hj, rfl, rfl, rfl⟩)⟩
      show restN L (j + 1 + 1) 1 < restN L (j + 1) 1
      unfold restN
      rw [if_neg (by omega), if_neg (by omega)]; omega
    · have ej : j + 1 = L.length := by omega
      obtain ⟨p1, p2⟩ := progL_un L 0 (by omega)
      have hfr := hfree rfl
      rw [show L.length + 2 * 0 = j + 1 by omega, show L.length - 1 - 0 = j by omega] at p1
      rw [show L.length + 2 * 0 + 1 = j + 1 + 1 by omega] at p2
      rw [exS_at n (progL L) (j + 1) _ told _ p1] at hr
      simp only [show ((0 : Int) < 0) = False from by simp, if_false] at hr
      have hu1 : unR ((((L.getD j 0 : Nat) : Int), (n : Int)) :: lk) n ((L.getD j 0 : Nat) : Int) = 0 := by unfold unR; rw [if_pos (lkOf_cons _ _ _)]
      have hu2 : unL ((((L.getD j 0 : Nat) : Int), (n : Int)) :: lk) n ((L.getD j 0 : Nat) : Int) = lk := by unfold unL; rw [if_pos (lkOf_cons _ _ _), lkD_cons hfr]
      rw [hu1, hu2, exS_at n (progL L) (j + 1 + 1) _ _ _ p2] at hr
      simp only [show ((-1 : Int) < 0) = True from by simp, if_true] at hr
      subst hr
      have hf := OT.free (L := L) 0 (by omega)
      rw [show L.length + 2 * (0 + 1) = j + 1 + 1 + 1 by omega, show L.length - (0 + 1) = j by omega] at hf
      refine ⟨L.take j, hf, .inr rfl, ?_, .inl ⟨rfl, rfl⟩⟩
      show restN L (j + 1 + 1 + 1) 0 < restN L (j + 1) 1
      unfold restN
      rw [if_neg (by omega), if_neg (by omega)]; omega
  | free q hq =>
    have hlk : lkN t n lk = lk := by unfold lkN; rw [if_neg (by omega)]
    rw [hlk] at hr
    by_cases e : q + 1 < L.length
    · obtain ⟨p1, p2⟩ := progL_un L (q + 1) e
      obtain ⟨x, hx⟩ : ∃ x, L.getD (L.length - 1 - (q + 1)) 0 = x := ⟨_, rfl⟩
      rw [hx] at p1
      have htl := take_last L (L.length - (q + 2)) (by omega)
      rw [show L.length - (q + 2) + 1 = L.length - (q + 1) by omega, show L.length - (q + 2) = L.length - 1 - (q + 1) by omega, hx] at htl
      have how := hown x (by rw [htl]; simp)
      rw [exS_at n (progL L) _ lk told _ p1] at hr
      simp only [show ((0 : Int) < 0) = False from by simp, if_false] at hr
      have hu1 : unR lk n (x : Int) = 0 := by unfold unR; rw [if_pos how]
      have hu2 : unL lk n (x : Int) = lkD lk x := by unfold unL; rw [if_pos how]
      rw [hu1, hu2, exS_at n (progL L) _ _ _ _ p2] at hr
      simp only [show ((-1 : Int) < 0) = True from by simp, if_true] at hr
      subst hr
      have hf := OT.free (L := L) (q + 1) e
      rw [show L.length + 2 * (q + 1 + 1) = L.length + 2 * (q + 1) + 1 + 1 by omega, show L.length - (q + 1 + 1) = L.length - 1 - (q + 1) by omega] at hf
      refine ⟨_, hf, .inr rfl, ?_, .inr (.inr ⟨x, htl, rfl⟩)⟩
      show restN L (L.length + 2 * (q + 1) + 1 + 1) 0 < restN L (L.length + 2 * (q + 1)) 0
      unfold restN
      rw [if_neg (by omega), if_neg (by omega)]; omega
    · have eq : q + 1 = L.length := by omega
      have ha : L.length + 2 * (q + 1) = 3 * L.length := by omega
      rw [ha, List.drop_of_length_le (by rw [progL_len]; omega)] at hr
      have : r = (4, 0, 3 * L.length, lk, told) := by rw [← hr]; rfl
      subst this
      refine ⟨[], OT.done, .inl rfl, ?_, .inl ⟨rfl, by rw [show L.length - (q + 1) = 0 by omega]; rfl⟩⟩
      show restN L (3 * L.length) 4 < restN L (L.length + 2 * (q + 1)) 0
      unfold restN
      rw [if_pos rfl, if_neg (by omega)]; omega
  | done => exact absurd rfl hd
theorem mayB_0 {s : SS} {t : Tk} (h : t.kd = 0) : mayB s t = true := by unfold mayB; rw [if_pos h]
def sumN : List Nat → Nat
  | [] => 0
  | x :: l => x + sumN l
theorem sumN_set : ∀ (l : List Nat) (i : Nat) (x y : Nat), l[i]? = some x → sumN (l.set i y) + x = sumN l + y
  | [], i, x, y, h => by simp at h
  | a :: l, 0, x, y, h => by
    simp only [List.getElem?_cons_zero, Option.some.injEq] at h
    subst h
    simp only [List.set_cons_zero, sumN]; omega
  | a :: l, i + 1, x, y, h => by
    simp only [List.getElem?_cons_succ] at h
    simp only [List.set_cons_succ, sumN]
    have := sumN_set l i x y h; omega
/-- all tasks, their places, what they hold, and how much is left. -/
structure OI (Ls : List (List Nat)) (s : SS) (ats : List Nat) (hs : List (List Nat)) (rs : List Nat) (told : List Int) : Prop where
  lt : s.ts.length = Ls.length
  la : ats.length = Ls.length
  lh : hs.length = Ls.length
  lr : rs.length = Ls.length
  ok : ∀ (i : Nat) (t : Tk) (L : List Nat) (a : Nat) (h : List Nat) (r : Nat), s.ts[i]? = some t → Ls[i]? = some L → ats[i]? = some a → hs[i]? = some h → rs[i]? = some r → OT L a t.kd t.on h ∧ r = restN L a t.kd
  lk : ∀ (x i : Nat), ((x : Int), (i : Int)) ∈ s.lk ↔ ∃ h, hs[i]? = some h ∧ x ∈ h
  asc : ∀ L ∈ Ls, L.Pairwise (· < ·) ∧ ∀ x ∈ L, x < 8
  st : ∀ t ∈ s.ts, 0 ≤ t.si ∧ t.si ≤ s.steps
  s0 : 0 ≤ s.steps
  lf : ∀ p ∈ s.lk, ∃ x i : Nat, p = ((x : Int), (i : Int))
  told : ∀ x ∈ told, x = 0
theorem OI.at' {Ls : List (List Nat)} {s : SS} {ats : List Nat} {hs : List (List Nat)} {rs : List Nat} {told : List Int} (o : OI Ls s ats hs rs told) {i : Nat} (hi : i < Ls.length) :
    ∃ t L a h r, s.ts[i]? = some t ∧ Ls[i]? = some L ∧ ats[i]? = some a ∧ hs[i]? = some h ∧ rs[i]? = some r ∧ OT L a t.kd t.on h ∧ r = restN L a t.kd := by
  have h1 : s.ts[i]? = some (s.ts[i]'(by rw [o.lt]; exact hi)) := List.getElem?_eq_getElem _
  have h2 : Ls[i]? = some Ls[i] := List.getElem?_eq_getElem _
  have h3 : ats[i]? = some (ats[i]'(by rw [o.la]; exact hi)) := List.getElem?_eq_getElem _
  have h4 : hs[i]? = some (hs[i]'(by rw [o.lh]; exact hi)) := List.getElem?_eq_getElem _
  have h5 : rs[i]? = some (rs[i]'(by rw [o.lr]; exact hi)) := List.getElem?_eq_getElem _
  exact ⟨_, _, _, _, _, h1, h2, h3, h4, h5, o.ok i _ _ _ _ _ h1 h2 h3 h4 h5⟩
/-- who is alive and may not go waits for what another holds, who waits for more. -/
theorem OI.live {Ls : List (List Nat)} {s : SS} {ats : List Nat} {hs : List (List Nat)} {rs : List Nat} {told : List Int} (o : OI Ls s ats hs rs told) (hnd : (s.lk.map (·.1)).Nodup) (hen : thoseI (mayB s) s.ts = []) : thoseI aliveB s.ts = [] := by
  have hno : ∀ (i : Nat) (t : Tk), s.ts[i]? = some t → mayB s t = false := by
    intro i t ht
    cases hm : mayB s t with
    | false => rfl
    | true =>
      have : (i : Int) ∈ thoseI (mayB s) s.ts := by
        unfold thoseI
        exact List.mem_map.2 ⟨i, List.mem_filter.2 ⟨List.mem_range.2 (List.getElem?_eq_some_iff.1 ht).1, by rw [ht]; exact hm⟩, rfl⟩
      rw [hen] at this
      cases this
  have key : ∀ (d : Nat) (i : Nat) (t : Tk), s.ts[i]? = some t → t.kd ≠ 4 → (8 : Int) - d ≤ t.on → False := by
    intro d
    induction d with
    | zero =>
      intro i t ht hk hon
      have hi : i < Ls.length := by rw [← o.lt]; exact (List.getElem?_eq_some_iff.1 ht).1
      obtain ⟨t', L, a, h, r, h1, h2, -, -, -, hot, -⟩ := o.at' hi
      rw [ht] at h1
      injection h1 with h1
      subst h1
      have hmay := hno i t ht
      generalize hkd : t.kd = kd at hot hk
      generalize hone : t.on = on at hot hon
      cases hot with
      | start => rw [mayB_0 hkd] at hmay; cases hmay
      | free => rw [mayB_0 hkd] at hmay; cases hmay
      | done => exact hk rfl
      | wait j hj =>
        have := (o.asc L (List.mem_of_getElem? h2)).2 (L.getD j 0) (List.mem_of_getElem? (show L[j]? = some (L.getD j 0) by simp [hj]))
        omega
    | succ d ih =>
      intro i t ht hk hon
      have hi : i < Ls.length := by rw [← o.lt]; exact (List.getElem?_eq_some_iff.1 ht).1
      obtain ⟨t', L, a, h, r, h1, h2, -, -, -, hot, -⟩ := o.at' hi
      rw [ht] at h1
      injection h1 with h1
      subst h1
      have hmay := hno i t ht
      generalize hkd : t.kd = kd at hot hk
      generalize hone : t.on = on at hot hon
      cases hot with
      | start => rw [mayB_0 hkd] at hmay; cases hmay
      | free => rw [mayB_0 hkd] at hmay; cases hmay
      | done => exact hk rfl
      | wait j hj =>
        have hheld : ∃ y, lkOf s.lk t.on = some y := by
          cases hc : lkOf s.lk t.on with
          | some y => exact ⟨y, rfl⟩
          | none =>
            unfold mayB at hmay
            rw [if_neg (by omega), if_pos hkd, hc] at hmay
            cases hmay
        obtain ⟨y, hy⟩ := hheld
        have hmem := lkOf_some hy
        obtain ⟨x, k, hxk⟩ := o.lf _ hmem
        injection hxk with hx1 hx2
        rw [hx1, hx2] at hmem
        obtain ⟨hh, hk1, hxh⟩ := (o.lk x k).1 hmem
        have hkl : k < Ls.length := by rw [← o.lh]; exact (List.getElem?_eq_some_iff.1 hk1).1
        obtain ⟨t2, L2, a2, h2', r2, g1, g2, -, g4, -, hot2, -⟩ := o.at' hkl
        rw [hk1] at g4
        injection g4 with g4
        subst g4
        have hmay2 := hno k t2 g1
        have hasc2 := (o.asc L2 (List.mem_of_getElem? g2)).1
        generalize hkd2 : t2.kd = kd2 at hot2
        generalize hone2 : t2.on = on2 at hot2
        cases hot2 with
        | start => cases hxh
        | free => rw [mayB_0 hkd2] at hmay2; cases hmay2
        | done => cases hxh
        | wait j2 hj2 =>
          have hlt : x < L2.getD j2 0 := by
            obtain ⟨q, hq⟩ := List.mem_iff_getElem?.1 hxh
            have hql := (List.getElem?_eq_some_iff.1 hq).1
            rw [List.length_take] at hql
            have hq2 : L2[q]? = some x := by rw [List.getElem?_take, if_pos (by omega)] at hq; exact hq
            have := List.pairwise_iff_getElem.1 hasc2 q j2 (by omega) hj2 (by omega)
            have e1 : L2[q]'(by omega) = x := (List.getElem?_eq_some_iff.1 hq2).2
            rw [e1] at this
            simpa [hj2] using this
          exact ih k t2 g1 (by omega) (by rw [hone2]; omega)
  have hall : ∀ (i : Nat) (t : Tk), s.ts[i]? = some t → t.kd = 4 := by
    intro i t ht
    by_cases e : t.kd = 4
    · exact e
    · exfalso
      have hi : i < Ls.length := by rw [← o.lt]; exact (List.getElem?_eq_some_iff.1 ht).1
      obtain ⟨t', L, a, h, r, h1, h2, -, -, -, hot, -⟩ := o.at' hi
      rw [ht] at h1
      injection h1 with h1
      subst h1
      have hmay := hno i t ht
      have hon : 0 ≤ t.on := by
        generalize hkd : t.kd = kd at hot e
        generalize hone : t.on = on at hot
        cases hot with
        | start => rw [mayB_0 hkd] at hmay; cases hmay
        | free => rw [mayB_0 hkd] at hmay; cases hmay
        | done => exact absurd rfl e
        | wait j hj => omega
      exact key 8 i t ht e (by omega)
  unfold thoseI
  rw [List.map_eq_nil_iff, List.filter_eq_nil_iff]
  intro i hi
  have hil := List.mem_range.1 hi
  have ht : s.ts[i]? = some s.ts[i] := List.getElem?_eq_getElem hil
  rw [ht]
  have := hall i _ ht
  simp [aliveB, this]
theorem OT.nodup {L : List Nat} {a : Nat} {kd on : Int} {h : List Nat} (o : OT L a kd on h) (hasc : L.Pairwise (· < ·)) : h.Nodup := by
  have hL : L.Nodup := List.Pairwise.imp (fun {a b} (h : a < b) => Nat.ne_of_lt h) hasc
  cases o with
  | start => exact List.nodup_nil
  | done => exact List.nodup_nil
  | wait j hj => exact List.Pairwise.sublist (List.take_sublist _ _) hL
  | free q hq => exact List.Pairwise.sublist (List.take_sublist _ _) hL
theorem OI.pick {Ls : List (List Nat)} {s : SS} {ats : List Nat} {hs : List (List Nat)} {rs : List Nat} {told : List Int} (o : OI Ls s ats hs rs told) (hnd : (s.lk.map (·.1)).Nodup) {n a : Nat} {t : Tk} {L : List Nat} (ht : s.ts[n]? = some t) (hL : Ls[n]? = some L) (ha : ats[n]? = some a) (hm : mayB s t = true)
    (r : Int × Int × Nat × List (Int × Int) × List Int) (hr : exS n ((progL L).drop a) a (lkN t n s.lk) told = r) :
    ∃ hs' rs', OI Ls (pickS s n t r) (ats.set n r.2.2.1) hs' rs' r.2.2.2.2 ∧ sumN rs' < sumN rs ∧ (pickS s n t r).lk.length ≤ s.lk.length + 1 ∧ r.2.2.2.2.length ≤ told.length + 1 := by
  have hi : n < Ls.length := (List.getElem?_eq_some_iff.1 hL).1
  obtain ⟨t', L', a', h, rr, g1, g2, g3, g4, g5, hot, hrr⟩ := o.at' hi
  rw [ht] at g1; injection g1 with g1; subst g1
  rw [hL] at g2; injection g2 with g2; subst g2
  rw [ha] at g3; injection g3 with g3; subst g3
  have hasc := o.asc L (List.mem_of_getElem? hL)
  have hd4 : t.kd ≠ 4 := fun e => by
    unfold mayB at hm
    rw [if_neg (by omega), if_neg (by omega), if_neg (by omega)] at hm
    cases hm
  have hfree : t.kd = 1 → lkOf s.lk t.on = none := fun e => by
    unfold mayB at hm
    rw [if_neg (by omega), if_pos e] at hm
    simpa using hm
  have hown : ∀ x ∈ h, lkOf s.lk (x : Int) = some (n : Int) := fun x hx => (lk_some hnd).2 ((o.lk x n).2 ⟨h, g4, hx⟩)
  obtain ⟨h', hot', htold, hrest, hlk⟩ := hot.step hd4 hfree hown r hr
  have hnt : n < s.ts.length := by rw [o.lt]; exact hi
  have hna : n < ats.length := by rw [o.la]; exact hi
  have hnh : n < hs.length := by rw [o.lh]; exact hi
  have hnr : n < rs.length := by rw [o.lr]; exact hi
  refine ⟨hs.set n h', rs.set n (restN L r.2.2.1 (kdF r.1)), ⟨by simp [pickS, o.lt], by simp [o.la], by simp [o.lh], by simp [o.lr], ?_, ?_, o.asc, ?_, ?_, ?_, ?_⟩, ?_, ?_, ?_⟩
  · intro i ti Li ai hi2 ri e1 e2 e3 e4 e5
    simp only [pickS] at e1
    by_cases e : n = i
    · subst e
      rw [List.getElem?_set_self hnt] at e1
      rw [List.getElem?_set_self hna] at e3
      rw [List.getElem?_set_self hnh] at e4
      rw [List.getElem?_set_self hnr] at e5
      rw [hL] at e2
      injection e1 with e1
      injection e2 with e2
      injection e3 with e3
      injection e4 with e4
      injection e5 with e5
      subst e1 e2 e3 e4 e5
      exact ⟨hot', rfl⟩
    · rw [List.getElem?_set_ne e] at e1 e3 e4 e5
      exact o.ok i ti Li ai hi2 ri e1 e2 e3 e4 e5
  · intro x i
    show ((x : Int), (i : Int)) ∈ r.2.2.2.1 ↔ _
    rcases hlk with ⟨hl, he⟩ | ⟨y, he, hyL, hk1, hon, hl⟩ | ⟨y, he, hl⟩
    · rw [hl, he, o.lk x i]
      have : hs.set n h = hs := by
        refine List.ext_getElem? (fun j => ?_)
        by_cases e : n = j
        · subst e; rw [List.getElem?_set_self hnh, g4]
        · rw [List.getElem?_set_ne e]
      rw [this]
    · rw [hl, List.mem_cons, o.lk x i]
      by_cases e : n = i
      · subst e
        rw [List.getElem?_set_self hnh, g4]
        constructor
        · rintro (h1 | ⟨hh, h1, h2⟩)
          · injection h1 with h1 _
            exact ⟨h', rfl, by rw [he]; exact List.mem_append.2 (.inr (by simp; omega))⟩
          · injection h1 with h1
            subst h1
            exact ⟨h', rfl, by rw [he]; exact List.mem_append.2 (.inl h2)⟩
        · rintro ⟨hh, h1, h2⟩
          injection h1 with h1
          subst h1
          rw [he] at h2
          rcases List.mem_append.1 h2 with h2 | h2
          · exact .inr ⟨h, rfl, h2⟩
          · simp at h2; subst h2; exact .inl rfl
      · rw [List.getElem?_set_ne e]
        constructor
        · rintro (h1 | h1)
          · injection h1 with _ h1; omega
          · exact h1
        · exact fun h1 => .inr h1
    · have hyn : (( y : Int), (n : Int)) ∈ s.lk := (o.lk y n).2 ⟨h, g4, by rw [he]; simp⟩
      have hxu : ∀ j : Nat, ((y : Int), (j : Int)) ∈ s.lk → j = n := fun j hj => by
        have h1 := (lk_some hnd).2 hj
        have h2 := (lk_some hnd).2 hyn
        rw [h1] at h2
        have := Option.some.inj h2
        omega
      have hyh : y ∉ h' := by
        have := hot.nodup hasc.1
        rw [he] at this
        exact fun hm => (List.nodup_append.1 this).2.2 y hm y (by simp) rfl
      rw [hl]
      unfold lkD
      rw [List.mem_filter, o.lk x i]
      by_cases e : n = i
      · subst e
        rw [List.getElem?_set_self hnh, g4]
        constructor
        · rintro ⟨⟨hh, h1, h2⟩, h3⟩
          injection h1 with h1
          subst h1
          rw [he] at h2
          rcases List.mem_append.1 h2 with h2 | h2
          · exact ⟨h', rfl, h2⟩
          · simp at h2; subst h2; simp at h3
        · rintro ⟨hh, h1, h2⟩
          injection h1 with h1
          subst h1
          refine ⟨⟨h, rfl, by rw [he]; exact List.mem_append.2 (.inl h2)⟩, ?_⟩
          have : x ≠ y := fun e => hyh (e ▸ h2)
          simp; omega
      · rw [List.getElem?_set_ne e]
        constructor
        · rintro ⟨h1, -⟩; exact h1
        · intro h1
          refine ⟨h1, ?_⟩
          have : x ≠ y := fun e2 => by
            subst e2
            exact e (hxu i ((o.lk x i).2 h1)).symm
          simp; omega
  · intro t2 h2
    simp only [pickS] at h2 ⊢
    rcases List.mem_or_eq_of_mem_set h2 with h2 | rfl
    · have := o.st t2 h2; omega
    · have := o.s0; simp only; omega
  · have := o.s0
    simp only [pickS]; omega
  · intro p hp
    replace hp : p ∈ r.2.2.2.1 := hp
    rcases hlk with ⟨hl, he⟩ | ⟨y, he, hyL, hk1, hon, hl⟩ | ⟨y, he, hl⟩
    · rw [hl] at hp; exact o.lf p hp
    · rw [hl] at hp
      rcases List.mem_cons.1 hp with hp | hp
      · exact ⟨y, n, hp⟩
      · exact o.lf p hp
    · rw [hl] at hp
      exact o.lf p (List.mem_filter.1 hp).1
  · intro x hx
    rcases htold with e | e
    · rw [e] at hx; exact o.told x hx
    · rw [e] at hx
      rcases List.mem_append.1 hx with hx | hx
      · exact o.told x hx
      · simpa using hx
  · have h1 := sumN_set rs n rr (restN L r.2.2.1 (kdF r.1)) g5
    omega
  · show r.2.2.2.1.length ≤ _
    rcases hlk with ⟨hl, he⟩ | ⟨y, he, hyL, hk1, hon, hl⟩ | ⟨y, he, hl⟩
    · rw [hl]; omega
    · rw [hl]; simp
    · rw [hl]
      have := List.length_filter_le (fun p : Int × Int => p.1 != (y : Int)) s.lk
      unfold lkD
      omega
  · rcases htold with e | e
    · rw [e]; omega
    · rw [e]; simp
/-- the tasks as they begin. -/
theorem OI.start {Ls : List (List Nat)} {s : SS} (hl : s.ts.length = Ls.length) (hn : newT s.ts) (hk : s.lk = []) (hs : s.steps = 0) (ha : ∀ L ∈ Ls, L.Pairwise (· < ·) ∧ ∀ x ∈ L, x < 8) :
    OI Ls s (List.replicate Ls.length 0) (List.replicate Ls.length []) (Ls.map (fun L => 3 * L.length + 1)) [] := by
  refine ⟨hl, by simp, by simp, by simp, ?_, ?_, ha, ?_, by omega, by rw [hk]; simp, by simp⟩
  · intro i t L a h r h1 h2 h3 h4 h5
    obtain ⟨k1, k2, -⟩ := hn t (List.mem_of_getElem? h1)
    rw [List.getElem?_map, h2] at h5
    injection h5 with h5
    have e3 := List.eq_of_mem_replicate (List.mem_of_getElem? h3)
    have e4 := List.eq_of_mem_replicate (List.mem_of_getElem? h4)
    subst e3 e4 h5
    rw [k1, k2]
    exact ⟨OT.start, rfl⟩
  · intro x i
    rw [hk]
    constructor
    · intro h; cases h
    · rintro ⟨h, h1, h2⟩
      have e4 := List.eq_of_mem_replicate (List.mem_of_getElem? h1)
      subst e4
      cases h2
  · intro t ht
    obtain ⟨-, -, k3, -⟩ := hn t ht
    omega
theorem OI.steady {Ls : List (List Nat)} {s : SS} {ats : List Nat} {hs : List (List Nat)} {rs : List Nat} {told : List Int} (o : OI Ls s ats hs rs told) (h : s.steps < 1000000) : Steady s := by
  refine ⟨o.s0, by omega, fun t ht => ?_⟩
  have h1 := o.st t ht
  refine ⟨?_, h1⟩
  obtain ⟨i, hi⟩ := List.mem_iff_getElem?.1 ht
  have hil : i < Ls.length := by rw [← o.lt]; exact (List.getElem?_eq_some_iff.1 hi).1
  obtain ⟨t', L, a, h, r, g1, g2, -, -, -, hot, -⟩ := o.at' hil
  rw [hi] at g1
  injection g1 with g1
  subst g1
  generalize hone : t.on = on at hot
  generalize hkd : t.kd = kd at hot
  cases hot with
  | start => exact ⟨by simp, by simp⟩
  | free => exact ⟨by simp, by simp⟩
  | done => exact ⟨by simp, by simp⟩
  | wait j hj =>
    have := (o.asc L (List.mem_of_getElem? g2)).2 (L.getD j 0) (List.mem_of_getElem? (show L[j]? = some (L.getD j 0) by simp [hj]))
    exact ⟨by omega, by omega⟩
theorem OI.kd3 {Ls : List (List Nat)} {s : SS} {ats : List Nat} {hs : List (List Nat)} {rs : List Nat} {told : List Int} (o : OI Ls s ats hs rs told) : ∀ t ∈ s.ts, t.kd ≠ 3 := by
  intro t ht
  obtain ⟨i, hi⟩ := List.mem_iff_getElem?.1 ht
  have hil : i < Ls.length := by rw [← o.lt]; exact (List.getElem?_eq_some_iff.1 hi).1
  obtain ⟨t', L, a, h, r, g1, g2, -, -, -, hot, -⟩ := o.at' hil
  rw [hi] at g1
  injection g1 with g1
  subst g1
  generalize hone : t.on = on at hot
  generalize hkd : t.kd = kd at hot
  cases hot <;> omega
end Go.Proofs.Ytcdhmjapeapicaa
