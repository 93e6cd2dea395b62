/- The model of a task's step, whatever it does: who waits, who is woken, what is told. Plain: no run in it. -/
import Derived.RangeFuncNested
import Derived.RangeFuncBound
import Derived.RangeFuncCalls
import Derived.RangeFuncLeaves
import Derived.Shelf.Abstract
import Derived.Shelf.RegionOpen
import Derived.WalkKit
import Derived.OwnWalkIn
import Derived.TacticsInMore
import Derived.LoopNIn
import Derived.LoopIn
import Derived.Lib.Hide
import Derived.Outline
import Derived.RegionTactic
import Derived.BigRegion
import Derived.WalkLawsBesides
import Derived.WalkSpells
import Derived.Deep.QuietTactic
import Derived.BigQuiet
import Derived.Deep.RegionHeld3
import Derived.Deep.DeepCutAuto
import Derived.Deep.CutBlock
import Derived.StillTailTactics
import Derived.WalkSmall
import Derived.Test.YtcdhmjapeapicaaProg
import Derived.Test.YtcdhmjapeapicaaSchR
namespace Go.Proofs.Ytcdhmjapeapicaa
open Go.RowKit Go.Sed Go.Maps
set_option maxHeartbeats 1000000
theorem mod_get {α : Type} (l : List α) (n j : Nat) (f : α → α) : (l.modify n f)[j]? = (l[j]?).map (fun a => if n = j then f a else a) := by
  rw [List.getElem?_modify]; rfl
def waitB (o : Int) (t : Tk) : Bool := t.kd == 2 && t.on == o
def odAt (ts : List Tk) (i : Nat) : Int := ((ts[i]?).map Tk.od).getD 0
def waitN (o : Int) (ts : List Tk) : List Nat := (List.range ts.length).filter (fun i => (ts[i]?).any (waitB o))
/-- who waits for something, in the order in which they began to. -/
def waitI (o : Int) (ts : List Tk) : List Nat := (waitN o ts).mergeSort (fun x y => !decide (odAt ts y - odAt ts x < 0))
theorem thoseI_wait (o : Int) (ts : List Tk) : thoseI (waitB o) ts = (waitN o ts).map (fun (i : Nat) => (i : Int)) := rfl
theorem waitN_mem {o : Int} {ts : List Tk} {i : Nat} : i ∈ waitN o ts ↔ ∃ t, ts[i]? = some t ∧ waitB o t = true := by
  unfold waitN
  rw [List.mem_filter, List.mem_range]
  constructor
  · rintro ⟨h1, h2⟩
    obtain ⟨t, ht⟩ : ∃ t, ts[i]? = some t := ⟨_, List.getElem?_eq_getElem h1⟩
    exact ⟨t, ht, by rw [ht] at h2; exact h2⟩
  · rintro ⟨t, ht, hw⟩
    exact ⟨(List.getElem?_eq_some_iff.1 ht).1, by rw [ht]; exact hw⟩
theorem waitI_perm (o : Int) (ts : List Tk) : (waitI o ts).Perm (waitN o ts) := List.mergeSort_perm _ _
theorem waitI_mem {o : Int} {ts : List Tk} {i : Nat} : i ∈ waitI o ts ↔ ∃ t, ts[i]? = some t ∧ waitB o t = true := (waitI_perm o ts).mem_iff.trans waitN_mem
theorem waitN_len (o : Int) (ts : List Tk) : (waitN o ts).length ≤ ts.length := by
  unfold waitN
  exact Nat.le_trans (List.length_filter_le _ _) (Nat.le_of_eq List.length_range)
theorem waitI_len (o : Int) (ts : List Tk) : (waitI o ts).length ≤ ts.length := by rw [(waitI_perm o ts).length_eq]; exact waitN_len o ts
def go0 (t : Tk) : Tk := { t with kd := 0, on := 0 }
def wake (ts : List Tk) (i : Nat) : List Tk := ts.modify i go0
def wakeAll (ts : List Tk) (l : List Nat) : List Tk := l.foldl wake ts
theorem wake_len (ts : List Tk) (i : Nat) : (wake ts i).length = ts.length := List.length_modify _ _ _
theorem wake_st (ts : List Tk) (i : Nat) : (wake ts i).map Tk.st = ts.map Tk.st := by
  refine List.ext_getElem? (fun j => ?_)
  rw [List.getElem?_map, List.getElem?_map]
  unfold wake
  rw [mod_get]
  cases ts[j]? with
  | none => rfl
  | some t => simp only [Option.map_some]; split <;> rfl
theorem wakeAll_len (l : List Nat) : ∀ ts : List Tk, (wakeAll ts l).length = ts.length := by
  induction l with
  | nil => exact fun _ => rfl
  | cons i l ih => exact fun ts => (ih _).trans (wake_len ts i)
theorem wakeAll_st (l : List Nat) : ∀ ts : List Tk, (wakeAll ts l).map Tk.st = ts.map Tk.st := by
  induction l with
  | nil => exact fun _ => rfl
  | cons i l ih => exact fun ts => (ih _).trans (wake_st ts i)
/-- tasks as they stand: what they wish for, since when, in which order. -/
structure TI (st wi : Int) (ts : List Tk) : Prop where
  ok : ∀ t ∈ ts, InI t.on ∧ (0 ≤ t.si ∧ t.si ≤ st) ∧ 0 ≤ t.od ∧ t.od ≤ wi
  un : ∀ (i j : Nat) (t u : Tk), ts[i]? = some t → ts[j]? = some u → t.kd = 2 → u.kd = 2 → t.od = u.od → i = j
theorem inI0 : InI 0 := by unfold InI; omega
theorem TI.wake {st wi : Int} {ts : List Tk} (h : TI st wi ts) (i : Nat) : TI st wi (wake ts i) := by
  have hg : ∀ (j : Nat) (t : Tk), (Go.Proofs.Ytcdhmjapeapicaa.wake ts i)[j]? = some t → ∃ u, ts[j]? = some u ∧ (t = u ∨ t = go0 u) := by
    intro j t hj
    unfold Go.Proofs.Ytcdhmjapeapicaa.wake at hj
    rw [mod_get] at hj
    cases hu : ts[j]? with
    | none => rw [hu] at hj; cases hj
    | some u =>
      rw [hu] at hj
      simp only [Option.map_some, Option.some.injEq] at hj
      refine ⟨u, rfl, ?_⟩
      split at hj
      · exact .inr hj.symm
      · exact .inl hj.symm
  refine ⟨fun t ht => ?_, fun j k t u ht hu k1 k2 he => ?_⟩
  · obtain ⟨j, hj⟩ := List.mem_iff_getElem?.1 ht
    obtain ⟨u, hu, e | e⟩ := hg j t hj
    · subst e; exact h.ok t (List.mem_of_getElem? hu)
    · subst e
      have := h.ok u (List.mem_of_getElem? hu)
      exact ⟨inI0, this.2.1, this.2.2⟩
  · obtain ⟨t', ht', e | e⟩ := hg j t ht
    · obtain ⟨u', hu', e2 | e2⟩ := hg k u hu
      · subst e e2; exact h.un j k t u ht' hu' k1 k2 he
      · subst e2; simp [go0] at k2
    · subst e; simp [go0] at k1
theorem TI.wakeAll {st wi : Int} (l : List Nat) : ∀ {ts : List Tk}, TI st wi ts → TI st wi (wakeAll ts l) := by
  induction l with
  | nil => exact fun h => h
  | cons i l ih => exact fun h => ih (h.wake i)
/-- a task goes on: it wishes nothing more. -/
theorem TI.set0 {st wi : Int} {ts : List Tk} (h : TI st wi ts) {n : Nat} {t : Tk} (ht : ts[n]? = some t) : TI st wi (ts.set n { t with kd := 0, on := 0 }) := by
  have : ts.set n { t with kd := 0, on := 0 } = Go.Proofs.Ytcdhmjapeapicaa.wake ts n := by
    refine List.ext_getElem? (fun j => ?_)
    unfold Go.Proofs.Ytcdhmjapeapicaa.wake
    rw [mod_get]
    by_cases e : n = j
    · subst e
      rw [List.getElem?_set_self (List.getElem?_eq_some_iff.1 ht).1, ht, Option.map_some, if_pos rfl]; rfl
    · rw [List.getElem?_set_ne e]
      cases ts[j]? with
      | none => rfl
      | some u => rw [Option.map_some, if_neg e]
  rw [this]
  exact h.wake n
theorem TI.more {st wi st' wi' : Int} {ts : List Tk} (h : TI st wi ts) (h1 : st ≤ st') (h2 : wi ≤ wi') : TI st' wi' ts :=
  ⟨fun t ht => by have := h.ok t ht; exact ⟨this.1, ⟨this.2.1.1, by omega⟩, this.2.2.1, by omega⟩, h.un⟩
/-- a task wishes, as the last one. -/
theorem TI.wish {st wi : Int} {ts : List Tk} (h : TI st wi ts) (h0 : 0 ≤ st) (h1 : 0 ≤ wi) {n : Nat} (k o : Int) (fl : Tk → Bool) (ho : InI o) : TI (st + 1) (wi + 1) (ts.modify n (fun u => { u with kd := k, on := o, si := st + 1, od := wi + 1, fl := fl u })) := by
  have hg : ∀ (j : Nat) (t : Tk), (ts.modify n (fun u => { u with kd := k, on := o, si := st + 1, od := wi + 1, fl := fl u }))[j]? = some t → ∃ u, ts[j]? = some u ∧ (n ≠ j ∧ t = u ∨ n = j ∧ t = { u with kd := k, on := o, si := st + 1, od := wi + 1, fl := fl u }) := by
    intro j t hj
    rw [mod_get] at hj
    cases hu : ts[j]? with
    | none => rw [hu] at hj; cases hj
    | some u =>
      rw [hu] at hj
      simp only [Option.map_some, Option.some.injEq] at hj
      refine ⟨u, rfl, ?_⟩
      split at hj
      · exact .inr ⟨by assumption, hj.symm⟩
      · exact .inl ⟨by assumption, hj.symm⟩
  refine ⟨fun t ht => ?_, fun j m t u ht hu k1 k2 he => ?_⟩
  · obtain ⟨j, hj⟩ := List.mem_iff_getElem?.1 ht
    obtain ⟨u, hu, ⟨_, e⟩ | ⟨_, e⟩⟩ := hg j t hj
    · subst e
      have := h.ok t (List.mem_of_getElem? hu)
      exact ⟨this.1, ⟨this.2.1.1, by omega⟩, this.2.2.1, by omega⟩
    · subst e
      exact ⟨ho, ⟨by simp only; omega, by simp only; omega⟩, by simp only; omega, by simp only; omega⟩
  · obtain ⟨t', ht', ⟨e0, e⟩ | ⟨e0, e⟩⟩ := hg j t ht
    · obtain ⟨u', hu', ⟨f0, f⟩ | ⟨f0, f⟩⟩ := hg m u hu
      · subst e f; exact h.un j m t u ht' hu' k1 k2 he
      · subst e f
        have := h.ok t (List.mem_of_getElem? ht')
        simp only at he
        omega
    · obtain ⟨u', hu', ⟨f0, f⟩ | ⟨f0, f⟩⟩ := hg m u hu
      · subst e f
        have := h.ok u (List.mem_of_getElem? hu')
        simp only at he
        omega
      · exact e0.symm.trans f0
/-- what a step leaves. -/
structure ER where
  res : Option (Int × Int)
  a : Nat
  ts : List Tk
  lk : List (Int × Int)
  told : List Int
def sigT (o : Int) (ts : List Tk) : List Tk := match waitI o ts with | [] => ts | i :: _ => wake ts i
def sigR (o : Int) (ts : List Tk) : Int := match waitI o ts with | [] => -1 | i :: _ => (i : Int)
def exG (n : Nat) : List (Int × Int) → Nat → List Tk → List (Int × Int) → List Int → ER
  | [], a, ts, lk, told => ⟨some (4, 0), a, ts, lk, told⟩
  | d :: r, a, ts, lk, told =>
    if d.1 < 0 then ⟨some (-(d.1 + 1), d.2), a + 1, ts, lk, told⟩
    else if d.1 = 0 then exG n r (a + 1) ts (unL lk n d.2) (told ++ [unR lk n d.2])
    else if d.1 = 1 then exG n r (a + 1) (sigT d.2 ts) lk (told ++ [sigR d.2 ts])
    else if d.1 = 2 then exG n r (a + 1) (wakeAll ts (waitI d.2 ts)) lk (told ++ [((waitI d.2 ts).length : Int)])
    else if d.1 = 3 then ⟨none, a + 1, ts, lk, told⟩
    else exG n r (a + 1) ts lk told
theorem exG_at (n : Nat) (l : List (Int × Int)) (a : Nat) (ts : List Tk) (lk : List (Int × Int)) (told : List Int) (d : Int × Int) (h : l[a]? = some d) :
    exG n (l.drop a) a ts lk told = if d.1 < 0 then ⟨some (-(d.1 + 1), d.2), a + 1, ts, lk, told⟩
    else if d.1 = 0 then exG n (l.drop (a + 1)) (a + 1) ts (unL lk n d.2) (told ++ [unR lk n d.2])
    else if d.1 = 1 then exG n (l.drop (a + 1)) (a + 1) (sigT d.2 ts) lk (told ++ [sigR d.2 ts])
    else if d.1 = 2 then exG n (l.drop (a + 1)) (a + 1) (wakeAll ts (waitI d.2 ts)) lk (told ++ [((waitI d.2 ts).length : Int)])
    else if d.1 = 3 then ⟨none, a + 1, ts, lk, told⟩
    else exG n (l.drop (a + 1)) (a + 1) ts lk told := by
  have hi := (List.getElem?_eq_some_iff.1 h).1
  have he : l[a] = d := (List.getElem?_eq_some_iff.1 h).2
  rw [List.drop_eq_getElem_cons hi, he]
  rfl
theorem sigT_len (o : Int) (ts : List Tk) : (sigT o ts).length = ts.length := by
  unfold sigT
  split
  · rfl
  · exact wake_len _ _
theorem sigT_st (o : Int) (ts : List Tk) : (sigT o ts).map Tk.st = ts.map Tk.st := by
  unfold sigT
  split
  · rfl
  · exact wake_st _ _
theorem TI.sig {st wi : Int} {ts : List Tk} (h : TI st wi ts) (o : Int) : TI st wi (sigT o ts) := by
  unfold sigT
  split
  · exact h
  · exact h.wake _
theorem unL_len (l : List (Int × Int)) (n : Nat) (o : Int) : (unL l n o).length ≤ l.length := by
  unfold unL
  split
  · exact List.length_filter_le _ _
  · exact Nat.le_refl _
/-- what a step keeps. -/
theorem exG_ok (n : Nat) : ∀ (r : List (Int × Int)) (a : Nat) (ts : List Tk) (lk : List (Int × Int)) (told : List Int),
    (exG n r a ts lk told).ts.length = ts.length ∧ (exG n r a ts lk told).ts.map Tk.st = ts.map Tk.st ∧ (exG n r a ts lk told).lk.length ≤ lk.length ∧ a ≤ (exG n r a ts lk told).a ∧ (exG n r a ts lk told).a ≤ a + r.length ∧ (exG n r a ts lk told).told.length + a ≤ told.length + (exG n r a ts lk told).a ∧ (∀ st wi, TI st wi ts → TI st wi (exG n r a ts lk told).ts) ∧ ∀ p, (exG n r a ts lk told).res = some p → p = (4, 0) ∨ ∃ d ∈ r, d.1 < 0 ∧ p = (-(d.1 + 1), d.2)
  | [], a, ts, lk, told => by
    refine ⟨rfl, rfl, Nat.le_refl _, Nat.le_refl _, by simp [exG], Nat.le_refl _, fun _ _ h => h, fun p h => ?_⟩
    simp only [exG, Option.some.injEq] at h
    exact .inl h.symm
  | d :: r, a, ts, lk, told => by
    have step : ∀ (ts' : List Tk) (lk' : List (Int × Int)) (told' : List Int), ts'.length = ts.length → ts'.map Tk.st = ts.map Tk.st → lk'.length ≤ lk.length → told'.length ≤ told.length + 1 → (∀ st wi, TI st wi ts → TI st wi ts') →
        (exG n r (a + 1) ts' lk' told').ts.length = ts.length ∧ (exG n r (a + 1) ts' lk' told').ts.map Tk.st = ts.map Tk.st ∧ (exG n r (a + 1) ts' lk' told').lk.length ≤ lk.length ∧ a ≤ (exG n r (a + 1) ts' lk' told').a ∧ (exG n r (a + 1) ts' lk' told').a ≤ a + (d :: r).length ∧ (exG n r (a + 1) ts' lk' told').told.length + a ≤ told.length + (exG n r (a + 1) ts' lk' told').a ∧ (∀ st wi, TI st wi ts → TI st wi (exG n r (a + 1) ts' lk' told').ts) ∧ ∀ p, (exG n r (a + 1) ts' lk' told').res = some p → p = (4, 0) ∨ ∃ e ∈ d :: r, e.1 < 0 ∧ p = (-(e.1 + 1), e.2) := by
      intro ts' lk' told' h1 h2 h3 h4 h5
      obtain ⟨i1, i2, i3, i4, i5, i6, i7, i8⟩ := exG_ok n r (a + 1) ts' lk' told'
      refine ⟨i1.trans h1, i2.trans h2, Nat.le_trans i3 h3, by omega, by rw [List.length_cons]; omega, by omega, fun st wi h => i7 st wi (h5 st wi h), fun p h => ?_⟩
      rcases i8 p h with e | ⟨e, he, h'⟩
      · exact .inl e
      · exact .inr ⟨e, List.mem_cons_of_mem _ he, h'⟩
    simp only [exG]
    split
    · exact ⟨rfl, rfl, Nat.le_refl _, Nat.le_succ _, by simp, by simp, fun _ _ h => h, fun p h => .inr ⟨d, by simp, by assumption, by simpa using h.symm⟩⟩
    · split
      · exact step _ _ _ rfl rfl (unL_len _ _ _) (by simp) (fun _ _ h => h)
      · split
        · exact step _ _ _ (sigT_len _ _) (sigT_st _ _) (Nat.le_refl _) (by simp) (fun _ _ h => h.sig _)
        · split
          · exact step _ _ _ (wakeAll_len _ _) (wakeAll_st _ _) (Nat.le_refl _) (by simp) (fun _ _ h => h.wakeAll _)
          · split
            · exact ⟨rfl, rfl, Nat.le_refl _, Nat.le_succ _, by simp, by simp, fun _ _ h => h, fun p h => by cases h⟩
            · exact step _ _ _ rfl rfl (Nat.le_refl _) (by simp) (fun _ _ h => h)
/-- a task behind its step. -/
def wishT (st wi : Int) (r : Option (Int × Int)) (u : Tk) : Tk :=
  match r with
  | some p => { u with kd := kdF p.1, on := onF p.1 p.2, si := st + 1, od := wi + 1 }
  | none => { u with kd := 4, on := 0, si := st + 1, od := wi + 1, fl := true }
/-- a scheduler behind a pick of task n. -/
def pickG (s : SS) (n : Nat) (r : ER) : SS :=
  { bs := s.bs, ts := r.ts.modify n (wishT s.steps s.wishes r.res), lk := if r.res.isSome then r.lk else r.lk.filter (fun p => p.2 != (n : Int)), steps := s.steps + 1, wishes := s.wishes + 1, within := false }
theorem inI_on {k o : Int} (h : InI o) : InI (onF k o) := by
  unfold onF
  split
  · exact h
  · exact inI0
theorem pickG_ti {s : SS} {n : Nat} {r : ER} (h : TI s.steps s.wishes r.ts) (h0 : 0 ≤ s.steps) (h1 : 0 ≤ s.wishes) (hr : ∀ p, r.res = some p → InI p.2) : TI (s.steps + 1) (s.wishes + 1) (pickG s n r).ts := by
  unfold pickG
  simp only
  cases hres : r.res with
  | none => exact h.wish h0 h1 4 0 (fun _ => true) inI0
  | some p => exact h.wish h0 h1 (kdF p.1) (onF p.1 p.2) Tk.fl (inI_on (hr p hres))
end Go.Proofs.Ytcdhmjapeapicaa
