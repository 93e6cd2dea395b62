/- The tasks of SchedTurns in memory; a pick of one. Conditions: what each theorem names. -/
import Derived.RangeFuncNested
import Derived.RangeFuncBound
import Derived.RangeFuncCalls
import Derived.RangeFuncLeaves
import Derived.Shelf.Abstract
import Derived.Shelf.RegionOpen
import Derived.WalkKit
import Derived.OwnWalkIn
import Derived.TacticsInMore
import Derived.LoopNIn
import Derived.LoopIn
import Derived.Lib.Hide
import Derived.Outline
import Derived.RegionTactic
import Derived.BigRegion
import Derived.WalkLawsBesides
import Derived.WalkSpells
import Derived.Deep.QuietTactic
import Derived.BigQuiet
import Derived.Deep.RegionHeld3
import Derived.Deep.DeepCutAuto
import Derived.Deep.CutBlock
import Derived.StillTailTactics
import Derived.WalkSmall
import Derived.Test.YtcdhmjapeapicaaProg
import Derived.Test.YtcdhmjapeapicaaFr
import Derived.Test.YtcdhmjapeapicaaMp
import Derived.Defers
import Derived.Recover
import Derived.Test.YtcdhmjapeapicaaSchI
import Derived.Test.YtcdhmjapeapicaaSchP
import Derived.Lib.SliceRun
namespace Go.Proofs.Ytcdhmjapeapicaa
open Go.RowKit Go.Sed Go.Maps
set_option maxHeartbeats 1000000
set_option maxRecDepth 100000
/-- tasks that only go on, and then end, in memory. -/
structure TW (W : World) (base b mb D g n : Nat) (v : Value) (s : SS) (es ds : List Int) : Prop where
  sh : SH W base b mb v s
  d : Bl W D (.cells #[.slice (some ⟨g, 0, none⟩) n n] 26 (0, 0))
  gg : Bl W g (.cells (ci .i64 ds) 3 (0, 0))
  dn : ¬ foot b mb v s D
  gn : ¬ foot b mb v s g
  dg : g ≠ D
  bd : base ≤ D
  bg : base ≤ g
  tk : ∀ (i : Nat) (t : Tk), s.ts[i]? = some t → ∃ I E, t.st = .func (.func 11) #[] #[.pointer (some ⟨D, 0, none⟩), .pointer (some ⟨I, 0, none⟩), .pointer (some ⟨E, 0, none⟩)] ∧
    Bl W I (.cells #[.int .i64 i] 3 (0, 0)) ∧ Bl W E (.cells #[.int .i64 (es.getD i 0)] 3 (0, 0)) ∧ ¬ foot b mb v s I ∧ ¬ foot b mb v s E ∧ g ≠ I ∧ g ≠ E ∧ t.kd = wk (es.getD i 0) (ds.getD i 0) ∧ t.on = 0 ∧ 0 ≤ t.si ∧ t.si ≤ s.steps
  lk : s.lk = []
  wi : s.within = false
  hs : 0 ≤ s.steps ∧ s.steps ≤ 1000000
  hw : 0 ≤ s.wishes ∧ s.wishes ≤ 1000000
  n64 : s.bs.length ≤ 64
theorem TW.keep {W W' : World} {base b mb D g n : Nat} {v : Value} {s : SS} {es ds : List Int} (h : TW W base b mb D g n v s es ds) (hB : Below W.heap.size W W') : TW W' base b mb D g n v s es ds :=
  { h with
    sh := h.sh.keep hB, d := h.d.keep hB, gg := h.gg.keep hB
    tk := fun i t ht => by
      obtain ⟨I, E, a1, a2, a3, a4⟩ := h.tk i t ht
      exact ⟨I, E, a1, a2.keep hB, a3.keep hB, a4⟩ }
theorem TW.steady {W : World} {base b mb D g n : Nat} {v : Value} {s : SS} {es ds : List Int} (h : TW W base b mb D g n v s es ds) : Steady s :=
  ⟨h.hs.1, by have := h.hs.2; omega, fun t ht => by
    obtain ⟨i, hi⟩ := List.mem_iff_getElem?.1 ht
    obtain ⟨I, E, -, -, -, -, -, -, -, -, a1, a2, a3⟩ := h.tk i t hi
    exact ⟨by rw [a1]; exact ⟨by omega, by omega⟩, a2, a3⟩⟩
theorem those_en {P : Tk → Bool} {ts : List Tk} {es ds : List Int} (hl : ts.length = es.length) (h : ∀ (i : Nat) (t : Tk), ts[i]? = some t → P t = decide (ds.getD i 0 ≤ es.getD i 0)) : thoseI P ts = (enL es ds).map (fun (i : Nat) => (i : Int)) := by
  unfold thoseI enL
  rw [hl]
  congr 1
  refine List.filter_congr (fun i hi => ?_)
  have hil : i < ts.length := by rw [hl]; exact List.mem_range.1 hi
  have : ts[i]? = some ts[i] := List.getElem?_eq_getElem hil
  rw [this]
  exact h i _ this
theorem mayB_0 {s : SS} {t : Tk} (h : t.kd = 0) : mayB s t = true := by unfold mayB; rw [if_pos h]
theorem mayB_4 {s : SS} {t : Tk} (h : t.kd = 4) : mayB s t = false := by unfold mayB; rw [if_neg (by omega), if_neg (by omega), if_neg (by omega)]
theorem TW.may {W : World} {base b mb D g n : Nat} {v : Value} {s : SS} {es ds : List Int} (h : TW W base b mb D g n v s es ds) (hl : s.ts.length = es.length) : thoseI (mayB s) s.ts = (enL es ds).map (fun (i : Nat) => (i : Int)) :=
  those_en hl fun i t ht => by
    obtain ⟨I, E, -, -, -, -, -, -, -, a1, -⟩ := h.tk i t ht
    by_cases e : es.getD i 0 < ds.getD i 0
    · rw [decide_eq_false (by omega)]; exact mayB_4 (by rw [a1]; exact if_pos e)
    · rw [decide_eq_true (by omega)]; exact mayB_0 (by rw [a1]; exact if_neg e)
theorem TW.alive {W : World} {base b mb D g n : Nat} {v : Value} {s : SS} {es ds : List Int} (h : TW W base b mb D g n v s es ds) (hl : s.ts.length = es.length) : thoseI aliveB s.ts = (enL es ds).map (fun (i : Nat) => (i : Int)) :=
  those_en hl fun i t ht => by
    obtain ⟨I, E, -, -, -, -, -, -, -, a1, -⟩ := h.tk i t ht
    unfold aliveB
    rw [a1]
    unfold wk
    by_cases e : es.getD i 0 < ds.getD i 0
    · rw [if_pos e, decide_eq_false (by omega)]; rfl
    · rw [if_neg e, decide_eq_true (by omega)]; rfl
theorem turns_enters : Enters Try.prog 11 := enters_of Try.func11 (by kernel_rfl) rfl
theorem TW.pick {w : World} {base b mb D g n p i : Nat} {v : Value} {s : SS} {es ds : List Int} {d : Int} (h : TW w base b mb D g n v s es ds) (hl : s.ts.length = es.length) (hp : (enL es ds)[p % (enL es ds).length]? = some i) (hd : ds[i]? = some d) (hdl : ds.length = n) (hn : n ≤ 64)
    (hd0 : 0 ≤ d ∧ d < 1000) (he0 : 0 ≤ es.getD i 0 ∧ es.getD i 0 < 1000) (hsm : s.steps < 1000000 ∧ s.wishes < 1000000) :
    Calls Try.prog 13 #[ptr b, .int .i64 p] w fun e w' => ∃ s', e = .returned (.tuple #[.int .i64 i, .int .i64 0]) ∧ TW w' base b mb D g n v s' es (ds.set i (d + 1)) ∧ s'.ts.map Tk.st = s.ts.map Tk.st ∧ s'.bs = s.bs ∧ s'.steps = s.steps + 1 ∧ s'.wishes = s.wishes + 1 ∧ Fr (fun k => foot b mb v s k ∨ k = g) w w' := by
  have hmy := h.may hl
  have him := enL_mem.1 (List.mem_of_getElem? hp)
  have hit : i < s.ts.length := by rw [hl]; exact him.1
  obtain ⟨t, ht⟩ : ∃ t, s.ts[i]? = some t := ⟨_, List.getElem?_eq_getElem hit⟩
  obtain ⟨x, hx⟩ : ∃ x, s.bs[i]? = some x := ⟨_, List.getElem?_eq_getElem (by rw [← h.sh.len]; exact hit)⟩
  obtain ⟨I, E, hste, hI, hE, nI, nE, gI, gE, hkd, hon, hsi⟩ := h.tk i t ht
  have hil : i < ds.length := (List.getElem?_eq_some_iff.1 hd).1
  have hgd := fun j => getD_set ds i j (d + 1) hil
  have hdg : ds.getD i 0 = d := by simp [hd]
  have hk0 : t.kd = 0 := by
    rw [hkd, hdg]
    unfold wk
    rw [if_neg (by rw [← hdg]; omega)]
  have hlk0 : lkN t i s.lk = s.lk := by unfold lkN; rw [if_neg (by omega)]
  have hgz := h.gg.lt
  refine (Pick_ok base b mb i x p 11 _ v s t w h.sh h.steady h.wi h.hw.1 h.n64 (by rw [h.lk]; simp) (by rw [hmy, List.length_map, List.getElem?_map, hp]; rfl) hx ht hste turns_enters (fun k => k = g) (fun k e => by subst e; exact hgz)
    (fun k o s' W' => k = wk (es.getD i 0) (d + 1) ∧ o = 0 ∧ s' = { s with lk := lkN t i s.lk, ts := s.ts.set i { t with kd := 0, on := 0 }, within := true } ∧ Bl W' g (.cells (ci .i64 (ds.set i (d + 1))) 3 (0, 0)) ∧ Fr (fun k => foot b mb v s k ∨ k = g) w W') _ rfl ?_).mono ?_
  · intro W hW hf
    refine (tstep_any D g I E n i ds (es.getD i 0) d W (h.d.fr hf h.dn) (h.gg.fr hf h.gn) (hI.fr hf nI) (hE.fr hf nE) hdl hd h.dg gI gE hd0 he0 hn).mono ?_
    rintro e W' ⟨rfl, gA, gf⟩
    exact ⟨_, _, _, rfl, hW.fr gf (fun k hk e => by
      subst e
      exact h.gn hk), rfl, ⟨⟨rfl, rfl, rfl, gA, (hf.mono (fun _ _ e => .inl e)).then (gf.mono (fun _ _ e => .inr e)) (fun _ _ e => e)⟩, h.hs.1, by have := hsm.1; simp only; omega, h.hw.1, by have := hsm.2; simp only; omega⟩, gf⟩
  · rintro e w' ⟨k, o, s', t', W', rfl, ht', hS, ⟨rfl, rfl, rfl, gA, gF⟩, hf1, hf2⟩
    simp only at ht'
    rw [List.getElem?_set_self hit] at ht'
    injection ht' with ht'
    subst ht'
    have hwk : 0 ≤ wk (es.getD i 0) (d + 1) ∧ wk (es.getD i 0) (d + 1) ≤ 4 := by unfold wk; split <;> omega
    have hk1 : kdF (wk (es.getD i 0) (d + 1)) = wk (es.getD i 0) (d + 1) := ((badK_n hwk).2 0).1
    have ho1 : onF (wk (es.getD i 0) (d + 1)) 0 = 0 := ((badK_n hwk).2 0).2
    simp only [List.set_set, hk1, ho1, hlk0] at hS
    have hms : (s.ts.set i { t with kd := wk (es.getD i 0) (d + 1), on := 0, si := s.steps + 1, od := s.wishes + 1 }).map Tk.st = s.ts.map Tk.st := by
      rw [List.map_set]
      refine List.ext_getElem? (fun j => ?_)
      by_cases e : i = j
      · subst e
        rw [List.getElem?_set_self (by rw [List.length_map]; exact hit), List.getElem?_map, ht]; rfl
      · rw [List.getElem?_set_ne e]
    have nf : ∀ {k : Nat}, ¬ foot b mb v s k → k < w.heap.size → ¬ (foot b mb v s k ∨ w.heap.size ≤ k) := fun h1 h2 h3 => by
      rcases h3 with h3 | h3
      · exact h1 h3
      · omega
    have nf2 : ∀ {k : Nat}, ¬ foot b mb v s k → g ≠ k → ¬ (foot b mb v s k ∨ k = g) := fun h1 h2 h3 => by
      rcases h3 with h3 | h3
      · exact h1 h3
      · exact h2 h3.symm
    refine ⟨_, rfl, ⟨hS, (h.d.fr hf2 (nf2 h.dn h.dg)), gA.fr hf1 (nf h.gn hgz), h.dn, h.gn, h.dg, h.bd, h.bg, ?_, h.lk, rfl, by have := h.hs; simp only; omega, by have := h.hw; simp only; omega, h.n64⟩, hms, rfl, rfl, rfl, hf2⟩
    intro j tj htj
    simp only at htj
    by_cases e : i = j
    · subst e
      rw [List.getElem?_set_self hit] at htj
      injection htj with htj
      subst htj
      exact ⟨I, E, hste, hI.fr hf2 (nf2 nI gI), hE.fr hf2 (nf2 nE gE), nI, nE, gI, gE, by rw [hgd, if_pos rfl], rfl, by have := h.hs.1; simp only; omega, by simp only; omega⟩
    · rw [List.getElem?_set_ne e] at htj
      obtain ⟨I2, E2, a1, a2, a3, a4, a5, a6, a7, a8, a9, a10, a11⟩ := h.tk j tj htj
      exact ⟨I2, E2, a1, a2.fr hf2 (nf2 a4 a6), a3.fr hf2 (nf2 a5 a7), a4, a5, a6, a7, by rw [a8, hgd, if_neg e], a9, a10, by simp only; omega⟩
/-- no task's own cells lie in block q. -/
def TQ (D q : Nat) (sts : List Value) : Prop := ∀ I E, Value.func (.func 11) #[] #[.pointer (some ⟨D, 0, none⟩), .pointer (some ⟨I, 0, none⟩), .pointer (some ⟨E, 0, none⟩)] ∈ sts → I ≠ q ∧ E ≠ q
theorem TW.tq {W : World} {base b mb D g n q : Nat} {v : Value} {s : SS} {es ds : List Int} (h : TW W base b mb D g n v s es ds) (hq : W.heap.size ≤ q) : TQ D q (s.ts.map Tk.st) := by
  intro I E hm
  obtain ⟨t, ht, he⟩ := List.mem_map.1 hm
  obtain ⟨i, hi⟩ := List.mem_iff_getElem?.1 ht
  obtain ⟨I2, E2, a1, a2, a3, -⟩ := h.tk i t hi
  rw [a1] at he
  simp at he
  obtain ⟨rfl, rfl⟩ := he
  have := a2.lt
  have := a3.lt
  omega
theorem TW.other {W : World} {base b mb D g n q j : Nat} {v : Value} {s : SS} {es ds : List Int} (h : TW W base b mb D g n v s es ds) (u : Value) (hq : TQ D q (s.ts.map Tk.st)) (hf : ¬ foot b mb v s q) (hg : g ≠ q) (hD : D ≠ q) : TW (W.setCell ⟨q, j, none⟩ u) base b mb D g n v s es ds := by
  have fr : Fr (fun k => k = q) W (W.setCell ⟨q, j, none⟩ u) := (Fr.refl _ _).set _ (fun _ => rfl)
  exact { h with
    sh := h.sh.fr fr (fun k hk e => by subst e; exact hf hk), d := h.d.fr fr hD, gg := h.gg.fr fr hg
    tk := fun i t ht => by
      obtain ⟨I, E, a1, a2, a3, a4⟩ := h.tk i t ht
      have h1 := hq I E (by rw [← a1]; exact List.mem_map.2 ⟨t, List.mem_of_getElem? ht, rfl⟩)
      exact ⟨I, E, a1, a2.fr fr h1.1, a3.fr fr h1.2, a4⟩ }
end Go.Proofs.Ytcdhmjapeapicaa
