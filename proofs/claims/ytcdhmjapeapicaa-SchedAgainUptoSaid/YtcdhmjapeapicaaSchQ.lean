/- A step of a task that is a list of what it does (wishes, and locks let go). Conditions: what each theorem names. -/
import Derived.RangeFuncNested
import Derived.RangeFuncBound
import Derived.RangeFuncCalls
import Derived.RangeFuncLeaves
import Derived.Shelf.Abstract
import Derived.Shelf.RegionOpen
import Derived.WalkKit
import Derived.OwnWalkIn
import Derived.TacticsInMore
import Derived.LoopNIn
import Derived.LoopIn
import Derived.Lib.Hide
import Derived.Outline
import Derived.RegionTactic
import Derived.BigRegion
import Derived.WalkLawsBesides
import Derived.WalkSpells
import Derived.Deep.QuietTactic
import Derived.BigQuiet
import Derived.Deep.RegionHeld3
import Derived.Deep.DeepCutAuto
import Derived.Deep.CutBlock
import Derived.StillTailTactics
import Derived.WalkSmall
import Derived.Test.YtcdhmjapeapicaaProg
import Derived.Test.YtcdhmjapeapicaaFr
import Derived.Test.YtcdhmjapeapicaaMp
import Derived.Defers
import Derived.Recover
import Derived.Test.YtcdhmjapeapicaaSchN
import Derived.Deep.LoopGhost
import Derived.Test.YtcdhmjapeapicaaSchF
import Derived.Test.YtcdhmjapeapicaaArg
import Derived.Lib.SliceRun
namespace Go.Proofs.Ytcdhmjapeapicaa
open Go.RowKit Go.Sed Go.Maps
set_option maxHeartbeats 1000000
set_option maxRecDepth 100000
/-- a step: what is wished, the place, the locks, what was told. -/
def exS (n : Nat) : List (Int × Int) → Nat → List (Int × Int) → List Int → Int × Int × Nat × List (Int × Int) × List Int
  | [], a, lk, told => (4, 0, a, lk, told)
  | d :: r, a, lk, told => if d.1 < 0 then (-(d.1 + 1), d.2, a + 1, lk, told) else exS n r (a + 1) (unL lk n d.2) (told ++ [unR lk n d.2])
def Simple (l : List (Int × Int)) : Prop := ∀ d ∈ l, (d.1 = 0 ∨ -1000 ≤ d.1 ∧ d.1 < 0) ∧ InI d.2
theorem exS_at (n : Nat) (l : List (Int × Int)) (a : Nat) (lk : List (Int × Int)) (told : List Int) (d : Int × Int) (h : l[a]? = some d) :
    exS n (l.drop a) a lk told = if d.1 < 0 then (-(d.1 + 1), d.2, a + 1, lk, told) else exS n (l.drop (a + 1)) (a + 1) (unL lk n d.2) (told ++ [unR lk n d.2]) := by
  have hi := (List.getElem?_eq_some_iff.1 h).1
  have he : l[a] = d := (List.getElem?_eq_some_iff.1 h).2
  rw [List.drop_eq_getElem_cons hi, he]
  rfl
theorem stepV_inj {X A L T X' A' L' T' : Nat} (h : stepV X A L T = stepV X' A' L' T') : X = X' ∧ A = A' ∧ L = L' ∧ T = T' := by
  unfold stepV at h
  simpa using h
/-- what holds within a step. -/
def ST (W wr : World) (base b mb xb n A r0 : Nat) (dv v : Value) (s : SS) (tv : Value) (told : List Int) (ats : List Nat) (ls : List (List (Int × Int))) (tag : Nat → Nat) (a : Nat) (lk' : List (Int × Int)) (told' : List Int) : Prop :=
  ∃ tv' tag', PX wr base b mb xb dv v { s with lk := lk' } tv' told' false (ats.set n a) ls tag' ∧ (∀ k, k < W.heap.size → tag' k = tag k) ∧ Fr (fun k => foot b mb v s k ∨ k = xb ∨ k = A ∨ tv.ownBlock = some k) W wr ∧
    (∀ k, tv'.ownBlock = some k → tv.ownBlock = some k ∨ W.heap.size ≤ k) ∧ tag' r0 = 1000 ∧ Bl wr r0 (.cells #[.int .i64 0, .int .i64 0] 31 (0, 0))
theorem step_any (base b mb xb n X A L T a0 : Nat) (dv v : Value) (s : SS) (t : Tk) (tv : Value) (told : List Int) (ats : List Nat) (ls : List (List (Int × Int))) (tag : Nat → Nat) (l : List (Int × Int)) (W : World)
    (h : PX W base b mb xb dv v s tv told false ats ls tag) (ht : s.ts[n]? = some t) (hst : t.st = stepV X A L T) (hls : ls[n]? = some l) (hat : ats[n]? = some a0) (hTX : TX W base xb n a0 l tag X A L T) (hwi : s.within = true) (hsd : Steady s) (hn64 : s.bs.length ≤ 64) (hsim : Simple l) (ha0 : a0 ≤ l.length) (hll : l.length < 1000000) (htl : told.length < 100000000000) :
    Calls Try.prog 56 #[.pointer (some ⟨X, 0, none⟩), .pointer (some ⟨A, 0, none⟩), .pointer (some ⟨L, 0, none⟩), .pointer (some ⟨T, 0, none⟩)] W fun e W' =>
      e = .returned (.agg #[.int .i64 (exS n (l.drop a0) a0 s.lk told).1, .int .i64 (exS n (l.drop a0) a0 s.lk told).2.1]) ∧ ∃ tv' tag', PX W' base b mb xb dv v { s with lk := (exS n (l.drop a0) a0 s.lk told).2.2.2.1 } tv' (exS n (l.drop a0) a0 s.lk told).2.2.2.2 false (ats.set n (exS n (l.drop a0) a0 s.lk told).2.2.1) ls tag' ∧
        (∀ k, k < W.heap.size → tag' k = tag k) ∧ Fr (fun k => foot b mb v s k ∨ k = xb ∨ k = A ∨ tv.ownBlock = some k) W W' := by
  obtain ⟨W1, hW1⟩ : ∃ W1, W.alloc (.cells #[.int .i64 0, .int .i64 0] 31) = W1 := ⟨_, rfl⟩
  have hB1 : Below W.heap.size W W1 := by rw [← hW1]; exact (Below.refl _ _).alloc (Nat.le_refl _) _
  have g1 : Bl W1 W.heap.size (.cells #[.int .i64 0, .int .i64 0] 31 (0, 0)) := by rw [← hW1]; exact Bl.new' rfl
  have hTz : n < s.bs.length := by rw [← h.sh.len]; exact (List.getElem?_eq_some_iff.1 ht).1
  have h1 := (h.retag (tag' := fun k => if k = W.heap.size then 1000 else tag k) (fun k hk => if_neg (by omega))).keep hB1
  have hX1 := hTX.fr (Fr.of_below (F := fun k => W.heap.size ≤ k) hB1) (fun k hk hl => by omega)
  have hu : ∀ t' X' A' L' T', s.ts[n]? = some t' → t'.st = stepV X' A' L' T' → A' = A := by
    intro t' X' A' L' T' e1 e2
    rw [ht] at e1
    injection e1 with e1
    subst e1
    rw [hst] at e2
    exact (stepV_inj e2).2.1.symm
  have hwin := Lib.hid (fun w hw => Within_any base b mb 0 v s w hw hsd hwi hn64)
  have hrun := Lib.hid (fun w x hw => Run_within base b mb x 3 v s w hw hwi)
  have e0 : W1.cell? ⟨X, 0, none⟩ = some (.pointer (some ⟨xb, 0, none⟩)) := hX1.x.cell 0
  have e1 : W1.cell? ⟨xb, 0, none⟩ = some (ptr b) := h1.x.cell 0
  unfold ptr at e1 hwin hrun
  replace hB1 := Lib.hid hB1
  replace h1 := Lib.hid h1
  replace hX1 := Lib.hid hX1
  replace hTX := Lib.hid hTX
  replace g1 := Lib.hid g1
  replace hu := Lib.hid hu
  replace h := Lib.hid h
  replace hsd := Lib.hid hsd
  replace hwi := Lib.hid hwi
  replace hsim := Lib.hid hsim
  replace hat := Lib.hid hat
  replace ht := Lib.hid ht
  replace hst := Lib.hid hst
  replace hls := Lib.hid hls
  go_enter Try.func56, Try.ntmps56
  go_upto_region 1 with (fail)
  clear hW1
  go_upto_region 2 with (first
    | (go_at_call 13; refine (hwin.out _ h1.out.sh).mono ?_; rintro e w2 ⟨rfl, hB2⟩; have h2 := Lib.hid (h1.out.keep hB2); have hB2' := Lib.hid hB2; clear hB2))
  have hX2 := Lib.hid (hX1.out.fr (Fr.of_below (F := fun k => W1.heap.size ≤ k) hB2'.out) (fun k hk hl => by omega))
  have g2 := Lib.hid (g1.out.keep hB2'.out)
  clear e0 e1
  have e0 : w2.cell? ⟨X, 0, none⟩ = some (.pointer (some ⟨xb, 0, none⟩)) := hX2.out.x.cell 0
  have e1 : w2.cell? ⟨xb, 0, none⟩ = some (.pointer (some ⟨b, 0, none⟩)) := h2.out.x.cell 0
  go_upto_region 3 with (first
    | (go_at_call 16; refine (hrun.out _ _ (h2.out.keep ((Below.refl _ _).alloc (Nat.le_refl _) _)).sh).mono ?_; rintro e w3 ⟨rfl, hw3⟩; have h3 := Lib.hid (hw3 ▸ (h2.out.keep ((Below.refl _ _).alloc (Nat.le_refl _) (.cells #[.int .i64 0] 3)))); have hB3 := Lib.hid (show Below w2.heap.size w2 w3 from hw3 ▸ (Below.refl _ _).alloc (Nat.le_refl _) _); clear hw3))
  have hX3 := Lib.hid (hX2.out.fr (Fr.of_below (F := fun k => w2.heap.size ≤ k) hB3.out) (fun k hk hl => by omega))
  have g3 := Lib.hid (g2.out.keep hB3.out)
  clear e0 e1
  have e0 : w3.cell? ⟨X, 0, none⟩ = some (.pointer (some ⟨xb, 0, none⟩)) := hX3.out.x.cell 0
  have e3 : w3.cell? ⟨xb, 3, none⟩ = some (.bool false) := h3.out.x.cell 3
  have f3 := h3.out.x.frozen 3
  have h4 := Lib.hid ((h3.out.mark (bad' := false)).keep (Below.refl _ _).drew)
  have g4 := Lib.hid ((g3.out.set (b := xb) (i := 3) (.bool false) (fun e => by have := h.out.x.lt; omega)).keep (Below.refl _ _).drew)
  have hF4 := Lib.hid (show Fr (fun k => foot b mb v s k ∨ k = xb ∨ k = A ∨ tv.ownBlock = some k) W (w3.setCell ⟨xb, 3, none⟩ (.bool false)).drew from ((((Fr.of_below hB1.out).thenB hB2'.out).thenB hB3.out).set _ (fun _ => .inr (.inl rfl))).drew)
  go_region
  obtain ⟨w4, hw4⟩ : ∃ w4, (w3.setCell ⟨xb, 3, none⟩ (.bool false)).drew = w4 := ⟨_, rfl⟩
  rw [hw4] at h4 g4 hF4 ⊢
  have hst4 : ST W w4 base b mb xb n A W.heap.size dv v s tv told ats ls tag a0 s.lk told := by
    refine ⟨tv, fun k => if k = W.heap.size then 1000 else tag k, ?_, fun k hk => if_neg (by omega), hF4.out, fun k e => .inl e, if_pos rfl, g4.out⟩
    have e : ats.set n a0 = ats := by
      refine List.ext_getElem? (fun j => ?_)
      by_cases e : n = j
      · subst e; rw [List.getElem?_set_self (List.getElem?_eq_some_iff.1 hat.out).1, hat.out]
      · rw [List.getElem?_set_ne e]
    rw [e]
    exact h4.out
  replace hst4 := Lib.hid hst4
  clear e0 e3 f3 h1 h2 h3 h4 g1 g2 g3 g4 hX1 hX2 hX3 hB1 hB2' hB3 hF4 hwin hrun hsd
  go_wp2_with fail
  go_loopg [9] (l.length - a0) (fun gk _ wr => ∃ (a : Nat) (lk' : List (Int × Int)) (told' : List Int), ST W wr base b mb xb n A W.heap.size dv v s tv told ats ls tag a lk' told' ∧ a + gk = l.length ∧ told'.length + gk ≤ told.length + l.length ∧ exS n (l.drop a) a lk' told' = exS n (l.drop a0) a0 s.lk told)
  case atStart => exact ⟨a0, s.lk, told, hst4.out, by omega, by omega, rfl⟩
  case round =>
    obtain ⟨a, lk', told', ⟨tv', tag', hP, htg, hF, hown, htR, hR⟩, hgk, htk, hex⟩ := hrel
    obtain ⟨X', A', L', T', l', at', q1, q2, q3, hT⟩ := hP.tk n t ht.out
    obtain ⟨rfl, rfl, rfl, rfl⟩ := stepV_inj (hst.out.symm.trans q1)
    obtain rfl : l = l' := by rw [hls.out] at q2; exact Option.some.inj q2
    obtain rfl : a = at' := by
      rw [List.getElem?_set_self (List.getElem?_eq_some_iff.1 hat.out).1] at q3
      exact Option.some.inj q3
    clear q1 q2 q3
    obtain ⟨p, c, hL, hrd, hp3⟩ := hT.l
    have r0l := hR.lt
    have e1 : wr.cell? ⟨A, 0, none⟩ = some (.int .i64 a) := hT.a.cell 0
    have e2 : wr.cell? ⟨L, 0, none⟩ = some (.slice p l.length c) := hL.cell 0
    have z4 : wr.cell? ⟨W.heap.size, 0, none⟩ = some (.int .i64 0) := hR.cell 0
    have z5 : wr.cell? ⟨W.heap.size, 1, none⟩ = some (.int .i64 0) := hR.cell 1
    have y4 := hR.frozen 0
    have y5 := hR.frozen 1
    have hAz := hTX.out.a.lt
    by_cases hlt : a < l.length
    · obtain ⟨d, hd⟩ : ∃ d, l[a]? = some d := ⟨_, List.getElem?_eq_getElem hlt⟩
      rw [exS_at n l a lk' told' d hd] at hex
      have hds := hsim.out d (List.mem_of_getElem? hd)
      obtain ⟨d1, d2⟩ := d
      simp only at hds hex
      obtain ⟨g1, o1, hpe⟩ : ∃ g o, p = some ⟨g, o, none⟩ := by
        obtain ⟨b', o, e, _⟩ := hrd.2 (by omega)
        exact ⟨b', o, e⟩
      subst hpe
      have m0 : wr.cell? ⟨g1, o1 + a * 2, none⟩ = some (.int .i64 d1) := hrd.elem dsC_len hd (j := 0) rfl
      have m1 : wr.cell? ⟨g1, o1 + a * 2 + 1, none⟩ = some (.int .i64 d2) := hrd.elem dsC_len hd (j := 1) rfl
      obtain ⟨w5, hw5⟩ : ∃ w5, wr.alloc (.cells #[.int .i64 d1, .int .i64 d2] 50) = w5 := ⟨_, rfl⟩
      have hB5 : Below wr.heap.size wr w5 := by rw [← hw5]; exact (Below.refl _ _).alloc (Nat.le_refl _) _
      have hD5 : Bl w5 wr.heap.size (.cells #[.int .i64 d1, .int .i64 d2] 50 (0, 0)) := by rw [← hw5]; exact Bl.new' rfl
      have hz5 := hB5.size
      have hA5 := hT.a.keep hB5
      have c5 : w5.cell? ⟨A, 0, none⟩ = some (.int .i64 a) := hA5.cell 0
      have f5 := hA5.frozen 0
      have hwrW := hF.size
      have hP6 := Lib.hid ((hP.keep hB5).place hT.tA hA5 (a + 1) (fun t' X' A' L' T' e1 e2 => hu.out t' X' A' L' T' e1 e2))
      have hR6 := Lib.hid ((hR.keep hB5).set (b := A) (i := 0) (.int .i64 ((a + 1 : Nat) : Int)) (by omega))
      have hD6 := Lib.hid (hD5.set (b := A) (i := 0) (.int .i64 ((a + 1 : Nat) : Int)) (by omega))
      have hF6 := Lib.hid ((hF.thenB hB5).set (i := 0) (.int .i64 ((a + 1 : Nat) : Int)) (fun _ => show foot b mb v s A ∨ A = xb ∨ A = A ∨ tv.ownBlock = some A from .inr (.inr (.inl rfl))))
      rw [List.set_set] at hP6
      replace hex := Lib.hid hex
      replace hR := Lib.hid hR
      replace hP := Lib.hid hP
      replace hF := Lib.hid hF
      have hsz6 : wr.heap.size ≤ (w5.setCell ⟨A, 0, none⟩ (.int .i64 ((a + 1 : Nat) : Int))).heap.size := by simp; exact hz5
      clear hD5 hA5 hB5
      go_upto_region 6 with (fail)
      clear hw5 m0 m1 e1 e2
      go_upto_region 7 with (fail)
      have hcast : ((a + 1 : Nat) : Int) = (a : Int) + 1 := by omega
      rw [hcast] at hP6 hR6 hD6 hF6 hsz6
      obtain ⟨w6, hw6⟩ : ∃ w6, w5.setCell ⟨A, 0, none⟩ (.int .i64 ((a : Int) + 1)) = w6 := ⟨_, rfl⟩
      rw [hw6] at hP6 hR6 hD6 hF6 hsz6 ⊢
      clear hw6 c5 f5 hcast z4 z5 y4 y5
      have k0 : w6.cell? ⟨wr.heap.size, 0, none⟩ = some (.int .i64 d1) := hD6.out.cell 0
      have k1 : w6.cell? ⟨wr.heap.size, 1, none⟩ = some (.int .i64 d2) := hD6.out.cell 1
      have z4 : w6.cell? ⟨W.heap.size, 0, none⟩ = some (.int .i64 0) := hR6.out.cell 0
      have z5 : w6.cell? ⟨W.heap.size, 1, none⟩ = some (.int .i64 0) := hR6.out.cell 1
      have y4 := hR6.out.frozen 0
      have y5 := hR6.out.frozen 1
      by_cases hneg : d1 < 0
      · have hfin : exS n (l.drop a0) a0 s.lk told = (-(d1 + 1), d2, a + 1, lk', told') := by rw [← hex.out, if_pos hneg]
        have hd1b : -1000 ≤ d1 := by omega
        have fr : Fr (fun k => k = W.heap.size) w6 ((w6.setCell ⟨W.heap.size, 0, none⟩ (.int .i64 (-(d1 + 1)))).setCell ⟨W.heap.size, 1, none⟩ (.int .i64 d2)) := ((Fr.refl (fun k => k = W.heap.size) _).set _ (fun _ => rfl)).set _ (fun _ => rfl)
        have hfn := Lib.hid (hP6.out.other fr (fun k hk _ => by subst hk; omega) hn64)
        have hfF := Lib.hid (hF6.out.then fr (fun k hk e => by subst e; exact absurd hk (Nat.lt_irrefl _)))
        have hR2 := Lib.hid ((hR6.out.setSame 0 (.int .i64 (-(d1 + 1)))).setSame 1 (.int .i64 d2))
        replace hfin := Lib.hid hfin
        clear fr hds
        go_wp2_with fail
        refine bodyPost_ret (results_wish rfl _ _ W.heap.size (.int .i64 (-(d1 + 1))) (.int .i64 d2) _ rfl hR2.out) rfl ?_
        rw [hfin.out]
        exact ⟨rfl, tv', tag', hfn.out, htg, hfF.out⟩
      · obtain rfl : d1 = 0 := by omega
        have hin := hds.2
        have hfin : exS n (l.drop (a + 1)) (a + 1) (unL lk' n d2) (told' ++ [unR lk' n d2]) = exS n (l.drop a0) a0 s.lk told := by rw [← hex.out, if_neg hneg]
        obtain ⟨X', A', L', T', l', at', q1, q2, q3, hT6⟩ := hP6.out.tk n t ht.out
        obtain ⟨rfl, rfl, rfl, rfl⟩ := stepV_inj (hst.out.symm.trans q1)
        clear q1 q2 q3
        have e0 : w6.cell? ⟨X, 0, none⟩ = some (.pointer (some ⟨xb, 0, none⟩)) := hT6.x.cell 0
        have e1 : w6.cell? ⟨T, 0, none⟩ = some (.int .i64 n) := hT6.t.cell 0
        have hac := Lib.hid (acts0 base b mb xb n d2 dv v _ tv' told' false _ ls tag' w6 hP6.out hTz hn64 hin (by omega))
        have htR6 : w6.heap.size ≥ wr.heap.size := hsz6
        replace hfin := Lib.hid hfin
        replace hF6 := Lib.hid hF6.out
        clear hds hT6 hT
        go_wp2_with (first
          | (go_at_call 57; refine hac.out.mono ?_; rintro e w7 ⟨rfl, tv7, tag7, hP7, ht7, hf7, ho7⟩; replace hP7 := Lib.hid hP7; replace ht7 := Lib.hid ht7; replace hf7 := Lib.hid hf7; replace ho7 := Lib.hid ho7))
        go_roundg (gk - 1)
        case measure => omega
        case rel =>
          refine ⟨a + 1, _, _, ⟨tv7, tag7, hP7.out, fun k hk => ?_, ?_, ?_, ?_, ?_⟩, by omega, by simp; omega, hfin.out⟩
          · rw [ht7.out k (by omega)]; exact htg k hk
          · refine hF6.out.then hf7.out (fun k hk e => ?_)
            rcases e with e | e | e
            · exact .inl e
            · exact .inr (.inl e)
            · rcases hown k e with e2 | e2
              · exact .inr (.inr (.inr e2))
              · omega
          · intro k e
            rcases ho7.out with o2 | ⟨j, o2, o3⟩
            · rw [o2] at e; exact hown k e
            · rw [o2] at e; injection e with e; subst e; exact .inr (by omega)
          · rw [ht7.out _ (by omega)]; exact htR
          · refine hR6.out.fr hf7.out (fun e => ?_)
            rcases e with e | e | e
            · have := hP6.out.fT _ e; omega
            · have := hP6.out.xT; rw [← e] at this; omega
            · have := hP6.out.tT _ e; omega
    · obtain rfl : a = l.length := by omega
      rw [List.drop_length] at hex
      have hfin : exS n (l.drop a0) a0 s.lk told = (4, 0, l.length, lk', told') := hex.symm
      have fr : Fr (fun k => k = W.heap.size) wr ((wr.setCell ⟨W.heap.size, 0, none⟩ (.int .i64 4)).setCell ⟨W.heap.size, 1, none⟩ (.int .i64 0)) := ((Fr.refl (fun k => k = W.heap.size) _).set _ (fun _ => rfl)).set _ (fun _ => rfl)
      have hfn := Lib.hid (hP.other fr (fun k hk _ => by subst hk; omega) hn64)
      have hfF := Lib.hid (hF.then fr (fun k hk e => by subst e; exact absurd hk (Nat.lt_irrefl _)))
      have hR2 := Lib.hid ((hR.setSame 0 (.int .i64 4)).setSame 1 (.int .i64 0))
      replace hfin := Lib.hid hfin
      clear hex hP hF hT
      go_wp2_with fail
      refine bodyPost_ret (results_wish rfl _ _ W.heap.size (.int .i64 4) (.int .i64 0) _ rfl hR2.out) rfl ?_
      rw [hfin.out]
      exact ⟨rfl, tv', tag', hfn.out, htg, hfF.out⟩
end Go.Proofs.Ytcdhmjapeapicaa
