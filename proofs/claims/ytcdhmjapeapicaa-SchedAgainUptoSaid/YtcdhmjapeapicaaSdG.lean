/- A task's step, whatever it does. Conditions: what each theorem names. -/
import Derived.RangeFuncNested
import Derived.RangeFuncBound
import Derived.RangeFuncCalls
import Derived.RangeFuncLeaves
import Derived.Shelf.Abstract
import Derived.Shelf.RegionOpen
import Derived.WalkKit
import Derived.OwnWalkIn
import Derived.TacticsInMore
import Derived.LoopNIn
import Derived.LoopIn
import Derived.Lib.Hide
import Derived.Outline
import Derived.RegionTactic
import Derived.BigRegion
import Derived.WalkLawsBesides
import Derived.WalkSpells
import Derived.Deep.QuietTactic
import Derived.BigQuiet
import Derived.Deep.RegionHeld3
import Derived.Deep.DeepCutAuto
import Derived.Deep.CutBlock
import Derived.StillTailTactics
import Derived.WalkSmall
import Derived.Test.YtcdhmjapeapicaaProg
import Derived.Test.YtcdhmjapeapicaaSchQ
import Derived.Test.YtcdhmjapeapicaaSdF
import Derived.Deep.LoopGhost
import Derived.Test.YtcdhmjapeapicaaArg
namespace Go.Proofs.Ytcdhmjapeapicaa
open Go.RowKit Go.Sed Go.Maps
set_option maxHeartbeats 1000000
set_option maxRecDepth 100000
def acT (d : Int × Int) (ts : List Tk) : List Tk := if d.1 = 1 then sigT d.2 ts else if d.1 = 2 then wakeAll ts (waitI d.2 ts) else ts
def acL (n : Nat) (d : Int × Int) (lk : List (Int × Int)) : List (Int × Int) := if d.1 = 0 then unL lk n d.2 else lk
def acR (n : Nat) (d : Int × Int) (ts : List Tk) (lk : List (Int × Int)) : List Int := if d.1 = 0 then [unR lk n d.2] else if d.1 = 1 then [sigR d.2 ts] else if d.1 = 2 then [((waitI d.2 ts).length : Int)] else []
theorem acR_len (n : Nat) (d : Int × Int) (ts : List Tk) (lk : List (Int × Int)) : (acR n d ts lk).length ≤ 1 := by
  unfold acR
  split
  · simp
  · split
    · simp
    · split <;> simp
theorem acT_st (d : Int × Int) (ts : List Tk) : (acT d ts).map Tk.st = ts.map Tk.st := by
  unfold acT
  split
  · exact sigT_st _ _
  · split
    · exact wakeAll_st _ _
    · rfl
theorem TI.ac {st wi : Int} {ts : List Tk} (h : TI st wi ts) (d : Int × Int) : TI st wi (acT d ts) := by
  unfold acT
  split
  · exact h.sig _
  · split
    · exact h.wakeAll _
    · exact h
theorem exG_neg (n : Nat) (l : List (Int × Int)) (a : Nat) (ts : List Tk) (lk : List (Int × Int)) (told : List Int) (d : Int × Int) (h : l[a]? = some d) (hd : d.1 < 0) : exG n (l.drop a) a ts lk told = ⟨some (-(d.1 + 1), d.2), a + 1, ts, lk, told⟩ := by
  rw [exG_at n l a ts lk told d h, if_pos hd]
theorem exG_three (n : Nat) (l : List (Int × Int)) (a : Nat) (ts : List Tk) (lk : List (Int × Int)) (told : List Int) (d : Int × Int) (h : l[a]? = some d) (hd : d.1 = 3) : exG n (l.drop a) a ts lk told = ⟨none, a + 1, ts, lk, told⟩ := by
  rw [exG_at n l a ts lk told d h, if_neg (by omega), if_neg (by omega), if_neg (by omega), if_neg (by omega), if_pos hd]
theorem exG_on (n : Nat) (l : List (Int × Int)) (a : Nat) (ts : List Tk) (lk : List (Int × Int)) (told : List Int) (d : Int × Int) (h : l[a]? = some d) (hd : ¬ d.1 < 0) (hd3 : d.1 ≠ 3) :
    exG n (l.drop (a + 1)) (a + 1) (acT d ts) (acL n d lk) (told ++ acR n d ts lk) = exG n (l.drop a) a ts lk told := by
  rw [exG_at n l a ts lk told d h, if_neg hd]
  unfold acT acL acR
  by_cases h0 : d.1 = 0
  · rw [if_pos h0, if_pos h0, if_pos h0, if_neg (by omega), if_neg (by omega)]
  · rw [if_neg h0, if_neg h0, if_neg h0]
    by_cases h1 : d.1 = 1
    · rw [if_pos h1, if_pos h1, if_pos h1]
    · rw [if_neg h1, if_neg h1, if_neg h1]
      by_cases h2 : d.1 = 2
      · rw [if_pos h2, if_pos h2, if_pos h2]
      · rw [if_neg h2, if_neg h2, if_neg h2, if_neg hd3, List.append_nil]
/-- an act that does not panic. -/
theorem acts_any (base b mb xb n : Nat) (d : Int × Int) (dv v : Value) (s : SS) (tv : Value) (told : List Int) (ats : List Nat) (ls : List (List (Int × Int))) (tag : Nat → Nat) (W : World) (h : PX W base b mb xb dv v s tv told false ats ls tag) (hn : n < s.bs.length) (hn64 : s.bs.length ≤ 64) (ho : InI d.2) (ht : told.length < 1000000000000) (hti : TI s.steps s.wishes s.ts) (hw : s.wishes ≤ 4611686018427387904) (hd : ¬ d.1 < 0) (hd3 : d.1 ≠ 3) :
    Calls Try.prog 57 #[.pointer (some ⟨xb, 0, none⟩), .int .i64 n, .agg #[.int .i64 d.1, .int .i64 d.2]] W fun e W' => e = .returned (.tuple #[]) ∧ PT W W' base b mb xb dv v s { s with ts := acT d s.ts, lk := acL n d s.lk } tv (told ++ acR n d s.ts s.lk) false ats ls tag := by
  obtain ⟨d1, o⟩ := d
  simp only at ho hd hd3
  unfold acT acL acR
  simp only
  by_cases h0 : d1 = 0
  · subst h0
    exact acts0 base b mb xb n o dv v s tv told false ats ls tag W h hn hn64 ho ht
  · rw [if_neg h0, if_neg h0]
    by_cases h1 : d1 = 1
    · subst h1
      exact acts1 base b mb xb n o dv v s tv told ats ls tag W h hn64 ht hti hw
    · rw [if_neg h1, if_neg h1]
      by_cases h2 : d1 = 2
      · subst h2
        exact acts2 base b mb xb n o dv v s tv told ats ls tag W h hn64 ht hti hw
      · rw [if_neg h2, if_neg h2, List.append_nil]
        exact acts4 base b mb xb n o dv v s tv told ats ls tag W h hn64 ht hti hw d1 (by omega)
/-- how a step ends. -/
def EndsS (e : Ending) : Option (Int × Int) → Prop
  | some p => e = .returned (.agg #[.int .i64 p.1, .int .i64 p.2])
  | none => ∃ u pv, e = .panicked [{ v := .iface u pv, recovered := false }]
theorem st_of {ts ts' : List Tk} (h : ts'.map Tk.st = ts.map Tk.st) {n : Nat} {t : Tk} (ht : ts[n]? = some t) : ∃ t', ts'[n]? = some t' ∧ t'.st = t.st := by
  have h1 : (ts'.map Tk.st)[n]? = some t.st := by rw [h, List.getElem?_map, ht]; rfl
  rw [List.getElem?_map] at h1
  cases e : ts'[n]? with
  | none => rw [e] at h1; cases h1
  | some t' => rw [e] at h1; exact ⟨t', rfl, Option.some.inj h1⟩
/-- what holds within a step. -/
def STG (W wr : World) (base b mb xb n A r0 : Nat) (dv v : Value) (s : SS) (tv : Value) (ats : List Nat) (ls : List (List (Int × Int))) (tag : Nat → Nat) (a : Nat) (ts' : List Tk) (lk' : List (Int × Int)) (told' : List Int) : Prop :=
  ∃ tv' tag', PX wr base b mb xb dv v { s with ts := ts', lk := lk' } tv' told' false (ats.set n a) ls tag' ∧ (∀ k, k < W.heap.size → tag' k = tag k) ∧ Fr (fun k => foot b mb v s k ∨ k = xb ∨ k = A ∨ tv.ownBlock = some k) W wr ∧
    (∀ k, tv'.ownBlock = some k → tv.ownBlock = some k ∨ W.heap.size ≤ k) ∧ tag' r0 = 1000 ∧ Bl wr r0 (.cells #[.int .i64 0, .int .i64 0] 31 (0, 0))
theorem wrapI {i : Int} (h : InI i) : IntKind.i64.wrap i = i := by unfold InI at h; simp [IntKind.wrap, IntKind.bits, IntKind.signed]; omega
theorem step_gen (base b mb xb n X A L T a0 : Nat) (dv v : Value) (s : SS) (t : Tk) (tv : Value) (told : List Int) (ats : List Nat) (ls : List (List (Int × Int))) (tag : Nat → Nat) (l : List (Int × Int)) (W : World)
    (h : PX W base b mb xb dv v s tv told false ats ls tag) (ht : s.ts[n]? = some t) (hst : t.st = stepV X A L T) (hls : ls[n]? = some l) (hat : ats[n]? = some a0) (hTX : TX W base xb n a0 l tag X A L T) (hwi : s.within = true) (hsd : Steady s) (hn64 : s.bs.length ≤ 64) (hsim : ∀ d ∈ l, InI d.1 ∧ InI d.2) (hti : TI s.steps s.wishes s.ts) (hwi2 : s.wishes ≤ 4611686018427387904) (ha0 : a0 ≤ l.length) (hll : l.length < 10000000) (htl : told.length < 100000000000) :
    Calls Try.prog 56 #[.pointer (some ⟨X, 0, none⟩), .pointer (some ⟨A, 0, none⟩), .pointer (some ⟨L, 0, none⟩), .pointer (some ⟨T, 0, none⟩)] W fun e W' =>
      EndsS e (exG n (l.drop a0) a0 s.ts s.lk told).res ∧ ∃ tv' tag', PX W' base b mb xb dv v { s with ts := (exG n (l.drop a0) a0 s.ts s.lk told).ts, lk := (exG n (l.drop a0) a0 s.ts s.lk told).lk } tv' (exG n (l.drop a0) a0 s.ts s.lk told).told false (ats.set n (exG n (l.drop a0) a0 s.ts s.lk told).a) ls tag' ∧
        (∀ k, k < W.heap.size → tag' k = tag k) ∧ Fr (fun k => foot b mb v s k ∨ k = xb ∨ k = A ∨ tv.ownBlock = some k) W W' := by
  obtain ⟨W1, hW1⟩ : ∃ W1, W.alloc (.cells #[.int .i64 0, .int .i64 0] 31) = W1 := ⟨_, rfl⟩
  have hB1 : Below W.heap.size W W1 := by rw [← hW1]; exact (Below.refl _ _).alloc (Nat.le_refl _) _
  have g1 : Bl W1 W.heap.size (.cells #[.int .i64 0, .int .i64 0] 31 (0, 0)) := by rw [← hW1]; exact Bl.new' rfl
  have hTz : n < s.bs.length := by rw [← h.sh.len]; exact (List.getElem?_eq_some_iff.1 ht).1
  have h1 := (h.retag (tag' := fun k => if k = W.heap.size then 1000 else tag k) (fun k hk => if_neg (by omega))).keep hB1
  have hX1 := hTX.fr (Fr.of_below (F := fun k => W.heap.size ≤ k) hB1) (fun k hk hl => by omega)
  have hu : ∀ t' X' A' L' T', s.ts[n]? = some t' → t'.st = stepV X' A' L' T' → A' = A := by
    intro t' X' A' L' T' e1 e2
    rw [ht] at e1
    injection e1 with e1
    subst e1
    rw [hst] at e2
    exact (stepV_inj e2).2.1.symm
  have hwin := Lib.hid (fun w hw => Within_any base b mb 0 v s w hw hsd hwi hn64)
  have hrun := Lib.hid (fun w x hw => Run_within base b mb x 3 v s w hw hwi)
  have e0 : W1.cell? ⟨X, 0, none⟩ = some (.pointer (some ⟨xb, 0, none⟩)) := hX1.x.cell 0
  have e1 : W1.cell? ⟨xb, 0, none⟩ = some (ptr b) := h1.x.cell 0
  unfold ptr at e1 hwin hrun
  replace hB1 := Lib.hid hB1
  replace h1 := Lib.hid h1
  replace hX1 := Lib.hid hX1
  replace hTX := Lib.hid hTX
  replace g1 := Lib.hid g1
  replace hu := Lib.hid hu
  replace h := Lib.hid h
  replace hsd := Lib.hid hsd
  replace hwi := Lib.hid hwi
  replace hsim := Lib.hid hsim
  replace hat := Lib.hid hat
  replace ht := Lib.hid ht
  replace hst := Lib.hid hst
  replace hls := Lib.hid hls
  replace hti := Lib.hid hti
  go_enter Try.func56, Try.ntmps56
  go_upto_region 1 with (fail)
  clear hW1
  go_upto_region 2 with (first
    | (go_at_call 13; refine (hwin.out _ h1.out.sh).mono ?_; rintro e w2 ⟨rfl, hB2⟩; have h2 := Lib.hid (h1.out.keep hB2); have hB2' := Lib.hid hB2; clear hB2))
  have hX2 := Lib.hid (hX1.out.fr (Fr.of_below (F := fun k => W1.heap.size ≤ k) hB2'.out) (fun k hk hl => by omega))
  have g2 := Lib.hid (g1.out.keep hB2'.out)
  clear e0 e1
  have e0 : w2.cell? ⟨X, 0, none⟩ = some (.pointer (some ⟨xb, 0, none⟩)) := hX2.out.x.cell 0
  have e1 : w2.cell? ⟨xb, 0, none⟩ = some (.pointer (some ⟨b, 0, none⟩)) := h2.out.x.cell 0
  go_upto_region 3 with (first
    | (go_at_call 16; refine (hrun.out _ _ (h2.out.keep ((Below.refl _ _).alloc (Nat.le_refl _) _)).sh).mono ?_; rintro e w3 ⟨rfl, hw3⟩; have h3 := Lib.hid (hw3 ▸ (h2.out.keep ((Below.refl _ _).alloc (Nat.le_refl _) (.cells #[.int .i64 0] 3)))); have hB3 := Lib.hid (show Below w2.heap.size w2 w3 from hw3 ▸ (Below.refl _ _).alloc (Nat.le_refl _) _); clear hw3))
  have hX3 := Lib.hid (hX2.out.fr (Fr.of_below (F := fun k => w2.heap.size ≤ k) hB3.out) (fun k hk hl => by omega))
  have g3 := Lib.hid (g2.out.keep hB3.out)
  clear e0 e1
  have e0 : w3.cell? ⟨X, 0, none⟩ = some (.pointer (some ⟨xb, 0, none⟩)) := hX3.out.x.cell 0
  have e3 : w3.cell? ⟨xb, 3, none⟩ = some (.bool false) := h3.out.x.cell 3
  have f3 := h3.out.x.frozen 3
  have h4 := Lib.hid ((h3.out.mark (bad' := false)).keep (Below.refl _ _).drew)
  have g4 := Lib.hid ((g3.out.set (b := xb) (i := 3) (.bool false) (fun e => by have := h.out.x.lt; omega)).keep (Below.refl _ _).drew)
  have hF4 := Lib.hid (show Fr (fun k => foot b mb v s k ∨ k = xb ∨ k = A ∨ tv.ownBlock = some k) W (w3.setCell ⟨xb, 3, none⟩ (.bool false)).drew from ((((Fr.of_below hB1.out).thenB hB2'.out).thenB hB3.out).set _ (fun _ => .inr (.inl rfl))).drew)
  go_region
  obtain ⟨w4, hw4⟩ : ∃ w4, (w3.setCell ⟨xb, 3, none⟩ (.bool false)).drew = w4 := ⟨_, rfl⟩
  rw [hw4] at h4 g4 hF4 ⊢
  have hst4 : STG W w4 base b mb xb n A W.heap.size dv v s tv ats ls tag a0 s.ts s.lk told := by
    refine ⟨tv, fun k => if k = W.heap.size then 1000 else tag k, ?_, fun k hk => if_neg (by omega), hF4.out, fun k e => .inl e, if_pos rfl, g4.out⟩
    have e : ats.set n a0 = ats := by
      refine List.ext_getElem? (fun j => ?_)
      by_cases e : n = j
      · subst e; rw [List.getElem?_set_self (List.getElem?_eq_some_iff.1 hat.out).1, hat.out]
      · rw [List.getElem?_set_ne e]
    rw [e]
    exact h4.out
  replace hst4 := Lib.hid hst4
  clear e0 e3 f3 h1 h2 h3 h4 g1 g2 g3 g4 hX1 hX2 hX3 hB1 hB2' hB3 hF4 hwin hrun hsd
  go_wp2_with fail
  go_loopg [9] (l.length - a0) (fun gk _ wr => ∃ (a : Nat) (ts' : List Tk) (lk' : List (Int × Int)) (told' : List Int), STG W wr base b mb xb n A W.heap.size dv v s tv ats ls tag a ts' lk' told' ∧ a + gk = l.length ∧ told'.length + gk ≤ told.length + l.length ∧ ts'.map Tk.st = s.ts.map Tk.st ∧ TI s.steps s.wishes ts' ∧ exG n (l.drop a) a ts' lk' told' = exG n (l.drop a0) a0 s.ts s.lk told)
  case atStart => exact ⟨a0, s.ts, s.lk, told, hst4.out, by omega, by omega, rfl, hti.out, rfl⟩
  case round =>
    obtain ⟨a, ts', lk', told', ⟨tv', tag', hP, htg, hF, hown, htR, hR⟩, hgk, htk, hms, hti', hex⟩ := hrel
    obtain ⟨tn, htn, hstn⟩ := st_of hms ht.out
    obtain ⟨X', A', L', T', l', at', q1, q2, q3, hT⟩ := hP.tk n tn htn
    obtain ⟨rfl, rfl, rfl, rfl⟩ := stepV_inj (hst.out.symm.trans (hstn.symm.trans q1))
    have hun : ∀ t' X' A' L' T', ts'[n]? = some t' → t'.st = stepV X' A' L' T' → A' = A := fun t2 X2 A2 L2 T2 e1 e2 => by
      rw [htn] at e1
      injection e1 with e1
      subst e1
      rw [hstn, hst.out] at e2
      exact (stepV_inj e2).2.1.symm
    replace hti' := Lib.hid hti'
    replace hms := Lib.hid hms
    replace hun := Lib.hid hun
    replace htn := Lib.hid htn
    replace hstn := Lib.hid hstn
    obtain rfl : l = l' := by rw [hls.out] at q2; exact Option.some.inj q2
    obtain rfl : a = at' := by
      rw [List.getElem?_set_self (List.getElem?_eq_some_iff.1 hat.out).1] at q3
      exact Option.some.inj q3
    clear q1 q2 q3
    obtain ⟨p, c, hL, hrd, hp3⟩ := hT.l
    have r0l := hR.lt
    have e1 : wr.cell? ⟨A, 0, none⟩ = some (.int .i64 a) := hT.a.cell 0
    have e2 : wr.cell? ⟨L, 0, none⟩ = some (.slice p l.length c) := hL.cell 0
    have z4 : wr.cell? ⟨W.heap.size, 0, none⟩ = some (.int .i64 0) := hR.cell 0
    have z5 : wr.cell? ⟨W.heap.size, 1, none⟩ = some (.int .i64 0) := hR.cell 1
    have y4 := hR.frozen 0
    have y5 := hR.frozen 1
    have hAz := hTX.out.a.lt
    by_cases hlt : a < l.length
    · obtain ⟨d, hd⟩ : ∃ d, l[a]? = some d := ⟨_, List.getElem?_eq_getElem hlt⟩
      have hds := hsim.out d (List.mem_of_getElem? hd)
      obtain ⟨d1, d2⟩ := d
      simp only at hds
      have hneg' := Lib.hid (exG_neg n l a ts' lk' told' (d1, d2) hd)
      have hthree' := Lib.hid (exG_three n l a ts' lk' told' (d1, d2) hd)
      have hon' := Lib.hid (exG_on n l a ts' lk' told' (d1, d2) hd)
      obtain ⟨g1, o1, hpe⟩ : ∃ g o, p = some ⟨g, o, none⟩ := by
        obtain ⟨b', o, e, _⟩ := hrd.2 (by omega)
        exact ⟨b', o, e⟩
      subst hpe
      have m0 : wr.cell? ⟨g1, o1 + a * 2, none⟩ = some (.int .i64 d1) := hrd.elem dsC_len hd (j := 0) rfl
      have m1 : wr.cell? ⟨g1, o1 + a * 2 + 1, none⟩ = some (.int .i64 d2) := hrd.elem dsC_len hd (j := 1) rfl
      obtain ⟨w5, hw5⟩ : ∃ w5, wr.alloc (.cells #[.int .i64 d1, .int .i64 d2] 50) = w5 := ⟨_, rfl⟩
      have hB5 : Below wr.heap.size wr w5 := by rw [← hw5]; exact (Below.refl _ _).alloc (Nat.le_refl _) _
      have hD5 : Bl w5 wr.heap.size (.cells #[.int .i64 d1, .int .i64 d2] 50 (0, 0)) := by rw [← hw5]; exact Bl.new' rfl
      have hz5 := hB5.size
      have hA5 := hT.a.keep hB5
      have c5 : w5.cell? ⟨A, 0, none⟩ = some (.int .i64 a) := hA5.cell 0
      have f5 := hA5.frozen 0
      have hwrW := hF.size
      have hP6 := Lib.hid ((hP.keep hB5).place hT.tA hA5 (a + 1) (fun t' X' A' L' T' e1 e2 => hun.out t' X' A' L' T' e1 e2))
      have hR6 := Lib.hid ((hR.keep hB5).set (b := A) (i := 0) (.int .i64 ((a + 1 : Nat) : Int)) (by omega))
      have hD6 := Lib.hid (hD5.set (b := A) (i := 0) (.int .i64 ((a + 1 : Nat) : Int)) (by omega))
      have hF6 := Lib.hid ((hF.thenB hB5).set (i := 0) (.int .i64 ((a + 1 : Nat) : Int)) (fun _ => show foot b mb v s A ∨ A = xb ∨ A = A ∨ tv.ownBlock = some A from .inr (.inr (.inl rfl))))
      rw [List.set_set] at hP6
      replace hex := Lib.hid hex
      replace hR := Lib.hid hR
      replace hP := Lib.hid hP
      replace hF := Lib.hid hF
      have hsz6 : wr.heap.size ≤ (w5.setCell ⟨A, 0, none⟩ (.int .i64 ((a + 1 : Nat) : Int))).heap.size := by simp; exact hz5
      clear hD5 hA5 hB5
      go_upto_region 6 with (fail)
      clear hw5 m0 m1 e1 e2
      go_upto_region 7 with (fail)
      have hcast : ((a + 1 : Nat) : Int) = (a : Int) + 1 := by omega
      rw [hcast] at hP6 hR6 hD6 hF6 hsz6
      obtain ⟨w6, hw6⟩ : ∃ w6, w5.setCell ⟨A, 0, none⟩ (.int .i64 ((a : Int) + 1)) = w6 := ⟨_, rfl⟩
      rw [hw6] at hP6 hR6 hD6 hF6 hsz6 ⊢
      clear hw6 c5 f5 hcast z4 z5 y4 y5
      have k0 : w6.cell? ⟨wr.heap.size, 0, none⟩ = some (.int .i64 d1) := hD6.out.cell 0
      have k1 : w6.cell? ⟨wr.heap.size, 1, none⟩ = some (.int .i64 d2) := hD6.out.cell 1
      have z4 : w6.cell? ⟨W.heap.size, 0, none⟩ = some (.int .i64 0) := hR6.out.cell 0
      have z5 : w6.cell? ⟨W.heap.size, 1, none⟩ = some (.int .i64 0) := hR6.out.cell 1
      have y4 := hR6.out.frozen 0
      have y5 := hR6.out.frozen 1
      by_cases hneg : d1 < 0
      · have hfin : exG n (l.drop a0) a0 s.ts s.lk told = ⟨some (-(d1 + 1), d2), a + 1, ts', lk', told'⟩ := by rw [← hex.out]; exact hneg'.out hneg
        have hz1 : IntKind.i64.wrap (d1 + 1) = d1 + 1 := wrapI (by have := hds.1; unfold InI at this ⊢; omega)
        have hz2 : IntKind.i64.wrap (-(d1 + 1)) = -(d1 + 1) := wrapI (by have := hds.1; unfold InI at this ⊢; omega)
        have fr : Fr (fun k => k = W.heap.size) w6 ((w6.setCell ⟨W.heap.size, 0, none⟩ (.int .i64 (-(d1 + 1)))).setCell ⟨W.heap.size, 1, none⟩ (.int .i64 d2)) := ((Fr.refl (fun k => k = W.heap.size) _).set _ (fun _ => rfl)).set _ (fun _ => rfl)
        have hfn := Lib.hid (hP6.out.other fr (fun k hk _ => by subst hk; omega) hn64)
        have hfF := Lib.hid (hF6.out.then fr (fun k hk e => by subst e; exact absurd hk (Nat.lt_irrefl _)))
        have hR2 := Lib.hid ((hR6.out.setSame 0 (.int .i64 (-(d1 + 1)))).setSame 1 (.int .i64 d2))
        replace hfin := Lib.hid hfin
        clear fr hds
        go_wp2_with fail
        refine bodyPost_ret (results_wish rfl _ _ W.heap.size (.int .i64 (-(d1 + 1))) (.int .i64 d2) _ rfl hR2.out) rfl ?_
        rw [hfin.out]
        exact ⟨rfl, tv', tag', hfn.out, htg, hfF.out⟩
      · by_cases hthr : d1 = 3
        · subst hthr
          have hfin : exG n (l.drop a0) a0 s.ts s.lk told = ⟨none, a + 1, ts', lk', told'⟩ := by rw [← hex.out]; exact hthree'.out rfl
          obtain ⟨tm, htm, hstm⟩ := st_of hms.out ht.out
          obtain ⟨X', A', L', T', l', at', q1, q2, q3, hT6⟩ := hP6.out.tk n tm htm
          obtain ⟨rfl, rfl, rfl, rfl⟩ := stepV_inj (hst.out.symm.trans (hstm.symm.trans q1))
          clear q1 q2 q3
          have e0 : w6.cell? ⟨X, 0, none⟩ = some (.pointer (some ⟨xb, 0, none⟩)) := hT6.x.cell 0
          have e1 : w6.cell? ⟨T, 0, none⟩ = some (.int .i64 n) := hT6.t.cell 0
          have hac := Lib.hid (acts3 base b mb xb n d2 dv v _ tv' told' _ ls tag' w6 hP6.out hn64 (by omega) hti'.out hwi2)
          replace hfin := Lib.hid hfin
          clear hds hT6 hT htm hstm
          go_wp2_with (first
            | (go_at_call 57; refine hac.out.mono ?_; rintro e w7 ⟨u7, p7, rfl, hP7, hB7⟩; replace hP7 := Lib.hid hP7; replace hB7 := Lib.hid hB7))
          rw [hfin.out]
          refine ⟨rfl, ⟨u7, p7, rfl⟩, tv', tag', hP7.out, htg, hF6.out.thenB hB7.out⟩
        · have hin := hds.2
          have hfin := hon'.out hneg hthr
          rw [hex.out] at hfin
          obtain ⟨tm, htm, hstm⟩ := st_of hms.out ht.out
          obtain ⟨X', A', L', T', l', at', q1, q2, q3, hT6⟩ := hP6.out.tk n tm htm
          obtain ⟨rfl, rfl, rfl, rfl⟩ := stepV_inj (hst.out.symm.trans (hstm.symm.trans q1))
          clear q1 q2 q3
          have e0 : w6.cell? ⟨X, 0, none⟩ = some (.pointer (some ⟨xb, 0, none⟩)) := hT6.x.cell 0
          have e1 : w6.cell? ⟨T, 0, none⟩ = some (.int .i64 n) := hT6.t.cell 0
          have hac := Lib.hid (acts_any base b mb xb n (d1, d2) dv v _ tv' told' _ ls tag' w6 hP6.out hTz hn64 hin (by omega) hti'.out hwi2 hneg hthr)
          have htR6 : w6.heap.size ≥ wr.heap.size := hsz6
          have hac1 := acR_len n (d1, d2) ts' lk'
          have hti2 := Lib.hid (hti'.out.ac (d1, d2))
          have hms2 := Lib.hid ((acT_st (d1, d2) ts').trans hms.out)
          replace hfin := Lib.hid hfin
          replace hF6 := Lib.hid hF6.out
          replace hneg := Lib.hid hneg
          replace hthr := Lib.hid hthr
          clear hds hT6 hT htm hstm
          go_wp2_with (first
            | (go_at_call 57; refine hac.out.mono ?_; rintro e w7 ⟨rfl, tv7, tag7, hP7, ht7, hf7, ho7⟩; replace hP7 := Lib.hid hP7; replace ht7 := Lib.hid ht7; replace hf7 := Lib.hid hf7; replace ho7 := Lib.hid ho7))
          go_roundg (gk - 1)
          case measure => omega
          case rel =>
            refine ⟨a + 1, _, _, _, ⟨tv7, tag7, hP7.out, fun k hk => ?_, ?_, ?_, ?_, ?_⟩, by omega, by rw [List.length_append]; omega, hms2.out, hti2.out, hfin.out⟩
            · rw [ht7.out k (by omega)]; exact htg k hk
            · refine hF6.out.then hf7.out (fun k hk e => ?_)
              rcases e with e | e | e
              · exact .inl e
              · exact .inr (.inl e)
              · rcases hown k e with e2 | e2
                · exact .inr (.inr (.inr e2))
                · omega
            · intro k e
              rcases ho7.out with o2 | ⟨j, o2, o3⟩
              · rw [o2] at e; exact hown k e
              · rw [o2] at e; injection e with e; subst e; exact .inr (by omega)
            · rw [ht7.out _ (by omega)]; exact htR
            · refine hR6.out.fr hf7.out (fun e => ?_)
              rcases e with e | e | e
              · have := hP6.out.fT _ e; omega
              · have := hP6.out.xT; rw [← e] at this; omega
              · have := hP6.out.tT _ e; omega
    · obtain rfl : a = l.length := by omega
      rw [List.drop_length] at hex
      have hfin : exG n (l.drop a0) a0 s.ts s.lk told = ⟨some (4, 0), l.length, ts', lk', told'⟩ := hex.symm
      have fr : Fr (fun k => k = W.heap.size) wr ((wr.setCell ⟨W.heap.size, 0, none⟩ (.int .i64 4)).setCell ⟨W.heap.size, 1, none⟩ (.int .i64 0)) := ((Fr.refl (fun k => k = W.heap.size) _).set _ (fun _ => rfl)).set _ (fun _ => rfl)
      have hfn := Lib.hid (hP.other fr (fun k hk _ => by subst hk; omega) hn64)
      have hfF := Lib.hid (hF.then fr (fun k hk e => by subst e; exact absurd hk (Nat.lt_irrefl _)))
      have hR2 := Lib.hid ((hR.setSame 0 (.int .i64 4)).setSame 1 (.int .i64 0))
      replace hfin := Lib.hid hfin
      clear hex hP hF hT
      go_wp2_with fail
      refine bodyPost_ret (results_wish rfl _ _ W.heap.size (.int .i64 4) (.int .i64 0) _ rfl hR2.out) rfl ?_
      rw [hfin.out]
      exact ⟨rfl, tv', tag', hfn.out, htg, hfF.out⟩
end Go.Proofs.Ytcdhmjapeapicaa
