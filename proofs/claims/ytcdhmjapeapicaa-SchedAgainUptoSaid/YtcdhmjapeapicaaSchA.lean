/- A scheduler in memory: its tasks, locks and counts; who may go. Conditions: what each theorem names. -/
import Derived.RangeFuncNested
import Derived.RangeFuncBound
import Derived.RangeFuncCalls
import Derived.RangeFuncLeaves
import Derived.Shelf.Abstract
import Derived.Shelf.RegionOpen
import Derived.WalkKit
import Derived.OwnWalkIn
import Derived.TacticsInMore
import Derived.LoopNIn
import Derived.LoopIn
import Derived.Lib.Hide
import Derived.Outline
import Derived.RegionTactic
import Derived.BigRegion
import Derived.WalkLawsBesides
import Derived.WalkSpells
import Derived.Deep.QuietTactic
import Derived.BigQuiet
import Derived.Deep.RegionHeld3
import Derived.Deep.DeepCutAuto
import Derived.Deep.CutBlock
import Derived.StillTailTactics
import Derived.WalkSmall
import Derived.Test.YtcdhmjapeapicaaProg
import Derived.Test.YtcdhmjapeapicaaFr
import Derived.Test.YtcdhmjapeapicaaMp
namespace Go.Proofs.Ytcdhmjapeapicaa
open Go.RowKit Go.Sed Go.Maps
set_option maxHeartbeats 1000000
set_option maxRecDepth 100000
/-- a task. -/
structure Tk where
  nm : Value
  st : Value
  kd : Int
  on : Int
  si : Int
  od : Int
  fl : Bool
def tkC (t : Tk) : Array Value := #[t.nm, t.st, .int .i64 t.kd, .int .i64 t.on, .int .i64 t.si, .int .i64 t.od, .bool t.fl]
/-- a scheduler. -/
structure SS where
  bs : List Nat
  ts : List Tk
  lk : List (Int × Int)
  steps : Int
  wishes : Int
  within : Bool
def ssC (v : Value) (mb : Nat) (s : SS) : Array Value := #[v, .map (some mb), .int .i64 s.steps, .int .i64 s.wishes, .bool s.within]
def ptr (b : Nat) : Value := .pointer (some ⟨b, 0, none⟩)
def lp (p : Int × Int) : Int × Lit := (p.1, .int .i64 p.2)
def lkOf (l : List (Int × Int)) (i : Int) : Option Int := (l.find? (fun p => p.1 == i)).map (·.2)
def InI (i : Int) : Prop := -9223372036854775808 ≤ i ∧ i ≤ 9223372036854775807
theorem lkOf_some {l : List (Int × Int)} {i x : Int} (h : lkOf l i = some x) : (i, x) ∈ l := by
  unfold lkOf at h
  rw [Option.map_eq_some_iff] at h
  obtain ⟨p, hp, rfl⟩ := h
  have h1 := List.mem_of_find?_eq_some hp
  have h2 := List.find?_some hp
  simp only [beq_iff_eq] at h2
  subst h2
  exact h1
theorem lkOf_none {l : List (Int × Int)} {i : Int} (h : lkOf l i = none) : ∀ p ∈ l, p.1 ≠ i := by
  unfold lkOf at h
  simp only [Option.map_eq_none_iff, List.find?_eq_none, beq_iff_eq] at h
  exact h
theorem mp_look {W : World} {b : Nat} {l : List (Int × Int)} (h : Mp Try.prog 3 3 W b (l.map lp)) (i : Int) (hi : InI i) :
    (Instr.lookup 68 (.map (some b)) (.int .i64 i) true).run Try.prog W = .ok (.tuple #[.int .i64 ((lkOf l i).getD 0), .bool (lkOf l i).isSome]) W := by
  obtain ⟨D, h1, h2⟩ := h
  have hz : (zeroValue 3).run Try.prog W = .ok (.int .i64 0) W := run_zero (by kernel_rfl) W
  obtain ⟨v, ps, hr, hv⟩ := h1.look_ok (int_keyed Try.underlying3) Try.underlying68 hz (plainElem_int Try.underlying3 (by decide)) (keyOf_int_mk Try.underlying3 (i64_wf hi))
  rw [hr]
  cases hx : lkOf l i with
  | none =>
    have hn := lkOf_none hx
    have h3 := h2.none i (fun p hp => by
      obtain ⟨q, hq, rfl⟩ := List.mem_map.1 hp
      exact hn q hq)
    have h4 : D.atKey (ik i) (.lit (.int .i64 0)) = .lit (.int .i64 0) := Maps.atKey_of_not_has h3 _
    rw [show (Lit.int .i64 i) = ik i from rfl, h4] at hv
    rw [show (Lit.int .i64 i) = ik i from rfl, h3, plainElem_lit_inv hv]
    rfl
  | some x =>
    have hm := lkOf_some hx
    have h3 := h2.there (lp (i, x)) (List.mem_map.2 ⟨_, hm, rfl⟩)
    have h4 := h3.2 (.lit (.int .i64 0))
    rw [show ik (lp (i, x)).1 = Lit.int .i64 i from rfl] at h4 h3
    rw [h4] at hv
    rw [h3.1, plainElem_lit_inv hv]
    rfl
/-- a scheduler lies in memory; all of it from 'base' on. -/
structure SH (W : World) (base b mb : Nat) (v : Value) (s : SS) : Prop where
  ld : Bl W b (.cells (ssC v mb s) 71 (0, 0))
  row : OW W base 1 v s.bs.length (s.bs.map ptr)
  len : s.ts.length = s.bs.length
  tk : ∀ (i x : Nat) (t : Tk), s.bs[i]? = some x → s.ts[i]? = some t → Bl W x (.cells (tkC t) 74 (0, 0))
  mp : Mp Try.prog 3 3 W mb (s.lk.map lp)
  nd : s.bs.Nodup
  bmb : b ≠ mb
  bbs : b ∉ s.bs
  mbs : mb ∉ s.bs
  vb : ∀ k, v.ownBlock = some k → k ≠ b ∧ k ≠ mb ∧ k ∉ s.bs
  lob : base ≤ b
  lom : base ≤ mb
  los : ∀ x ∈ s.bs, base ≤ x
def foot (b mb : Nat) (v : Value) (s : SS) (k : Nat) : Prop := k = b ∨ k = mb ∨ k ∈ s.bs ∨ v.ownBlock = some k
theorem SH.keepB {W W' : World} {base b mb : Nat} {v : Value} {s : SS} (h : SH W base b mb v s) (hs : W.heap.size ≤ W'.heap.size) (hb : ∀ k, k < W.heap.size → foot b mb v s k → W'.heap[k]? = W.heap[k]?) : SH W' base b mb v s := by
  refine ⟨?_, h.row.keepB hs (fun k e => hb k (h.row.lt k e).2 (.inr (.inr (.inr e)))), h.len, fun i x t hx ht => ?_, h.mp.block (hb mb h.mp.lt (.inr (.inl rfl))), h.nd, h.bmb, h.bbs, h.mbs, h.vb, h.lob, h.lom, h.los⟩
  · have h1 := h.ld
    unfold Bl at h1 ⊢
    rw [hb b h.ld.lt (.inl rfl)]; exact h1
  · have h1 := h.tk i x t hx ht
    have h2 := h1.lt
    unfold Bl at h1 ⊢
    rw [hb x h2 (.inr (.inr (.inl (List.mem_of_getElem? hx))))]; exact h1
theorem SH.keep {W W' : World} {base b mb : Nat} {v : Value} {s : SS} (h : SH W base b mb v s) (hB : Below W.heap.size W W') : SH W' base b mb v s :=
  h.keepB hB.size (fun k hk _ => hB.block k hk)
theorem SH.fr {F : Nat → Prop} {W W' : World} {base b mb : Nat} {v : Value} {s : SS} (h : SH W base b mb v s) (hf : Fr F W W') (hd : ∀ k, foot b mb v s k → ¬ F k) : SH W' base b mb v s :=
  h.keepB hf.size (fun k hk hk2 => hf.block k hk (hd k hk2))
theorem SH.lo {W : World} {base b mb : Nat} {v : Value} {s : SS} (h : SH W base b mb v s) : ∀ k, foot b mb v s k → base ≤ k ∧ k < W.heap.size := by
  rintro k (rfl | rfl | hk | hk)
  · exact ⟨h.lob, h.ld.lt⟩
  · exact ⟨h.lom, h.mp.lt⟩
  · refine ⟨h.los k hk, ?_⟩
    obtain ⟨i, hi⟩ := List.mem_iff_getElem?.1 hk
    have hil := (List.getElem?_eq_some_iff.1 hi).1
    obtain ⟨t, ht⟩ : ∃ t, s.ts[i]? = some t := ⟨_, List.getElem?_eq_getElem (by rw [h.len]; exact hil)⟩
    exact (h.tk i k t hi ht).lt
  · exact h.row.lt k hk
/-- a cell of the scheduler's own is written. -/
theorem SH.setS {W : World} {base b mb : Nat} {v : Value} {s s' : SS} (h : SH W base b mb v s) (i : Nat) (x : Value) (hc : (ssC v mb s).setIfInBounds i x = ssC v mb s') (hb : s'.bs = s.bs) (ht : s'.ts = s.ts) (hl : s'.lk = s.lk) : SH (W.setCell ⟨b, i, none⟩ x) base b mb v s' := by
  have h1 := h.keepB (W' := W) (Nat.le_refl _) (fun _ _ _ => rfl)
  have hv : v.ownBlock ≠ some b := fun e => (h.vb b e).1 rfl
  refine ⟨by rw [← hc]; exact h.ld.setSame i x, by rw [hb]; exact h.row.set x hv, by rw [hb, ht]; exact h.len, fun i' x' t' hx' ht' => ?_, by rw [hl]; exact h.mp.block (Below.heap_setCell _ _ _ _ (fun e => h.bmb e.symm)), by rw [hb]; exact h.nd, h.bmb, by rw [hb]; exact h.bbs, by rw [hb]; exact h.mbs, by rw [hb]; exact h.vb, h.lob, h.lom, by rw [hb]; exact h.los⟩
  rw [hb] at hx'
  rw [ht] at ht'
  exact (h.tk i' x' t' hx' ht').set x (fun e => by subst e; exact h.bbs (List.mem_of_getElem? hx'))
/-- a task's cells are written. -/
theorem SH.setT {W : World} {base b mb : Nat} {v : Value} {s s' : SS} (h : SH W base b mb v s) {n x : Nat} {t t' : Tk} (hx : s.bs[n]? = some x) (ht : s.ts[n]? = some t) (i : Nat) (u : Value) (hc : (tkC t).setIfInBounds i u = tkC t') (hs : s' = { s with ts := s.ts.set n t' }) : SH (W.setCell ⟨x, i, none⟩ u) base b mb v s' := by
  subst hs
  have hxm := List.mem_of_getElem? hx
  have hv : v.ownBlock ≠ some x := fun e => (h.vb x e).2.2 hxm
  have hn := (List.getElem?_eq_some_iff.1 ht).1
  refine ⟨h.ld.set u (fun e => by subst e; exact h.bbs hxm), h.row.set u hv, by simp only [List.length_set]; exact h.len, fun i' x' t2 hx' ht' => ?_, h.mp.block (Below.heap_setCell _ _ _ _ (fun e => by subst e; exact h.mbs hxm)), h.nd, h.bmb, h.bbs, h.mbs, h.vb, h.lob, h.lom, h.los⟩
  simp only at hx' ht'
  by_cases e : n = i'
  · subst e
    rw [List.getElem?_set_self hn] at ht'
    injection ht' with ht'
    subst ht'
    rw [hx] at hx'
    injection hx' with hx'
    subst hx'
    rw [← hc]
    exact (h.tk n x t hx ht).setSame i u
  · rw [List.getElem?_set_ne e] at ht'
    refine (h.tk i' x' t2 hx' ht').set u (fun e2 => e ?_)
    subst e2
    exact (List.getElem?_inj (List.getElem?_eq_some_iff.1 hx).1 h.nd).1 (by rw [hx, hx'])
/-- the locks are others. -/
theorem SH.setM {W W' : World} {base b mb : Nat} {v : Value} {s : SS} (h : SH W base b mb v s) {l : List (Int × Int)} (hm : Mp Try.prog 3 3 W' mb (l.map lp)) (hg : W.grownBy W' (some mb)) : SH W' base b mb v { s with lk := l } := by
  have hbl : ∀ k, k < W.heap.size → k ≠ mb → W'.heap[k]? = W.heap[k]? := fun k hk he => hg.block k hk (fun e => he (Option.some.inj e))
  have hB : ∀ {k : Nat} {o : Obj}, Bl W k o → k ≠ mb → Bl W' k o := by
    intro k o hk he
    have h2 := hk.lt
    unfold Bl at hk ⊢
    rw [hbl k h2 he]; exact hk
  refine ⟨hB h.ld h.bmb, h.row.keepB hg.size (fun k e => hbl k (h.row.lt k e).2 (h.vb k e).2.1), h.len, fun i x t hx ht => hB (h.tk i x t hx ht) (fun e => by subst e; exact h.mbs (List.mem_of_getElem? hx)), hm, h.nd, h.bmb, h.bbs, h.mbs, h.vb, h.lob, h.lom, h.los⟩
/-- may a task go? -/
def mayB (s : SS) (t : Tk) : Bool := if t.kd = 0 then true else if t.kd = 1 then (lkOf s.lk t.on).isNone else if t.kd = 3 then decide (t.on ≤ s.steps - t.si) else false
structure TkOk (s : SS) (t : Tk) : Prop where
  on : InI t.on
  si : 0 ≤ t.si ∧ t.si ≤ s.steps
def Steady (s : SS) : Prop := 0 ≤ s.steps ∧ s.steps ≤ 4611686018427387904 ∧ ∀ t ∈ s.ts, TkOk s t
theorem may_any (base b mb x n : Nat) (v : Value) (s : SS) (t : Tk) (w : World) (h : SH w base b mb v s) (hx : s.bs[n]? = some x) (ht : s.ts[n]? = some t) (hst : Steady s) :
    Calls Try.prog 53 #[ptr b, ptr x] w fun e w' => e = .returned (.bool (mayB s t)) ∧ Below w.heap.size w w' := by
  have hb := h.tk n x t hx ht
  have c2 : w.cell? ⟨x, 2, none⟩ = some (.int .i64 t.kd) := hb.cell 2
  have c3 : w.cell? ⟨x, 3, none⟩ = some (.int .i64 t.on) := hb.cell 3
  have c4 : w.cell? ⟨x, 4, none⟩ = some (.int .i64 t.si) := hb.cell 4
  have d1 : w.cell? ⟨b, 1, none⟩ = some (.map (some mb)) := h.ld.cell 1
  have d2 : w.cell? ⟨b, 2, none⟩ = some (.int .i64 s.steps) := h.ld.cell 2
  have hok := hst.2.2 t (List.mem_of_getElem? ht)
  have hon := hok.on
  have hsi := hok.si
  have hs1 := hst.1
  have hs2 := hst.2.1
  unfold InI at hon
  have hlk := fun k => mp_look (h.mp.keep (below_drewN (Below.refl _ _) k)) t.on hok.on
  unfold ptr
  clear hb hok hst h hx ht
  by_cases h0 : t.kd = 0
  · have hm : mayB s t = true := by unfold mayB; rw [if_pos h0]
    rw [hm]
    rw [h0] at c2
    clear hm h0
    go_enter Try.func53, Try.ntmps53
    go_wp2_with fail
    go_ret
    exact ⟨rfl, Below.refl _ _⟩
  by_cases h1 : t.kd = 1
  · have hm : mayB s t = (lkOf s.lk t.on).isNone := by unfold mayB; rw [if_neg h0, if_pos h1]
    rw [hm]
    rw [h1] at c2
    clear hm h0 h1
    obtain ⟨q, hq⟩ : ∃ q, lkOf s.lk t.on = q := ⟨_, rfl⟩
    rw [hq] at hlk ⊢
    go_enter Try.func53, Try.ntmps53
    go_wp2_with fail
    go_quiet (fail)
    go_wp2_with fail
    go_ret
    exact ⟨rfl, below_drewN (Below.refl _ _) _⟩
  by_cases h3 : t.kd = 3
  · have hm : mayB s t = decide (t.on ≤ s.steps - t.si) := by unfold mayB; rw [if_neg h0, if_neg h1, if_pos h3]
    rw [hm]
    rw [h3] at c2
    clear hm h0 h1 h3 hlk
    have hz : IntKind.i64.wrap (s.steps - t.si) = s.steps - t.si := by simp [IntKind.wrap, IntKind.bits, IntKind.signed]; omega
    go_enter Try.func53, Try.ntmps53
    go_wp2_with fail
    go_quiet (fail)
    go_wp2_with fail
    go_ret
    exact ⟨rfl, below_drewN (Below.refl _ _) _⟩
  · have hm : mayB s t = false := by unfold mayB; rw [if_neg h0, if_neg h1, if_neg h3]
    rw [hm]
    have g0 : (t.kd == 0) = false := beq_eq_false_iff_ne.2 h0
    have g1 : (t.kd == 1) = false := beq_eq_false_iff_ne.2 h1
    have g3 : (t.kd == 3) = false := beq_eq_false_iff_ne.2 h3
    clear hm h0 h1 h3 hlk
    go_enter Try.func53, Try.ntmps53
    go_wp2_with fail
    go_ret
    exact ⟨rfl, Below.refl _ _⟩
theorem alive_any (base b mb x n : Nat) (v : Value) (s : SS) (t : Tk) (w : World) (h : SH w base b mb v s) (hx : s.bs[n]? = some x) (ht : s.ts[n]? = some t) :
    Calls Try.prog 55 #[ptr x] w fun e w' => e = .returned (.bool (t.kd != 4)) ∧ Below w.heap.size w w' := by
  have hb := h.tk n x t hx ht
  have c2 : w.cell? ⟨x, 2, none⟩ = some (.int .i64 t.kd) := hb.cell 2
  unfold ptr
  clear hb h hx ht
  go_enter Try.func55, Try.ntmps55
  go_wp2_with fail
  go_ret
  exact ⟨rfl, Below.refl _ _⟩
/-- the places of those of which something holds. -/
def thoseI (p : Tk → Bool) (ts : List Tk) : List Int := ((List.range ts.length).filter (fun i => (ts[i]?).any p)).map (fun (i : Nat) => (i : Int))
def thoseK (p : Tk → Bool) (ts : List Tk) (k : Nat) : List Int := ((List.range k).filter (fun i => (ts[i]?).any p)).map (fun (i : Nat) => (i : Int))
theorem thoseK_succ (p : Tk → Bool) (ts : List Tk) (k : Nat) (t : Tk) (h : ts[k]? = some t) : thoseK p ts (k + 1) = if p t then thoseK p ts k ++ [(k : Int)] else thoseK p ts k := by
  unfold thoseK
  rw [List.range_succ, List.filter_append, List.map_append]
  cases hp : p t <;> simp [h, hp]
theorem thoseK_len (p : Tk → Bool) (ts : List Tk) (k : Nat) : (thoseK p ts k).length ≤ k := by
  unfold thoseK
  rw [List.length_map]
  exact Nat.le_trans (List.length_filter_le _ _) (Nat.le_of_eq List.length_range)
theorem infoInt : (Try.prog.info? 3).map (fun i => (i.zero, i.size, i.bytes)) = some (some (.int .i64 0), 1, 8) := by kernel_rfl
theorem those_may (base b mb : Nat) (v : Value) (s : SS) (w : World) (h : SH w base b mb v s) (hst : Steady s) (hn : s.bs.length ≤ 64) :
    Calls Try.prog 33 #[ptr b, .func (.func 53) #[ptr b] #[]] w fun e w' => ∃ r, e = .returned r ∧ OW w' w.heap.size 1 r (thoseI (mayB s) s.ts).length ((thoseI (mayB s) s.ts).map (Value.int .i64)) ∧ Below w.heap.size w w' := by
  obtain ⟨A1, c1, rfl, -⟩ := h.row.shape
  have d0 : w.cell? ⟨b, 0, none⟩ = some (.slice A1 s.bs.length c1) := h.ld.cell 0
  replace h := Lib.hid h
  replace hst := Lib.hid hst
  unfold ptr
  go_enter Try.func33, Try.ntmps33
  go_wp2_with fail
  go_loopw [5, 13] (fun l i wr => ∃ k : Nat, k ≤ s.bs.length ∧ i = .int .i64 k ∧ OW wr w.heap.size 1 l (thoseK (mayB s) s.ts k).length ((thoseK (mayB s) s.ts k).map (Value.int .i64)) ∧ Below w.heap.size w wr) (fun _ i _ => s.bs.length - (intOf i).toNat)
  case atStart => exact ⟨0, Nat.zero_le _, rfl, OW.nil _ _ _, Below.refl _ _⟩
  case round =>
    obtain ⟨k, hk, rfl, ho, hB⟩ := hrel
    obtain ⟨Al, cl, rfl, -⟩ := ho.shape
    have hKl := thoseK_len (mayB s) s.ts k
    by_cases hlt : k < s.bs.length
    · have hr := (h.out.row.keep hB).rd
      obtain ⟨g1, o1, u1, rfl, hu1, r1⟩ := hr.at1 hlt
      obtain ⟨x, hx, rfl⟩ : ∃ x, s.bs[k]? = some x ∧ u1 = ptr x := by
        rw [List.getElem?_map, List.getElem?_eq_getElem hlt] at hu1
        exact ⟨_, List.getElem?_eq_getElem hlt, (Option.some.inj hu1).symm⟩
      obtain ⟨t, ht⟩ : ∃ t, s.ts[k]? = some t := ⟨_, List.getElem?_eq_getElem (by rw [h.out.len]; exact hlt)⟩
      have hs := thoseK_succ (mayB s) s.ts k t ht
      clear hr hu1
      unfold ptr at r1
      have hsz := hB.size
      cases hm : mayB s t
      · rw [hm, if_neg (by simp)] at hs
        replace hs := Lib.hid hs
        replace hm := Lib.hid hm
        go_wp2_with (go_at_call 53; refine (may_any base b mb x k _ s t _ (h.out.keep hB) hx ht hst.out).mono ?_; rintro e w1 ⟨rfl, hB1⟩; rw [hm.out])
        go_roundw
        case rel => exact ⟨k + 1, by omega, by go_num, by rw [hs.out]; exact ho.keep hB1, below_then hB hB1⟩
        case measure => simp only [intOf]; omega
      · rw [hm, if_pos rfl] at hs
        replace hs := Lib.hid hs
        replace hm := Lib.hid hm
        go_wp2_with (first
          | (go_at_call 53; refine (may_any base b mb x k _ s t _ (h.out.keep hB) hx ht hst.out).mono ?_; rintro e w1 ⟨rfl, hB1⟩; rw [hm.out])
          | (at_builtin; refine wpList_append_ow rfl _ _ 26 rfl w.heap.size 3 Try.underlying26 infoInt rfl (by decide) _ (thoseK (mayB s) s.ts k).length _ rfl ((ho.keep hB1).alloc _) _ 1 1 [.int .i64 k] rfl (rd_one rfl _ _) (by intro u hu; simp at hu; subst hu; rfl) (by unfold maxLen; omega) (by omega) (by have := hB1.size; simp; omega) ?_; intro v5 w5 hown5 hgr5 hcase5; have hB5 : Below w.heap.size w w5 := below_grow ((below_then hB hB1).alloc (below_then hB hB1).size _) (by have := hB1.size; simp; omega) ((ho.keep hB1).alloc _) (Nat.le_refl _) hgr5; clear hgr5 hcase5))
        go_roundw
        case rel => exact ⟨k + 1, by omega, by go_num, by rw [hs.out, List.length_append, List.map_append]; exact hown5, hB5⟩
        case measure => simp only [intOf]; omega
    · obtain rfl : k = s.bs.length := by omega
      go_wp2_with fail
      go_ret
      refine ⟨_, rfl, ?_, hB⟩
      have e : thoseK (mayB s) s.ts s.bs.length = thoseI (mayB s) s.ts := by unfold thoseK thoseI; rw [h.out.len]
      rw [← e]; exact ho
end Go.Proofs.Ytcdhmjapeapicaa
