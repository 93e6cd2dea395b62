/- What a step does: the acts. Conditions: what each theorem names. -/
import Derived.RangeFuncNested
import Derived.RangeFuncBound
import Derived.RangeFuncCalls
import Derived.RangeFuncLeaves
import Derived.Shelf.Abstract
import Derived.Shelf.RegionOpen
import Derived.WalkKit
import Derived.OwnWalkIn
import Derived.TacticsInMore
import Derived.LoopNIn
import Derived.LoopIn
import Derived.Lib.Hide
import Derived.Outline
import Derived.RegionTactic
import Derived.BigRegion
import Derived.WalkLawsBesides
import Derived.WalkSpells
import Derived.Deep.QuietTactic
import Derived.BigQuiet
import Derived.Deep.RegionHeld3
import Derived.Deep.DeepCutAuto
import Derived.Deep.CutBlock
import Derived.StillTailTactics
import Derived.WalkSmall
import Derived.Test.YtcdhmjapeapicaaProg
import Derived.Test.YtcdhmjapeapicaaSchN
import Derived.Test.YtcdhmjapeapicaaSdC
import Derived.Laws.Panics
namespace Go.Proofs.Ytcdhmjapeapicaa
open Go.RowKit Go.Sed Go.Maps
set_option maxHeartbeats 1000000
set_option maxRecDepth 100000
theorem run_bounds {P : Program} {w : World} {α : Type} (x y : Int) (code : BoundsCode) :
    ∃ s w', (boundsPanic .i64 x y code : Sem α).run P w = .halt (.panic (boundsValue P (IntKind.i64.wrap x) y s code.toNat)) w' ∧ (w' = w ∨ w' = w.drew) := by
  unfold boundsPanic boundsValue
  split
  · simp [runtimePanic, goPanic, go_sem]
    by_cases h : (Question.extern "runtime.boundsError.signed" 2).cut (w.tape w.drawn (Question.extern "runtime.boundsError.signed" 2)) = 1
    · exact .inr ⟨_, ⟨h, rfl⟩, .inr rfl⟩
    · exact .inl ⟨_, ⟨h, rfl⟩, .inr rfl⟩
  · simp [runtimePanic, goPanic, go_sem]
theorem run_index_nil {P : Program} {w : World} (t e : TypeId) (i : Int) (h : P.underlying t = some (.slice e)) :
    ∃ u pv w', (Instr.indexAt t (.slice none 0 0) (.int .i64 i)).run P w = .halt (.panic (.iface u pv)) w' ∧ Below w.heap.size w w' := by
  have e : (Instr.indexAt t (.slice none 0 0) (.int .i64 i)).run P w = (boundsPanic .i64 i 0 .index).run P w := by
    simp [Instr.indexAt, run_underlying h, asIntOf]
  obtain ⟨s, w', h1, h2⟩ := run_bounds (P := P) (w := w) (α := Value) i 0 .index
  rw [e, h1]
  refine ⟨_, _, _, rfl, ?_⟩
  rcases h2 with rfl | rfl
  · exact Below.refl _ _
  · exact (Below.refl _ _).drew
theorem acts1 (base b mb xb n : Nat) (o : Int) (dv v : Value) (s : SS) (tv : Value) (told : List Int) (ats : List Nat) (ls : List (List (Int × Int))) (tag : Nat → Nat) (W : World) (h : PX W base b mb xb dv v s tv told false ats ls tag) (hn64 : s.bs.length ≤ 64) (ht : told.length < 1000000000000) (hti : TI s.steps s.wishes s.ts) (hw : s.wishes ≤ 4611686018427387904) :
    Calls Try.prog 57 #[.pointer (some ⟨xb, 0, none⟩), .int .i64 n, .agg #[.int .i64 1, .int .i64 o]] W fun e W' => e = .returned (.tuple #[]) ∧ PT W W' base b mb xb dv v s { s with ts := sigT o s.ts } tv (told ++ [sigR o s.ts]) false ats ls tag := by
  obtain ⟨W1, hW1⟩ : ∃ W1, W.alloc (.cells #[.int .i64 1, .int .i64 o] 50) = W1 := ⟨_, rfl⟩
  have hB1 : Below W.heap.size W W1 := by rw [← hW1]; exact (Below.refl _ _).alloc (Nat.le_refl _) _
  have g1 : Bl W1 W.heap.size (.cells #[.int .i64 1, .int .i64 o] 50 (0, 0)) := by rw [← hW1]; exact Bl.new' rfl
  have h1 := h.keep hB1
  obtain ⟨A0, c0, rfl, -⟩ := h.told.shape
  have a0 : W1.cell? ⟨W.heap.size, 0, none⟩ = some (.int .i64 1) := g1.cell 0
  have a1 : W1.cell? ⟨W.heap.size, 1, none⟩ = some (.int .i64 o) := g1.cell 1
  have a1' : W1.drew.cell? ⟨W.heap.size, 1, none⟩ = some (.int .i64 o) := a1
  have x0 : W1.cell? ⟨xb, 0, none⟩ = some (ptr b) := h1.x.cell 0
  have x2 : W1.cell? ⟨xb, 2, none⟩ = some (.slice A0 told.length c0) := h1.x.cell 2
  have x0' : W1.drew.cell? ⟨xb, 0, none⟩ = some (ptr b) := x0
  have x2' : W1.drew.cell? ⟨xb, 2, none⟩ = some (.slice A0 told.length c0) := x2
  have hsg := fun w hS => Signal_any base b mb o v s w hS hti hw hn64
  have hst := sigT_st o s.ts
  obtain ⟨TS, hTS⟩ : ∃ TS, sigT o s.ts = TS := ⟨_, rfl⟩
  have hrs : (sig0 o s.ts = 0 ∧ sigB o s.ts = false ∧ sigR o s.ts = -1) ∨ ∃ i : Nat, sig0 o s.ts = i ∧ sigB o s.ts = true ∧ sigR o s.ts = i := by
    unfold sig0 sigB sigR
    cases waitI o s.ts with
    | nil => exact .inl ⟨rfl, rfl, rfl⟩
    | cons i l => exact .inr ⟨i, rfl, rfl, rfl⟩
  rw [hTS] at hsg hst
  rw [hTS]
  have hWz := h.sh.ld.lt
  replace hst := Lib.hid hst
  replace hB1 := Lib.hid hB1
  replace h1 := Lib.hid h1
  replace h := Lib.hid h
  clear g1 hTS x2 x2'
  unfold ptr at x0 x0' hsg
  rcases hrs with ⟨e1, e2, e3⟩ | ⟨i, e1, e2, e3⟩
  · rw [e1, e2] at hsg
    rw [e3]
    clear e1 e2 e3
    replace hsg := Lib.hid hsg
    go_enter Try.func57, Try.ntmps57
    go_upto_region 1 with (fail)
    clear hW1
    go_upto_region 5 with (fail)
    rw [show Op.load 24 (Operand.tmp 35) = id (Op.load 24 (Operand.tmp 35)) from rfl, show Op.load 3 (Operand.tmp 37) = id (Op.load 3 (Operand.tmp 37)) from rfl]
    go_region_held3 (fun _ => True) (exact trivial) ((first
      | (go_at_call 42; refine (hsg.out _ (h1.out.keep (Below.refl _ _).drew).sh).mono ?_; rintro e w2 ⟨rfl, hS2, hf2⟩; have h2 := Lib.hid ((h1.out.keep (Below.refl _ _).drew).sched hS2 rfl hst.out hf2 (fun k hk _ => .inl (h1.out.fT _ hk)) hn64); have hf2' := Lib.hid (show Fr (fun k => foot b mb v s k ∨ k = xb ∨ (Value.slice A0 told.length c0).ownBlock = some k) W w2 from ((Fr.of_below hB1.out).drew).then hf2 (fun _ _ e => .inl e)); clear hS2 hf2)))
    all_goals
      have y3 : w2.cell? ⟨xb, 3, none⟩ = some (.bool false) := h2.out.x.cell 3
      have f3 := h2.out.x.frozen 3
      have h3 := Lib.hid (h2.out.mark (bad' := false))
      have hf3 := Lib.hid (hf2'.out.set (i := 3) (.bool false) (fun _ => .inr (.inl rfl)))
      go_upto_region 8 with (fail)
      obtain ⟨w3, hw3⟩ : ∃ w3, w2.setCell ⟨xb, 3, none⟩ (.bool false) = w3 := ⟨_, rfl⟩
      rw [hw3] at h3 hf3 ⊢
      clear hw3 y3 f3
      have y2 : w3.cell? ⟨xb, 2, none⟩ = some (.slice A0 told.length c0) := h3.out.x.cell 2
      have hlx := h3.out.x.lt
      go_wp2_with (first
        | (at_builtin; refine wpList_append_ow rfl _ _ 26 rfl base 3 Try.underlying26 infoInt rfl (by decide) _ told.length _ rfl (h3.out.told.alloc _) _ 1 1 [.int .i64 (-1)] rfl (rd_one rfl _ _) (by intro u hu; simp at hu; subst hu; rfl) (by unfold maxLen; omega) (by omega) (by have := h3.out.xlo; have := h3.out.x.lt; simp; omega) ?_; intro v5 w5 hown5 hgr5 hcase5; obtain ⟨A5, c5, rfl, -⟩ := hown5.shape; obtain ⟨tag5, h5, ht5⟩ := (h3.out.keep ((Below.refl _ _).alloc (Nat.le_refl _) _)).tell hown5 hgr5 hcase5; have gx := (h3.out.keep ((Below.refl _ _).alloc (Nat.le_refl _) _)).xgrown hgr5; have i2 : w5.cell? ⟨xb, 2, none⟩ = some (.slice A0 told.length c0) := gx.cell 2; have f2 := gx.frozen 2; have hl5 := gx.lt; have hf5 := Lib.hid ((hf3.out.alloc _).grown hgr5 (fun k e _ => .inr (.inr e))); have hc5 := Lib.hid hcase5; replace ht5 := Lib.hid ht5; replace h5 := Lib.hid h5; clear hown5 hgr5 hcase5 gx))
      go_end0
      exact ⟨rfl, _, tag5, h5.out, fun k hk => ht5.out k (by have := hf3.out.size; simp; omega), hf5.out.set _ (fun _ => .inr (.inl rfl)), hc5.out.imp id (fun e => ⟨_, e, by have := hf3.out.size; simp; omega⟩)⟩
  · rw [e1, e2] at hsg
    rw [e3]
    clear e1 e2 e3
    replace hsg := Lib.hid hsg
    go_enter Try.func57, Try.ntmps57
    go_upto_region 1 with (fail)
    clear hW1
    go_upto_region 5 with (fail)
    rw [show Op.load 24 (Operand.tmp 35) = id (Op.load 24 (Operand.tmp 35)) from rfl, show Op.load 3 (Operand.tmp 37) = id (Op.load 3 (Operand.tmp 37)) from rfl]
    go_region_held3 (fun _ => True) (exact trivial) ((first
      | (go_at_call 42; refine (hsg.out _ (h1.out.keep (Below.refl _ _).drew).sh).mono ?_; rintro e w2 ⟨rfl, hS2, hf2⟩; have h2 := Lib.hid ((h1.out.keep (Below.refl _ _).drew).sched hS2 rfl hst.out hf2 (fun k hk _ => .inl (h1.out.fT _ hk)) hn64); have hf2' := Lib.hid (show Fr (fun k => foot b mb v s k ∨ k = xb ∨ (Value.slice A0 told.length c0).ownBlock = some k) W w2 from ((Fr.of_below hB1.out).drew).then hf2 (fun _ _ e => .inl e)); clear hS2 hf2)))
    all_goals
      have y2 : w2.cell? ⟨xb, 2, none⟩ = some (.slice A0 told.length c0) := h2.out.x.cell 2
      have hlx := h2.out.x.lt
      go_wp2_with (first
        | (at_builtin; refine wpList_append_ow rfl _ _ 26 rfl base 3 Try.underlying26 infoInt rfl (by decide) _ told.length _ rfl (h2.out.told.alloc _) _ 1 1 [.int .i64 i] rfl (rd_one rfl _ _) (by intro u hu; simp at hu; subst hu; rfl) (by unfold maxLen; omega) (by omega) (by have := h2.out.xlo; have := h2.out.x.lt; simp; omega) ?_; intro v5 w5 hown5 hgr5 hcase5; obtain ⟨A5, c5, rfl, -⟩ := hown5.shape; obtain ⟨tag5, h5, ht5⟩ := (h2.out.keep ((Below.refl _ _).alloc (Nat.le_refl _) _)).tell hown5 hgr5 hcase5; have gx := (h2.out.keep ((Below.refl _ _).alloc (Nat.le_refl _) _)).xgrown hgr5; have i2 : w5.cell? ⟨xb, 2, none⟩ = some (.slice A0 told.length c0) := gx.cell 2; have f2 := gx.frozen 2; have hl5 := gx.lt; have hf5 := Lib.hid ((hf2'.out.alloc _).grown hgr5 (fun k e _ => .inr (.inr e))); have hc5 := Lib.hid hcase5; replace ht5 := Lib.hid ht5; replace h5 := Lib.hid h5; clear hown5 hgr5 hcase5 gx))
      go_end0
      exact ⟨rfl, _, tag5, h5.out, fun k hk => ht5.out k (by have := hf2'.out.size; simp; omega), hf5.out.set _ (fun _ => .inr (.inl rfl)), hc5.out.imp id (fun e => ⟨_, e, by have := hf2'.out.size; simp; omega⟩)⟩
theorem acts2 (base b mb xb n : Nat) (o : Int) (dv v : Value) (s : SS) (tv : Value) (told : List Int) (ats : List Nat) (ls : List (List (Int × Int))) (tag : Nat → Nat) (W : World) (h : PX W base b mb xb dv v s tv told false ats ls tag) (hn64 : s.bs.length ≤ 64) (ht : told.length < 1000000000000) (hti : TI s.steps s.wishes s.ts) (hw : s.wishes ≤ 4611686018427387904) :
    Calls Try.prog 57 #[.pointer (some ⟨xb, 0, none⟩), .int .i64 n, .agg #[.int .i64 2, .int .i64 o]] W fun e W' => e = .returned (.tuple #[]) ∧ PT W W' base b mb xb dv v s { s with ts := wakeAll s.ts (waitI o s.ts) } tv (told ++ [((waitI o s.ts).length : Int)]) false ats ls tag := by
  obtain ⟨W1, hW1⟩ : ∃ W1, W.alloc (.cells #[.int .i64 2, .int .i64 o] 50) = W1 := ⟨_, rfl⟩
  have hB1 : Below W.heap.size W W1 := by rw [← hW1]; exact (Below.refl _ _).alloc (Nat.le_refl _) _
  have g1 : Bl W1 W.heap.size (.cells #[.int .i64 2, .int .i64 o] 50 (0, 0)) := by rw [← hW1]; exact Bl.new' rfl
  have h1 := h.keep hB1
  obtain ⟨A0, c0, rfl, -⟩ := h.told.shape
  have a0 : W1.cell? ⟨W.heap.size, 0, none⟩ = some (.int .i64 2) := g1.cell 0
  have a1 : W1.cell? ⟨W.heap.size, 1, none⟩ = some (.int .i64 o) := g1.cell 1
  have a1' : W1.drew.cell? ⟨W.heap.size, 1, none⟩ = some (.int .i64 o) := a1
  have x0 : W1.cell? ⟨xb, 0, none⟩ = some (ptr b) := h1.x.cell 0
  have x2 : W1.cell? ⟨xb, 2, none⟩ = some (.slice A0 told.length c0) := h1.x.cell 2
  have x0' : W1.drew.cell? ⟨xb, 0, none⟩ = some (ptr b) := x0
  have x2' : W1.drew.cell? ⟨xb, 2, none⟩ = some (.slice A0 told.length c0) := x2
  have hsg := fun w hS => Broadcast_any base b mb o v s w hS hti hw hn64
  have hst := wakeAll_st (waitI o s.ts) s.ts
  obtain ⟨TS, hTS⟩ : ∃ TS, wakeAll s.ts (waitI o s.ts) = TS := ⟨_, rfl⟩
  rw [hTS] at hsg hst
  rw [hTS]
  obtain ⟨R, hR⟩ : ∃ R : Int, ((waitI o s.ts).length : Int) = R := ⟨_, rfl⟩
  rw [hR] at hsg
  rw [hR]
  have hWz := h.sh.ld.lt
  replace hst := Lib.hid hst
  replace hB1 := Lib.hid hB1
  replace h1 := Lib.hid h1
  replace h := Lib.hid h
  clear g1 hTS hR
  unfold ptr at x0 x0' hsg
  replace hsg := Lib.hid hsg
  go_enter Try.func57, Try.ntmps57
  go_upto_region 1 with (fail)
  clear hW1
  go_upto_region 11 with (fail)
  rw [show Op.load 26 (Operand.tmp 70) = id (Op.load 26 (Operand.tmp 70)) from rfl, show Op.load 24 (Operand.tmp 74) = id (Op.load 24 (Operand.tmp 74)) from rfl, show Op.load 3 (Operand.tmp 76) = id (Op.load 3 (Operand.tmp 76)) from rfl]
  go_region_held3 (fun _ => True) (exact trivial) ((first
    | (go_at_call 44; refine (hsg.out _ (h1.out.keep (Below.refl _ _).drew).sh).mono ?_; rintro e w2 ⟨rfl, hS2, hf2⟩; have h2 := Lib.hid ((h1.out.keep (Below.refl _ _).drew).sched hS2 rfl hst.out hf2 (fun k hk _ => .inl (h1.out.fT _ hk)) hn64); have y2 : w2.cell? ⟨xb, 2, none⟩ = some (.slice A0 told.length c0) := h2.out.x.cell 2; have hl2 := h2.out.x.lt; have hne2 : xb ≠ w2.heap.size := (by omega); have hf2' := Lib.hid (show Fr (fun k => foot b mb v s k ∨ k = xb ∨ (Value.slice A0 told.length c0).ownBlock = some k) W w2 from ((Fr.of_below hB1.out).drew).then hf2 (fun _ _ e => .inl e)); clear hS2 hf2)
    | (refine step_append_ow rfl _ _ 26 rfl base 3 Try.underlying26 infoInt rfl (by decide) _ told.length _ rfl (h2.out.told.alloc _) _ 1 1 [.int .i64 R] rfl (rd_one rfl _ _) (by intro u hu; simp at hu; subst hu; rfl) (by unfold maxLen; omega) (by omega) (by have := h2.out.xlo; have := h2.out.x.lt; simp; omega) ?_; intro v5 w5 hown5 hgr5 hcase5; obtain ⟨A5, c5, rfl, -⟩ := hown5.shape; obtain ⟨tag5, h5, ht5⟩ := (h2.out.keep ((Below.refl _ _).alloc (Nat.le_refl _) _)).tell hown5 hgr5 hcase5; have gx := (h2.out.keep ((Below.refl _ _).alloc (Nat.le_refl _) _)).xgrown hgr5; have i2 : w5.cell? ⟨xb, 2, none⟩ = some (.slice A0 told.length c0) := gx.cell 2; have f2 := gx.frozen 2; have hl5 := gx.lt; have hf5 := Lib.hid ((hf2'.out.alloc _).grown hgr5 (fun k e _ => .inr (.inr e))); have hw2 : W.heap.size ≤ w2.heap.size := hf2'.out.size; have hc5 := Lib.hid hcase5; replace ht5 := Lib.hid ht5; replace h5 := Lib.hid h5; clear hown5 hgr5 hcase5 gx)))
  all_goals
    go_wp2_with fail
    go_end0
    exact ⟨rfl, _, tag5, h5.out, fun k hk => ht5.out k (by simp; omega), hf5.out.set _ (fun _ => .inr (.inl rfl)), hc5.out.imp id (fun e => ⟨_, e, by simp; omega⟩)⟩
theorem acts4 (base b mb xb n : Nat) (o : Int) (dv v : Value) (s : SS) (tv : Value) (told : List Int) (ats : List Nat) (ls : List (List (Int × Int))) (tag : Nat → Nat) (W : World) (h : PX W base b mb xb dv v s tv told false ats ls tag) (hn64 : s.bs.length ≤ 64) (ht : told.length < 1000000000000) (hti : TI s.steps s.wishes s.ts) (hw : s.wishes ≤ 4611686018427387904) (d : Int) (hd : 4 ≤ d) :
    Calls Try.prog 57 #[.pointer (some ⟨xb, 0, none⟩), .int .i64 n, .agg #[.int .i64 d, .int .i64 o]] W fun e W' => e = .returned (.tuple #[]) ∧ PT W W' base b mb xb dv v s s tv told false ats ls tag := by
  obtain ⟨W1, hW1⟩ : ∃ W1, W.alloc (.cells #[.int .i64 d, .int .i64 o] 50) = W1 := ⟨_, rfl⟩
  have hB1 : Below W.heap.size W W1 := by rw [← hW1]; exact (Below.refl _ _).alloc (Nat.le_refl _) _
  have g1 : Bl W1 W.heap.size (.cells #[.int .i64 d, .int .i64 o] 50 (0, 0)) := by rw [← hW1]; exact Bl.new' rfl
  have h1 := h.keep hB1
  obtain ⟨A0, c0, rfl, -⟩ := h.told.shape
  have a0 : W1.cell? ⟨W.heap.size, 0, none⟩ = some (.int .i64 d) := g1.cell 0
  have a1 : W1.cell? ⟨W.heap.size, 1, none⟩ = some (.int .i64 o) := g1.cell 1
  have a1' : W1.drew.cell? ⟨W.heap.size, 1, none⟩ = some (.int .i64 o) := a1
  have x0 : W1.cell? ⟨xb, 0, none⟩ = some (ptr b) := h1.x.cell 0
  have x2 : W1.cell? ⟨xb, 2, none⟩ = some (.slice A0 told.length c0) := h1.x.cell 2
  have x0' : W1.drew.cell? ⟨xb, 0, none⟩ = some (ptr b) := x0
  have x2' : W1.drew.cell? ⟨xb, 2, none⟩ = some (.slice A0 told.length c0) := x2
  have d0 : (d == 0) = false := beq_eq_false_iff_ne.2 (by omega)
  have d1 : (d == 1) = false := beq_eq_false_iff_ne.2 (by omega)
  have d2 : (d == 2) = false := beq_eq_false_iff_ne.2 (by omega)
  have d3 : (d == 3) = false := beq_eq_false_iff_ne.2 (by omega)
  replace hd := Lib.hid hd
  replace hB1 := Lib.hid hB1
  replace h1 := Lib.hid h1
  replace h := Lib.hid h
  clear g1 x0 x0' x2 x2' hti
  go_enter Try.func57, Try.ntmps57
  go_upto_region 1 with (fail)
  clear hW1
  go_wp2_with fail
  go_end0
  exact ⟨rfl, _, tag, h1.out, fun _ _ => rfl, Fr.of_below hB1.out, .inl rfl⟩
theorem acts3 (base b mb xb n : Nat) (o : Int) (dv v : Value) (s : SS) (tv : Value) (told : List Int) (ats : List Nat) (ls : List (List (Int × Int))) (tag : Nat → Nat) (W : World) (h : PX W base b mb xb dv v s tv told false ats ls tag) (hn64 : s.bs.length ≤ 64) (ht : told.length < 1000000000000) (hti : TI s.steps s.wishes s.ts) (hw : s.wishes ≤ 4611686018427387904) :
    Calls Try.prog 57 #[.pointer (some ⟨xb, 0, none⟩), .int .i64 n, .agg #[.int .i64 3, .int .i64 o]] W fun e W' => ∃ u pv, e = .panicked [{ v := .iface u pv, recovered := false }] ∧ PX W' base b mb xb dv v s tv told false ats ls tag ∧ Below W.heap.size W W' := by
  obtain ⟨W1, hW1⟩ : ∃ W1, W.alloc (.cells #[.int .i64 3, .int .i64 o] 50) = W1 := ⟨_, rfl⟩
  have hB1 : Below W.heap.size W W1 := by rw [← hW1]; exact (Below.refl _ _).alloc (Nat.le_refl _) _
  have g1 : Bl W1 W.heap.size (.cells #[.int .i64 3, .int .i64 o] 50 (0, 0)) := by rw [← hW1]; exact Bl.new' rfl
  have h1 := h.keep hB1
  obtain ⟨A0, c0, rfl, -⟩ := h.told.shape
  have a0 : W1.cell? ⟨W.heap.size, 0, none⟩ = some (.int .i64 3) := g1.cell 0
  have a1 : W1.cell? ⟨W.heap.size, 1, none⟩ = some (.int .i64 o) := g1.cell 1
  have a1' : W1.drew.cell? ⟨W.heap.size, 1, none⟩ = some (.int .i64 o) := a1
  have x0 : W1.cell? ⟨xb, 0, none⟩ = some (ptr b) := h1.x.cell 0
  have x2 : W1.cell? ⟨xb, 2, none⟩ = some (.slice A0 told.length c0) := h1.x.cell 2
  have x0' : W1.drew.cell? ⟨xb, 0, none⟩ = some (ptr b) := x0
  have x2' : W1.drew.cell? ⟨xb, 2, none⟩ = some (.slice A0 told.length c0) := x2
  obtain ⟨up, pv, wp, hrun, hBp⟩ := run_index_nil (P := Try.prog) (w := W1) 26 3 told.length Try.underlying26
  replace hBp := Lib.hid hBp
  replace hB1 := Lib.hid hB1
  replace h1 := Lib.hid h1
  replace h := Lib.hid h
  clear g1 x0 x0' x2' hti
  go_enter Try.func57, Try.ntmps57
  go_upto_region 1 with (fail)
  clear hW1
  go_upto_region 14 with (fail)
  go_wp2_with fail
  exact ⟨rfl, up, pv, rfl, h1.out.keep hBp.out, below_then hB1.out hBp.out⟩
end Go.Proofs.Ytcdhmjapeapicaa
