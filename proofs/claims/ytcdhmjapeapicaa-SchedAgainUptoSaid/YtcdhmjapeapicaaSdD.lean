/- A step that panics, caught. Conditions: what each theorem names. -/
import Derived.RangeFuncNested
import Derived.RangeFuncBound
import Derived.RangeFuncCalls
import Derived.RangeFuncLeaves
import Derived.Shelf.Abstract
import Derived.Shelf.RegionOpen
import Derived.WalkKit
import Derived.OwnWalkIn
import Derived.TacticsInMore
import Derived.LoopNIn
import Derived.LoopIn
import Derived.Lib.Hide
import Derived.Outline
import Derived.RegionTactic
import Derived.BigRegion
import Derived.WalkLawsBesides
import Derived.WalkSpells
import Derived.Deep.QuietTactic
import Derived.BigQuiet
import Derived.Deep.RegionHeld3
import Derived.Deep.DeepCutAuto
import Derived.Deep.CutBlock
import Derived.StillTailTactics
import Derived.WalkSmall
import Derived.Test.YtcdhmjapeapicaaProg
import Derived.Test.YtcdhmjapeapicaaFr
import Derived.Test.YtcdhmjapeapicaaMp
import Derived.Defers
import Derived.Recover
import Derived.Test.YtcdhmjapeapicaaSchC
namespace Go.Proofs.Ytcdhmjapeapicaa
open Go.RowKit Go.Sed Go.Maps
set_option maxHeartbeats 1000000
set_option maxRecDepth 100000
/-- a step that panics. -/
theorem does_no (base b mb x n G : Nat) (cap : Array Value) (v : Value) (s : SS) (t : Tk) (w : World) (h : SH w base b mb v s) (hx : s.bs[n]? = some x) (ht : s.ts[n]? = some t) (hst : t.st = .func (.func G) #[] cap) (eg : Enters Try.prog G)
    (F : Nat → Prop) (hF : ∀ k, F k → k < w.heap.size) (R : SS → World → World → Prop)
    (hcall : ∀ W, SH W base b mb v { s with within := true } → Fr (fun k => k = b) w W → Calls Try.prog G cap W fun e W' => ∃ u pv s', e = .panicked [{ v := .iface u pv, recovered := false }] ∧ SH W' base b mb v s' ∧ s'.bs = s.bs ∧ R s' W W' ∧ Fr F W W') :
    Calls Try.prog 54 #[ptr b, ptr x] w fun e w' => ∃ s' W W', e = .returned (.tuple #[.agg #[.int .i64 0, .int .i64 0], .bool false]) ∧ SH w' base b mb v { s' with within := false } ∧ s'.bs = s.bs ∧ R s' W W' ∧ Fr (fun k => k = b ∨ w.heap.size ≤ k ∧ k < W.heap.size) W' w' ∧ Fr (fun k => k = b ∨ F k) w w' := by
  have hmf : ∀ (fn : Fn) (first cap : Array Value) (w : World), (Instr.makeFunc fn first cap).run Try.prog w = .ok (.func fn first cap) w := fun _ _ _ _ => rfl
  obtain ⟨W1, hW1⟩ : ∃ W1, ((w.alloc (.cells #[.pointer (some ⟨b, 0, none⟩)] 24)).alloc (.cells #[.int .i64 0, .int .i64 0] 31)).alloc (.cells #[.bool false] 4) = W1 := ⟨_, rfl⟩
  have hB1 : Below w.heap.size w W1 := by
    rw [← hW1]
    exact (((Below.refl _ _).alloc (Nat.le_refl _) _).alloc (by simp) _).alloc (by simp; omega) _
  have g1 : Bl W1 w.heap.size (.cells #[.pointer (some ⟨b, 0, none⟩)] 24 (0, 0)) := by rw [← hW1]; exact ((Bl.new' rfl).alloc _).alloc _
  have g2 : Bl W1 (w.heap.size + 1) (.cells #[.int .i64 0, .int .i64 0] 31 (0, 0)) := by rw [← hW1]; exact (Bl.new' (by simp)).alloc _
  have g3 : Bl W1 (w.heap.size + 1 + 1) (.cells #[.bool false] 4 (0, 0)) := by rw [← hW1]; exact Bl.new' (by simp)
  have h1 := h.keep hB1
  have hbz := h.ld.lt
  have hxz := (h.tk n x t hx ht).lt
  have hxne : x ≠ b := fun e => by subst e; exact h.bbs (List.mem_of_getElem? hx)
  have d4 : W1.cell? ⟨b, 4, none⟩ = some (.bool s.within) := h1.ld.cell 4
  have z4 := h1.ld.frozen 4
  have h2 : SH (W1.setCell ⟨b, 4, none⟩ (.bool true)) base b mb v { s with within := true } := h1.setS 4 _ rfl rfl rfl rfl
  have k1 := g1.set (.bool true) (b := b) (i := 4) (by omega)
  have k2 := g2.set (.bool true) (b := b) (i := 4) (by omega)
  have k3 := g3.set (.bool true) (b := b) (i := 4) (by omega)
  have hF2 : Fr (fun k => k = b) w (W1.setCell ⟨b, 4, none⟩ (.bool true)) := (Fr.of_below hB1).set _ (fun _ => rfl)
  replace hcall := Lib.hid hcall
  replace hF := Lib.hid hF
  replace hB1 := Lib.hid hB1
  replace h1 := Lib.hid h1
  replace h2 := Lib.hid h2
  replace hF2 := Lib.hid hF2
  replace k1 := Lib.hid k1
  replace k2 := Lib.hid k2
  replace k3 := Lib.hid k3
  replace h := Lib.hid h
  have e1 : W1.cell? ⟨w.heap.size, 0, none⟩ = some (.pointer (some ⟨b, 0, none⟩)) := g1.cell 0
  clear g1 g2 g3
  unfold ptr
  go_enter_defers Try.func54, Try.ntmps54
  go_upto_region 1 with (fail)
  clear hW1
  go_upto_region 3 with (fail)
  obtain ⟨W2, hW2⟩ : ∃ W2, W1.setCell ⟨b, 4, none⟩ (.bool true) = W2 := ⟨_, rfl⟩
  rw [hW2] at h2 hF2 k1 k2 k3 ⊢
  clear d4 z4 h1 hW2 e1
  have c1 : W2.cell? ⟨x, 1, none⟩ = some (.func (.func G) #[] cap) := by rw [← hst]; exact (h2.out.tk n x t hx ht).cell 1
  go_wp2_with fail
  rw [eg cap W2, Oper.upon_enter]
  refine (hcall.out W2 h2.out hF2.out).mono ?_
  rintro e W3 ⟨u, pv, s', rfl, h3, hbs, hR, hF3⟩
  have hs2 : w.heap.size ≤ W2.heap.size := hF2.out.size
  have hs3 : w.heap.size + 1 + 1 < W2.heap.size := k3.out.lt
  have nF : ∀ j, w.heap.size ≤ j → ¬ F j := fun j hj hf => by have := hF.out j hf; omega
  have j1 := k1.out.fr hF3 (nF _ (Nat.le_refl _))
  have j2 := k2.out.fr hF3 (nF _ (by omega))
  have j3 := k3.out.fr hF3 (nF _ (by omega))
  have h6 : SH (W3.setCell ⟨b, 4, none⟩ (.bool false)) base b mb v { s' with within := false } := h3.setS 4 _ rfl rfl rfl rfl
  have q5 := ((j2.set (.bool false) (b := b) (i := 4) (by omega)).setSame 0 (.int .i64 0)).setSame 1 (.int .i64 0)
  have q6 := ((j3.set (.bool false) (b := b) (i := 4) (by omega)).set (.int .i64 0) (b := w.heap.size + 1) (i := 0) (by omega)).set (.int .i64 0) (b := w.heap.size + 1) (i := 1) (by omega)
  refine leaves_cons (f := 64) (args := #[.pointer (some ⟨w.heap.size, 0, none⟩), .pointer (some ⟨w.heap.size + 1 + 1, 0, none⟩), .pointer (some ⟨w.heap.size + 1, 0, none⟩)]) (by simp) (by simp [go_sem]) ?_
  refine (does1_no b w.heap.size (w.heap.size + 1 + 1) (w.heap.size + 1) u pv [] _ _ _ (j1.cell 0) (j3.cell 0) (h3.ld.frozen 4) ⟨_, h3.ld.cell 4⟩ (by omega) (j2.cell 0) (j2.cell 1) (j2.frozen 0) (j2.frozen 1) (by omega)).mono ?_
  rintro e u' w'' ⟨rfl, rfl, rfl⟩
  obtain ⟨W6, hW6⟩ : ∃ W6, ((W3.setCell ⟨b, 4, none⟩ (.bool false)).setCell ⟨w.heap.size + 1, 0, none⟩ (.int .i64 0)).setCell ⟨w.heap.size + 1, 1, none⟩ (.int .i64 0) = W6 := ⟨_, rfl⟩
  have hlo : ∀ j, foot b mb v { s' with within := false } j → j < w.heap.size := fun j hj => by
    have : foot b mb v s j := by
      unfold foot at hj ⊢
      simp only at hj
      rw [hbs] at hj; exact hj
    exact (h.out.lo j this).2
  have f6 : Fr (fun j => j = w.heap.size + 1) (W3.setCell ⟨b, 4, none⟩ (.bool false)) W6 := by
    rw [← hW6]
    exact ((Fr.refl (fun j => j = w.heap.size + 1) _).set _ (fun _ => rfl)).set _ (fun _ => rfl)
  have h7 : SH W6 base b mb v { s' with within := false } := h6.fr f6 (fun j hj e => by have := hlo j hj; omega)
  have r1 : Fr (fun k => k = b ∨ w.heap.size ≤ k ∧ k < W2.heap.size) W3 W6 :=
    ((Fr.refl (fun k => k = b ∨ w.heap.size ≤ k ∧ k < W2.heap.size) W3).set (k := b) (i := 4) (.bool false) (fun _ => .inl rfl)).then f6 (fun j _ e => .inr ⟨by omega, by omega⟩)
  have r2 : Fr (fun k => k = b ∨ F k) w W6 :=
    ((hF2.out.mono (fun _ _ h => .inl h)).then (hF3.mono (fun _ _ h => .inr h)) (fun _ _ h => h)).then r1 (fun i hi h => by
      rcases h with h | ⟨h, _⟩
      · exact .inl h
      · omega)
  rw [hW6] at q5 q6 ⊢
  have q0 : W6.cell? ⟨w.heap.size + 1, 0, none⟩ = some (.int .i64 0) := q5.cell 0
  have q1 : W6.cell? ⟨w.heap.size + 1, 1, none⟩ = some (.int .i64 0) := q5.cell 1
  have q2 : W6.cell? ⟨w.heap.size + 1 + 1, 0, none⟩ = some (.bool false) := q6.cell 0
  have hfin : (∃ s_1 W_0 W_1, Ending.returned (.tuple #[.agg #[.int .i64 0, .int .i64 0], .bool false]) = Ending.returned (.tuple #[.agg #[.int .i64 0, .int .i64 0], .bool false]) ∧ SH W6 base b mb v { s_1 with within := false } ∧ s_1.bs = s.bs ∧ R s_1 W_0 W_1 ∧ Fr (fun k => k = b ∨ w.heap.size ≤ k ∧ k < W_0.heap.size) W_1 W6 ∧ Fr (fun k => k = b ∨ F k) w W6) :=
    ⟨s', W2, W3, rfl, h7, hbs, hR, r1, r2⟩
  clear hW6 q5 q6 r1 r2 h6 h7 f6
  simp [Leaves, settle, results, Try.results54, go_sem, q0, q1, q2]
  simpa using hfin
end Go.Proofs.Ytcdhmjapeapicaa
