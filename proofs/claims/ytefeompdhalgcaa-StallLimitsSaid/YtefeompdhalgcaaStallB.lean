/- Contracts of layer 20 (stall): the limiter is asked. -/
import Derived.Test.YtefeompdhalgcaaProg
import Derived.RangeFuncNested
import Derived.RangeFuncBound
import Derived.RangeFuncCalls
import Derived.RangeFuncLeaves
import Derived.Shelf.Abstract
import Derived.Shelf.RegionOpen
import Derived.WalkKit
import Derived.OwnWalkIn
import Derived.TacticsInMore
import Derived.LoopNIn
import Derived.LoopIn
import Derived.Lib.Hide
import Derived.Outline
import Derived.RegionTactic
import Derived.BigRegion
import Derived.WalkLawsBesides
import Derived.WalkSpells
import Derived.Deep.QuietTactic
import Derived.BigQuiet
import Derived.Deep.RegionHeld3
import Derived.Lib.Bytealg
import Derived.Lib.ConvBytes
import Derived.Laws.BytesArg
import Derived.Test.YtefeompdhalgcaaSed
import Derived.Test.YtefeompdhalgcaaOwn
import Derived.Deep.DeepCutAuto
import Derived.Deep.CutBlock
import Derived.Laws.Externs
import Derived.Test.YtefeompdhalgcaaStallA
namespace Go.Proofs.Ytefeompdhalgcaa
open Go.RowKit Go.Sed
set_option maxHeartbeats 1000000
def foot (b : Nat) (vU vO : Value) (k : Nat) : Prop := k = b ∨ vU.ownBlock = some k ∨ vO.ownBlock = some k
/-- the limiter with rows of its own. -/
structure LO (w : World) (b : Nat) (r bu le : Int) (vU : Value) (U : List A3) (vO : Value) (O : List A3) (row : Int) : Prop where
  lm : Lm w b r bu le vU vO row
  u : OW w (b + 1) 3 vU U.length (fl U)
  o : OW w (b + 1) 3 vO O.length (fl O)
  apart : ∀ k, vU.ownBlock = some k → vO.ownBlock ≠ some k
theorem ask_long (b : Nat) (r bu le : Int) (vU vO : Value) (U O : List A3) (row who n : Int) (ur : Bool) (w : World) (h : LO w b r bu le vU U vO O row) (hn : U.length + O.length ≤ 4096) (hl : bu < n ∨ U.length + O.length = 4096) :
    Calls Try.prog 10 #[.pointer (some ⟨b, 0, none⟩), .int .i64 who, .int .u64 n, .bool ur] w fun e w' => e = .returned (.int .i64 2) ∧ Below w.heap.size w w' := by
  obtain ⟨A1, c1, rfl, -⟩ := h.u.shape
  obtain ⟨A2, c2, rfl, -⟩ := h.o.shape
  obtain ⟨n1, hn1⟩ : ∃ n1, U.length = n1 := ⟨_, rfl⟩
  obtain ⟨n2, hn2⟩ : ∃ n2, O.length = n2 := ⟨_, rfl⟩
  have hb := h.lm
  clear h
  rw [hn1] at hb hn hl
  rw [hn2] at hb hn hl
  clear hn1 hn2
  have k1 : w.cell? ⟨b, 1, none⟩ = some (.int .u64 bu) := hb.cell 1
  have k3 : w.cell? ⟨b, 3, none⟩ = some (.slice A1 n1 c1) := hb.cell 3
  have k4 : w.cell? ⟨b, 4, none⟩ = some (.slice A2 n2 c2) := hb.cell 4
  have hw : wrap64 ((n1 : Int) + n2) = (n1 : Int) + n2 := by unfold wrap64; omega
  clear hb
  by_cases hl1 : bu < n
  · go_enter Try.func10, Try.ntmps10
    go_wp2_with fail
    go_region
    go_wp2_with fail
    go_ret
    exact ⟨rfl, (Below.refl _ _).drew⟩
  · have hl2 : (4096 : Int) ≤ (n1 : Int) + n2 := by omega
    have hd : decide (bu < n) = false := decide_eq_false hl1
    have hd' : (bu < n) = False := eq_false hl1
    clear hl hn
    go_enter Try.func10, Try.ntmps10
    go_wp2_with fail
    go_region
    go_wp2_with fail
    go_ret
    exact ⟨rfl, (Below.refl _ _).drew⟩
theorem ask_fin_u {w w0 w3 : World} {b : Nat} {r bu le row : Int} {vU vO vU' : Value} {U O : List A3} {a : A3} (h : LO w b r bu le vU U vO O row) (hB : Below w.heap.size w w0) (hgr : w0.grownBy w3 vU.ownBlock)
    (hcase : vU'.ownBlock = vU.ownBlock ∨ vU'.ownBlock = some w0.heap.size) (hown : OW w3 (b + 1) 3 vU' (U.length + 1) (fl U ++ fl [a])) :
    LO (w3.setCell ⟨b, 3, none⟩ vU') b r bu le vU' (U ++ [a]) vO O row ∧ Fr (foot b vU vO) w (w3.setCell ⟨b, 3, none⟩ vU') ∧ ∀ k, foot b vU' vO k → foot b vU vO k ∨ w.heap.size ≤ k := by
  have hfr : Fr (fun k => vU.ownBlock = some k) w0 w3 := (Fr.refl _ _).grown hgr (fun k e _ => e)
  have hb3 : Lm w3 b r bu le vU vO row := Bl.fr (Bl.keep h.lm hB) hfr (fun e => by have := (h.u.lt _ e).1; omega)
  have ho3 : OW w3 (b + 1) 3 vO O.length (fl O) := (h.o.keep hB).fr hfr (fun k e e' => h.apart k e' e)
  have hnb : ∀ v, OW w3 (b + 1) 3 v O.length (fl O) → v.ownBlock ≠ some b := fun v hv e => by have := (hv.lt _ e).1; omega
  refine ⟨⟨Bl.setSame hb3 3 _, ?_, ho3.set _ (hnb _ ho3), ?_⟩, ((Fr.of_below hB).grown hgr (fun k e _ => .inr (.inl e))).set _ (fun _ => .inl rfl), ?_⟩
  · rw [List.length_append, fl_append]
    exact hown.set _ (fun e => by have := (hown.lt _ e).1; omega)
  · intro k e
    rcases hcase with hc | hc
    · exact h.apart k (hc ▸ e)
    · intro e'
      rw [hc] at e
      have := (h.o.lt _ e').2
      have := hB.size
      simp only [Option.some.injEq] at e
      omega
  · rintro k (rfl | e | e)
    · exact .inl (.inl rfl)
    · rcases hcase with hc | hc
      · exact .inl (.inr (.inl (hc ▸ e)))
      · rw [hc] at e
        simp only [Option.some.injEq] at e
        have := hB.size
        exact .inr (by omega)
    · exact .inl (.inr (.inr e))
theorem ask_fin_o {w w0 w3 : World} {b : Nat} {r bu le row : Int} {vU vO vU' : Value} {U O : List A3} {a : A3} (h : LO w b r bu le vU U vO O row) (hB : Below w.heap.size w w0) (hgr : w0.grownBy w3 vO.ownBlock)
    (hcase : vU'.ownBlock = vO.ownBlock ∨ vU'.ownBlock = some w0.heap.size) (hown : OW w3 (b + 1) 3 vU' (O.length + 1) (fl O ++ fl [a])) :
    LO (w3.setCell ⟨b, 4, none⟩ vU') b r bu le vU U vU' (O ++ [a]) row ∧ Fr (foot b vU vO) w (w3.setCell ⟨b, 4, none⟩ vU') ∧ ∀ k, foot b vU vU' k → foot b vU vO k ∨ w.heap.size ≤ k := by
  have hfr : Fr (fun k => vO.ownBlock = some k) w0 w3 := (Fr.refl _ _).grown hgr (fun k e _ => e)
  have hb3 : Lm w3 b r bu le vU vO row := Bl.fr (Bl.keep h.lm hB) hfr (fun e => by have := (h.o.lt _ e).1; omega)
  have ho3 : OW w3 (b + 1) 3 vU U.length (fl U) := (h.u.keep hB).fr hfr (fun k e e' => h.apart k e e')
  have hnb : ∀ v, OW w3 (b + 1) 3 v U.length (fl U) → v.ownBlock ≠ some b := fun v hv e => by have := (hv.lt _ e).1; omega
  refine ⟨⟨Bl.setSame hb3 4 _, ho3.set _ (hnb _ ho3), ?_, ?_⟩, ((Fr.of_below hB).grown hgr (fun k e _ => .inr (.inr e))).set _ (fun _ => .inl rfl), ?_⟩
  · rw [List.length_append, fl_append]
    exact hown.set _ (fun e => by have := (hown.lt _ e).1; omega)
  · intro k e e'
    rcases hcase with hc | hc
    · exact h.apart k e (hc ▸ e')
    · rw [hc] at e'
      have := (h.u.lt _ e).2
      have := hB.size
      simp only [Option.some.injEq] at e'
      omega
  · rintro k (rfl | e | e)
    · exact .inl (.inl rfl)
    · exact .inl (.inr (.inl e))
    · rcases hcase with hc | hc
      · exact .inl (.inr (.inr (hc ▸ e)))
      · rw [hc] at e
        simp only [Option.some.injEq] at e
        have := hB.size
        exact .inr (by omega)
def AskRes (w : World) (b : Nat) (r bu le : Int) (vU : Value) (U : List A3) (vO : Value) (O : List A3) (row : Int) (a : A3) (e : Ending) (w' : World) : Prop :=
  ∃ vU' vO', e = .returned (.int .i64 0) ∧ LO w' b r bu le vU' (if a.2.2 then U ++ [a] else U) vO' (if a.2.2 then O else O ++ [a]) row ∧ Fr (foot b vU vO) w w' ∧ ∀ k, foot b vU' vO' k → foot b vU vO k ∨ w.heap.size ≤ k
set_option maxRecDepth 100000 in
theorem ask_u (b : Nat) (r bu le : Int) (vU vO : Value) (U O : List A3) (row who n : Int) (w : World) (h : LO w b r bu le vU U vO O row) (hn : U.length + O.length < 4096) (hl : n ≤ bu) :
    Calls Try.prog 10 #[.pointer (some ⟨b, 0, none⟩), .int .i64 who, .int .u64 n, .bool true] w (AskRes w b r bu le vU U vO O row (who, n, true)) := by
  obtain ⟨A1, c1, rfl, -⟩ := h.u.shape
  obtain ⟨A2, c2, rfl, -⟩ := h.o.shape
  have hb := h.lm
  have hu := h.u
  have ho := h.o
  have hap := h.apart
  replace h := Lib.hid h
  obtain ⟨n1, hn1⟩ : ∃ n1, U.length = n1 := ⟨_, rfl⟩
  obtain ⟨n2, hn2⟩ : ∃ n2, O.length = n2 := ⟨_, rfl⟩
  rw [hn1] at hb hn hu hap ⊢
  rw [hn2] at hb hn ho hap ⊢
  have k1 : w.cell? ⟨b, 1, none⟩ = some (.int .u64 bu) := hb.cell 1
  have k3 : w.cell? ⟨b, 3, none⟩ = some (.slice A1 n1 c1) := hb.cell 3
  have k4 : w.cell? ⟨b, 4, none⟩ = some (.slice A2 n2 c2) := hb.cell 4
  have hw : wrap64 ((n1 : Int) + n2) = (n1 : Int) + n2 := by unfold wrap64; omega
  have hl1 : ¬ bu < n := by omega
  have hd : decide (bu < n) = false := decide_eq_false hl1
  have hd' : (bu < n) = False := eq_false hl1
  have hl2 : ¬ (4096 : Int) ≤ (n1 : Int) + n2 := by omega
  have hbl : b < w.heap.size := hb.lt
  replace hu := Lib.hid hu
  replace ho := Lib.hid ho
  replace hap := Lib.hid hap
  replace hn := Lib.hid hn
  go_enter Try.func10, Try.ntmps10
  go_wp2_with fail
  go_region
  go_wp2_with (go_at_call 26; refine (of_any _ _).mono ?_; rintro e w' ⟨rfl, rfl⟩)
  clear k1 k3 k4
  replace hb : Lm w.drew b r bu le _ _ row := Bl.drew hb
  have k3 : w.drew.cell? ⟨b, 3, none⟩ = some (.slice A1 n1 c1) := hb.cell 3
  have k3' : w.cell? ⟨b, 3, none⟩ = some (.slice A1 n1 c1) := k3
  rw [show Op.load 71 (Operand.tmp 40) = id (Op.load 71 (Operand.tmp 40)) from rfl]
  go_region_held3 (fun _ => True) (trivial)
    ((first
      | (refine step_append_ow rfl _ _ 71 rfl (b + 1) 77 Try.underlying71 infoAsk rfl (by decide) _ _ (fl U) rfl (by first | exact hu.out.drew.alloc _ | exact hu.out.drew.drew.alloc _) _ 1 1 (fl [(who, n, true)]) rfl (by first | exact rd_new rfl (fl [(who, n, true)]) _ _ _ rfl | exact (rd_new rfl (fl [(who, n, true)]) _ _ _ rfl).drew) (fl_one _) (by have := hn.out; unfold maxLen; omega) (by have := hn.out; omega) (by simp; omega) ?_; intro v' w3 hown hgr hcase; obtain ⟨A3, c3, rfl, -⟩ := hown.shape; have hfr := (Fr.refl (fun k => (Value.slice A1 n1 c1).ownBlock = some k) _).grown hgr (fun k e _ => e); have hb3 : Lm w3 b r bu le (.slice A1 n1 c1) (.slice A2 n2 c2) row := Bl.fr (by first | exact Bl.alloc hb _ | exact Bl.alloc (Bl.drew hb) _) hfr (fun e => by have := (hu.out.lt _ e).1; omega); have j3 : w3.cell? ⟨b, 3, none⟩ = some (.slice A1 n1 c1) := hb3.cell 3; have f3 := hb3.frozen 3)))
  all_goals go_wp2_with fail
  all_goals go_ret
  all_goals
    have hgr' : ((w.alloc (.cells #[.int .i64 who, .int .u64 n, .bool true] 77)).drew.drew).grownBy w3 (Value.slice A1 n1 c1).ownBlock := hgr
    have hcase' : (Value.slice A3 (n1 + 1) c3).ownBlock = (Value.slice A1 n1 c1).ownBlock ∨ (Value.slice A3 (n1 + 1) c3).ownBlock = some ((w.alloc (.cells #[.int .i64 who, .int .u64 n, .bool true] 77)).drew.drew).heap.size := hcase
    have hown' : OW w3 (b + 1) 3 (.slice A3 (n1 + 1) c3) (U.length + 1) (fl U ++ fl [(who, n, true)]) := by rw [hn1]; exact hown
    have h' := h.out
    rw [hn1, hn2] at h'
    obtain ⟨q1, q2, q3⟩ := ask_fin_u h' ((Below.refl _ _).alloc (Nat.le_refl _) _).drew.drew hgr' hcase' hown'
    exact ⟨_, _, rfl, q1, q2, q3⟩
set_option maxRecDepth 100000 in
theorem ask_o (b : Nat) (r bu le : Int) (vU vO : Value) (U O : List A3) (row who n : Int) (w : World) (h : LO w b r bu le vU U vO O row) (hn : U.length + O.length < 4096) (hl : n ≤ bu) :
    Calls Try.prog 10 #[.pointer (some ⟨b, 0, none⟩), .int .i64 who, .int .u64 n, .bool false] w (AskRes w b r bu le vU U vO O row (who, n, false)) := by
  obtain ⟨A1, c1, rfl, -⟩ := h.u.shape
  obtain ⟨A2, c2, rfl, -⟩ := h.o.shape
  have hb := h.lm
  have hu := h.u
  have ho := h.o
  have hap := h.apart
  replace h := Lib.hid h
  obtain ⟨n1, hn1⟩ : ∃ n1, U.length = n1 := ⟨_, rfl⟩
  obtain ⟨n2, hn2⟩ : ∃ n2, O.length = n2 := ⟨_, rfl⟩
  rw [hn1] at hb hn hu hap ⊢
  rw [hn2] at hb hn ho hap ⊢
  have k1 : w.cell? ⟨b, 1, none⟩ = some (.int .u64 bu) := hb.cell 1
  have k3 : w.cell? ⟨b, 3, none⟩ = some (.slice A1 n1 c1) := hb.cell 3
  have k4 : w.cell? ⟨b, 4, none⟩ = some (.slice A2 n2 c2) := hb.cell 4
  have hw : wrap64 ((n1 : Int) + n2) = (n1 : Int) + n2 := by unfold wrap64; omega
  have hl1 : ¬ bu < n := by omega
  have hd : decide (bu < n) = false := decide_eq_false hl1
  have hd' : (bu < n) = False := eq_false hl1
  have hl2 : ¬ (4096 : Int) ≤ (n1 : Int) + n2 := by omega
  have hbl : b < w.heap.size := hb.lt
  replace hu := Lib.hid hu
  replace ho := Lib.hid ho
  replace hap := Lib.hid hap
  replace hn := Lib.hid hn
  go_enter Try.func10, Try.ntmps10
  go_wp2_with fail
  go_region
  go_wp2_with (go_at_call 26; refine (of_any _ _).mono ?_; rintro e w' ⟨rfl, rfl⟩)
  clear k1 k3 k4
  replace hb : Lm w.drew b r bu le _ _ row := Bl.drew hb
  have k3 : w.drew.cell? ⟨b, 4, none⟩ = some (.slice A2 n2 c2) := hb.cell 4
  have k3' : w.cell? ⟨b, 4, none⟩ = some (.slice A2 n2 c2) := k3
  rw [show Op.load 71 (Operand.tmp 40) = id (Op.load 71 (Operand.tmp 40)) from rfl]
  go_region_held3 (fun _ => True) (trivial)
    ((first
      | (refine step_append_ow rfl _ _ 71 rfl (b + 1) 77 Try.underlying71 infoAsk rfl (by decide) _ _ (fl O) rfl (by first | exact ho.out.drew.alloc _ | exact ho.out.drew.drew.alloc _) _ 1 1 (fl [(who, n, false)]) rfl (by first | exact rd_new rfl (fl [(who, n, false)]) _ _ _ rfl | exact (rd_new rfl (fl [(who, n, false)]) _ _ _ rfl).drew) (fl_one _) (by have := hn.out; unfold maxLen; omega) (by have := hn.out; omega) (by simp; omega) ?_; intro v' w3 hown hgr hcase; obtain ⟨A3, c3, rfl, -⟩ := hown.shape; have hfr := (Fr.refl (fun k => (Value.slice A2 n2 c2).ownBlock = some k) _).grown hgr (fun k e _ => e); have hb3 : Lm w3 b r bu le (.slice A1 n1 c1) (.slice A2 n2 c2) row := Bl.fr (by first | exact Bl.alloc hb _ | exact Bl.alloc (Bl.drew hb) _) hfr (fun e => by have := (ho.out.lt _ e).1; omega); have j3 : w3.cell? ⟨b, 4, none⟩ = some (.slice A2 n2 c2) := hb3.cell 4; have f3 := hb3.frozen 4)))
  all_goals go_wp2_with fail
  all_goals go_ret
  all_goals
    have hgr' : ((w.alloc (.cells #[.int .i64 who, .int .u64 n, .bool false] 77)).drew.drew).grownBy w3 (Value.slice A2 n2 c2).ownBlock := hgr
    have hcase' : (Value.slice A3 (n2 + 1) c3).ownBlock = (Value.slice A2 n2 c2).ownBlock ∨ (Value.slice A3 (n2 + 1) c3).ownBlock = some ((w.alloc (.cells #[.int .i64 who, .int .u64 n, .bool false] 77)).drew.drew).heap.size := hcase
    have hown' : OW w3 (b + 1) 3 (.slice A3 (n2 + 1) c3) (O.length + 1) (fl O ++ fl [(who, n, false)]) := by rw [hn2]; exact hown
    have h' := h.out
    rw [hn1, hn2] at h'
    obtain ⟨q1, q2, q3⟩ := ask_fin_o h' ((Below.refl _ _).alloc (Nat.le_refl _) _).drew.drew hgr' hcase' hown'
    exact ⟨_, _, rfl, q1, q2, q3⟩
end Go.Proofs.Ytefeompdhalgcaa
