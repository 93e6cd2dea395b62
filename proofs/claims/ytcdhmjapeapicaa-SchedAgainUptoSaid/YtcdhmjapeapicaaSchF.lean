/- The steps of the law's tasks; two tasks that are dead. Conditions: what each theorem names. -/
import Derived.RangeFuncNested
import Derived.RangeFuncBound
import Derived.RangeFuncCalls
import Derived.RangeFuncLeaves
import Derived.Shelf.Abstract
import Derived.Shelf.RegionOpen
import Derived.WalkKit
import Derived.OwnWalkIn
import Derived.TacticsInMore
import Derived.LoopNIn
import Derived.LoopIn
import Derived.Lib.Hide
import Derived.Outline
import Derived.RegionTactic
import Derived.BigRegion
import Derived.WalkLawsBesides
import Derived.WalkSpells
import Derived.Deep.QuietTactic
import Derived.BigQuiet
import Derived.Deep.RegionHeld3
import Derived.Deep.DeepCutAuto
import Derived.Deep.CutBlock
import Derived.StillTailTactics
import Derived.WalkSmall
import Derived.Test.YtcdhmjapeapicaaProg
import Derived.Test.YtcdhmjapeapicaaFr
import Derived.Test.YtcdhmjapeapicaaMp
import Derived.Defers
import Derived.Recover
import Derived.Test.YtcdhmjapeapicaaSchE
namespace Go.Proofs.Ytcdhmjapeapicaa
open Go.RowKit Go.Sed Go.Maps
set_option maxHeartbeats 1000000
set_option maxRecDepth 100000
theorem results_wish {fn : Func} {p : Tmp} (h : fn.results = #[.cell p 31]) (tmps : Array Value) (w : World) (b : Nat) (x0 x1 : Value) (T : TypeId) (hp : tmps.getD p undef = .pointer (some ⟨b, 0, none⟩))
    (hb : Bl w b (.cells #[x0, x1] T (0, 0))) : (results fn tmps).run Try.prog w = .ok (.agg #[x0, x1]) w := by
  have c0 : w.cell? ⟨b, 0, none⟩ = some x0 := hb.cell 0
  have c1 : w.cell? ⟨b, 1, none⟩ = some x1 := hb.cell 1
  simp only [results, h]
  have hp' : tmps[p]?.getD undef = .pointer (some ⟨b, 0, none⟩) := by simpa using hp
  simp [Sem.run_bind, Result.andThen, hp', go_sem, c0, c1]
/-- a step of the two tasks. -/
theorem lstep_any (A B : Nat) (a f : Int) (w : World) (hA : Bl w A (.cells #[.int .i64 a] 3 (0, 0))) (hB : Bl w B (.cells #[.int .i64 f] 3 (0, 0))) (hne : A ≠ B) (ha : 0 ≤ a ∧ a < 1000) (hf : 0 ≤ f ∧ f < 1000) :
    Calls Try.prog 27 #[.pointer (some ⟨A, 0, none⟩), .pointer (some ⟨B, 0, none⟩)] w fun e w' => e = .returned (.agg #[.int .i64 1, .int .i64 ((f + (a + 1)) % 2)]) ∧ Bl w' A (.cells #[.int .i64 (a + 1)] 3 (0, 0)) ∧ Fr (fun k => k = A) w w' := by
  obtain ⟨W1, hW1⟩ : ∃ W1, w.alloc (.cells #[.int .i64 0, .int .i64 0] 31) = W1 := ⟨_, rfl⟩
  have hB1 : Below w.heap.size w W1 := by rw [← hW1]; exact (Below.refl _ _).alloc (Nat.le_refl _) _
  have g1 : Bl W1 w.heap.size (.cells #[.int .i64 0, .int .i64 0] 31 (0, 0)) := by rw [← hW1]; exact Bl.new' rfl
  have hAz := hA.lt
  have hBz := hB.lt
  have gA := hA.keep hB1
  have gB := hB.keep hB1
  have c0 : W1.cell? ⟨A, 0, none⟩ = some (.int .i64 a) := gA.cell 0
  have z0 := gA.frozen 0
  have gA2 := Lib.hid (gA.setSame1 (.int .i64 (a + 1)))
  have gB2 := Lib.hid (gB.set (.int .i64 (a + 1)) (b := A) (i := 0) (fun e => hne e.symm))
  have g2 := Lib.hid (g1.set (.int .i64 (a + 1)) (b := A) (i := 0) (by omega))
  have hf2 := Lib.hid (show Fr (fun k => k = A) w (W1.setCell ⟨A, 0, none⟩ (.int .i64 (a + 1))) from (Fr.of_below hB1).set _ (fun _ => rfl))
  clear hA hB gA gB g1
  go_enter Try.func27, Try.ntmps27
  go_upto_region 1 with (fail)
  clear hW1
  go_upto_region 2 with (fail)
  obtain ⟨W2, hW2⟩ : ∃ W2, W1.setCell ⟨A, 0, none⟩ (.int .i64 (a + 1)) = W2 := ⟨_, rfl⟩
  rw [hW2] at gA2 gB2 g2 hf2 ⊢
  clear hW2 c0 z0
  have c0 : W2.cell? ⟨A, 0, none⟩ = some (.int .i64 (a + 1)) := gA2.out.cell 0
  have c1 : W2.cell? ⟨B, 0, none⟩ = some (.int .i64 f) := gB2.out.cell 0
  have e0 : W2.cell? ⟨w.heap.size, 0, none⟩ = some (.int .i64 0) := g2.out.cell 0
  have e1 : W2.cell? ⟨w.heap.size, 1, none⟩ = some (.int .i64 0) := g2.out.cell 1
  have f0 := g2.out.frozen 0
  have f1 := g2.out.frozen 1
  go_wp2_with fail
  refine bodyPost_ret (results_wish rfl _ _ w.heap.size (.int .i64 1) (.int .i64 ((f + (a + 1)) % 2)) _ rfl ((g2.out.setSame 0 _).setSame 1 _)) rfl ⟨rfl, (gA2.out.set _ (by omega)).set _ (by omega), (hf2.out.set _ (fun h => by omega)).set _ (fun h => by omega)⟩
def wk (e d : Int) : Int := if e < d then 4 else 0
/-- a step of the law's tasks. -/
theorem tstep_any (D g I E n i : Nat) (ds : List Int) (e d : Int) (w : World) (hD : Bl w D (.cells #[.slice (some ⟨g, 0, none⟩) n n] 26 (0, 0))) (hg : Bl w g (.cells (ci .i64 ds) 3 (0, 0))) (hI : Bl w I (.cells #[.int .i64 i] 3 (0, 0))) (hE : Bl w E (.cells #[.int .i64 e] 3 (0, 0)))
    (hn : ds.length = n) (hi : ds[i]? = some d) (h1 : g ≠ D) (h2 : g ≠ I) (h3 : g ≠ E) (hd : 0 ≤ d ∧ d < 1000) (he : 0 ≤ e ∧ e < 1000) (hn64 : n ≤ 64) :
    Calls Try.prog 11 #[.pointer (some ⟨D, 0, none⟩), .pointer (some ⟨I, 0, none⟩), .pointer (some ⟨E, 0, none⟩)] w fun r w' => r = .returned (.agg #[.int .i64 (wk e (d + 1)), .int .i64 0]) ∧ Bl w' g (.cells (ci .i64 (ds.set i (d + 1))) 3 (0, 0)) ∧ Fr (fun k => k = g) w w' := by
  obtain ⟨W1, hW1⟩ : ∃ W1, w.alloc (.cells #[.int .i64 0, .int .i64 0] 31) = W1 := ⟨_, rfl⟩
  have hB1 : Below w.heap.size w W1 := by rw [← hW1]; exact (Below.refl _ _).alloc (Nat.le_refl _) _
  have g1 : Bl W1 w.heap.size (.cells #[.int .i64 0, .int .i64 0] 31 (0, 0)) := by rw [← hW1]; exact Bl.new' rfl
  have hgz := hg.lt
  have hil := (List.getElem?_eq_some_iff.1 hi).1
  have gD := hD.keep hB1
  have gg := hg.keep hB1
  have gI := hI.keep hB1
  have gE := hE.keep hB1
  have hgv : ds[i]?.getD 0 = d := by rw [hi]; rfl
  have c0 : W1.cell? ⟨D, 0, none⟩ = some (.slice (some ⟨g, 0, none⟩) n n) := gD.cell 0
  have c1 : W1.cell? ⟨I, 0, none⟩ = some (.int .i64 i) := gI.cell 0
  have c2 : W1.cell? ⟨g, i, none⟩ = some (.int .i64 d) := by rw [gg.int i hil, hgv]
  have z2 := gg.frozen i
  have gg2 := Lib.hid (gg.setInt i (d + 1))
  have gD2 := Lib.hid (gD.set (.int .i64 (d + 1)) (b := g) (i := i) (fun e => h1 e.symm))
  have gI2 := Lib.hid (gI.set (.int .i64 (d + 1)) (b := g) (i := i) (fun e => h2 e.symm))
  have gE2 := Lib.hid (gE.set (.int .i64 (d + 1)) (b := g) (i := i) (fun e => h3 e.symm))
  have g2 := Lib.hid (g1.set (.int .i64 (d + 1)) (b := g) (i := i) (by omega))
  have hf2 := Lib.hid (show Fr (fun k => k = g) w (W1.setCell ⟨g, i, none⟩ (.int .i64 (d + 1))) from (Fr.of_below hB1).set _ (fun _ => rfl))
  replace hi := Lib.hid hi
  replace hn := Lib.hid hn
  rw [hn.out] at hil
  clear hD hg hI hE gD gg gI gE g1 hgv
  go_enter Try.func11, Try.ntmps11
  go_upto_region 1 with (fail)
  clear hW1
  go_upto_region 2 with (fail)
  obtain ⟨W2, hW2⟩ : ∃ W2, W1.setCell ⟨g, i, none⟩ (.int .i64 (d + 1)) = W2 := ⟨_, rfl⟩
  rw [hW2] at gg2 gD2 gI2 gE2 g2 hf2 ⊢
  clear hW2 c0 c1 c2 z2
  have c0 : W2.cell? ⟨D, 0, none⟩ = some (.slice (some ⟨g, 0, none⟩) n n) := gD2.out.cell 0
  have c1 : W2.cell? ⟨I, 0, none⟩ = some (.int .i64 i) := gI2.out.cell 0
  have c2 : W2.cell? ⟨g, i, none⟩ = some (.int .i64 (d + 1)) := by
    have hil' : i < (ds.set i (d + 1)).length := by rw [List.length_set, hn.out]; exact hil
    rw [gg2.out.int i hil', List.getElem?_set_self (by rw [hn.out]; exact hil)]; rfl
  have c3 : W2.cell? ⟨E, 0, none⟩ = some (.int .i64 e) := gE2.out.cell 0
  have e0 : W2.cell? ⟨w.heap.size, 0, none⟩ = some (.int .i64 0) := g2.out.cell 0
  have e1 : W2.cell? ⟨w.heap.size, 1, none⟩ = some (.int .i64 0) := g2.out.cell 1
  have f0 := g2.out.frozen 0
  have f1 := g2.out.frozen 1
  by_cases hlt : e < d + 1
  · have hwk := Lib.hid (show wk e (d + 1) = 4 from if_pos hlt)
    go_quiet (fail)
    go_wp2_with fail
    refine bodyPost_ret (results_wish rfl _ _ w.heap.size (.int .i64 4) (.int .i64 0) _ rfl (((g2.out.keep (below_drewN (Below.refl _ _) _)).setSame 0 _).setSame 1 _)) rfl ⟨by rw [hwk.out], ((gg2.out.keep (below_drewN (Below.refl _ _) _)).set _ (by omega)).set _ (by omega), ((hf2.out.thenB (below_drewN (Below.refl _ _) _)).set _ (fun h => by omega)).set _ (fun h => by omega)⟩
  · have hwk := Lib.hid (show wk e (d + 1) = 0 from if_neg hlt)
    go_quiet (fail)
    go_wp2_with fail
    refine bodyPost_ret (results_wish rfl _ _ w.heap.size (.int .i64 0) (.int .i64 0) _ rfl (((g2.out.keep (below_drewN (Below.refl _ _) _)).setSame 0 _).setSame 1 _)) rfl ⟨by rw [hwk.out], ((gg2.out.keep (below_drewN (Below.refl _ _) _)).set _ (by omega)).set _ (by omega), ((hf2.out.thenB (below_drewN (Below.refl _ _) _)).set _ (fun h => by omega)).set _ (fun h => by omega)⟩
end Go.Proofs.Ytcdhmjapeapicaa
