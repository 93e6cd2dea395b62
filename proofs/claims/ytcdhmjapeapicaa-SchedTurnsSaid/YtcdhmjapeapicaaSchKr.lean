/-
  PROVED HERE: 'sediment/sedimentlaw04.SchedTurns' returns true for every input, and leaves its arguments as they were (Rows.SchedTurnsSaid). No condition.
-/
import Derived.Test.YtcdhmjapeapicaaRows
import Derived.ProofKit
import Derived.OpenShut
import Derived.ShutString
import Derived.ChangeOld
import Derived.SizedLaws
import Derived.Test.YtcdhmjapeapicaaOpen
import Derived.Test.YtcdhmjapeapicaaSchK
namespace Go.Proofs.Ytcdhmjapeapicaa
open Go.RowKit Go.Sed
namespace schedTurns
open Go.ChangeShapes Go.WideShapes Go.ChangeAt Go.RowKit
open Go.ChangeMaps (open_string shut_string)
set_option linter.unusedVariables false
theorem own : ownKnob Try.prog.godebug = none := by kernel_rfl
theorem laidOut : laidOutB Try.prog = true := by kernel_rfl
set_option maxRecDepth 100000 in
theorem lifted (os : Os) (started : os.Started) (H : Type) (enc : TypeId × Value → H) :
    ReturnsInHanded {} Try.checked os 3 .any (Rows.schedTurnsSpec.pre6 enc Try.prog Try.f3 Rows.schedTurnsRow.domain false) (Rows.schedTurnsSpec.post enc Try.prog Try.f3 false true false false) := by
  refine returnsInHanded_of_change_sized (C := Try.checked) own started (by kernel_rfl) Try.func3
    (ChangeSpec.witness6 (enc := enc) (C := Try.checked) false ⟨#[], #[.slice none 0 0], []⟩ 8 (by kernel_rfl) (by kernel_rfl) (by kernel_rfl) (by kernel_rfl)) ?_
  intro W base args ds gs before hval0 hW hcnd hsz0 _
  have hval : ∀ (j : Nat) t v, Try.f3.params[j]? = some t → args[j]? = some v → Value.okWide Try.prog W .any base t v := hval0
  have hW' := hW
  obtain ⟨p, q, hA0, hV, rfl, hfz, hnd⟩ := hW
  have hA : DataW.TrodAll enc Try.prog W 0 (fun _ => true) true Try.f3.params.toList args.toList ds p := hA0
  have hsz : (DataW.weightsEach Try.prog (Try.f3.params.toList ++ Rows.schedTurnsSpec.plain.varTypes Try.prog) (ds ++ gs)).all (· ≤ reachBytes) = true := hsz0
  rw [Try.params3] at hA hval hsz
  obtain ⟨v0, vs0, d0, ds0, p0, q0, hargs, rfl, rfl, h0, r0⟩ := trodAll_cons hA
  obtain ⟨rfl, rfl, rfl⟩ := trodAll_nil r0
  obtain rfl : args = #[v0] := by cases args; simp_all
  obtain ⟨rfl, rfl⟩ := trodVars_none hV
  have k0 := h0
  have lt0 : ∀ x ∈ p0, x.block < W.heap.size := by obtain ⟨m, hm⟩ := k0; exact DataW.trod_lt m _ _ _ hm
  clear hA0 hval0 hsz0
  simp only [List.append_nil] at hW'
  obtain ⟨pm, m, cm, rfl⟩ := okWide_slice Try.underlying22 (hval 0 22 v0 rfl rfl)
  obtain ⟨l, rfl, hm, hmn, hmr⟩ : ∃ l : List Int, m = l.length ∧ RI W .u8 pm l ∧ l.length * 1 ≤ 140737488351232 ∧ (∀ k (h : k < l.length), 0 ≤ l[k] ∧ l[k] < 256) := by
    obtain ⟨fuel, hf⟩ := h0
    rcases open_ints Try.underlying22 Try.underlying5 (by kernel_rfl) hf with ⟨hcs, hx⟩ | ⟨x, l, c, zs, hcs, _, hl, hm, hz, hx, hcell, hwz⟩
    · simp [Value.cells] at hcs
      obtain ⟨rfl, rfl, rfl⟩ := hcs
      exact ⟨[], rfl, fun i hi => by simp at hi, by simp, fun k h => by simp at h⟩
    · simp [Value.cells] at hcs
      obtain ⟨rfl, rfl, rfl⟩ := hcs
      simp only [Prod.mk.injEq] at hx
      obtain ⟨rfl, rfl⟩ := hx
      have hb := sized_slice hsz (j := 0) (t := 22) (e := 5) rfl rfl Try.underlying22
      rw [show Try.prog.bytesOf 5 = 1 by kernel_rfl] at hb
      simp only [if_true] at hz
      simp only [lits, List.length_map, List.length_take, List.length_drop, reachBytes] at hb
      refine ⟨zs.take m, by simp; omega, fun i hi => ?_, by simp; omega, fun k h => ?_⟩
      · simp only [List.length_take] at hi
        obtain ⟨hs, hcell⟩ := row_at (xs := zs.map (Value.int .u8)) (by simp; omega) (fun i hi => by rw [hcell i (by simpa using hi)]; simp at hi; simp [hi])
        refine ⟨x.block, x.off, by rw [hs], ?_⟩
        apply hcell i
        simp [show i < m by omega, show i < zs.length by omega]
      · have := bounds_u8 (hwz _ (List.mem_of_mem_take (List.getElem_mem h)))
        omega
  refine (turns_walk pm cm l W (rd_of_ri hm) (fun x hx => by obtain ⟨i, hi⟩ := List.mem_iff_getElem?.1 hx; obtain ⟨hl, he⟩ := List.getElem?_eq_some_iff.1 hi; have := hmr i hl; rw [he] at this; omega) (by unfold maxLen; omega)).mono fun e W' ⟨he, bel⟩ => ?_
  subst he
  exact ⟨_, rfl, _, _, _, [], _, [], hW', trodAll_mk1 (shut_bool Try.underlying4 _), (trodAll_cons_mk (Below.trod laidOut (by kernel_rfl) (of_decide_eq_true (by kernel_rfl)) k0 bel lt0) trodAll_mk0), rfl, bel.frame _, fun h => by cases h⟩
theorem over : Rows.schedTurnsRow.holds Try.pinned (OpenSpec.ofChange Rows.schedTurnsSpec) :=
  OpenClaim.holds_of_wide 3 Try.f3 rfl rfl rfl rfl rfl rfl rfl ⟨rfl, rfl, rfl, rfl, rfl⟩ rfl rfl rfl rfl rfl (by kernel_rfl) Try.func3 (by kernel_rfl)
    (of_decide_eq_true (by kernel_rfl)) (by unfold Func.isWrapper; first | (rw [if_pos (by decide +kernel)]; kernel_rfl) | (rw [if_neg (by decide +kernel)]; exact ⟨rfl, rfl⟩))
    (fun os started H enc _ => lifted os started H enc)
theorem proved : Rows.SchedTurnsSaid := over
end schedTurns
end Go.Proofs.Ytcdhmjapeapicaa
