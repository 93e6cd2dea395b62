/-
  PROVED HERE: 'sediment/sedimentlaw09.RangedelSets' returns true for every input, and leaves its arguments as they were (Rows.RangedelSetsSaid). No condition.
-/
import Derived.Test.YtmopjoeomjdikaaRows
import Derived.ProofKit
import Derived.OpenShut
import Derived.ShutString
import Derived.ChangeOld
import Derived.SizedLaws
import Derived.Test.YtmopjoeomjdikaaOpen
import Derived.Test.YtmopjoeomjdikaaRgJ2
import Derived.Test.YtmopjoeomjdikaaRgJ
namespace Go.Proofs.Ytmopjoeomjdikaa
open Go.RowKit Go.Sed
namespace rangedelSets
open Go.ChangeShapes Go.WideShapes Go.ChangeAt Go.RowKit
open Go.ChangeMaps (open_string shut_string)
set_option linter.unusedVariables false
theorem own : ownKnob Try.prog.godebug = none := by kernel_rfl
theorem laidOut : laidOutB Try.prog = true := by kernel_rfl
set_option maxRecDepth 100000 in
theorem lifted (os : Os) (started : os.Started) (H : Type) (enc : TypeId × Value → H) :
    ReturnsInHanded {} Try.checked os 6 .any (Rows.rangedelSetsSpec.pre6 enc Try.prog Try.f6 Rows.rangedelSetsRow.domain false) (Rows.rangedelSetsSpec.post enc Try.prog Try.f6 false true false false) := by
  refine returnsInHanded_of_change_sized (C := Try.checked) own started (by kernel_rfl) Try.func6
    (ChangeSpec.witness6 (enc := enc) (C := Try.checked) false ⟨#[], #[.int .i64 0,  .slice none 0 0,  .slice none 0 0], []⟩ 8 (by kernel_rfl) (by kernel_rfl) (by kernel_rfl) (by kernel_rfl)) ?_
  intro W base args ds gs before hval0 hW hcnd hsz0 _
  have hval : ∀ (j : Nat) t v, Try.f6.params[j]? = some t → args[j]? = some v → Value.okWide Try.prog W .any base t v := hval0
  have hW' := hW
  obtain ⟨p, q, hA0, hV, rfl, hfz, hnd⟩ := hW
  have hA : DataW.TrodAll enc Try.prog W 0 (fun _ => true) true Try.f6.params.toList args.toList ds p := hA0
  have hsz : (DataW.weightsEach Try.prog (Try.f6.params.toList ++ Rows.rangedelSetsSpec.plain.varTypes Try.prog) (ds ++ gs)).all (· ≤ reachBytes) = true := hsz0
  rw [Try.params6] at hA hval hsz
  obtain ⟨v0, vs0, d0, ds0, p0, q0, hargs, rfl, rfl, h0, r0⟩ := trodAll_cons hA
  obtain ⟨v1, vs1, d1, ds1, p1, q1, rfl, rfl, rfl, h1, r1⟩ := trodAll_cons r0
  obtain ⟨v2, vs2, d2, ds2, p2, q2, rfl, rfl, rfl, h2, r2⟩ := trodAll_cons r1
  obtain ⟨rfl, rfl, rfl⟩ := trodAll_nil r2
  obtain rfl : args = #[v0, v1, v2] := by cases args; simp_all
  obtain ⟨rfl, rfl⟩ := trodVars_none hV
  have k0 := h0
  have lt0 : ∀ x ∈ p0, x.block < W.heap.size := by obtain ⟨m, hm⟩ := k0; exact DataW.trod_lt m _ _ _ hm
  have k1 := h1
  have lt1 : ∀ x ∈ p1, x.block < W.heap.size := by obtain ⟨m, hm⟩ := k1; exact DataW.trod_lt m _ _ _ hm
  have k2 := h2
  have lt2 : ∀ x ∈ p2, x.block < W.heap.size := by obtain ⟨m, hm⟩ := k2; exact DataW.trod_lt m _ _ _ hm
  clear hA0 hval0 hsz0
  simp only [List.append_nil] at hW'
  obtain ⟨a0, rfl, rfl, rfl, w0⟩ := open_int Try.underlying3 (hval 0 3 v0 rfl rfl) h0
  obtain ⟨fuel, hf⟩ := h1
  obtain ⟨p, l, c, hcs, hrd, hlc, hcm, hrest⟩ := open_list tc (fun a _ => (a.b.size ≤ maxLen ∧ a.e.size ≤ maxLen) ∧ 0 ≤ a.s ∧ a.s < 18446744073709551616) 3 Try.underlying22 (by kernel_rfl) (by decide) (fun _ => rfl) (fun n cs x hx => tomb_cells hx) hf
  obtain ⟨pm, m, cm, rfl⟩ := okWide_slice Try.underlying22 (hval 1 22 v1 rfl rfl)
  simp [Value.cells] at hcs
  obtain ⟨rfl, rfl, rfl⟩ := hcs
  have hl40 : l.length * 40 ≤ 140737488351232 := by
    rcases hrest with ⟨rfl, _, _⟩ | ⟨_, elems, sp, _, hx, he, _⟩
    · simp
    · simp only at hx
      subst hx
      have hb := sized_slice hsz (j := 1) (t := 22) (e := 38) rfl rfl Try.underlying22
      rw [show Try.prog.bytesOf 38 = 40 by kernel_rfl] at hb
      unfold reachBytes at hb
      omega
  have hQ : ∀ t ∈ l, (t.b.size ≤ maxLen ∧ t.e.size ≤ maxLen) ∧ 0 ≤ t.s := by
    intro a ha
    obtain ⟨i, hi⟩ := List.mem_iff_getElem?.1 ha
    rcases hrest with ⟨rfl, _, _⟩ | ⟨_, elems, sp, _, _, he, hq⟩
    · cases ha
    · have hil := (List.getElem?_eq_some_iff.1 hi).1
      have := hq i a _ hi (List.getElem?_eq_getElem (by omega))
      exact ⟨this.1, this.2.1⟩
  obtain ⟨fuel2, hf2⟩ := h2
  obtain ⟨pk, qs, ck, hcs2, hrd2, hlc2, hcm2, hrest2⟩ := open_list ac (fun a _ => 0 ≤ a.ks ∧ 0 ≤ a.lo) 7 Try.underlying52 (by kernel_rfl) (by decide) (fun _ => rfl) (fun n cs x hx => asked_cells hx) hf2
  obtain ⟨pm2, m2, cm2, rfl⟩ := okWide_slice Try.underlying52 (hval 2 52 v2 rfl rfl)
  simp [Value.cells] at hcs2
  obtain ⟨rfl, rfl, rfl⟩ := hcs2
  have hQ2 : ∀ a ∈ qs, 0 ≤ a.ks ∧ 0 ≤ a.lo := by
    intro a ha
    obtain ⟨i, hi⟩ := List.mem_iff_getElem?.1 ha
    rcases hrest2 with ⟨rfl, _, _⟩ | ⟨_, elems, sp, _, _, he, hq⟩
    · cases ha
    · have hil := (List.getElem?_eq_some_iff.1 hi).1
      exact hq i a _ hi (List.getElem?_eq_getElem (by omega))
  refine (sets_walk a0 pm pm2 cm cm2 l qs W hl40 hrd hQ hrd2 (Nat.le_trans hlc2 hcm2) hQ2).mono fun e W' ⟨he, bel⟩ => ?_
  subst he
  exact ⟨_, rfl, _, _, _, [], _, [], hW', trodAll_mk1 (shut_bool Try.underlying4 _), (trodAll_cons_mk (Below.trod laidOut (by kernel_rfl) (of_decide_eq_true (by kernel_rfl)) k0 bel lt0) (trodAll_cons_mk (Below.trod laidOut (by kernel_rfl) (of_decide_eq_true (by kernel_rfl)) k1 bel lt1) (trodAll_cons_mk (Below.trod laidOut (by kernel_rfl) (of_decide_eq_true (by kernel_rfl)) k2 bel lt2) trodAll_mk0))), rfl, bel.frame _, fun h => by cases h⟩
theorem over : Rows.rangedelSetsRow.holds Try.pinned (OpenSpec.ofChange Rows.rangedelSetsSpec) :=
  OpenClaim.holds_of_wide 6 Try.f6 rfl rfl rfl rfl rfl rfl rfl ⟨rfl, rfl, rfl, rfl, rfl⟩ rfl rfl rfl rfl rfl (by kernel_rfl) Try.func6 (by kernel_rfl)
    (of_decide_eq_true (by kernel_rfl)) (by unfold Func.isWrapper; first | (rw [if_pos (by decide +kernel)]; kernel_rfl) | (rw [if_neg (by decide +kernel)]; exact ⟨rfl, rfl⟩))
    (fun os started H enc _ => lifted os started H enc)
theorem proved : Rows.RangedelSetsSaid := over
end rangedelSets
end Go.Proofs.Ytmopjoeomjdikaa
