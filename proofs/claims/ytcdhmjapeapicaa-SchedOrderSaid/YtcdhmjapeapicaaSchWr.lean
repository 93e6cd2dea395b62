/-
  PROVED HERE: 'sediment/sedimentlaw04.SchedOrder' returns true for every input, and leaves its arguments as they were (Rows.SchedOrderSaid). No condition.
-/
import Derived.Test.YtcdhmjapeapicaaRows
import Derived.ProofKit
import Derived.Deep.Matrix
import Derived.OpenShut
import Derived.ShutString
import Derived.ChangeOld
import Derived.SizedLaws
import Derived.Test.YtcdhmjapeapicaaOpen
import Derived.Test.YtcdhmjapeapicaaSchW
namespace Go.Proofs.Ytcdhmjapeapicaa
open Go.RowKit Go.Sed Go.Deep
namespace schedOrder
open Go.ChangeShapes Go.WideShapes Go.ChangeAt Go.RowKit
open Go.ChangeMaps (open_string shut_string)
set_option linter.unusedVariables false
theorem own : ownKnob Try.prog.godebug = none := by kernel_rfl
theorem laidOut : laidOutB Try.prog = true := by kernel_rfl
set_option maxRecDepth 100000 in
theorem lifted (os : Os) (started : os.Started) (H : Type) (enc : TypeId × Value → H) :
    ReturnsInHanded {} Try.checked os 5 .any (Rows.schedOrderSpec.pre6 enc Try.prog Try.f5 Rows.schedOrderRow.domain false) (Rows.schedOrderSpec.post enc Try.prog Try.f5 false true false false) := by
  refine returnsInHanded_of_change_sized (C := Try.checked) own started (by kernel_rfl) Try.func5
    (ChangeSpec.witness6 (enc := enc) (C := Try.checked) false ⟨#[], #[.slice none 0 0, .slice none 0 0], []⟩ 8 (by kernel_rfl) (by kernel_rfl) (by kernel_rfl) (by kernel_rfl)) ?_
  intro W base args ds gs before hval0 hW hcnd hsz0 _
  have hval : ∀ (j : Nat) t v, Try.f5.params[j]? = some t → args[j]? = some v → Value.okWide Try.prog W .any base t v := hval0
  have hW' := hW
  obtain ⟨p, q, hA0, hV, rfl, hfz, hnd⟩ := hW
  have hA : DataW.TrodAll enc Try.prog W 0 (fun _ => true) true Try.f5.params.toList args.toList ds p := hA0
  have hsz : (DataW.weightsEach Try.prog (Try.f5.params.toList ++ Rows.schedOrderSpec.plain.varTypes Try.prog) (ds ++ gs)).all (· ≤ reachBytes) = true := hsz0
  rw [Try.params5] at hA hval hsz
  obtain ⟨v0, vs0, d0, ds0, p0, q0, hargs, rfl, rfl, h0, r0⟩ := trodAll_cons hA
  obtain ⟨v1, vs1, d1, ds1, p1, q1, rfl, rfl, rfl, h1, r1⟩ := trodAll_cons r0
  obtain ⟨rfl, rfl, rfl⟩ := trodAll_nil r1
  obtain rfl : args = #[v0, v1] := by cases args; simp_all
  obtain ⟨rfl, rfl⟩ := trodVars_none hV
  have k0 := h0
  have lt0 : ∀ x ∈ p0, x.block < W.heap.size := by obtain ⟨m, hm⟩ := k0; exact DataW.trod_lt m _ _ _ hm
  have k1 := h1
  have lt1 : ∀ x ∈ p1, x.block < W.heap.size := by obtain ⟨m, hm⟩ := k1; exact DataW.trod_lt m _ _ _ hm
  clear hA0 hval0 hsz0
  simp only [List.append_nil] at hW'
  obtain ⟨pm0, m0, cm0, rfl⟩ := okWide_slice Try.underlying46 (hval 0 46 v0 rfl rfl)
  obtain ⟨ls, vs0, rfl, hr0, hd0, hll⟩ : ∃ (ls : List (List Int)) (vs0 : List Value), m0 = ls.length ∧ Rd W 1 pm0 ls.length vs0 ∧ LL W vs0 ls ∧ ls.length ≤ maxLen := by
    obtain ⟨fuel, hf⟩ := h0
    rcases open_int_rows Try.underlying46 Try.underlying22 Try.underlying5 (by kernel_rfl) (by kernel_rfl) hf with ⟨hcs, hx⟩ | ⟨a, n, cp, A, L, C, Z, hcs, _, hl, hm, hx, hrows⟩
    · simp [Value.cells] at hcs
      obtain ⟨rfl, rfl, rfl⟩ := hcs
      exact ⟨[], [], rfl, Rd.nil _ _ _, ⟨fun i l h => by simp at h⟩, by simp⟩
    · simp [Value.cells] at hcs
      obtain ⟨rfl, rfl, rfl⟩ := hcs
      clear hx
      obtain ⟨n, hnm⟩ : ∃ n, n = m0 := ⟨_, rfl⟩
      subst hnm
      have hzl : ∀ r, r < n → ((Z r).take (L r)).length = L r := fun r hr => by
        obtain ⟨-, h2, -, h4, -⟩ := hrows r (by omega)
        rw [List.length_take]; omega
      refine ⟨(List.range n).map fun r => (Z r).take (L r), (List.range n).map fun r => .slice (A r) (L r) (C r), by simp, ⟨by simp, fun hn => ?_⟩, ⟨fun i l hi => ?_⟩, by simp; omega⟩
      · have hn' : 0 < n := by simpa using hn
        obtain ⟨hs, hcell⟩ := row_at (w := W) (a := a) (xs := (List.range n).map fun r => Value.slice (A r) (L r) (C r)) (by simpa using hn') (fun i hi => by
          have hi' : i < n := by simpa using hi
          rw [(hrows i (by omega)).1]; simp [hi'])
        exact ⟨a.block, a.off, by rw [← hs], hcell⟩
      · have hin : i < n := by
          have := (List.getElem?_eq_some_iff.1 hi).1
          simpa using this
        obtain ⟨h1, h2, h3, h4, h5, h6, h7⟩ := hrows i (by omega)
        obtain rfl : (Z i).take (L i) = l := by simpa [hin] using hi
        refine ⟨A i, C i, by simp [hin, hzl i hin], ⟨by simp, fun hn => ?_⟩, by rw [hzl i hin]; omega, fun y hy => ?_⟩
        · rw [hzl i hin] at hn
          rcases hA : A i with _ | a'
          · have := h6 hA; omega
          · have h8 := (h7 a' hA).2
            obtain ⟨hs, hcell⟩ := row_at (w := W) (a := a') (xs := ((Z i).take (L i)).map (Value.int .u8)) (by rw [List.length_map, hzl i hin]; exact hn) (fun j hj => by
              rw [List.length_map, hzl i hin] at hj
              rw [h8 j (by omega), List.getElem?_map, List.getElem?_take, if_pos hj, List.getElem?_eq_getElem (by omega)]
              simp [List.getD_eq_getElem?_getD, show j < (Z i).length by omega])
            exact ⟨a'.block, a'.off, by rw [← hs], hcell⟩
        · have := bounds_u8 (h5 y (List.mem_of_mem_take hy))
          omega
  obtain ⟨pm, m, cm, rfl⟩ := okWide_slice Try.underlying22 (hval 1 22 v1 rfl rfl)
  obtain ⟨l, rfl, hm, hmn, hmr⟩ : ∃ l : List Int, m = l.length ∧ RI W .u8 pm l ∧ l.length * 1 ≤ 140737488351232 ∧ (∀ k (h : k < l.length), 0 ≤ l[k] ∧ l[k] < 256) := by
    obtain ⟨fuel, hf⟩ := h1
    rcases open_ints Try.underlying22 Try.underlying5 (by kernel_rfl) hf with ⟨hcs, hx⟩ | ⟨x, l, c, zs, hcs, _, hl, hm, hz, hx, hcell, hwz⟩
    · simp [Value.cells] at hcs
      obtain ⟨rfl, rfl, rfl⟩ := hcs
      exact ⟨[], rfl, fun i hi => by simp at hi, by simp, fun k h => by simp at h⟩
    · simp [Value.cells] at hcs
      obtain ⟨rfl, rfl, rfl⟩ := hcs
      simp only [Prod.mk.injEq] at hx
      obtain ⟨rfl, rfl⟩ := hx
      have hb := sized_slice hsz (j := 1) (t := 22) (e := 5) rfl rfl Try.underlying22
      rw [show Try.prog.bytesOf 5 = 1 by kernel_rfl] at hb
      simp only [if_true] at hz
      simp only [lits, List.length_map, List.length_take, List.length_drop, reachBytes] at hb
      refine ⟨zs.take m, by simp; omega, fun i hi => ?_, by simp; omega, fun k h => ?_⟩
      · simp only [List.length_take] at hi
        obtain ⟨hs, hcell⟩ := row_at (xs := zs.map (Value.int .u8)) (by simp; omega) (fun i hi => by rw [hcell i (by simpa using hi)]; simp at hi; simp [hi])
        refine ⟨x.block, x.off, by rw [hs], ?_⟩
        apply hcell i
        simp [show i < m by omega, show i < zs.length by omega]
      · have := bounds_u8 (hwz _ (List.mem_of_mem_take (List.getElem_mem h)))
        omega
  refine (order_walk pm0 pm cm0 cm ls l vs0 W hr0 hd0 hll (rd_of_ri hm) (fun x hx => by obtain ⟨i, hi⟩ := List.mem_iff_getElem?.1 hx; obtain ⟨hl, he⟩ := List.getElem?_eq_some_iff.1 hi; have := hmr i hl; rw [he] at this; omega) (by unfold maxLen; omega)).mono fun e W' ⟨he, bel⟩ => ?_
  subst he
  exact ⟨_, rfl, _, _, _, [], _, [], hW', trodAll_mk1 (shut_bool Try.underlying4 _), (trodAll_cons_mk (Below.trod laidOut (by kernel_rfl) (of_decide_eq_true (by kernel_rfl)) k0 bel lt0) (trodAll_cons_mk (Below.trod laidOut (by kernel_rfl) (of_decide_eq_true (by kernel_rfl)) k1 bel lt1) trodAll_mk0)), rfl, bel.frame _, fun h => by cases h⟩
theorem over : Rows.schedOrderRow.holds Try.pinned (OpenSpec.ofChange Rows.schedOrderSpec) :=
  OpenClaim.holds_of_wide 5 Try.f5 rfl rfl rfl rfl rfl rfl rfl ⟨rfl, rfl, rfl, rfl, rfl⟩ rfl rfl rfl rfl rfl (by kernel_rfl) Try.func5 (by kernel_rfl)
    (of_decide_eq_true (by kernel_rfl)) (by unfold Func.isWrapper; first | (rw [if_pos (by decide +kernel)]; kernel_rfl) | (rw [if_neg (by decide +kernel)]; exact ⟨rfl, rfl⟩))
    (fun os started H enc _ => lifted os started H enc)
theorem proved : Rows.SchedOrderSaid := over
end schedOrder
end Go.Proofs.Ytcdhmjapeapicaa
