/-
  PROVED HERE: 'sediment/sedimentlaw06.BloomEmpty' returns true for every bits and key, and leaves its arguments as they were (Rows.BloomEmptySaid). No condition.
-/
import Derived.Test.YtakgmkgipjfolaaRows
import Derived.ProofKit
import Derived.OpenShut
import Derived.ShutString
import Derived.ChangeOld
import Derived.Below
import Derived.Test.YtakgmkgipjfolaaProg
import Derived.RangeFuncNested
import Derived.RangeFuncBound
import Derived.RangeFuncCalls
import Derived.RangeFuncLeaves
import Derived.Shelf.Abstract
import Derived.Shelf.RegionOpen
import Derived.WalkKit
import Derived.OwnWalkIn
import Derived.TacticsInMore
import Derived.LoopNIn
import Derived.LoopIn
import Derived.Lib.Hide
import Derived.Outline
import Derived.Test.YtakgmkgipjfolaaSed
import Derived.Test.YtakgmkgipjfolaaE
namespace Go.Proofs.Ytakgmkgipjfolaa
open Go.RowKit Go.Sed
set_option maxHeartbeats 1000000
theorem cnt_bd (b : Int) (h1 : 1 ≤ b) (h2 : b ≤ 64) : 1 ≤ cnt b ∧ cnt b ≤ 30 := by
  unfold cnt; rw [if_neg (by omega), if_neg (by omega)]; (repeat' split) <;> omega
theorem sz0 (b : Int) : szOf b 0 = 8 := by simp [szOf]
theorem F0 (b : Int) : buildF [] b = (List.replicate 9 0).set 8 (cnt b) := by simp [buildF, sz0]
theorem F0_len (b : Int) : (buildF [] b).length = 9 := by simp [F0]
theorem F0_is (b : Int) (h1 : 1 ≤ b) (h2 : b ≤ 64) : isB (buildF [] b) = true := by
  have := cnt_bd b h1 h2
  simp [isB, F0]
  omega
theorem F0_chk (b : Int) (h1 : 1 ≤ b) (h2 : b ≤ 64) : chk (buildF [] b) = 0 := by
  unfold chk; rw [if_pos ⟨F0_is b h1 h2, by rw [F0_len]; omega⟩]
theorem posN_lt (h : Int) (m : Nat) (hm : 0 < m) (i : Nat) : posN h m i < m := by
  have h1 := Int.emod_lt_of_pos (pA h i) (b := (m : Int)) (by omega)
  have h2 := Int.emod_nonneg (pA h i) (b := (m : Int)) (by omega)
  unfold posN; omega
theorem F0_may (b : Int) (h1 : 1 ≤ b) (h2 : b ≤ 64) (s : ByteArray) : mayV (buildF [] b) s = false := by
  have hc := cnt_bd b h1 h2
  unfold mayV
  rw [if_pos ⟨F0_is b h1 h2, by rw [F0_len]; omega⟩]
  refine decide_eq_false fun hall => ?_
  have := hall 0 (by simp [F0]; omega)
  have hp := posN_lt (hashI s) 64 (by omega) 0
  rw [show (8 * (((buildF [] b).length : Int) - 1)) = ((64 : Nat) : Int) by rw [F0_len]; rfl] at this
  generalize posN (hashI s) ((64 : Nat) : Int) 0 = q at *
  have hz : (buildF [] b)[q / 8]?.getD 0 = 0 := by
    rw [F0, List.getElem?_set_ne (by omega)]
    rw [List.getElem?_replicate]; split <;> rfl
  unfold bitN at this
  rw [hz] at this
  simp at this
  exact absurd this (by decide)
set_option maxRecDepth 10000 in
theorem empty_walk (a0 : Int) (a1 : ByteArray) (w0 : (Lit.int .u8 a0).wf = true) (w1 : a1.size ≤ maxLen) (w : World) :
    Calls Try.prog 4 #[.int .u8 a0, .string a1] w fun e w' => e = .returned (.bool true) ∧ Below w.heap.size w w' := by
  have hb0 : 0 ≤ a0 ∧ a0 < 256 := by have := bounds_u8 w0; omega
  have h1 : 1 ≤ 1 + a0 % 64 := by omega
  have h2 : 1 + a0 % 64 ≤ 64 := by omega
  have hch := Lib.hid (F0_chk (1 + a0 % 64) h1 h2)
  have hm := Lib.hid (F0_may (1 + a0 % 64) h1 h2 a1)
  have hb : ∀ W : World, Hid (Calls Try.prog 6 #[.slice none 0 0, .int .i64 (1 + a0 % 64)] W fun e w' => e = .returned (.tuple #[.slice (some ⟨W.heap.size, 0, none⟩) 9 9, .int .i64 0]) ∧ Bl w' W.heap.size (.cells (ci .u8 (buildF [] (1 + a0 % 64))) 5 (0, 0)) ∧ Below W.heap.size W w') := by
    intro W
    have := build_any none 0 [] (1 + a0 % 64) W h1 h2 (by simp) (fun i hi => by simp at hi) (by simp)
    simp only [List.length_nil, sz0, Nat.reduceAdd] at this
    exact this
  have hl := F0_len (1 + a0 % 64)
  replace hl := Lib.hid hl
  clear w0
  have c9 : ∀ (W : World) (b : Nat), Bl W b (.cells (ci .u8 (buildF [] (1 + a0 % 64))) 5 (0, 0)) → Calls Try.prog 7 #[.slice (some ⟨b, 0, none⟩) 9 9] W fun e w' => e = .returned (.int .i64 0) ∧ W = w' := by
    intro W b hF
    have := check_any (some ⟨b, 0, none⟩) 9 _ W (by rw [hl.out]; omega) hF.RI
    rw [hl.out, hch.out] at this; exact this
  have m9 : ∀ (W : World) (b : Nat), Bl W b (.cells (ci .u8 (buildF [] (1 + a0 % 64))) 5 (0, 0)) → Calls Try.prog 8 #[.slice (some ⟨b, 0, none⟩) 9 9, .string a1] W fun e w' => e = .returned (.bool false) ∧ Below W.heap.size W w' := by
    intro W b hF
    have := may_any (some ⟨b, 0, none⟩) 9 _ a1 W w1 (by rw [hl.out]; omega) hF.RI
    rw [hl.out, hm.out] at this; exact this
  replace c9 := Lib.hid c9
  replace m9 := Lib.hid m9
  go_enter Try.func4, Try.ntmps4
  go_wp2_with (first
    | (go_at_call 5; refine (lives_any _).mono ?_; rintro e w1 ⟨rfl, hB1⟩)
    | (go_at_call 6; refine (hb _).out.mono ?_; rintro e w2 ⟨rfl, hF, hB2⟩)
    | (go_at_call 7; refine (c9.out _ _ hF).mono ?_; rintro e w2 ⟨rfl, rfl⟩)
    | (go_at_call 8; refine (m9.out _ _ hF).mono ?_; rintro e w3 ⟨rfl, hB3⟩))
  go_ret
  exact ⟨rfl, hB1.trans ((hB2.mono hB1.size).trans (hB3.mono (Nat.le_trans hB1.size hB2.size)))⟩
namespace bloomEmpty
open Go.ChangeShapes Go.WideShapes Go.ChangeAt Go.RowKit
open Go.ChangeMaps (open_string shut_string)
set_option linter.unusedVariables false
theorem own : ownKnob Try.prog.godebug = none := by kernel_rfl
set_option maxRecDepth 100000 in
theorem lifted (os : Os) (started : os.Started) (H : Type) (enc : TypeId × Value → H) :
    ReturnsInHanded {} Try.checked os 4 .any (Rows.bloomEmptySpec.pre6 enc Try.prog Try.f4 Rows.bloomEmptyRow.domain false) (Rows.bloomEmptySpec.post enc Try.prog Try.f4 false true false false) := by
  refine returnsInHanded_of_change (C := Try.checked) own started (by kernel_rfl) Try.func4
    (ChangeSpec.witness6 (enc := enc) (C := Try.checked) false ⟨#[], #[.int .u8 0, .string ByteArray.empty], []⟩ 8 (by kernel_rfl) (by kernel_rfl) (by kernel_rfl) (by kernel_rfl)) ?_
  intro W base args ds gs before hval0 hW hcnd _
  have hval : ∀ (j : Nat) t v, Try.f4.params[j]? = some t → args[j]? = some v → Value.okWide Try.prog W .any base t v := hval0
  have hW' := hW
  obtain ⟨p, q, hA0, hV, rfl, hfz, hnd⟩ := hW
  have hA : DataW.TrodAll enc Try.prog W 0 (fun _ => true) true Try.f4.params.toList args.toList ds p := hA0
  rw [Try.params4] at hA hval
  obtain ⟨v0, vs0, d0, ds0, p0, q0, hargs, rfl, rfl, h0, r0⟩ := trodAll_cons hA
  obtain ⟨v1, vs1, d1, ds1, p1, q1, rfl, rfl, rfl, h1, r1⟩ := trodAll_cons r0
  obtain ⟨rfl, rfl, rfl⟩ := trodAll_nil r1
  obtain rfl : args = #[v0, v1] := by cases args; simp_all
  obtain ⟨rfl, rfl⟩ := trodVars_none hV
  obtain ⟨a0, rfl, rfl, rfl, w0⟩ := open_int Try.underlying5 (hval 0 5 v0 rfl rfl) h0
  obtain ⟨a1, rfl, rfl, rfl, w1⟩ := open_string Try.underlying9 (hval 1 9 v1 rfl rfl) h1
  clear hA0 hval0
  simp only [List.append_nil] at hW'
  refine (empty_walk a0 a1 w0 w1 W).mono fun e W' ⟨he, bel⟩ => ?_
  subst he
  exact ⟨_, rfl, _, _, _, [], _, [], hW', trodAll_mk1 (shut_bool Try.underlying4 _), (trodAll_cons_mk (shut_int Try.underlying5 w0) (trodAll_cons_mk (shut_string Try.underlying9 w1) trodAll_mk0)), rfl, bel.frame _, fun h => by cases h⟩
theorem over : Rows.bloomEmptyRow.holds Try.pinned (OpenSpec.ofChange Rows.bloomEmptySpec) :=
  OpenClaim.holds_of_wide 4 Try.f4 rfl rfl rfl rfl rfl rfl rfl ⟨rfl, rfl, rfl, rfl, rfl⟩ rfl rfl rfl rfl rfl (by kernel_rfl) Try.func4 (by kernel_rfl)
    (of_decide_eq_true (by kernel_rfl)) (by unfold Func.isWrapper; first | (rw [if_pos (by decide +kernel)]; kernel_rfl) | (rw [if_neg (by decide +kernel)]; exact ⟨rfl, rfl⟩))
    (fun os started H enc _ => lifted os started H enc)
theorem proved : Rows.BloomEmptySaid := over
end bloomEmpty
end Go.Proofs.Ytakgmkgipjfolaa
