/- The law of limits: its own ints; what is left. -/
import Derived.Test.YtefeompdhalgcaaProg
import Derived.RangeFuncNested
import Derived.RangeFuncBound
import Derived.RangeFuncCalls
import Derived.RangeFuncLeaves
import Derived.Shelf.Abstract
import Derived.Shelf.RegionOpen
import Derived.WalkKit
import Derived.OwnWalkIn
import Derived.TacticsInMore
import Derived.LoopNIn
import Derived.LoopIn
import Derived.Lib.Hide
import Derived.Outline
import Derived.RegionTactic
import Derived.BigRegion
import Derived.WalkLawsBesides
import Derived.WalkSpells
import Derived.Deep.QuietTactic
import Derived.BigQuiet
import Derived.Deep.RegionHeld3
import Derived.Lib.Bytealg
import Derived.Lib.ConvBytes
import Derived.Laws.BytesArg
import Derived.Test.YtefeompdhalgcaaSed
import Derived.Test.YtefeompdhalgcaaOwn
import Derived.Deep.DeepCutAuto
import Derived.Deep.CutBlock
import Derived.StillTailTactics
import Derived.WalkSmall
import Derived.Test.YtefeompdhalgcaaStallW
import Derived.Test.YtefeompdhalgcaaStallX
import Derived.Test.YtefeompdhalgcaaStallG
namespace Go.Proofs.Ytefeompdhalgcaa
open Go.RowKit Go.Sed
set_option maxHeartbeats 1000000
/-- the first k struck over. -/
def over (k : Nat) (xs : List Int) : List Int := List.replicate k 77 ++ xs.drop k
theorem over_len {k : Nat} {xs : List Int} (h : k ≤ xs.length) : (over k xs).length = xs.length := by unfold over; simp; omega
theorem over_at {k : Nat} {xs : List Int} {x : Int} (h : xs[k]? = some x) : (over k xs)[k]? = some x := by
  unfold over
  rw [List.getElem?_append_right (by simp)]
  simp [List.getElem?_drop, h]
theorem over_next {k : Nat} {xs : List Int} (h : k < xs.length) : (((over k xs).map (Value.int .i64)).take (k * 1) ++ [Value.int .i64 77] ++ ((over k xs).map (Value.int .i64)).drop (k * 1 + 1)) = (over (k + 1) xs).map (Value.int .i64) := by
  unfold over
  rw [Nat.mul_one, List.map_append, List.take_left' (by simp), List.drop_append, List.drop_eq_nil_of_le (by simp), List.replicate_succ']
  simp
theorem ints_any (va : Value) (B : Option Addr) (cb base : Nat) (xs : List Int) (w : World) (ha : OW w base 1 va xs.length (xs.map (Value.int .i64))) (hb : Rd w 1 B xs.length (xs.map (Value.int .i64))) (hne : ∀ a, B = some a → va.ownBlock ≠ some a.block) (hl : xs.length ≤ 4096) :
    Calls Try.prog 15 #[va, .slice B xs.length cb] w fun e w' => e = .returned (.bool true) ∧ Fr (fun k => va.ownBlock = some k) w w' := by
  obtain ⟨A, ca, rfl, -⟩ := ha.shape
  have hlz : (xs.length : Int) ≤ 4096 := by omega
  have hnn : ((xs.length : Int) != xs.length) = false := by simp
  have hst : OW w base 1 (.slice A xs.length ca) xs.length ((over 0 xs).map (Value.int .i64)) := by simpa [over] using ha
  replace hst := Lib.hid hst
  replace ha := Lib.hid ha
  replace hb := Lib.hid hb
  replace hne := Lib.hid hne
  go_enter Try.func15, Try.ntmps15
  go_wp2_with fail
  go_loopw [5] (fun vi wr => ∃ k : Nat, vi = .int .i64 (k : Nat) ∧ k ≤ xs.length ∧ OW wr base 1 (.slice A xs.length ca) xs.length ((over k xs).map (Value.int .i64)) ∧ Fr (fun k => (Value.slice A xs.length ca).ownBlock = some k) w wr) (fun vi _ => xs.length - (intOf vi).toNat)
  case atStart => exact ⟨0, rfl, Nat.zero_le _, hst.out, Fr.refl _ _⟩
  case round =>
    obtain ⟨k, rfl, hk, ho, hf⟩ := hrel
    have hkz : (0 : Int) ≤ (k : Int) := by omega
    by_cases hlt : k < xs.length
    · obtain ⟨x, hx⟩ : ∃ x, xs[k]? = some x := ⟨xs[k], List.getElem?_eq_getElem hlt⟩
      obtain ⟨b2, o2, rfl, -⟩ := hb.out.2 (by omega)
      obtain ⟨b1, o1, rfl, -⟩ := ho.rd.2 (by omega)
      have hbr : Rd wr 1 (some ⟨b2, o2, none⟩) xs.length (xs.map (Value.int .i64)) := hb.out.fr hf (fun a e h => hne.out a e h)
      have y0 : wr.cell? ⟨b2, o2 + k, none⟩ = some (.int .i64 x) := hbr.cellAt (by simp [hx])
      have x0 : wr.cell? ⟨b1, o1 + k, none⟩ = some (.int .i64 x) := ho.rd.cellAt (by rw [List.getElem?_map, over_at hx]; rfl)
      have f0 := (ho.free (j := k) (by have := ho.capLe; omega)).2
      have hbn : b1 < wr.heap.size := (ho.lt b1 rfl).2
      have hxx : (x != x) = false := by simp
      have hset := ho.setElem (i := k) (news := [Value.int .i64 77]) hlt rfl
      rw [over_next hlt, Nat.mul_one] at hset
      have hset' : OW (wr.setCell ⟨b1, o1 + k, none⟩ (.int .i64 77)) base 1 (.slice (some ⟨b1, o1, none⟩) xs.length ca) xs.length ((over (k + 1) xs).map (Value.int .i64)) := hset
      clear hset
      replace hset' := Lib.hid hset'
      replace ho := Lib.hid ho
      replace hf := Lib.hid hf
      clear hbr hx
      go_wp2_with fail
      go_quiet (fail)
      go_wp2_with fail
      go_roundw
      case rel => exact ⟨k + 1, by go_num, by omega, hset'.out.keep (below_drewN (Below.refl _ _) _), (hf.out.set _ (fun _ => rfl)).thenB (below_drewN (Below.refl _ _) _)⟩
      case measure => simp [intOf]; omega
    · obtain rfl : k = xs.length := by omega
      replace ho := Lib.hid ho
      replace hf := Lib.hid hf
      go_wp2_with fail
      go_ret
      exact ⟨rfl, hf.out⟩
theorem left_any (b : Nat) (r bu le row : Int) (vU vO : Value) (w : World) (h : Lm w b r bu le vU vO row) : Calls Try.prog 20 #[.pointer (some ⟨b, 0, none⟩)] w fun e w' => e = .returned (.int .u64 le) ∧ w = w' := by
  have k2 : w.cell? ⟨b, 2, none⟩ = some (.int .u64 le) := h.cell 2
  go_enter Try.func20, Try.ntmps20
  go_wp2_with fail
  go_ret
  exact ⟨rfl, rfl⟩
end Go.Proofs.Ytefeompdhalgcaa
