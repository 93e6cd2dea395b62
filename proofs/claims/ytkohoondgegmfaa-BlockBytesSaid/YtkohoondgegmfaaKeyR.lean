/- Contracts of layer 1 (codec), the document's: a key is checked, ordered, written. -/
import Derived.Test.YtkohoondgegmfaaProg
import Derived.RangeFuncNested
import Derived.RangeFuncBound
import Derived.RangeFuncCalls
import Derived.RangeFuncLeaves
import Derived.Shelf.Abstract
import Derived.Shelf.RegionOpen
import Derived.WalkKit
import Derived.OwnWalkIn
import Derived.TacticsInMore
import Derived.LoopNIn
import Derived.LoopIn
import Derived.Lib.Hide
import Derived.Outline
import Derived.RegionTactic
import Derived.BigRegion
import Derived.WalkLawsBesides
import Derived.WalkSpells
import Derived.Deep.QuietTactic
import Derived.BigQuiet
import Derived.Deep.RegionHeld3
import Derived.Lib.Bytealg
import Derived.Lib.ConvBytes
import Derived.Laws.BytesArg
import Derived.Test.YtkohoondgegmfaaSed
import Derived.Test.YtkohoondgegmfaaOwn
import Derived.Deep.DeepCutAuto
import Derived.Deep.CutBlock
import Derived.Laws.Bits64b
import Derived.Test.YtkohoondgegmfaaCodecC
namespace Go.Proofs.Ytkohoondgegmfaa
open Go.RowKit Go.Sed
set_option maxHeartbeats 1000000
theorem rcheck_any (u : ByteArray) (s k : Int) (w : World) (hu : u.size ≤ maxLen) :
    Calls Try.prog 30 #[.agg #[.string u, .int .u64 s, .int .i64 k]] w fun e w' => e = .returned (.int .i64 (chkK u s k)) ∧ Below w.heap.size w w' := by
  unfold maxLen at hu
  unfold chkK
  by_cases h1 : 1024 < u.size
  · rw [if_pos h1]
    go_enter Try.func30, Try.ntmps30
    go_wp2
    go_ret
    exact ⟨rfl, (Below.refl _ _).alloc (Nat.le_refl _) _⟩
  · rw [if_neg h1]
    by_cases h2 : 72057594037927935 < s
    · rw [if_pos h2]
      go_enter Try.func30, Try.ntmps30
      go_wp2
      go_ret
      exact ⟨rfl, (Below.refl _ _).alloc (Nat.le_refl _) _⟩
    · rw [if_neg h2]
      by_cases h3 : k < 0
      · rw [if_pos h3]
        go_enter Try.func30, Try.ntmps30
        go_wp2
        go_ret
        exact ⟨rfl, (Below.refl _ _).alloc (Nat.le_refl _) _⟩
      · rw [if_neg h3]
        by_cases h4 : 2 < k
        · rw [if_pos h4]
          go_enter Try.func30, Try.ntmps30
          go_wp2
          go_ret
          exact ⟨rfl, (Below.refl _ _).alloc (Nat.le_refl _) _⟩
        · rw [if_neg h4]
          go_enter Try.func30, Try.ntmps30
          go_wp2
          go_ret
          exact ⟨rfl, (Below.refl _ _).alloc (Nat.le_refl _) _⟩
/-- what the document reads out of at least eight bytes. -/
theorem rorder_any (how : Int) (u : ByteArray) (s k : Int) (u' : ByteArray) (s' k' : Int) (w : World) :
    Calls Try.prog 32 #[.int .i64 how, .agg #[.string u, .int .u64 s, .int .i64 k], .agg #[.string u', .int .u64 s', .int .i64 k']] w fun e w' => e = .returned (.int .i64 (ordK how u s k u' s' k')) ∧ Below w.heap.size w w' := by
  have hB : Below w.heap.size w ((w.alloc (.cells #[.string u, .int .u64 s, .int .i64 k] 33)).alloc (.cells #[.string u', .int .u64 s', .int .i64 k'] 33)) := ((Below.refl _ _).alloc (Nat.le_refl _) _).alloc (by simp) _
  unfold ordK
  by_cases h0 : cmpH how u u' = 0
  · rw [if_pos h0]
    replace h0 := Lib.hid h0
    unfold cmpI
    rcases Int.lt_trichotomy s s' with h | h | h
    · have e1 : ¬ s' < s := by omega
      have e2 : (s' < s) = False := by simp; omega
      have e3 : ¬ s = s' := by omega
      simp only [if_neg e1, if_pos h]
      go_enter Try.func32, Try.ntmps32
      go_wp2_with (go_at_call 56; refine (rcompare_any _ _ _ _).mono ?_; rintro e w' ⟨rfl, rfl⟩; rw [h0.out])
      go_ret
      exact ⟨rfl, hB⟩
    · subst h
      have e0 : ¬ s < s := by omega
      simp only [if_neg e0, if_true]
      clear e0
      rcases Int.lt_trichotomy k k' with h | h | h
      · have e1 : ¬ k' < k := by omega
        have e2 : (k' < k) = False := by simp; omega
        have e3 : ¬ k = k' := by omega
        simp only [if_neg e1, if_pos h]
        go_enter Try.func32, Try.ntmps32
        go_wp2_with (go_at_call 56; refine (rcompare_any _ _ _ _).mono ?_; rintro e w' ⟨rfl, rfl⟩; rw [h0.out])
        go_ret
        exact ⟨rfl, hB⟩
      · subst h
        have e0 : ¬ k < k := by omega
        simp only [if_neg e0]
        clear e0
        go_enter Try.func32, Try.ntmps32
        go_wp2_with (go_at_call 56; refine (rcompare_any _ _ _ _).mono ?_; rintro e w' ⟨rfl, rfl⟩; rw [h0.out])
        go_ret
        exact ⟨rfl, hB⟩
      · have e2 : (k' < k) = True := by simp; omega
        have e3 : ¬ k = k' := by omega
        simp only [if_pos h]
        go_enter Try.func32, Try.ntmps32
        go_wp2_with (go_at_call 56; refine (rcompare_any _ _ _ _).mono ?_; rintro e w' ⟨rfl, rfl⟩; rw [h0.out])
        go_ret
        exact ⟨rfl, hB⟩
    · have e2 : (s' < s) = True := by simp; omega
      have e3 : ¬ s = s' := by omega
      simp only [if_pos h, show ((-1 : Int) = 0) = False by simp, if_false]
      go_enter Try.func32, Try.ntmps32
      go_wp2_with (go_at_call 56; refine (rcompare_any _ _ _ _).mono ?_; rintro e w' ⟨rfl, rfl⟩; rw [h0.out])
      go_ret
      exact ⟨rfl, hB⟩
  · rw [if_neg h0]
    obtain ⟨n, hn⟩ : ∃ n, cmpH how u u' = n := ⟨_, rfl⟩
    rw [hn] at h0 ⊢
    replace hn := Lib.hid hn
    have h1 : (n == 0) = false := by rw [beq_eq_false_iff_ne]; exact h0
    go_enter Try.func32, Try.ntmps32
    go_wp2_with (go_at_call 56; refine (rcompare_any _ _ _ _).mono ?_; rintro e w' ⟨rfl, rfl⟩; rw [hn.out])
    go_ret
    exact ⟨rfl, hB⟩
theorem rfixed_any (n : Int) (m : Nat) (hm : m ≤ 8) (w : World) :
    Calls Try.prog 60 #[.int .u64 n, .int .i64 m] w fun e w' => ∃ v, e = .returned v ∧ OW w' w.heap.size 1 v m ((fixL n m).map (Value.int .u8)) ∧ Below w.heap.size w w' := by
  go_enter Try.func60, Try.ntmps60
  go_wp2
  go_loopw [5, 6] (fun v i wr => ∃ k : Nat, k ≤ m ∧ i = .int .i64 k ∧ OW wr w.heap.size 1 v k ((fixL n k).map (Value.int .u8)) ∧ Below w.heap.size w wr) (fun _ i _ => m - (intOf i).toNat)
  case atStart => exact ⟨0, Nat.zero_le _, rfl, OW.empty (Nat.le_refl _) (Bl.new' rfl), (Below.refl _ _).alloc (Nat.le_refl _) _⟩
  case round =>
    obtain ⟨k, hk, rfl, hown, hB⟩ := hrel
    by_cases hlt : k < m
    · have hsh := run_shr (P := Try.prog) (kx := .u64) (ky := .u64) n (8 * (k : Int)) (8 * k) (by omega) (by show _ ≤ 64; omega)
      have hwr : IntKind.u64.wrap (8 * (k : Int)) = 8 * k := by simp [IntKind.wrap, IntKind.bits, IntKind.signed]; omega
      have hsz := hB.size
      obtain ⟨A0, c0, rfl, -⟩ := hown.shape
      go_wp2_with (at_builtin; refine wpList_append_ow rfl _ _ 23 rfl w.heap.size 5 Try.underlying23 infoByte rfl (by decide) _ k _ rfl (hown.alloc _) _ 1 1 [.int .u8 (n / 2 ^ (8 * k) % 256)] rfl (rd_one rfl _ _) (by intro u hu; simp at hu; subst hu; rfl) (by unfold maxLen; omega) (by omega) (by simp; omega) ?_; intro v' w3 hown' hgr _; have hB3 : Below w.heap.size w w3 := below_grow (hB.alloc hB.size _) (by simp; omega) (hown.alloc _) (Nat.le_refl _) hgr; clear hgr)
      go_roundw
      case rel => exact ⟨k + 1, by omega, by go_num, by rw [fixL_succ, List.map_append]; exact hown', hB3⟩
      case measure => simp [intOf]; omega
    · obtain rfl : k = m := by omega
      go_wp2
      go_ret
      exact ⟨_, rfl, hown, hB⟩
theorem rencode_no (u : ByteArray) (s k : Int) (w : World) (hu : u.size ≤ maxLen) (hc : (chkK u s k == 0) = false) :
    Calls Try.prog 57 #[.agg #[.string u, .int .u64 s, .int .i64 k]] w fun e w' => e = .returned (.tuple #[.slice none 0 0, .int .i64 (chkK u s k)]) ∧ Below w.heap.size w w' := by
  go_enter Try.func57, Try.ntmps57
  go_wp2_with (go_at_call 30; refine (rcheck_any u s k _ hu).mono ?_; rintro e w' ⟨rfl, hB⟩)
  go_ret2
  exact ⟨rfl, ((Below.refl _ _).alloc (Nat.le_refl _) _).trans (hB.mono (by simp))⟩
theorem rencode_ok (u : ByteArray) (s k : Int) (w : World) (hc : chkK u s k = 0) :
    Calls Try.prog 57 #[.agg #[.string u, .int .u64 s, .int .i64 k]] w (OwnRes w (bcells u ++ (fixL (packK s k) 8).map (Value.int .u8)) 0) := by
  obtain ⟨g1, g2, g3, g4⟩ := chkK_ok hc
  have hu : u.size ≤ maxLen := by unfold maxLen; omega
  have hcv := fun (W : World) => Lib.run_convert_string_bytes (P := Try.prog) W 9 23 5 u Try.underlying9 Try.underlying23 Try.underlying5
  replace hc := Lib.hid hc
  go_enter Try.func57, Try.ntmps57
  go_wp2_with (go_at_call 30; refine (rcheck_any u s k _ hu).mono ?_; rintro e w1 ⟨rfl, hB⟩; rw [hc.out])
  have b0 : Bl w1 w.heap.size (.cells #[.string u, .int .u64 s, .int .i64 k] 33 (0, 0)) := (Bl.new' (W := w) rfl).keep hB
  have c0 : w1.cell? ⟨w.heap.size, 0, none⟩ = some (.string u) := b0.cell 0
  have c1 : w1.cell? ⟨w.heap.size, 1, none⟩ = some (.int .u64 s) := b0.cell 1
  have c2 : w1.cell? ⟨w.heap.size, 2, none⟩ = some (.int .i64 k) := b0.cell 2
  have hsz : w.heap.size < w1.heap.size := b0.lt
  clear b0
  have hL : (bcells u ++ (fixL (packK s k) 8).map (Value.int .u8)).length = u.size + 8 := by simp [bcells_len, fixL_len]
  have h8 : u.size + 8 ≤ maxLen := by unfold maxLen; omega
  have s3 : ∀ w', Below w1.heap.size w1 w' → Below w1.heap.size w1 w' ∧ w'.cell? ⟨w.heap.size, 0, none⟩ = some (.string u) ∧ w'.cell? ⟨w.heap.size, 1, none⟩ = some (.int .u64 s) ∧ w'.cell? ⟨w.heap.size, 2, none⟩ = some (.int .i64 k) :=
    fun w' h => ⟨h, cell_keep h c0, cell_keep h c1, cell_keep h c2⟩
  rw [show Op.convert 9 23 (Operand.tmp 11) = id (Op.convert 9 23 (Operand.tmp 11)) from rfl]
  go_region_held3 (fun w' => Below w1.heap.size w1 w' ∧ w'.cell? ⟨w.heap.size, 0, none⟩ = some (.string u) ∧ w'.cell? ⟨w.heap.size, 1, none⟩ = some (.int .u64 s) ∧ w'.cell? ⟨w.heap.size, 2, none⟩ = some (.int .i64 k))
    ((refine s3 _ ?_; first | exact (Below.refl _ _).drew | exact below_then (by first | assumption | exact (Below.refl _ _).drew | exact And.left (by assumption)) (conv_below _ _ _) | exact below_then (by first | assumption | exact (Below.refl _ _).drew | exact And.left (by assumption)) hB2 | exact below_thenGrown (by first | assumption | exact (Below.refl _ _).drew | exact And.left (by assumption)) hgr (by intro k hk; replace hk := Option.some.inj hk; have hs := hB2.size; (try simp only [World.size_drew, Lib.bytesWorld_size] at hk hs); omega)))
    (first
      | (go_at_call 60; refine (rfixed_any _ 8 (by decide) _).mono ?_; rintro e w2 ⟨v2, rfl, hF, hB2⟩; obtain ⟨A2, c2, rfl, hF2, -⟩ := hF.shape)
      | (refine step_conv rfl 9 23 (Operand.tmp 11) rfl (hcv _) ?_)
      | (refine step_append_ow rfl _ _ 23 rfl w.heap.size 5 Try.underlying23 infoByte rfl (by decide) _ _ (bcells u) rfl (by first | exact conv_own _ _ _ _ (by have := hB2.size; simp at this; omega) hu | exact (conv_own _ _ _ _ (by simp; omega) hu).keep hB2) _ _ _ ((fixL (packK s k) 8).map (Value.int .u8)) rfl (by first | exact hF2 | exact hF2.keep (conv_below _ _ _)) (ints_one _ _) h8 (by omega) (by have := hB2.size; (try rw [Lib.bytesWorld_size]); (try rw [Lib.bytesWorld_size] at this); (try simp at this); omega) ?_; intro v' w3 hown hgr _))
  all_goals go_wp2
  all_goals go_ret2
  all_goals exact ⟨_, rfl, by rw [hL]; exact hown, (((Below.refl _ _).alloc (Nat.le_refl _) _).trans (hB.mono (by simp))).trans (Below.mono (B := w1.heap.size) (by first | assumption | exact (Below.refl _ _).drew | exact And.left (by assumption)) (by omega))⟩
/-- a text's bytes, as numbers. -/
def bI (u : ByteArray) : List Int := u.data.toList.map fun b => (b.toNat : Int)
theorem bI_len (u : ByteArray) : (bI u).length = u.size := by simp only [bI, List.length_map, Array.length_toList]; rfl
theorem bI_cells (u : ByteArray) : bcells u = (bI u).map (Value.int .u8) := by simp [bcells, bI]
theorem bI_back (u : ByteArray) : strOfNums (bI u) = u := by
  refine ba_ext ?_
  rw [strOfNums_data, bI, List.map_map]
  conv => rhs; rw [← List.map_id u.data.toList]
  refine List.map_congr_left fun b _ => ?_
  simp
def encL (u : ByteArray) (s k : Int) : List Int := bI u ++ fixL (packK s k) 8
theorem encL_len (u : ByteArray) (s k : Int) : (encL u s k).length = u.size + 8 := by simp [encL, bI_len, fixL_len]
end Go.Proofs.Ytkohoondgegmfaa
