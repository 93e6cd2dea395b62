/- The document's Size; the program's shape of an entry. Conditions: texts that can be. -/
import Derived.RangeFuncNested
import Derived.RangeFuncBound
import Derived.RangeFuncCalls
import Derived.RangeFuncLeaves
import Derived.Shelf.Abstract
import Derived.Shelf.RegionOpen
import Derived.WalkKit
import Derived.OwnWalkIn
import Derived.TacticsInMore
import Derived.LoopNIn
import Derived.LoopIn
import Derived.Lib.Hide
import Derived.Outline
import Derived.RegionTactic
import Derived.BigRegion
import Derived.WalkLawsBesides
import Derived.WalkSpells
import Derived.Deep.QuietTactic
import Derived.BigQuiet
import Derived.Deep.RegionHeld3
import Derived.Deep.DeepCutAuto
import Derived.Deep.CutBlock
import Derived.StillTailTactics
import Derived.WalkSmall
import Derived.Test.YtkohoondgegmfaaBlkH
namespace Go.Proofs.Ytkohoondgegmfaa
open Go.RowKit Go.Sed
set_option maxHeartbeats 1000000
set_option maxRecDepth 100000
theorem siz_arg {rs : Int} {l : List E4} (h : ¬ (1 ≤ rs ∧ rs ≤ 1024)) : sizE rs l = 1 ∧ sizN rs l = 0 := by
  have h1 : sizE rs l = 1 := by unfold sizE; rw [if_neg h]
  exact ⟨h1, by unfold sizN; rw [h1, if_neg (by omega)]⟩
theorem siz_long {rs : Int} {l : List E4} (h : 1 ≤ rs ∧ rs ≤ 1024) (h2 : ¬ l.length ≤ 65536) : sizE rs l = 2 ∧ sizN rs l = 0 := by
  have h1 : sizE rs l = 2 := by unfold sizE; rw [if_pos h, if_neg h2]
  exact ⟨h1, by unfold sizN; rw [h1, if_neg (by omega)]⟩
theorem siz_err {rs : Int} {l : List E4} (h : 1 ≤ rs ∧ rs ≤ 1024) (h2 : l.length ≤ 65536) {x : Int} (h3 : errE none none l = x) (h4 : x ≠ 0) : sizE rs l = x ∧ sizN rs l = 0 := by
  have h1 : sizE rs l = x := by unfold sizE; rw [if_pos h, if_pos h2, h3]
  exact ⟨h1, by unfold sizN; rw [h1, if_neg h4]⟩
theorem siz_ok {rs : Int} {l : List E4} (h : 1 ≤ rs ∧ rs ≤ 1024) (h2 : l.length ≤ 65536) (h3 : errE none none l = 0) : sizE rs l = 0 ∧ sizN rs l = (blk rs.toNat l).length := by
  have h1 : sizE rs l = 0 := by unfold sizE; rw [if_pos h, if_pos h2, h3]
  exact ⟨h1, by unfold sizN; rw [h1, if_pos rfl]⟩
def TwoI (w : World) (a b : Int) (e : Ending) (w' : World) : Prop := e = .returned (.tuple #[.int .i64 a, .int .i64 b]) ∧ Below w.heap.size w w'
theorem twoI_of {w w' : World} {a b a' b' : Int} (h : b' = b ∧ a' = a) (hB : Below w.heap.size w w') : TwoI w a' b' (.returned (.tuple #[.int .i64 a, .int .i64 b])) w' := by
  obtain ⟨rfl, rfl⟩ := h
  exact ⟨rfl, hB⟩
theorem rsize_any (rs : Int) (A : Option Addr) (c : Nat) (l : List E4) (w : World) (hll : l.length ≤ maxLen) (hr : Rd w 4 A l.length (l.flatMap e4c)) (hfit : Fit l) :
    Calls Try.prog 10 #[.int .i64 rs, .slice A l.length c] w (TwoI w (sizN rs l) (sizE rs l)) := by
  unfold maxLen at hll
  by_cases h1 : 1 ≤ rs
  case neg =>
    have hb := Lib.hid (siz_arg (l := l) (show ¬ (1 ≤ rs ∧ rs ≤ 1024) from fun e => h1 e.1))
    go_enter Try.func10, Try.ntmps10
    go_wp2_with fail
    go_ret2
    exact twoI_of hb.out (Below.refl _ _)
  by_cases h2 : rs ≤ 1024
  case neg =>
    have hb := Lib.hid (siz_arg (l := l) (show ¬ (1 ≤ rs ∧ rs ≤ 1024) from fun e => h2 e.2))
    go_enter Try.func10, Try.ntmps10
    go_wp2_with fail
    go_ret2
    exact twoI_of hb.out (Below.refl _ _)
  by_cases h3 : l.length ≤ 65536
  case neg =>
    have hb := Lib.hid (siz_long (l := l) ⟨h1, h2⟩ h3)
    go_enter Try.func10, Try.ntmps10
    go_wp2_with fail
    go_ret2
    exact twoI_of hb.out (Below.refl _ _)
  obtain ⟨n, rfl⟩ : ∃ n : Nat, rs = n := ⟨rs.toNat, by omega⟩
  have hbe := Lib.hid (fun (x : Int) => siz_err (x := x) ⟨h1, h2⟩ h3)
  have hbo := Lib.hid (siz_ok ⟨h1, h2⟩ h3)
  replace hfit := Lib.hid hfit
  go_enter Try.func10, Try.ntmps10
  go_wp2_with fail
  go_loopw [6] (fun i wr => ∃ k : Nat, k ≤ l.length ∧ i = .int .i64 k ∧ Below w.heap.size w wr ∧ errE none (prevE l k) (l.drop k) = errE none none l) (fun i _ => l.length - (intOf i).toNat)
  case atStart => exact ⟨0, Nat.zero_le _, rfl, Below.refl _ _, rfl⟩
  case round =>
    obtain ⟨k, hk, rfl, hB, heq⟩ := hrel
    by_cases hlt : k < l.length
    · obtain ⟨e, he⟩ : ∃ e, l[k]? = some e := ⟨_, List.getElem?_eq_getElem hlt⟩
      have hef := Lib.hid (hfit.out e (List.mem_of_getElem? he))
      rw [errE_at _ l k e he] at heq
      obtain ⟨u, s, kk, v⟩ := e
      obtain ⟨g1, o1, hA⟩ : ∃ g o, A = some ⟨g, o, none⟩ := by
        obtain ⟨b, o, e, _⟩ := hr.2 (by omega)
        exact ⟨b, o, e⟩
      subst hA
      have hu2 : v.size ≤ 9223372036854775807 := by have := hef.out.2; unfold maxLen E4.val at this; exact this
      have q0 : wr.cell? ⟨g1, o1 + k * 4, none⟩ = some (.string u) := (hr.keep hB).elem e4c_len he (j := 0) rfl
      have q1 : wr.cell? ⟨g1, o1 + k * 4 + 1, none⟩ = some (.int .u64 s) := (hr.keep hB).elem e4c_len he (j := 1) rfl
      have q2 : wr.cell? ⟨g1, o1 + k * 4 + 2, none⟩ = some (.int .i64 kk) := (hr.keep hB).elem e4c_len he (j := 2) rfl
      go_upto_region 9 with (first
        | (go_at_call 30; refine (rcheck_any u s kk _ hef.out.1).mono ?_; rintro e w1 ⟨rfl, hB1⟩))
      have hB2 := below_then hB hB1
      have q3 : w1.cell? ⟨g1, o1 + k * 4 + 3, none⟩ = some (.string v) := (hr.keep hB2).elem e4c_len he (j := 3) rfl
      clear hB1 hB q0 q1 q2
      by_cases hc : chkK u s kk = 0
      case neg =>
        have hst : stepE none (prevE l k) (u, s, kk, v) = chkK u s kk := stepE_chk hc
        rw [hst, if_neg hc] at heq
        have hb := Lib.hid (hbe.out _ heq.symm hc)
        have hc0 : (chkK u s kk == 0) = false := beq_eq_false_iff_ne.2 hc
        have hc1 : (chkK u s kk != 0) = true := bne_iff_ne.2 hc
        clear heq hst
        obtain ⟨x, hx⟩ : ∃ x, chkK u s kk = x := ⟨_, rfl⟩
        rw [hx] at hb hc hc0 hc1
        rw [hx]
        replace hx := Lib.hid hx
        go_wp2_with fail
        go_ret2
        exact twoI_of hb.out hB2
      by_cases hv : v.size ≤ 16384
      case neg =>
        have hst : stepE none (prevE l k) (u, s, kk, v) = 2 := stepE_val hc (by unfold E4.val; simp only; omega)
        rw [hst, if_neg (by omega)] at heq
        have hb := Lib.hid (hbe.out _ heq.symm (by omega))
        clear heq hst
        rw [hc]
        replace hc := Lib.hid hc
        have hv2 : (if 16384 < v.size then (2 : Int) else 0) = 2 := if_pos (by omega)
        go_wp2_with (first
          | (go_at_call 31; refine (rvalue_any v _ (by unfold maxLen; omega)).mono ?_; rintro e w' ⟨rfl, rfl⟩; rw [hv2]))
        go_ret2
        exact twoI_of hb.out hB2
      have hcan : E4.can (u, s, kk, v) := ⟨hc, hv⟩
      rw [hc]
      have hv2 : (if 16384 < v.size then (2 : Int) else 0) = 0 := if_neg (by omega)
      clear hc hv
      have hst : stepE none (prevE l k) (u, s, kk, v) = 0 := stepE_none hcan (.inl rfl)
      rw [hst, if_pos rfl] at heq
      replace heq := Lib.hid heq
      replace hcan := Lib.hid hcan
      clear hst
      go_wp2_with (first
        | (go_at_call 31; refine (rvalue_any v _ (by unfold maxLen; omega)).mono ?_; rintro e w' ⟨rfl, rfl⟩; rw [hv2]))
      go_roundw
      case rel => exact ⟨k + 1, by omega, by go_num, hB2, heq.out⟩
      case measure => simp only [intOf]; omega
    · obtain rfl : k = l.length := by omega
      rw [List.drop_length] at heq
      have h0 : errE none none l = 0 := heq.symm
      have hcan := errE_can _ _ _ h0
      obtain ⟨bl, hbl⟩ : ∃ b, blk n l = b := ⟨_, rfl⟩
      have hw := fun (W : World) (h : Rd W 4 A l.length (l.flatMap e4c)) => rwritten_any n A c l W (by omega) (by omega) h3 h hcan
      rw [hbl] at hw
      replace hw := Lib.hid hw
      clear heq hcan
      have hb := hbo.out h0
      rw [Int.toNat_natCast, hbl] at hb
      replace h0 := Lib.hid h0
      replace hb := Lib.hid hb
      replace hbl := Lib.hid hbl
      go_wp2_with (first
        | (go_at_call 33; refine (hw.out _ (hr.keep hB)).mono ?_; rintro e w2 ⟨v2, rfl, hv2, hB2⟩; obtain ⟨A2, c2, rfl, -⟩ := hv2.shape))
      go_ret2
      exact twoI_of hb.out (below_then hB hB2)
/-- the program's shape of an entry. -/
theorem shape_ok (u : ByteArray) (s k : Int) (v : ByteArray) (w : World) (hc : chkK u s k = 0) (hv : v.size ≤ 16384) :
    Calls Try.prog 26 #[.agg #[.string u, .int .u64 s, .int .i64 k, .string v]] w (OwnRes w (vb (encL u s k)) 0) := by
  have hE : bcells u ++ List.map (Value.int .u8) (fixL (packK s k) 8) = vb (encL u s k) := by rw [bI_cells]; simp [vb, encL]
  have hB0 := Lib.hid (show Below w.heap.size w (w.alloc (.cells #[.string u, .int .u64 s, .int .i64 k, .string v] 48)) from (Below.refl _ _).alloc (Nat.le_refl _) _)
  replace hE := Lib.hid hE
  go_enter Try.func26, Try.ntmps26
  go_upto_region 2 with (first
    | (go_at_call 53; refine (encode_ok u s k _ hc).mono ?_; rintro e w1 ⟨v1, rfl, hv1, hB1⟩; rw [hE.out, vb_len] at hv1; have hv2 := Lib.hid (hv1.more hB0.out.size); obtain ⟨A1, c1, rfl, -⟩ := hv1.shape; have b1 : w1.cell? ⟨w.heap.size, 3, none⟩ = some (.string v) := ((Bl.new' (W := w) (o := .cells #[.string u, .int .u64 s, .int .i64 k, .string v] 48) rfl).keep hB1).cell 3; have hB2 := Lib.hid (below_then hB0.out hB1); clear hv1 hB1))
  go_wp2_with fail
  go_ret2
  exact ⟨_, rfl, by rw [vb_len]; exact hv2.out, hB2.out⟩
theorem shape_val (u : ByteArray) (s k : Int) (v : ByteArray) (w : World) (hc : chkK u s k = 0) (hv : 16384 < v.size) (hv2 : v.size ≤ maxLen) :
    Calls Try.prog 26 #[.agg #[.string u, .int .u64 s, .int .i64 k, .string v]] w fun e w' => ∃ x, e = .returned (.tuple #[x, .int .i64 2]) ∧ Below w.heap.size w w' := by
  unfold maxLen at hv2
  have hB0 := Lib.hid (show Below w.heap.size w (w.alloc (.cells #[.string u, .int .u64 s, .int .i64 k, .string v] 48)) from (Below.refl _ _).alloc (Nat.le_refl _) _)
  go_enter Try.func26, Try.ntmps26
  go_upto_region 2 with (first
    | (go_at_call 53; refine (encode_ok u s k _ hc).mono ?_; rintro e w1 ⟨v1, rfl, hv1, hB1⟩; have b1 : w1.cell? ⟨w.heap.size, 3, none⟩ = some (.string v) := ((Bl.new' (W := w) (o := .cells #[.string u, .int .u64 s, .int .i64 k, .string v] 48) rfl).keep hB1).cell 3; have hB2 := Lib.hid (below_then hB0.out hB1); clear hv1 hB1))
  go_wp2_with fail
  go_ret2
  exact ⟨_, rfl, hB2.out⟩
theorem shape_no (u : ByteArray) (s k : Int) (v : ByteArray) (w : World) (hu : u.size ≤ maxLen) (hc : chkK u s k ≠ 0) :
    Calls Try.prog 26 #[.agg #[.string u, .int .u64 s, .int .i64 k, .string v]] w fun e w' => ∃ x, e = .returned (.tuple #[x, .int .i64 (chkK u s k)]) ∧ Below w.heap.size w w' := by
  have hc0 : (chkK u s k == 0) = false := beq_eq_false_iff_ne.2 hc
  have hB0 := Lib.hid (show Below w.heap.size w (w.alloc (.cells #[.string u, .int .u64 s, .int .i64 k, .string v] 48)) from (Below.refl _ _).alloc (Nat.le_refl _) _)
  go_enter Try.func26, Try.ntmps26
  go_upto_region 2 with (first
    | (go_at_call 53; refine (encode_no u s k _ hu hc0).mono ?_; rintro e w1 ⟨rfl, hB1⟩; have hB2 := Lib.hid (below_then hB0.out hB1); clear hB1))
  go_wp2_with fail
  go_ret2
  exact ⟨_, rfl, hB2.out⟩
end Go.Proofs.Ytkohoondgegmfaa
