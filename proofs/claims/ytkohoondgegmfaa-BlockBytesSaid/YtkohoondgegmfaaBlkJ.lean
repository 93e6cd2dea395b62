/- The program's Build. Conditions: texts that can be. -/
import Derived.RangeFuncNested
import Derived.RangeFuncBound
import Derived.RangeFuncCalls
import Derived.RangeFuncLeaves
import Derived.Shelf.Abstract
import Derived.Shelf.RegionOpen
import Derived.WalkKit
import Derived.OwnWalkIn
import Derived.TacticsInMore
import Derived.LoopNIn
import Derived.LoopIn
import Derived.Lib.Hide
import Derived.Outline
import Derived.RegionTactic
import Derived.BigRegion
import Derived.WalkLawsBesides
import Derived.WalkSpells
import Derived.Deep.QuietTactic
import Derived.BigQuiet
import Derived.Deep.RegionHeld3
import Derived.Deep.DeepCutAuto
import Derived.Deep.CutBlock
import Derived.StillTailTactics
import Derived.WalkSmall
import Derived.Test.YtkohoondgegmfaaBlkI
namespace Go.Proofs.Ytkohoondgegmfaa
open Go.RowKit Go.Sed
set_option maxHeartbeats 1000000
set_option maxRecDepth 100000
theorem WK.rebase {w0 W : World} {bw : Nat} {c : Array Value} {vl vb' vw kv : Value} {L B WL K : List Int} (h : WK w0 W bw c vl vb' vw kv L B WL K) : WK W W bw c vl vb' vw kv L B WL K :=
  { h with below := Below.refl _ _ }
theorem WK.base {w0 W W' : World} {bw : Nat} {c : Array Value} {vl vb' vw kv : Value} {L B WL K : List Int} (h : WK W W' bw c vl vb' vw kv L B WL K) (hB : Below bw w0 W) : WK w0 W' bw c vl vb' vw kv L B WL K :=
  { h with below := hB.trans h.below }
theorem WK.key {w0 W W' : World} {bw : Nat} {c : Array Value} {vl vb' vw kv kv' : Value} {L B WL K K' : List Int} (h : WK w0 W bw c vl vb' vw kv L B WL K) (hB : Below W.heap.size W W') (hk : OW W' W.heap.size 1 kv' K'.length (vb K')) : WK w0 W' bw c vl vb' vw kv' L B WL K' := by
  have h1 := h.keep hB
  have ne : ∀ {n : Nat} {v : Value} {xs : List Value}, OW W (bw + 1) 1 v n xs → ∀ k, kv'.ownBlock = some k → v.ownBlock ≠ some k := by
    intro n v xs ho k e e2
    have := (ho.lt k e2).2
    have := (hk.lt k e).1
    omega
  exact ⟨h1.ld, h1.l, h1.b, h1.w, hk.more h.ld.lt, h1.lb, h1.lw, ne h.b, ne h.w, h1.bw', h1.below⟩
theorem WK.start (w : World) (rs : Nat) : WK w (w.alloc (.cells #[.int .i64 rs, .int .i64 (0 : Nat), .slice none 0 0, .slice none 0 0, .slice none 0 0] 63)) w.heap.size #[.int .i64 rs, .int .i64 (0 : Nat), .slice none 0 0, .slice none 0 0, .slice none 0 0] (.slice none 0 0) (.slice none 0 0) (.slice none 0 0) (.slice none 0 0) [] [] [] [] :=
  have hn : ∀ k, (Value.slice none 0 0).ownBlock = some k → (Value.slice none 0 0).ownBlock ≠ some k := fun k e => by simp [Value.ownBlock] at e
  ⟨Bl.new' rfl, OW.nil _ _ _, OW.nil _ _ _, OW.nil _ _ _, OW.nil _ _ _, hn, hn, hn, hn, hn, (Below.refl _ _).alloc (Nat.le_refl _) _⟩
theorem how_yes (how : Int) (w : World) (h : how = 0 ∨ how = 1) : Calls Try.prog 25 #[.int .i64 how] w fun e w' => e = .returned (.bool true) ∧ w = w' := by
  rcases h with rfl | rfl
  · go_enter Try.func25, Try.ntmps25
    go_wp2
    go_ret
    exact ⟨rfl, rfl⟩
  · go_enter Try.func25, Try.ntmps25
    go_wp2
    go_ret
    exact ⟨rfl, rfl⟩
theorem how_no (how : Int) (w : World) (h : ¬ (how = 0 ∨ how = 1)) : Calls Try.prog 25 #[.int .i64 how] w fun e w' => e = .returned (.bool false) ∧ w = w' := by
  have h1 : (how == 0) = false := beq_eq_false_iff_ne.2 (fun e => h (.inl e))
  have h2 : (how == 1) = false := beq_eq_false_iff_ne.2 (fun e => h (.inr e))
  go_enter Try.func25, Try.ntmps25
  go_wp2
  go_ret
  exact ⟨rfl, rfl⟩
theorem build_any (how rs : Int) (A : Option Addr) (c : Nat) (l : List E4) (w : World) (hll : l.length ≤ maxLen) (hr : Rd w 4 A l.length (l.flatMap e4c)) (hfit : Fit l) :
    Calls Try.prog 7 #[.int .i64 how, .int .i64 rs, .slice A l.length c] w (OwnRes w (vb (bldB how rs l)) (bldE how rs l)) := by
  unfold maxLen at hll
  by_cases hh : how = 0 ∨ how = 1
  case neg =>
    have hb := Lib.hid (bld_arg (l := l) (show ¬ ((how = 0 ∨ how = 1) ∧ 1 ≤ rs ∧ rs ≤ 1024) from fun e => hh e.1))
    go_enter Try.func7, Try.ntmps7
    go_wp2_with (go_at_call 25; refine (how_no how _ hh).mono ?_; rintro e w' ⟨rfl, rfl⟩)
    go_ret2
    exact ownres_nil hb.out (Below.refl _ _)
  by_cases h1 : 1 ≤ rs
  case neg =>
    have hb := Lib.hid (bld_arg (l := l) (show ¬ ((how = 0 ∨ how = 1) ∧ 1 ≤ rs ∧ rs ≤ 1024) from fun e => h1 e.2.1))
    go_enter Try.func7, Try.ntmps7
    go_wp2_with (go_at_call 25; refine (how_yes how _ hh).mono ?_; rintro e w' ⟨rfl, rfl⟩)
    go_ret2
    exact ownres_nil hb.out (Below.refl _ _)
  by_cases h2 : rs ≤ 1024
  case neg =>
    have hb := Lib.hid (bld_arg (l := l) (show ¬ ((how = 0 ∨ how = 1) ∧ 1 ≤ rs ∧ rs ≤ 1024) from fun e => h2 e.2.2))
    go_enter Try.func7, Try.ntmps7
    go_wp2_with (go_at_call 25; refine (how_yes how _ hh).mono ?_; rintro e w' ⟨rfl, rfl⟩)
    go_ret2
    exact ownres_nil hb.out (Below.refl _ _)
  by_cases h3 : l.length ≤ 65536
  case neg =>
    have hb := Lib.hid (bld_long (l := l) ⟨hh, h1, h2⟩ h3)
    go_enter Try.func7, Try.ntmps7
    go_wp2_with (go_at_call 25; refine (how_yes how _ hh).mono ?_; rintro e w' ⟨rfl, rfl⟩)
    go_ret2
    exact ownres_nil hb.out (Below.refl _ _)
  obtain ⟨n, rfl⟩ : ∃ n : Nat, rs = n := ⟨rs.toNat, by omega⟩
  have hbe := Lib.hid (fun (x : Int) => bld_err (x := x) ⟨hh, h1, h2⟩ h3)
  have hbb := Lib.hid (bld_big ⟨hh, h1, h2⟩ h3)
  have hbo := Lib.hid (bld_ok ⟨hh, h1, h2⟩ h3)
  replace hfit := Lib.hid hfit
  have hst := Lib.hid (WK.start w n)
  go_enter Try.func7, Try.ntmps7
  go_wp2_with (go_at_call 25; refine (how_yes how _ hh).mono ?_; rintro e w' ⟨rfl, rfl⟩)
  replace hh := Lib.hid hh
  go_loopw [33] (fun i wr => ∃ (k : Nat) (L B W K : List Int) (c' : Array Value) (vl vb' vw kv : Value), k ≤ l.length ∧ i = .int .i64 k ∧ c' = #[.int .i64 n, .int .i64 k, vl, vb', vw] ∧ WK w wr w.heap.size c' vl vb' vw kv L B W K ∧ WO k L B W ∧ wrt n (l.drop k) k L B W = wrt n l 0 [] [] [] ∧ errE (some how) (prevE l k) (l.drop k) = errE (some how) none l) (fun i _ => l.length - (intOf i).toNat)
  case atStart => exact ⟨0, [], [], [], [], _, _, _, _, _, Nat.zero_le _, rfl, rfl, hst.out, WO.start, rfl, rfl⟩
  case round =>
    obtain ⟨k, L, B, W, K, c', vl, vb', vw, kv, hk, rfl, hc', hw, ho, hwr, heq⟩ := hrel
    replace hc' := Lib.hid hc'
    by_cases hlt : k < l.length
    · obtain ⟨e, he⟩ : ∃ e, l[k]? = some e := ⟨_, List.getElem?_eq_getElem hlt⟩
      have hef := Lib.hid (hfit.out e (List.mem_of_getElem? he))
      rw [errE_at _ l k e he] at heq
      have hdr := wrt_drop n l k e L B W he
      obtain ⟨u, s, kk, v⟩ := e
      obtain ⟨g1, o1, hA⟩ : ∃ g o, A = some ⟨g, o, none⟩ := by
        obtain ⟨b, o, e, _⟩ := hr.2 (by omega)
        exact ⟨b, o, e⟩
      subst hA
      have hu2 : v.size ≤ 9223372036854775807 := by have := hef.out.2; unfold maxLen E4.val at this; exact this
      have q0 : wr.cell? ⟨g1, o1 + k * 4, none⟩ = some (.string u) := (hr.keep hw.below).elem e4c_len he (j := 0) rfl
      have q1 : wr.cell? ⟨g1, o1 + k * 4 + 1, none⟩ = some (.int .u64 s) := (hr.keep hw.below).elem e4c_len he (j := 1) rfl
      have q2 : wr.cell? ⟨g1, o1 + k * 4 + 2, none⟩ = some (.int .i64 kk) := (hr.keep hw.below).elem e4c_len he (j := 2) rfl
      have q3 : wr.cell? ⟨g1, o1 + k * 4 + 3, none⟩ = some (.string v) := (hr.keep hw.below).elem e4c_len he (j := 3) rfl
      replace hw := Lib.hid hw
      replace hwr := Lib.hid hwr
      replace hdr := Lib.hid hdr
      go_upto_region 9 with (fail)
      have hBa : Below wr.heap.size wr (wr.alloc (.cells #[.string u, .int .u64 s, .int .i64 kk, .string v] 48)) := (Below.refl _ _).alloc (Nat.le_refl _) _
      have hxa : Bl (wr.alloc (.cells #[.string u, .int .u64 s, .int .i64 kk, .string v] 48)) wr.heap.size (.cells #[.string u, .int .u64 s, .int .i64 kk, .string v] 48 (0, 0)) := Bl.new' rfl
      have hwa := Lib.hid (hw.out.keep hBa)
      obtain ⟨wa, hwe⟩ : ∃ wa, wr.alloc (.cells #[.string u, .int .u64 s, .int .i64 kk, .string v] 48) = wa := ⟨_, rfl⟩
      obtain ⟨bx, hbx⟩ : ∃ bx, wr.heap.size = bx := ⟨_, rfl⟩
      rw [hwe] at hwa hxa hBa ⊢
      rw [hbx] at hxa ⊢
      clear hwe hBa q0 q1 q2 q3 hbx hw
      have x0 : wa.cell? ⟨bx, 0, none⟩ = some (.string u) := hxa.cell 0
      have x1 : wa.cell? ⟨bx, 1, none⟩ = some (.int .u64 s) := hxa.cell 1
      have x2 : wa.cell? ⟨bx, 2, none⟩ = some (.int .i64 kk) := hxa.cell 2
      have x3 : wa.cell? ⟨bx, 3, none⟩ = some (.string v) := hxa.cell 3
      by_cases hc : chkK u s kk = 0
      case neg =>
        have hst : stepE (some how) (prevE l k) (u, s, kk, v) = chkK u s kk := stepE_chk hc
        rw [hst, if_neg hc] at heq
        have hb := Lib.hid (hbe.out _ heq.symm hc)
        have hc1 : (chkK u s kk != 0) = true := bne_iff_ne.2 hc
        have hno := fun W => shape_no u s kk v W hef.out.1 hc
        clear heq hst
        obtain ⟨x, hx⟩ : ∃ x, chkK u s kk = x := ⟨_, rfl⟩
        rw [hx] at hb hc hc1 hno
        replace hx := Lib.hid hx
        replace hno := Lib.hid hno
        go_wp2_with (first
          | (go_at_call 26; refine (hno.out _).mono ?_; rintro e w1 ⟨y, rfl, hB1⟩; have hw1 := Lib.hid (hwa.out.keep hB1).below; clear hB1))
        go_ret2
        exact ownres_nil hb.out hw1.out
      by_cases hv : v.size ≤ 16384
      case neg =>
        have hst : stepE (some how) (prevE l k) (u, s, kk, v) = 2 := stepE_val hc (by unfold E4.val; simp only; omega)
        rw [hst, if_neg (by omega)] at heq
        have hb := Lib.hid (hbe.out _ heq.symm (by omega))
        clear heq hst
        replace hc := Lib.hid hc
        go_wp2_with (first
          | (go_at_call 26; refine (shape_val u s kk v _ hc.out (by omega) (by unfold maxLen; omega)).mono ?_; rintro e w1 ⟨y, rfl, hB1⟩; have hw1 := Lib.hid (hwa.out.keep hB1).below; clear hB1))
        go_ret2
        exact ownres_nil hb.out hw1.out
      have hcan : E4.can (u, s, kk, v) := ⟨hc, hv⟩
      have hEl : (encL u s kk).length ≤ 2000 := E4.enc_le hcan
      have hos := ho.step (rs := n) hcan (by omega)
      have hok := Lib.hid (fun W => shape_ok u s kk v W hc hv)
      rw [show E4.enc (u, s, kk, v) = encL u s kk from rfl] at hos hdr
      obtain ⟨E, hE⟩ : ∃ E, encL u s kk = E := ⟨_, rfl⟩
      rw [hE] at hos hdr hok hEl
      replace hE := Lib.hid hE
      replace hos := Lib.hid hos
      have hoL := ho.l
      have hoB := ho.b
      have hoW := ho.w
      replace ho := Lib.hid ho
      clear hc
      go_upto_region 10 with (first
        | (go_at_call 26; refine (hok.out _).mono ?_; rintro e w1 ⟨y, rfl, hv1, hB1⟩; rw [vb_len] at hv1; obtain ⟨A1, c1, rfl, -⟩ := hv1.shape; have hw1 := Lib.hid (hwa.out.key hB1 hv1); have hx1 := Lib.hid (hxa.keep hB1); clear hB1 hv1))
      clear hwa hxa x0 x1 x2 x3 hok
      rcases k with _ | m
      · have hst : stepE (some how) (prevE l 0) (u, s, kk, v) = 0 := stepE_none hcan (.inr rfl)
        rw [hst, if_pos rfl] at heq
        replace heq := Lib.hid heq
        replace hcan := Lib.hid hcan
        clear hst
        have x3 : w1.cell? ⟨bx, 3, none⟩ = some (.string v) := hx1.out.cell 3
        rw [show ((0 : Nat) : Int) = 0 from rfl]
        go_upto_region 12 with (fail)
        go_quiet (fail)
        go_wp2_with (first
          | (go_at_call 27; refine (add_any w.heap.size n 0 vl vb' vw _ L B W E v _ (by omega) (by omega) (by omega) (by omega) hoW hoL hEl (by omega) (by rw [← hc'.out]; exact (hw1.out.keep (below_drewN (Below.refl _ _) _)).rebase)).mono ?_; rintro e w2 ⟨rfl, b2, W2, hw2⟩; have hw3 := Lib.hid (hw2.base (hw1.out.keep (below_drewN (Below.refl _ _) _)).below); clear hw2))
        go_roundw
        case rel => exact ⟨1, _, _, _, _, _, _, _, _, _, by omega, by go_num, rfl, hw3.out, hos.out, hdr.out.symm.trans hwr.out, heq.out⟩
        case measure => simp only [intOf]; omega
      · obtain ⟨d, hd⟩ : ∃ d, l[m]? = some d := ⟨_, List.getElem?_eq_getElem (by omega)⟩
        have hst : stepE (some how) (prevE l (m + 1)) (u, s, kk, v) = if 0 ≤ E4.ord how d (u, s, kk, v) then 1 else 0 := by
          rw [show prevE l (m + 1) = some d from hd]; exact stepE_some hcan
        obtain ⟨du, ds, dk, dv⟩ := d
        have hrw := hr.keep hw1.out.below
        have p0 : w1.cell? ⟨g1, o1 + m * 4, none⟩ = some (.string du) := hrw.elem e4c_len hd (j := 0) rfl
        have p1 : w1.cell? ⟨g1, o1 + m * 4 + 1, none⟩ = some (.int .u64 ds) := hrw.elem e4c_len hd (j := 1) rfl
        have p2 : w1.cell? ⟨g1, o1 + m * 4 + 2, none⟩ = some (.int .i64 dk) := hrw.elem e4c_len hd (j := 2) rfl
        have r0 : w1.drew.cell? ⟨g1, o1 + m * 4, none⟩ = some (.string du) := p0
        have r1 : w1.drew.cell? ⟨g1, o1 + m * 4 + 1, none⟩ = some (.int .u64 ds) := p1
        have r2 : w1.drew.cell? ⟨g1, o1 + m * 4 + 2, none⟩ = some (.int .i64 dk) := p2
        have x0 : w1.cell? ⟨bx, 0, none⟩ = some (.string u) := hx1.out.cell 0
        have x1 : w1.cell? ⟨bx, 1, none⟩ = some (.int .u64 s) := hx1.out.cell 1
        have x2 : w1.cell? ⟨bx, 2, none⟩ = some (.int .i64 kk) := hx1.out.cell 2
        have y0 : w1.drew.cell? ⟨bx, 0, none⟩ = some (.string u) := x0
        have y1 : w1.drew.cell? ⟨bx, 1, none⟩ = some (.int .u64 s) := x1
        have y2 : w1.drew.cell? ⟨bx, 2, none⟩ = some (.int .i64 kk) := x2
        clear hrw
        unfold E4.ord at hst
        simp only at hst
        obtain ⟨x, hx⟩ : ∃ x, ordK how du ds dk u s kk = x := ⟨_, rfl⟩
        rw [hx] at hst
        rw [hst] at heq
        replace hx := Lib.hid hx
        replace hcan := Lib.hid hcan
        have hsub : IntKind.i64.wrap ((m : Int) + 1 - 1) = m := by simp [IntKind.wrap, IntKind.bits, IntKind.signed]; omega
        clear hst
        have hgt : decide ((0 : Int) < (m : Int) + 1) = true := decide_eq_true (by omega)
        have z2 : IntKind.i64.wrap (m : Int) = m := by simp [IntKind.wrap, IntKind.bits, IntKind.signed]; omega
        have z3 : ((m : Int) + 1).toNat = m + 1 := by omega
        have z4 : (0 : Int) ≤ (m : Int) + 1 := by omega
        have z5 : (m : Int) + 1 < l.length := by omega
        have z6 : (m : Int) < l.length := by omega
        by_cases h0 : 0 ≤ x
        · rw [if_pos h0, if_neg (by omega)] at heq
          have hb := Lib.hid (hbe.out _ heq.symm (by omega))
          clear heq
          go_upto_region 12 with (fail)
          rw [show Op.load 33 (Operand.tmp 54) = id (Op.load 33 (Operand.tmp 54)) from rfl, show Op.load 33 (Operand.tmp 56) = id (Op.load 33 (Operand.tmp 56)) from rfl]
          go_region_held3 (fun _ => True) (exact trivial) ((first
            | (go_at_call 22; refine (order_any how du ds dk u s kk _).mono ?_; rintro e w3 ⟨rfl, hB3⟩; have hw3 := Lib.hid (hw1.out.keep (below_then (Below.refl _ _).drew hB3)); have t3 : w3.cell? ⟨bx, 3, none⟩ = some (.string v) := (hx1.out.keep (below_then (Below.refl _ _).drew hB3)).cell 3; rw [hx.out]; clear hB3)))
          all_goals go_wp2_with fail
          all_goals go_ret2
          all_goals exact ownres_nil hb.out hw3.out.below
        · rw [if_neg h0, if_pos rfl] at heq
          replace heq := Lib.hid heq
          go_upto_region 12 with (fail)
          rw [show Op.load 33 (Operand.tmp 54) = id (Op.load 33 (Operand.tmp 54)) from rfl, show Op.load 33 (Operand.tmp 56) = id (Op.load 33 (Operand.tmp 56)) from rfl]
          go_region_held3 (fun _ => True) (exact trivial) ((first
            | (go_at_call 22; refine (order_any how du ds dk u s kk _).mono ?_; rintro e w3 ⟨rfl, hB3⟩; have hw3 := Lib.hid (hw1.out.keep (below_then (Below.refl _ _).drew hB3)); have t3 : w3.cell? ⟨bx, 3, none⟩ = some (.string v) := (hx1.out.keep (below_then (Below.refl _ _).drew hB3)).cell 3; rw [hx.out]; clear hB3)))
          all_goals clear p0 p1 p2 r0 r1 r2 x0 x1 x2 y0 y1 y2 hsub hgt z2 z3
          all_goals go_wp2_with (first
            | (go_at_call 27; refine (add_any w.heap.size n (m + 1) vl vb' vw _ L B W E v _ (by omega) (by omega) (by omega) (by omega) hoW hoL hEl (by omega) (by rw [← hc'.out]; exact hw3.out.rebase)).mono ?_; rintro e w2 ⟨rfl, b2, W2, hw2⟩; have hw4 := Lib.hid (hw2.base hw3.out.below); clear hw2))
          all_goals go_roundw
          all_goals (first | exact ⟨m + 1 + 1, _, _, _, _, _, _, _, _, _, by omega, by go_num, rfl, hw4.out, hos.out, hdr.out.symm.trans hwr.out, heq.out⟩ | (simp only [intOf]; omega))
    · obtain rfl : k = l.length := by omega
      rw [List.drop_length] at heq hwr
      have h0 : errE (some how) none l = 0 := heq.symm
      have hoL := ho.l
      have hoB := ho.b
      have hoW := ho.w
      have hoX := Lib.hid ho.wx
      have hbl : B ++ endB W = blk n l := by unfold blk; rw [← hwr]; rfl
      clear heq hwr
      replace ho := Lib.hid ho
      replace h0 := Lib.hid h0
      have hwz := hw.ld.lt
      replace hw := Lib.hid hw
      by_cases h4 : (blk n l).length ≤ 4194304
      · have hb := hbo.out h0.out (by rw [Int.toNat_natCast]; exact h4)
        rw [Int.toNat_natCast] at hb
        replace hb := Lib.hid hb
        obtain ⟨bl, hbe2⟩ : ∃ bl, blk n l = bl := ⟨_, rfl⟩
        rw [hbe2] at hbl hb h4
        replace hbl := Lib.hid hbl
        clear hbe2
        go_wp2_with (first
          | (go_at_call 28; refine (end_any w.heap.size n l.length vl vb' vw kv L B W K _ (by omega) (by omega) hoX.out (by rw [← hc'.out]; exact hw.out.rebase)).mono ?_; rintro e w2 ⟨v2, rfl, hv2, hB2⟩; rw [hbl.out] at hv2; obtain ⟨A2, c2, rfl, -⟩ := hv2.shape; replace hv2 := Lib.hid hv2; have hB3 := Lib.hid (hw.out.below.trans hB2); clear hB2))
        go_ret2
        exact ownres_of hb.out (hv2.out.more (by omega)) hB3.out
      · have hb := hbb.out h0.out (by rw [Int.toNat_natCast]; exact h4)
        replace hb := Lib.hid hb
        obtain ⟨bl, hbe2⟩ : ∃ bl, blk n l = bl := ⟨_, rfl⟩
        rw [hbe2] at hbl h4
        replace hbl := Lib.hid hbl
        clear hbe2
        go_wp2_with (first
          | (go_at_call 28; refine (end_any w.heap.size n l.length vl vb' vw kv L B W K _ (by omega) (by omega) hoX.out (by rw [← hc'.out]; exact hw.out.rebase)).mono ?_; rintro e w2 ⟨v2, rfl, hv2, hB2⟩; rw [hbl.out] at hv2; obtain ⟨A2, c2, rfl, -⟩ := hv2.shape; replace hv2 := Lib.hid hv2; have hB3 := Lib.hid (hw.out.below.trans hB2); clear hB2))
        go_ret2
        exact ownres_nil hb.out hB3.out
end Go.Proofs.Ytkohoondgegmfaa
