/- A block's writer: an entry is put behind all others. -/
import Derived.RangeFuncNested
import Derived.RangeFuncBound
import Derived.RangeFuncCalls
import Derived.RangeFuncLeaves
import Derived.Shelf.Abstract
import Derived.Shelf.RegionOpen
import Derived.WalkKit
import Derived.OwnWalkIn
import Derived.TacticsInMore
import Derived.LoopNIn
import Derived.LoopIn
import Derived.Lib.Hide
import Derived.Outline
import Derived.RegionTactic
import Derived.BigRegion
import Derived.WalkLawsBesides
import Derived.WalkSpells
import Derived.Deep.QuietTactic
import Derived.BigQuiet
import Derived.Deep.RegionHeld3
import Derived.Deep.DeepCutAuto
import Derived.Deep.CutBlock
import Derived.StillTailTactics
import Derived.WalkSmall
import Derived.Test.YtkohoondgegmfaaBlkB
namespace Go.Proofs.Ytkohoondgegmfaa
open Go.RowKit Go.Sed
set_option maxHeartbeats 1000000
set_option maxRecDepth 100000
theorem infoInt : (Try.prog.info? 3).map (fun i => (i.zero, i.size, i.bytes)) = some (some (.int .i64 0), 1, 8) := by kernel_rfl
theorem run_idx (t : TypeId) (n : Nat) (cs : Array Value) (j : Nat) (v : Value) (h : Try.prog.underlying t = some (.array n 3)) (hj : j < n) (hv : cs[j]? = some v) (W : World) :
    (Instr.index t (.agg cs) (.int .i64 (j : Int))).run Try.prog W = .ok v W := by
  obtain ⟨i, hi, hz, hsize, hby⟩ := info_parts infoInt
  have hn : (0 : Int) ≤ (j : Int) ∧ (j : Int) < (n : Int) := by omega
  simp [Instr.index, run_underlying h, asIntOf, hj, hv, go_sem, sizeOf, typeInfo, hi, hsize, isAgg, run_underlying Try.underlying3]
theorem add_any (bw rs n : Nat) (vl vb' vw kv : Value) (L B WL K : List Int) (s : ByteArray) (w : World) (hrs : 1 ≤ rs) (hrs2 : rs < 1000000) (hn : n < 100000) (hB : B.length ≤ 100000000000) (hW : WL.length ≤ n) (hL : L.length ≤ 2000) (hK : K.length ≤ 2000) (hs : s.size ≤ 20000)
    (h : WK w w bw #[.int .i64 rs, .int .i64 n, vl, vb', vw] vl vb' vw kv L B WL K) :
    Calls Try.prog 27 #[.pointer (some ⟨bw, 0, none⟩), kv, .string s] w fun e w' => e = .returned (.tuple #[]) ∧ ∃ b2 w2, WK w w' bw #[.int .i64 rs, .int .i64 (n + 1), kv, b2, w2] kv b2 w2 kv K (B ++ entB (shr rs n L K) K s) (whl rs n B WL) K := by
  obtain ⟨A1, c1, rfl, hr1, -⟩ := h.k.shape
  obtain ⟨A2, c2, rfl, hr2, -⟩ := h.l.shape
  obtain ⟨A3, c3, rfl, -⟩ := h.b.shape
  obtain ⟨A4, c4, rfl, -⟩ := h.w.shape
  have k0 : w.cell? ⟨bw, 0, none⟩ = some (.int .i64 rs) := h.ld.cell 0
  have k1 : w.cell? ⟨bw, 1, none⟩ = some (.int .i64 n) := h.ld.cell 1
  have k3 : w.cell? ⟨bw, 3, none⟩ = some (.slice A3 B.length c3) := h.ld.cell 3
  have k4 : w.cell? ⟨bw, 4, none⟩ = some (.slice A4 WL.length c4) := h.ld.cell 4
  have hbw := h.ld.lt
  replace h := Lib.hid h
  go_enter Try.func27, Try.ntmps27
  go_wp2_with fail
  go_region
  have hmod : (n : Int) % rs = ((n % rs : Nat) : Int) := by first | exact (Int.natCast_emod n rs).symm | simp | rfl
  rw [hmod]
  obtain ⟨q, hq⟩ : ∃ q, n % rs = q := ⟨_, rfl⟩
  rw [hq]
  replace hq := Lib.hid hq
  clear hmod
  go_upto_if 18 with (fail)
  go_cut [6] (fun x wx => x = .int .i64 (shr rs n L K) ∧ ∃ w2, WK w wx bw #[.int .i64 rs, .int .i64 n, .slice A2 L.length c2, .slice A3 B.length c3, w2] (.slice A2 L.length c2) (.slice A3 B.length c3) w2 (.slice A1 K.length c1) L B (whl rs n B WL) K)
  case first =>
    have h1 := Lib.hid (h.out.keep (Below.refl _ _).drew)
    obtain ⟨w1, hw1⟩ : ∃ w1, w.drew = w1 := ⟨_, rfl⟩
    rw [hw1] at h1 ⊢
    clear k0 k1 k3 k4 hbw hr1 hr2
    have k0 : w1.cell? ⟨bw, 0, none⟩ = some (.int .i64 rs) := h1.out.ld.cell 0
    have k2 : w1.cell? ⟨bw, 2, none⟩ = some (.slice A2 L.length c2) := h1.out.ld.cell 2
    have k3 : w1.cell? ⟨bw, 3, none⟩ = some (.slice A3 B.length c3) := h1.out.ld.cell 3
    have k4 : w1.cell? ⟨bw, 4, none⟩ = some (.slice A4 WL.length c4) := h1.out.ld.cell 4
    have hbw := h1.out.ld.lt
    clear hw1 h
    by_cases h0 : q = 0
    · subst h0
      have e1 : shr rs n L K = 0 := by unfold shr; rw [if_pos hq.out]
      have e2 : whl rs n B WL = WL ++ [(B.length : Int)] := by unfold whl; rw [if_pos hq.out]
      replace e1 := Lib.hid e1
      replace e2 := Lib.hid e2
      go_wp2_with fail
      rw [show Op.load 61 (Operand.tmp 22) = id (Op.load 61 (Operand.tmp 22)) from rfl]
      have hsz : bw + 1 ≤ w1.heap.size := hbw
      go_region_held3 (fun W => W.cell? ⟨bw, 3, none⟩ = some (.slice A3 B.length c3)) (first | exact k3 | exact ((h1.out.keep (((Below.refl _ _).alloc (Nat.le_refl _) _).drew)).ld.cell 3) | exact i3 | exact (h5.out.set 4 _).ld.cell 3) ((refine step_append_ow rfl _ _ 61 rfl (bw + 1) 3 Try.underlying61 infoInt rfl (by decide) _ WL.length _ rfl (h1.out.w.alloc _).drew _ 1 1 [.int .i64 B.length] rfl (rd_one rfl _ _).drew (by intro u hu; simp at hu; subst hu; rfl) (by unfold maxLen; omega) (by omega) (by simp; omega) ?_; intro v5 w5 hown5 hgr5 hcase5; obtain ⟨A5, c5, rfl, -⟩ := hown5.shape; have h5 := Lib.hid (h1.out.growW ((Below.refl _ _).alloc (Nat.le_refl _) _).drew hown5 hgr5 hcase5); have i3 : w5.cell? ⟨bw, 3, none⟩ = some (.slice A3 B.length c3) := h5.out.ld.cell 3; have i4 : w5.cell? ⟨bw, 4, none⟩ = some (.slice A4 WL.length c4) := h5.out.ld.cell 4; have f4 := h5.out.ld.frozen 4; have hl5 := h5.out.ld.lt; clear hown5 hgr5 hcase5))
      all_goals go_wp2_with fail
      all_goals go_meet
      all_goals exact ⟨by rw [e1.out]; rfl, _, by rw [e2.out]; exact h5.out.set 4 _⟩
    · have e0 : ¬ n % rs = 0 := by rw [hq.out]; exact h0
      have e1 : shr rs n L K = lcp K L := by unfold shr; rw [if_neg e0, lcp_comm]
      have e2 : whl rs n B WL = WL := by unfold whl; rw [if_neg e0]
      replace e1 := Lib.hid e1
      replace e2 := Lib.hid e2
      have hz : ((q : Int) == 0) = false := beq_eq_false_iff_ne.2 (by omega)
      have hle := lcp_le K L
      go_wp2_with fail
      go_loopw [6] (fun i wr => ∃ k : Nat, k ≤ lcp K L ∧ i = .int .i64 k ∧ Below w1.heap.size w1 wr) (fun i _ => K.length - (intOf i).toNat)
      case atStart => exact ⟨0, Nat.zero_le _, rfl, Below.refl _ _⟩
      case round =>
        obtain ⟨k, hk, rfl, hB1⟩ := hrel
        have hj := Lib.hid (h1.out.keep hB1)
        clear k0 k2 k3 k4
        have k2 : wr.cell? ⟨bw, 2, none⟩ = some (.slice A2 L.length c2) := hj.out.ld.cell 2
        have hbr := hj.out.ld.lt
        by_cases hlt : k < K.length ∧ k < L.length
        · have hd : decide ((k : Int) < min (K.length : Int) (L.length : Int)) = true := decide_eq_true (by omega)
          have hd' : ((k : Int) < min (K.length : Int) (L.length : Int)) = True := eq_true (by omega)
          obtain ⟨g1, o1, u1, rfl, hu1, r1⟩ := (hj.out.k.rd).at1 hlt.1
          obtain ⟨g2, o2, u2, rfl, hu2, r2⟩ := (hj.out.l.rd).at1 hlt.2
          obtain ⟨x, hx, rfl⟩ : ∃ x, K[k]? = some x ∧ u1 = .int .u8 x := by
            rw [vb, List.getElem?_map, List.getElem?_eq_getElem hlt.1] at hu1
            exact ⟨_, List.getElem?_eq_getElem hlt.1, (Option.some.inj hu1).symm⟩
          obtain ⟨y, hy, rfl⟩ : ∃ y, L[k]? = some y ∧ u2 = .int .u8 y := by
            rw [vb, List.getElem?_map, List.getElem?_eq_getElem hlt.2] at hu2
            exact ⟨_, List.getElem?_eq_getElem hlt.2, (Option.some.inj hu2).symm⟩
          have hc1 := hj.out.k.shape
          have hc2 := hj.out.l.shape
          by_cases hxy : x = y
          · subst hxy
            go_wp2_with fail
            go_quiet (fail)
            go_wp2_with fail
            go_roundw
            case rel => exact ⟨k + 1, lcp_same K L k x x hk hx hy rfl, by go_num, below_drewN hB1 _⟩
            case measure => simp [intOf]; omega
          · have hl : lcp K L = k := lcp_differ K L k x y hk hx hy hxy
            have hxy1 : (x == y) = false := beq_eq_false_iff_ne.2 hxy
            go_wp2_with fail
            go_quiet (fail)
            go_wp2_with fail
            go_meet
            exact ⟨by rw [e1.out, hl], _, by rw [e2.out]; exact hj.out.keep (below_drewN (Below.refl _ _) _)⟩
        · have hl : lcp K L = k := by omega
          have hd : decide ((k : Int) < min (K.length : Int) (L.length : Int)) = false := decide_eq_false (by omega)
          have hd' : ((k : Int) < min (K.length : Int) (L.length : Int)) = False := eq_false (by omega)
          go_wp2_with fail
          go_quiet (fail)
          go_wp2_with fail
          go_meet
          exact ⟨by rw [e1.out, hl], _, by rw [e2.out]; exact hj.out.keep (below_drewN (Below.refl _ _) _)⟩
  case rest =>
    obtain ⟨rfl, w2, hc⟩ := hcut
    have hsh : shr rs n L K ≤ K.length := by
      unfold shr
      split
      · omega
      · rw [lcp_comm]; exact (lcp_le K L).1
    obtain ⟨sh, hse⟩ : ∃ sh, shr rs n L K = sh := ⟨_, rfl⟩
    rw [hse] at hsh ⊢
    replace hse := Lib.hid hse
    replace hc := Lib.hid hc
    go_wp2_with fail
    have hsub : (K.length : Int) - sh = ((K.length - sh : Nat) : Int) := by omega
    rw [hsub]
    clear hsub
    go_loopw [67] (fun i wr => ∃ (j : Nat) (X : List Int) (b2 : Value), j ≤ 3 ∧ i = .int .i64 j ∧ X.length ≤ 10 * j ∧ X = ([varL sh, varL (K.length - sh), varL s.size].take j).flatten ∧ WK w wr bw #[.int .i64 rs, .int .i64 n, .slice A2 L.length c2, b2, w2] (.slice A2 L.length c2) b2 w2 (.slice A1 K.length c1) L (B ++ X) (whl rs n B WL) K) (fun i _ => 3 - (intOf i).toNat)
    case atStart => exact ⟨0, [], _, by omega, rfl, by simp, rfl, by rw [List.append_nil]; exact hc.out⟩
    case round =>
      obtain ⟨j, X, b2, hj3, rfl, hXl, hX, hk⟩ := hrel
      have hBl : (B ++ X).length ≤ 100000000030 := by rw [List.length_append]; omega
      obtain ⟨Y, hY⟩ : ∃ Y, B ++ X = Y := ⟨_, rfl⟩
      rw [hY] at hk hBl
      replace hY := Lib.hid hY
      obtain ⟨Ab, cb, rfl, -⟩ := hk.b.shape
      replace hk := Lib.hid hk
      have hbr := hk.out.ld.lt
      by_cases hj4 : j < 3
      · obtain ⟨x, hx, hi, hX'⟩ : ∃ x : Nat, x ≤ 20000 ∧ (∀ W, (Instr.index 90 (.agg #[.int .i64 sh, .int .i64 (K.length - sh : Nat), .int .i64 s.size]) (.int .i64 (j : Int))).run Try.prog W = .ok (.int .i64 x) W) ∧ X ++ varL x = ([varL sh, varL (K.length - sh), varL s.size].take (j + 1)).flatten := by
          have h4 : j = 0 ∨ j = 1 ∨ j = 2 := by omega
          rcases h4 with rfl | rfl | rfl
          · exact ⟨sh, by omega, run_idx _ 3 _ 0 _ Try.underlying90 (by omega) rfl, by rw [hX]; simp⟩
          · exact ⟨K.length - sh, by omega, run_idx _ 3 _ 1 _ Try.underlying90 (by omega) rfl, by rw [hX]; simp⟩
          · exact ⟨s.size, by omega, run_idx _ 3 _ 2 _ Try.underlying90 (by omega) rfl, by rw [hX]; simp⟩
        clear hX
        have hx64 : x < 18446744073709551616 := Nat.lt_of_le_of_lt hx (by decide)
        have hvl := varL_10 hx64
        have hwx : IntKind.u64.wrap (x : Int) = x := by simp [IntKind.wrap, IntKind.bits, IntKind.signed]; omega
        replace hx64 := Lib.hid hx64
        have k3 : wr.drew.cell? ⟨bw, 3, none⟩ = some (.slice Ab Y.length cb) := hk.out.ld.cell 3
        have k3' : wr.cell? ⟨bw, 3, none⟩ = some (.slice Ab Y.length cb) := hk.out.ld.cell 3
        go_upto_region 8 with (fail)
        clear hi
        replace hX' := Lib.hid hX'
        rw [show Op.load 23 (Operand.tmp 73) = id (Op.load 23 (Operand.tmp 73)) from rfl]
        go_region_held3 (fun _ => True) (exact trivial) ((first
          | (go_at_call 54; refine (varint_any x hx64.out _).mono ?_; rintro e w3 ⟨v3, rfl, hv3, hB3⟩; obtain ⟨Av, cv, rfl, hr3, -⟩ := hv3.shape; have h3 := Lib.hid (hk.out.keep (below_then (Below.refl _ _).drew hB3)); have j3 : w3.cell? ⟨bw, 3, none⟩ = some (.slice Ab Y.length cb) := h3.out.ld.cell 3; replace hr3 := Lib.hid hr3; clear hv3 hB3)
          | (have _t := hr3; refine step_append_ow rfl _ _ 23 rfl (bw + 1) 5 Try.underlying23 infoByte rfl (by decide) _ Y.length _ rfl h3.out.b _ (varL x).length _ (vb (varL x)) rfl hr3.out (vb_one _) (by unfold maxLen; omega) (by omega) h3.out.ld.lt ?_; intro v5 w5 hown5 hgr5 hcase5; obtain ⟨A5, c5, rfl, -⟩ := hown5.shape; have h5 := Lib.hid (h3.out.growB (Below.refl _ _) hown5 hgr5 hcase5); have i3 : w5.cell? ⟨bw, 3, none⟩ = some (.slice Ab Y.length cb) := h5.out.ld.cell 3; have f3 := h5.out.ld.frozen 3; have hl5 := h5.out.ld.lt; clear hown5 hgr5 hcase5)))
        all_goals go_wp2_with fail
        all_goals go_roundw
        case rel => exact ⟨j + 1, X ++ varL x, _, by omega, by go_num, by rw [List.length_append]; omega, hX'.out, by rw [← List.append_assoc, hY.out]; exact h5.out.set 3 _⟩
        case measure => simp only [intOf]; omega
        case rel => exact ⟨j + 1, X ++ varL x, _, by omega, by go_num, by rw [List.length_append]; omega, hX'.out, by rw [← List.append_assoc, hY.out]; exact h5.out.set 3 _⟩
        case measure => simp only [intOf]; omega
      · obtain rfl : j = 3 := by omega
        have hXe : X = varL sh ++ (varL (K.length - sh) ++ varL s.size) := by rw [hX]; simp
        have k3 : wr.drew.cell? ⟨bw, 3, none⟩ = some (.slice Ab Y.length cb) := hk.out.ld.cell 3
        have k3' : wr.cell? ⟨bw, 3, none⟩ = some (.slice Ab Y.length cb) := hk.out.ld.cell 3
        obtain ⟨Z, hZ⟩ : ∃ Z, whl rs n B WL = Z := ⟨_, rfl⟩
        rw [hZ] at hk
        replace hZ := Lib.hid hZ
        replace hXe := Lib.hid hXe
        obtain ⟨A1', c1', hsl, hr1, hcap, -⟩ := hk.out.k.shape
        injection hsl with hsl1 hsl2 hsl3
        subst hsl1 hsl3
        replace hcap := Lib.hid hcap
        clear hX hXl
        go_upto_region 10 with (fail)
        rw [show Op.load 23 (Operand.tmp 85) = id (Op.load 23 (Operand.tmp 85)) from rfl]
        have hyk : Y.length + (K.length - sh) ≤ 100000003000 := by omega
        go_region_held3 (fun _ => True) (exact trivial) ((first
          | (have _t := h6; refine step_append_ows rfl _ _ 23 9 rfl (bw + 1) 5 Try.underlying23 Try.underlying9 infoByte rfl _ (Y.length + (K.length - sh)) _ rfl hown6.out s rfl (by unfold maxLen; omega) (by omega) h6.out.ld.lt ?_; intro v7 w7 hown7 hgr7 hcase7; obtain ⟨A7, c7, rfl, -⟩ := hown7.shape; have h7 := Lib.hid (h6.out.growB (X := bI s) (Below.refl _ _) (by rw [List.length_append, List.length_drop, bI_len, vb, List.map_append]; rw [bI_cells] at hown7; exact hown7) hgr7 hcase7); have i3 : w7.cell? ⟨bw, 3, none⟩ = some (.slice Ab Y.length cb) := h7.out.ld.cell 3; have f3 := h7.out.ld.frozen 3; have hl7 := h7.out.ld.lt; clear hown7 hgr7 hcase7)
          | (refine step_append_ow rfl _ _ 23 rfl (bw + 1) 5 Try.underlying23 infoByte rfl (by decide) _ Y.length _ rfl hk.out.b.drew _ (K.length - sh) _ (vb (K.drop sh)) rfl (by rw [vb, List.map_drop]; exact rd_drop hr1.drew hcap.out hsh) (vb_one _) (by unfold maxLen; omega) (by omega) hbr ?_; intro v6 w6 hown6 hgr6 hcase6; obtain ⟨A6, c6, rfl, -⟩ := hown6.shape; have h6 := Lib.hid (hk.out.growB (X := K.drop sh) (Below.refl _ _).drew (by rw [List.length_drop]; exact hown6) hgr6 hcase6); replace hown6 := Lib.hid hown6; clear hgr6 hcase6)))
        all_goals
          obtain ⟨Av, hAv⟩ : ∃ Av, (if c1 = sh then A1 else Option.map (fun x => x.add sh) A1) = Av := ⟨_, rfl⟩
          rw [hAv]
          clear hAv
          go_upto_region 11 with (fail)
          have h8 := Lib.hid (h7.out.set 3 (.slice A7 (Y.length + (K.length - sh) + s.size) c7))
          obtain ⟨w8, hw8⟩ : ∃ w8, w7.setCell ⟨bw, 3, none⟩ (.slice A7 (Y.length + (K.length - sh) + s.size) c7) = w8 := ⟨_, rfl⟩
          rw [hw8] at h8 ⊢
          clear hw8 i3 f3 hl7 h7 h6 hown6 k3 k3'
          have i2 : w8.cell? ⟨bw, 2, none⟩ = some (.slice A2 L.length c2) := h8.out.ld.cell 2
          have f2 := h8.out.ld.frozen 2
          have hl8 := h8.out.ld.lt
          go_upto_region 12 with (fail)
          have h9 := Lib.hid (h8.out.set 2 (.slice A1 K.length c1))
          obtain ⟨w9, hw9⟩ : ∃ w9, w8.setCell ⟨bw, 2, none⟩ (.slice A1 K.length c1) = w9 := ⟨_, rfl⟩
          rw [hw9] at h9 ⊢
          clear hw9 i2 f2 hl8 h8
          have i1 : w9.cell? ⟨bw, 1, none⟩ = some (.int .i64 n) := h9.out.ld.cell 1
          have f1 := h9.out.ld.frozen 1
          have hl9 := h9.out.ld.lt
          go_wp2_with fail
          go_end0
          have h10 := h9.out.set 1 (.int .i64 (n + 1))
          refine ⟨rfl, .slice A7 (Y.length + (K.length - sh) + s.size) c7, w2, ?_⟩
          rw [hse.out, hZ.out]
          have he : B ++ entB sh K s = (Y ++ K.drop sh) ++ bI s := by rw [← hY.out, hXe.out]; simp [entB]
          rw [he]
          exact ⟨h10.ld, h10.k, h10.b, h10.w, h10.k, h10.kb, h10.kw, h10.kb, h10.kw, h10.bw', h10.below⟩
end Go.Proofs.Ytkohoondgegmfaa
