/- The document's writer of a block. -/
import Derived.RangeFuncNested
import Derived.RangeFuncBound
import Derived.RangeFuncCalls
import Derived.RangeFuncLeaves
import Derived.Shelf.Abstract
import Derived.Shelf.RegionOpen
import Derived.WalkKit
import Derived.OwnWalkIn
import Derived.TacticsInMore
import Derived.LoopNIn
import Derived.LoopIn
import Derived.Lib.Hide
import Derived.Outline
import Derived.RegionTactic
import Derived.BigRegion
import Derived.WalkLawsBesides
import Derived.WalkSpells
import Derived.Deep.QuietTactic
import Derived.BigQuiet
import Derived.Deep.RegionHeld3
import Derived.Deep.DeepCutAuto
import Derived.Deep.CutBlock
import Derived.StillTailTactics
import Derived.WalkSmall
import Derived.Test.YtkohoondgegmfaaBlkF
namespace Go.Proofs.Ytkohoondgegmfaa
open Go.RowKit Go.Sed
set_option maxHeartbeats 1000000
set_option maxRecDepth 100000
/-- the document's rows: bytes, the last key, places; and one key. -/
structure RW (w0 W : World) (base : Nat) (vl vb' vw kv : Value) (L B WL K : List Int) : Prop where
  l : OW W base 1 vl L.length (vb L)
  b : OW W base 1 vb' B.length (vb B)
  w : OW W base 1 vw WL.length (WL.map (Value.int .i64))
  k : OW W base 1 kv K.length (vb K)
  lb : ∀ k, vl.ownBlock = some k → vb'.ownBlock ≠ some k
  lw : ∀ k, vl.ownBlock = some k → vw.ownBlock ≠ some k
  kb : ∀ k, kv.ownBlock = some k → vb'.ownBlock ≠ some k
  kw : ∀ k, kv.ownBlock = some k → vw.ownBlock ≠ some k
  bw' : ∀ k, vb'.ownBlock = some k → vw.ownBlock ≠ some k
  base0 : base ≤ W.heap.size
  below : Below base w0 W
theorem RW.keep {w0 W W' : World} {base : Nat} {vl vb' vw kv : Value} {L B WL K : List Int} (h : RW w0 W base vl vb' vw kv L B WL K) (hB : Below W.heap.size W W') : RW w0 W' base vl vb' vw kv L B WL K :=
  ⟨h.l.keep hB, h.b.keep hB, h.w.keep hB, h.k.keep hB, h.lb, h.lw, h.kb, h.kw, h.bw', Nat.le_trans h.base0 hB.size, h.below.trans (hB.mono h.base0)⟩
/-- a new key. -/
theorem RW.key {w0 W W' : World} {base : Nat} {vl vb' vw kv kv' : Value} {L B WL K K' : List Int} (h : RW w0 W base vl vb' vw kv L B WL K) (hB : Below W.heap.size W W') (hk : OW W' W.heap.size 1 kv' K'.length (vb K')) : RW w0 W' base vl vb' vw kv' L B WL K' := by
  have h1 := h.keep hB
  have ne : ∀ {n : Nat} {v : Value} {xs : List Value}, OW W base 1 v n xs → ∀ k, kv'.ownBlock = some k → v.ownBlock ≠ some k := by
    intro n v xs ho k e e2
    have := (ho.lt k e2).2
    have := (hk.lt k e).1
    omega
  exact ⟨h1.l, h1.b, h1.w, hk.more h.base0, h1.lb, h1.lw, ne h.b, ne h.w, h1.bw', h1.base0, h1.below⟩
theorem RW.growW {w0 W W1 W3 : World} {base : Nat} {vl vb' vw kv v' : Value} {L B WL K : List Int} {x : Int} (h : RW w0 W base vl vb' vw kv L B WL K) (hB : Below W.heap.size W W1) (hown : OW W3 base 1 v' (WL.length + 1) (WL.map (Value.int .i64) ++ [Value.int .i64 x]))
    (hg : W1.grownBy W3 vw.ownBlock) (hc : v'.ownBlock = vw.ownBlock ∨ v'.ownBlock = some W1.heap.size) : RW w0 W3 base vl vb' v' kv L B (WL ++ [x]) K := by
  have h1 := h.keep hB
  obtain ⟨l1, l2⟩ := ow_other hB h.l h.w h.lw hg hc
  obtain ⟨k1, k2⟩ := ow_other hB h.k h.w h.kw hg hc
  obtain ⟨b1, b2⟩ := ow_other hB h.b h.w h.bw' hg hc
  exact ⟨l1, b1, by rw [List.length_append, List.map_append]; exact hown, k1, h.lb, l2, h.kb, k2, b2, Nat.le_trans h1.base0 hg.size, h1.below.grown hg h1.base0 (fun k e => (h1.w.lt k e).1)⟩
/-- bytes, by a call that grows them. -/
theorem RW.growB {w0 W W3 : World} {base : Nat} {vl vb' vw kv v' : Value} {L B B' WL K : List Int} (h : RW w0 W base vl vb' vw kv L B WL K) (hg : Gw W W3 base vb' v' B') : RW w0 W3 base vl v' vw kv L B' WL K := by
  have ne : ∀ {n : Nat} {v : Value} {xs : List Value}, OW W base 1 v n xs → (∀ k, v.ownBlock = some k → vb'.ownBlock ≠ some k) → OW W3 base 1 v n xs ∧ ∀ k, v.ownBlock = some k → v'.ownBlock ≠ some k := by
    intro n v xs ho hd
    refine ⟨ho.fr hg.2.1 (fun k e e2 => hd k e e2), fun k e e2 => ?_⟩
    rcases hg.2.2 with h2 | ⟨j, h2, h3⟩
    · rw [h2] at e2; exact hd k e e2
    · rw [h2] at e2; injection e2 with e2
      have := (ho.lt k e).2
      omega
  obtain ⟨l1, l2⟩ := ne h.l h.lb
  obtain ⟨k1, k2⟩ := ne h.k h.kb
  obtain ⟨w1, w2⟩ := ne h.w (fun k e e2 => h.bw' k e2 e)
  exact ⟨l1, hg.1, w1, k1, l2, h.lw, k2, h.kw, fun k e e2 => w2 k e2 e, Nat.le_trans h.base0 hg.2.1.size, h.below.trans (hg.2.1.below h.base0 (fun i hi e => by have := (h.b.lt i e).1; omega))⟩
theorem RW.last {w0 W : World} {base : Nat} {vl vb' vw kv : Value} {L B WL K : List Int} (h : RW w0 W base vl vb' vw kv L B WL K) : RW w0 W base kv vb' vw kv K B WL K :=
  ⟨h.k, h.b, h.w, h.k, h.kb, h.kw, h.kb, h.kw, h.bw', h.base0, h.below⟩
theorem RW.start (W : World) : RW W W W.heap.size (.slice none 0 0) (.slice none 0 0) (.slice none 0 0) (.slice none 0 0) [] [] [] [] :=
  have hn : ∀ k, (Value.slice none 0 0).ownBlock = some k → (Value.slice none 0 0).ownBlock ≠ some k := fun k e => by simp [Value.ownBlock] at e
  ⟨OW.nil _ _ _, OW.nil _ _ _, OW.nil _ _ _, OW.nil _ _ _, hn, hn, hn, hn, hn, Nat.le_refl _, Below.refl _ _⟩
theorem RW.newW {w0 W : World} {base : Nat} {vl vb' vw kv : Value} {L B WL K : List Int} (h : RW w0 W base vl vb' vw kv L B WL K) (T : TypeId) :
    RW w0 (W.alloc (.cells #[.int .i64 0] T)) base vl vb' (.slice (some ⟨W.heap.size, 0, none⟩) 1 1) kv L B [0] K := by
  have hne : ∀ {s n : Nat} {v : Value} {xs : List Value}, OW W base s v n xs → ∀ k, v.ownBlock = some k → (Value.slice (some ⟨W.heap.size, 0, none⟩) 1 1).ownBlock ≠ some k := by
    intro s n v xs ho k e e2
    have h1 := (ho.lt k e).2
    have h2 : some W.heap.size = some k := e2
    injection h2 with h2
    omega
  exact ⟨h.l.alloc _, h.b.alloc _, OW.ints (k := .i64) (T := T) (xs := [0]) h.base0 (Bl.new' rfl) (by unfold maxLen; simp), h.k.alloc _, h.lb, hne h.l, h.kb, hne h.k, hne h.b, by have := h.base0; simp; omega, h.below.alloc h.base0 _⟩
set_option maxRecDepth 100000 in
theorem rwritten_any (rs : Nat) (A : Option Addr) (c : Nat) (l : List E4) (w : World) (hrs : 1 ≤ rs) (hrs2 : rs < 1000000) (hn : l.length ≤ 65536) (hr : Rd w 4 A l.length (l.flatMap e4c)) (hcan : ∀ e ∈ l, e.can) :
    Calls Try.prog 33 #[.int .i64 rs, .slice A l.length c] w fun e w' => ∃ v, e = .returned v ∧ OW w' w.heap.size 1 v (blk rs l).length (vb (blk rs l)) ∧ Below w.heap.size w w' := by
  replace hcan := Lib.hid hcan
  have hst := Lib.hid (RW.start w)
  go_enter Try.func33, Try.ntmps33
  go_wp2_with fail
  go_loopw [5, 6, 7, 8] (fun b la pl i wr => ∃ (k : Nat) (L B W K : List Int) (kv : Value), k ≤ l.length ∧ i = .int .i64 k ∧ RW w wr w.heap.size la b pl kv L B W K ∧ WO k L B W ∧ wrt rs (l.drop k) k L B W = wrt rs l 0 [] [] []) (fun _ _ _ i _ => l.length - (intOf i).toNat)
  case atStart => exact ⟨0, [], [], [], [], _, Nat.zero_le _, rfl, hst.out, WO.start, rfl⟩
  case round =>
    obtain ⟨k, L, B, W, K, kv, hk, rfl, hw, ho, heq⟩ := hrel
    obtain ⟨A1, c1, rfl, hL1, -⟩ := hw.l.shape
    obtain ⟨A2, c2, rfl, -⟩ := hw.b.shape
    obtain ⟨A3, c3, rfl, -⟩ := hw.w.shape
    by_cases hlt : k < l.length
    · obtain ⟨e, he⟩ : ∃ e, l[k]? = some e := ⟨_, List.getElem?_eq_getElem hlt⟩
      have hec := hcan.out e (List.mem_of_getElem? he)
      obtain ⟨u, s, kk, v⟩ := e
      obtain ⟨g1, o1, hA⟩ : ∃ g o, A = some ⟨g, o, none⟩ := by
        obtain ⟨b, o, e, _⟩ := hr.2 (by omega)
        exact ⟨b, o, e⟩
      subst hA
      have q0 : wr.cell? ⟨g1, o1 + k * 4, none⟩ = some (.string u) := (hr.keep hw.below).elem e4c_len he (j := 0) rfl
      have q1 : wr.cell? ⟨g1, o1 + k * 4 + 1, none⟩ = some (.int .u64 s) := (hr.keep hw.below).elem e4c_len he (j := 1) rfl
      have q2 : wr.cell? ⟨g1, o1 + k * 4 + 2, none⟩ = some (.int .i64 kk) := (hr.keep hw.below).elem e4c_len he (j := 2) rfl
      have q3 : wr.cell? ⟨g1, o1 + k * 4 + 3, none⟩ = some (.string v) := (hr.keep hw.below).elem e4c_len he (j := 3) rfl
      go_upto_region 7 with (first
        | (go_at_call 57; refine (rencode_ok u s kk _ hec.1).mono ?_; rintro e w1 ⟨v1, rfl, hv1, hB1⟩))
      obtain ⟨E, hE⟩ : ∃ E, encL u s kk = E := ⟨_, rfl⟩
      have hEl : E.length ≤ 2000 := by rw [← hE]; exact E4.enc_le hec
      have hkv : OW w1 wr.heap.size 1 v1 E.length (vb E) := by
        have h1 : bcells u ++ List.map (Value.int .u8) (fixL (packK s kk) 8) = vb E := by rw [← hE, bI_cells]; simp [vb, encL]
        rw [h1, vb_len] at hv1
        exact hv1
      obtain ⟨A4, c4, rfl, -⟩ := hkv.shape
      have hw1 := Lib.hid (hw.key hB1 hkv)
      replace hE := Lib.hid hE
      replace hw := Lib.hid hw
      clear hv1 hkv hB1 q0 q1 q2 q3 hL1
      go_upto_region 8 with (first
        | (go_at_call 58; refine (rcommon_any A1 A4 c1 c4 L E _ hw1.out.l.rd hw1.out.k.rd ho.l hEl).mono ?_; rintro e w2 ⟨rfl, hB2⟩; have hw2 := Lib.hid (hw1.out.keep hB2); clear hB2))
      clear hw1
      have hmod : (k : Int) % rs = ((k % rs : Nat) : Int) := by first | exact (Int.natCast_emod k rs).symm | simp | rfl
      go_upto_if 34 with (fail)
      rw [hmod]
      obtain ⟨q, hq⟩ : ∃ q, k % rs = q := ⟨_, rfl⟩
      rw [hq]
      replace hq := Lib.hid hq
      clear hmod
      go_upto_if 34 with (fail)
      go_cut [7, 11] (fun pl x wx => x = .int .i64 (shr rs k L E) ∧ RW w wx w.heap.size (.slice A1 L.length c1) (.slice A2 B.length c2) pl (.slice A4 E.length c4) L B (whl rs k B W) E)
      case first =>
        have hWl := ho.w
        have hb0 := hw2.out.base0
        by_cases h0 : q = 0
        · subst h0
          have e1 : shr rs k L E = 0 := by unfold shr; rw [if_pos hq.out]
          have e2 : whl rs k B W = W ++ [(B.length : Int)] := by unfold whl; rw [if_pos hq.out]
          go_wp2_with (first
            | (at_builtin; refine wpList_append_ow rfl _ _ 61 rfl w.heap.size 3 Try.underlying61 infoInt rfl (by decide) _ W.length _ rfl (hw2.out.w.alloc _) _ 1 1 [.int .i64 B.length] rfl (rd_one rfl _ _) (by intro u hu; simp at hu; subst hu; rfl) (by unfold maxLen; omega) (by omega) (by simp; omega) ?_; intro v5 w5 hown5 hgr5 hcase5; have h5 := Lib.hid (hw2.out.growW ((Below.refl _ _).alloc (Nat.le_refl _) _) hown5 hgr5 hcase5); clear hown5 hgr5 hcase5))
          go_meet
          exact ⟨by rw [e1]; rfl, by rw [e2]; exact h5.out⟩
        · have e0 : ¬ k % rs = 0 := by rw [hq.out]; exact h0
          have e1 : shr rs k L E = lcp L E := by unfold shr; rw [if_neg e0]
          have e2 : whl rs k B W = W := by unfold whl; rw [if_neg e0]
          have hz : ((q : Int) == 0) = false := beq_eq_false_iff_ne.2 (by omega)
          go_wp2_with fail
          go_meet
          exact ⟨by rw [e1], by rw [e2]; exact hw2.out⟩
      case rest =>
        obtain ⟨rfl, hc⟩ := hcut
        have hbl := ho.b
        have q3 : wc.cell? ⟨g1, o1 + k * 4 + 3, none⟩ = some (.string v) := (hr.keep hc.below).elem e4c_len he (j := 3) rfl
        have hdr := wrt_drop rs l k (u, s, kk, v) L B W he
        have hos := ho.step (rs := rs) hec (by omega)
        rw [show E4.enc (u, s, kk, v) = E from hE.out] at hdr hos
        replace hdr := Lib.hid hdr
        replace hos := Lib.hid hos
        replace hc := Lib.hid hc
        go_wp2_with (first
          | (go_at_call 59; refine (rentry_any w.heap.size (shr rs k L E) _ _ B E v _ hc.out.base0 hc.out.b hc.out.k hc.out.kb (shr_le _ _ _ _) (by omega) hEl (by have := hec.2; unfold E4.val at this; simp only at this; omega)).mono ?_; rintro e w6 ⟨v6, rfl, hg6⟩; have h6 := Lib.hid (hc.out.growB hg6).last; clear hg6))
        go_roundw
        case rel => exact ⟨k + 1, _, _, _, _, _, by omega, by go_num, h6.out, hos.out, hdr.out.symm.trans heq⟩
        case measure => simp only [intOf]; omega
    · obtain rfl : k = l.length := by omega
      rw [List.drop_length] at heq
      have hbk : blk rs l = B ++ endB W := by unfold blk; rw [← heq]; rfl
      replace hbk := Lib.hid hbk
      have hbl := ho.b
      have hWl := ho.w
      have hWx := Lib.hid ho.wx
      replace hw := Lib.hid hw
      clear heq
      go_upto_if 52 with (fail)
      go_cut [7] (fun pl wx => RW w wx w.heap.size (.slice A1 L.length c1) (.slice A2 B.length c2) pl kv L B (W2of W) K)
      case first =>
        rcases W with _ | ⟨x0, W0⟩
        · go_wp2_with fail
          go_meet
          exact hw.out.newW 3
        · have hz : ((x0 :: W0).length : Int) ≠ 0 := by simp; omega
          go_wp2_with fail
          go_meet
          exact hw.out
      case rest =>
        obtain ⟨W2, hW2⟩ : ∃ W2, W2of W = W2 := ⟨_, rfl⟩
        rw [hW2] at hcut
        have hW2l : W2.length ≤ 70000 := by rw [← hW2]; unfold W2of; split <;> first | omega | simp
        have hW2r : ∀ x ∈ W2, 0 ≤ x ∧ x < 4294967296 := by
          intro x hx
          rw [← hW2] at hx
          unfold W2of at hx
          split at hx
          · simp at hx; omega
          · exact hWx.out x hx
        obtain ⟨A5, c5, rfl, -⟩ := hcut.w.shape
        replace hW2 := Lib.hid hW2
        replace hW2r := Lib.hid hW2r
        have hc := Lib.hid hcut
        clear hcut
        go_wp2_with fail
        go_loopw [5, 12] (fun b i wr => ∃ (j : Nat) (X : List Int), j ≤ W2.length ∧ i = .int .i64 j ∧ X.length = 4 * j ∧ X = (W2.take j).flatMap (fun x => fixL x 4) ∧ RW w wr w.heap.size (.slice A1 L.length c1) b (.slice A5 W2.length c5) kv L (B ++ X) W2 K) (fun _ i _ => W2.length - (intOf i).toNat)
        case atStart => exact ⟨0, [], by omega, rfl, rfl, rfl, by rw [List.append_nil]; exact hc.out⟩
        case round =>
          obtain ⟨j, X, hj, rfl, hXl, hX, hk2⟩ := hrel
          have hBl : (B ++ X).length ≤ 10000000000 := by rw [List.length_append]; omega
          obtain ⟨Y, hY⟩ : ∃ Y, B ++ X = Y := ⟨_, rfl⟩
          rw [hY] at hk2 hBl
          replace hY := Lib.hid hY
          obtain ⟨Ab, cb, rfl, -⟩ := hk2.b.shape
          replace hk2 := Lib.hid hk2
          by_cases hlt : j < W2.length
          · obtain ⟨g1, o1, u1, rfl, hu1, r1⟩ := hk2.out.w.rd.at1 hlt
            obtain ⟨x, hx, rfl⟩ : ∃ x, W2[j]? = some x ∧ u1 = .int .i64 x := by
              rw [List.getElem?_map, List.getElem?_eq_getElem (by omega)] at hu1
              exact ⟨_, List.getElem?_eq_getElem (by omega), (Option.some.inj hu1).symm⟩
            have hx2 := hW2r.out x (List.mem_of_getElem? hx)
            have hwx : IntKind.u64.wrap x = x := by simp [IntKind.wrap, IntKind.bits, IntKind.signed]; omega
            have htk := Lib.hid (show X ++ fixL x 4 = (W2.take (j + 1)).flatMap (fun x => fixL x 4) by rw [List.take_add_one, hx, List.flatMap_append, ← hX]; simp)
            go_wp2_with (first
              | (go_at_call 60; refine (rfixed_any x 4 (by decide) _).mono ?_; rintro e w6 ⟨v6, rfl, hF, hB6⟩; obtain ⟨A6, c6, rfl, hF6, -⟩ := hF.shape; have h6 := Lib.hid (hk2.out.keep hB6); clear hF hB6)
              | (at_builtin; refine wpList_append_ow rfl _ _ 23 rfl w.heap.size 5 Try.underlying23 infoByte rfl (by decide) _ Y.length _ rfl h6.out.b _ 4 _ (vb (fixL x 4)) rfl hF6 (vb_one _) (by unfold maxLen; omega) (by omega) h6.out.base0 ?_; intro v7 w7 ho7 hg7 hc7; have h7 := Lib.hid (h6.out.growB ((Gw.start h6.out.b (Below.refl _ _)).grow (by rw [fixL_len]; exact ho7) hg7 hc7)); clear ho7 hg7 hc7))
            go_roundw
            case rel => exact ⟨j + 1, X ++ fixL x 4, by omega, by go_num, by rw [List.length_append, fixL_len]; omega, htk.out, by rw [← List.append_assoc, hY.out]; exact h7.out⟩
            case measure => simp only [intOf]; omega
          · obtain rfl : j = W2.length := by omega
            have hwx : IntKind.u64.wrap (W2.length : Int) = W2.length := by simp [IntKind.wrap, IntKind.bits, IntKind.signed]; omega
            go_wp2_with (first
              | (go_at_call 60; refine (rfixed_any _ 4 (by decide) _).mono ?_; rintro e w6 ⟨v6, rfl, hF, hB6⟩; obtain ⟨A6, c6, rfl, hF6, -⟩ := hF.shape; have h6 := Lib.hid (hk2.out.keep hB6); clear hF hB6)
              | (at_builtin; refine wpList_append_ow rfl _ _ 23 rfl w.heap.size 5 Try.underlying23 infoByte rfl (by decide) _ Y.length _ rfl h6.out.b _ 4 _ (vb (fixL W2.length 4)) rfl hF6 (vb_one _) (by unfold maxLen; omega) (by omega) h6.out.base0 ?_; intro v7 w7 ho7 hg7 hc7; have h7 := Lib.hid (h6.out.growB ((Gw.start h6.out.b (Below.refl _ _)).grow (by rw [fixL_len]; exact ho7) hg7 hc7)); clear ho7 hg7 hc7))
            go_ret
            have he : blk rs l = Y ++ fixL W2.length 4 := by
              rw [hbk.out, ← hY.out, hX, List.take_of_length_le (by omega)]
              unfold endB
              rw [hW2.out]
              simp
            rw [he]
            exact ⟨_, rfl, h7.out.b, h7.out.below⟩
end Go.Proofs.Ytkohoondgegmfaa
