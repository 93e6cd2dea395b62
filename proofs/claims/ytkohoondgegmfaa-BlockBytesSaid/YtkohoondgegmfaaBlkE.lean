/- The document's words of a block: what two keys have in common, a value, an entry. -/
import Derived.RangeFuncNested
import Derived.RangeFuncBound
import Derived.RangeFuncCalls
import Derived.RangeFuncLeaves
import Derived.Shelf.Abstract
import Derived.Shelf.RegionOpen
import Derived.WalkKit
import Derived.OwnWalkIn
import Derived.TacticsInMore
import Derived.LoopNIn
import Derived.LoopIn
import Derived.Lib.Hide
import Derived.Outline
import Derived.RegionTactic
import Derived.BigRegion
import Derived.WalkLawsBesides
import Derived.WalkSpells
import Derived.Deep.QuietTactic
import Derived.BigQuiet
import Derived.Deep.RegionHeld3
import Derived.Deep.DeepCutAuto
import Derived.Deep.CutBlock
import Derived.StillTailTactics
import Derived.WalkSmall
import Derived.Test.YtkohoondgegmfaaBlkD
namespace Go.Proofs.Ytkohoondgegmfaa
open Go.RowKit Go.Sed
set_option maxHeartbeats 1000000
set_option maxRecDepth 100000
theorem rvalue_any (s : ByteArray) (w : World) (hs : s.size ≤ maxLen) :
    Calls Try.prog 31 #[.string s] w fun e w' => e = .returned (.int .i64 (if 16384 < s.size then 2 else 0)) ∧ w = w' := by
  unfold maxLen at hs
  by_cases h : 16384 < s.size
  · rw [if_pos h]
    go_enter Try.func31, Try.ntmps31
    go_wp2_with fail
    go_ret
    exact ⟨rfl, rfl⟩
  · rw [if_neg h]
    go_enter Try.func31, Try.ntmps31
    go_wp2_with fail
    go_ret
    exact ⟨rfl, rfl⟩
theorem rcommon_any (A1 A2 : Option Addr) (c1 c2 : Nat) (L K : List Int) (w : World) (hr1 : Rd w 1 A1 L.length (vb L)) (hr2 : Rd w 1 A2 K.length (vb K)) (hL : L.length ≤ 2000) (hK : K.length ≤ 2000) :
    Calls Try.prog 58 #[.slice A1 L.length c1, .slice A2 K.length c2] w fun e w' => e = .returned (.int .i64 (lcp L K)) ∧ Below w.heap.size w w' := by
  have hle := lcp_le L K
  go_enter Try.func58, Try.ntmps58
  go_wp2_with fail
  go_loopw [5] (fun i wr => ∃ k : Nat, k ≤ lcp L K ∧ i = .int .i64 k ∧ Below w.heap.size w wr) (fun i _ => L.length - (intOf i).toNat)
  case atStart => exact ⟨0, Nat.zero_le _, rfl, Below.refl _ _⟩
  case round =>
    obtain ⟨k, hk, rfl, hB1⟩ := hrel
    by_cases h1 : k < L.length
    · by_cases h2 : k < K.length
      · obtain ⟨g1, o1, u1, rfl, hu1, r1⟩ := (hr1.keep hB1).at1 h1
        obtain ⟨g2, o2, u2, rfl, hu2, r2⟩ := (hr2.keep hB1).at1 h2
        obtain ⟨x, hx, rfl⟩ : ∃ x, L[k]? = some x ∧ u1 = .int .u8 x := by
          rw [vb, List.getElem?_map, List.getElem?_eq_getElem h1] at hu1
          exact ⟨_, List.getElem?_eq_getElem h1, (Option.some.inj hu1).symm⟩
        obtain ⟨y, hy, rfl⟩ : ∃ y, K[k]? = some y ∧ u2 = .int .u8 y := by
          rw [vb, List.getElem?_map, List.getElem?_eq_getElem h2] at hu2
          exact ⟨_, List.getElem?_eq_getElem h2, (Option.some.inj hu2).symm⟩
        have hd1 : decide ((k : Int) < L.length) = true := decide_eq_true (by omega)
        have hd2 : decide ((k : Int) < K.length) = true := decide_eq_true (by omega)
        by_cases hxy : x = y
        · subst hxy
          go_wp2_with fail
          go_quiet (fail)
          go_wp2_with fail
          go_roundw
          case rel => exact ⟨k + 1, lcp_same L K k x x hk hx hy rfl, by go_num, below_drewN hB1 _⟩
          case measure => simp only [intOf]; omega
        · have hl : lcp L K = k := lcp_differ L K k x y hk hx hy hxy
          have hxy1 : (x == y) = false := beq_eq_false_iff_ne.2 hxy
          go_wp2_with fail
          go_quiet (fail)
          go_wp2_with fail
          go_ret
          exact ⟨by rw [hl]; rfl, below_drewN hB1 _⟩
      · have hl : lcp L K = k := by omega
        have hd1 : decide ((k : Int) < L.length) = true := decide_eq_true (by omega)
        have hd2 : decide ((k : Int) < K.length) = false := decide_eq_false (by omega)
        go_wp2_with fail
        go_quiet (fail)
        go_wp2_with fail
        go_ret
        exact ⟨by rw [hl]; rfl, below_drewN hB1 _⟩
    · have hl : lcp L K = k := by omega
      have hd1 : decide ((k : Int) < L.length) = false := decide_eq_false (by omega)
      go_wp2_with fail
      go_quiet (fail)
      go_wp2_with fail
      go_ret
      exact ⟨by rw [hl]; rfl, below_drewN hB1 _⟩
/-- a row of the call's own, grown: what it is, and that nothing else changed. -/
def Gw (w w' : World) (base : Nat) (v v' : Value) (X : List Int) : Prop :=
  OW w' base 1 v' X.length (vb X) ∧ Fr (fun k => v.ownBlock = some k) w w' ∧ (v'.ownBlock = v.ownBlock ∨ ∃ k, v'.ownBlock = some k ∧ w.heap.size ≤ k)
theorem Gw.start {w w1 : World} {base : Nat} {v : Value} {X : List Int} (h : OW w base 1 v X.length (vb X)) (hB : Below w.heap.size w w1) : Gw w w1 base v v X := ⟨h.keep hB, Fr.of_below hB, .inl rfl⟩
theorem Gw.below {w w1 w2 : World} {base : Nat} {v v1 : Value} {X : List Int} (h : Gw w w1 base v v1 X) (hB : Below w1.heap.size w1 w2) : Gw w w2 base v v1 X := ⟨h.1.keep hB, h.2.1.thenB hB, h.2.2⟩
theorem Gw.grow {w w1 w2 : World} {base : Nat} {v v1 v2 : Value} {X Z : List Int} (h : Gw w w1 base v v1 X) (ho : OW w2 base 1 v2 (X.length + Z.length) (vb X ++ vb Z)) (hg : w1.grownBy w2 v1.ownBlock) (hc : v2.ownBlock = v1.ownBlock ∨ v2.ownBlock = some w1.heap.size) : Gw w w2 base v v2 (X ++ Z) := by
  refine ⟨by rw [List.length_append, vb, List.map_append]; exact ho, h.2.1.grown hg (fun k e hk => ?_), ?_⟩
  · rcases h.2.2 with h2 | ⟨j, h2, h3⟩
    · rw [← h2]; exact e
    · rw [h2] at e; injection e with e; omega
  · rcases hc with hc | hc
    · rw [hc]; exact h.2.2
    · exact .inr ⟨_, hc, h.2.1.size⟩
theorem rentry_any (base sh : Nat) (v kv : Value) (B K : List Int) (s : ByteArray) (w : World) (hb : base ≤ w.heap.size) (hv : OW w base 1 v B.length (vb B)) (hk : OW w base 1 kv K.length (vb K)) (hd : ∀ k, kv.ownBlock = some k → v.ownBlock ≠ some k) (hsh : sh ≤ K.length) (hB : B.length ≤ 100000000000) (hK : K.length ≤ 2000) (hs : s.size ≤ 20000) :
    Calls Try.prog 59 #[v, kv, .string s, .int .i64 sh] w fun e w' => ∃ v', e = .returned v' ∧ Gw w w' base v v' (B ++ entB sh K s) := by
  have hg := Lib.hid (Gw.start hv (Below.refl _ _))
  obtain ⟨A1, c1, rfl, -⟩ := hk.shape
  obtain ⟨A2, c2, rfl, -⟩ := hv.shape
  have hsub : (K.length : Int) - sh = ((K.length - sh : Nat) : Int) := by omega
  go_enter Try.func59, Try.ntmps59
  have hx1 : sh < 18446744073709551616 := Nat.lt_of_le_of_lt (Nat.le_trans hsh hK) (by decide)
  have hx2 : K.length - sh < 18446744073709551616 := Nat.lt_of_le_of_lt (Nat.le_trans (Nat.sub_le _ _) hK) (by decide)
  have hx3 : s.size < 18446744073709551616 := Nat.lt_of_le_of_lt hs (by decide)
  have hl1 := varL_10 hx1
  have hl2 := varL_10 hx2
  have hl3 := varL_10 hx3
  replace hx1 := Lib.hid hx1
  replace hx2 := Lib.hid hx2
  replace hx3 := Lib.hid hx3
  go_upto_region 2 with (first
    | (go_at_call 78; refine (rvarint_any sh hx1.out _).mono ?_; rintro e wa1 ⟨va1, rfl, hva1, hBa1⟩; obtain ⟨Aa1, ca1, rfl, hra1, -⟩ := hva1.shape; have g1 := Lib.hid (hg.out.below hBa1))
    | (at_builtin; refine wpList_append_ow rfl _ _ 23 rfl base 5 Try.underlying23 infoByte rfl (by decide) _ B.length _ rfl g1.out.1 _ (varL sh).length _ (vb (varL sh)) rfl hra1 (vb_one _) (by (try simp only [List.length_append]); unfold maxLen; omega) (by (try simp only [List.length_append]); omega) (Nat.le_trans hb g1.out.2.1.size) ?_; intro vb1 wb1 hob1 hgb1 hcb1; have g2 := Lib.hid (g1.out.grow hob1 hgb1 hcb1); obtain ⟨Ab1, cb1, rfl, -⟩ := hob1.shape; clear hob1 hgb1 hcb1))
  obtain ⟨Y1, hY1⟩ : ∃ Y1, B ++ varL sh = Y1 := ⟨_, rfl⟩
  have hY1l : Y1.length ≤ 100000000010 := by rw [← hY1, List.length_append]; omega
  rw [hY1] at g2
  replace hY1 := Lib.hid hY1
  go_upto_region 3 with (first
    | (go_at_call 78; refine (rvarint_any (K.length - sh) hx2.out _).mono ?_; rintro e wa2 ⟨va2, rfl, hva2, hBa2⟩; obtain ⟨Aa2, ca2, rfl, hra2, -⟩ := hva2.shape; have g3 := Lib.hid (g2.out.below hBa2))
    | (at_builtin; refine wpList_append_ow rfl _ _ 23 rfl base 5 Try.underlying23 infoByte rfl (by decide) _ Y1.length _ rfl g3.out.1 _ (varL (K.length - sh)).length _ (vb (varL (K.length - sh))) rfl hra2 (vb_one _) (by (try simp only [List.length_append]); unfold maxLen; omega) (by (try simp only [List.length_append]); omega) (Nat.le_trans hb g3.out.2.1.size) ?_; intro vb2 wb2 hob2 hgb2 hcb2; have g4 := Lib.hid (g3.out.grow hob2 hgb2 hcb2); obtain ⟨Ab2, cb2, rfl, -⟩ := hob2.shape; clear hob2 hgb2 hcb2))
  obtain ⟨Y2, hY2⟩ : ∃ Y2, Y1 ++ varL (K.length - sh) = Y2 := ⟨_, rfl⟩
  have hY2l : Y2.length ≤ 100000000020 := by rw [← hY2, List.length_append]; omega
  rw [hY2] at g4
  replace hY2 := Lib.hid hY2
  go_upto_region 4 with (first
    | (go_at_call 78; refine (rvarint_any s.size hx3.out _).mono ?_; rintro e wa3 ⟨va3, rfl, hva3, hBa3⟩; obtain ⟨Aa3, ca3, rfl, hra3, -⟩ := hva3.shape; have g5 := Lib.hid (g4.out.below hBa3))
    | (at_builtin; refine wpList_append_ow rfl _ _ 23 rfl base 5 Try.underlying23 infoByte rfl (by decide) _ Y2.length _ rfl g5.out.1 _ (varL s.size).length _ (vb (varL s.size)) rfl hra3 (vb_one _) (by (try simp only [List.length_append]); unfold maxLen; omega) (by (try simp only [List.length_append]); omega) (Nat.le_trans hb g5.out.2.1.size) ?_; intro vb3 wb3 hob3 hgb3 hcb3; have g6 := Lib.hid (g5.out.grow hob3 hgb3 hcb3); obtain ⟨Ab3, cb3, rfl, -⟩ := hob3.shape; clear hob3 hgb3 hcb3))
  obtain ⟨Y3, hY3⟩ : ∃ Y3, Y2 ++ varL s.size = Y3 := ⟨_, rfl⟩
  have hY3l : Y3.length ≤ 100000000030 := by rw [← hY3, List.length_append]; omega
  have hY3e : Y2.length + (varL s.size).length = Y3.length := by rw [← hY3, List.length_append]
  rw [hY3] at g6
  rw [hY3e] at g6 ⊢
  replace hY3 := Lib.hid hY3
  obtain ⟨A1', c1', hsl, -, hcap, -⟩ := hk.shape
  injection hsl with hsl1 hsl2 hsl3
  subst hsl1 hsl3
  replace hcap := Lib.hid hcap
  have hkr := Lib.hid ((hk.fr g6.out.2.1 (fun k e e2 => hd k e e2)).rd)
  clear hY3e
  go_wp2_with (first
    | (have _t := g7; at_builtin; refine wpList_append_ows rfl _ _ 23 9 rfl base 5 Try.underlying23 Try.underlying9 infoByte rfl _ (Y3.length + (K.length - sh)) _ rfl ho7.out s rfl (by unfold maxLen; omega) (by omega) (Nat.le_trans hb g7.out.2.1.size) ?_; intro v8 w8 ho8 hg8 hc8; have g8 := Lib.hid (g7.out.grow (Z := bI s) (by rw [List.length_append, List.length_drop, bI_len, vb, List.map_append]; rw [bI_cells] at ho8; exact ho8) hg8 hc8); clear ho8 hg8 hc8)
    | (at_builtin; refine wpList_append_ow rfl _ _ 23 rfl base 5 Try.underlying23 infoByte rfl (by decide) _ Y3.length _ rfl g6.out.1 _ (K.length - sh) _ (vb (K.drop sh)) rfl (by rw [vb, List.map_drop]; exact rd_drop hkr.out hcap.out hsh) (vb_one _) (by unfold maxLen; omega) (by omega) (Nat.le_trans hb g6.out.2.1.size) ?_; intro v7 w7 ho7 hg7 hc7; have g7 := Lib.hid (g6.out.grow (Z := K.drop sh) (by rw [List.length_drop]; exact ho7) hg7 hc7); obtain ⟨A7, c7, rfl, -⟩ := ho7.shape; replace ho7 := Lib.hid ho7; clear hg7 hc7))
  all_goals
    go_ret
    refine ⟨_, rfl, ?_⟩
    have he : B ++ entB sh K s = Y3 ++ K.drop sh ++ bI s := by rw [← hY3.out, ← hY2.out, ← hY1.out]; simp [entB]
    rw [he]
    exact g8.out
end Go.Proofs.Ytkohoondgegmfaa
