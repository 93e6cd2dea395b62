/- Contracts of the document's limiter (sedimentref20): without; a drop; an ask. -/
import Derived.Test.YtefeompdhalgcaaProg
import Derived.RangeFuncNested
import Derived.RangeFuncBound
import Derived.RangeFuncCalls
import Derived.RangeFuncLeaves
import Derived.Shelf.Abstract
import Derived.Shelf.RegionOpen
import Derived.WalkKit
import Derived.OwnWalkIn
import Derived.TacticsInMore
import Derived.LoopNIn
import Derived.LoopIn
import Derived.Lib.Hide
import Derived.Outline
import Derived.RegionTactic
import Derived.BigRegion
import Derived.WalkLawsBesides
import Derived.WalkSpells
import Derived.Deep.QuietTactic
import Derived.BigQuiet
import Derived.Deep.RegionHeld3
import Derived.Lib.Bytealg
import Derived.Lib.ConvBytes
import Derived.Laws.BytesArg
import Derived.Test.YtefeompdhalgcaaSed
import Derived.Test.YtefeompdhalgcaaOwn
import Derived.Deep.DeepCutAuto
import Derived.Deep.CutBlock
import Derived.StillTailTactics
import Derived.WalkSmall
import Derived.Test.YtefeompdhalgcaaArg
import Derived.Test.YtefeompdhalgcaaStallR
namespace Go.Proofs.Ytefeompdhalgcaa
open Go.RowKit Go.Sed
set_option maxHeartbeats 1000000
theorem fl_at {w : World} {b o : Nat} {l : List A3} (h : Rd w 3 (some ⟨b, o, none⟩) l.length (fl l)) {k : Nat} {a : A3} (hk : l[k]? = some a) :
    w.cell? ⟨b, o + k * 3, none⟩ = some (.int .i64 a.1) ∧ w.cell? ⟨b, o + k * 3 + 1, none⟩ = some (.int .u64 a.2.1) ∧ w.cell? ⟨b, o + k * 3 + 2, none⟩ = some (.bool a.2.2) :=
  ⟨Rd.elem (f := fun a : A3 => [.int .i64 a.1, .int .u64 a.2.1, .bool a.2.2]) (k := 3) (fun _ => rfl) h hk (j := 0) rfl, Rd.elem (f := fun a : A3 => [.int .i64 a.1, .int .u64 a.2.1, .bool a.2.2]) (k := 3) (fun _ => rfl) h hk (j := 1) rfl, Rd.elem (f := fun a : A3 => [.int .i64 a.1, .int .u64 a.2.1, .bool a.2.2]) (k := 3) (fun _ => rfl) h hk (j := 2) rfl⟩
def fw (who : Int) (l : List A3) : List A3 := l.filter fun a => a.1 != who
theorem fw_take {who : Int} {l : List A3} {k : Nat} {a : A3} (h : l[k]? = some a) : fw who (l.take (k + 1)) = if a.1 = who then fw who (l.take k) else fw who (l.take k) ++ [a] := by
  obtain ⟨hl, rfl⟩ := List.getElem?_eq_some_iff.1 h
  rw [List.take_succ_eq_append_getElem hl]
  unfold fw
  rw [List.filter_append]
  split
  · rename_i e; simp [e]
  · rename_i e; simp [e]
theorem fw_len (who : Int) (l : List A3) (k : Nat) : (fw who (l.take k)).length ≤ k := by
  unfold fw
  exact Nat.le_trans (List.length_filter_le _ _) (List.length_take_le _ _)
theorem infoAskd : (Try.prog.info? 82).map (fun i => (i.zero, i.size, i.bytes)) = some (some (.agg #[.int .i64 0, .int .u64 0, .bool false]), 3, 24) := by kernel_rfl
set_option maxRecDepth 100000 in
theorem without_any (b : Nat) (v : Value) (l : List A3) (who : Int) (w : World) (h : SL w b v l) (hn : l.length ≤ 4096) :
    Calls Try.prog 35 #[v, .int .i64 who] w fun e w' => ∃ v', e = .returned v' ∧ OW w' w.heap.size 3 v' (fw who l).length (fl (fw who l)) ∧ Below w.heap.size w w' := by
  obtain ⟨A, c, rfl, hr, hc, -, -⟩ := h
  have hnz : (l.length : Int) ≤ 4096 := by omega
  replace hr := Lib.hid hr
  go_enter Try.func35, Try.ntmps35
  go_wp2_with fail
  go_loopw [5, 6] (fun vo vi wr => ∃ k : Nat, vi = .int .i64 (k : Nat) ∧ k ≤ l.length ∧ OW wr w.heap.size 3 vo (fw who (l.take k)).length (fl (fw who (l.take k))) ∧ Below w.heap.size w wr) (fun _ vi _ => l.length - (intOf vi).toNat)
  case atStart => exact ⟨0, rfl, Nat.zero_le _, OW.nil _ _ _, Below.refl _ _⟩
  case round =>
    obtain ⟨k, rfl, hk, ho, hB⟩ := hrel
    obtain ⟨Ao, co, rfl, -⟩ := ho.shape
    by_cases hlt : k < l.length
    · obtain ⟨⟨a1, a2, a3⟩, hak⟩ : ∃ a, l[k]? = some a := ⟨l[k], List.getElem?_eq_getElem hlt⟩
      obtain ⟨p, o, rfl, -⟩ := hr.out.2 (by omega)
      obtain ⟨q0, q1, q2⟩ := fl_at (hr.out.keep hB) hak
      have hft := fw_take (who := who) hak
      have hfl := fw_len who l k
      have hkz : (0 : Int) ≤ (k : Int) := by omega
      by_cases he : a1 = who
      · subst he
        rw [if_pos rfl] at hft
        have hbq : (a1 == a1) = true := beq_self_eq_true _
        have hbn : (a1 != a1) = false := by simp
        replace hft := Lib.hid hft
        replace ho := Lib.hid ho
        replace hak := Lib.hid hak
        go_wp2_with fail
        go_roundw
        case rel => exact ⟨k + 1, by go_num, by omega, by rw [hft.out]; exact ho.out, hB⟩
        case measure => simp [intOf]; omega
      · simp only at hft
        rw [if_neg he] at hft
        have hbn : (a1 != who) = true := by simpa using he
        replace hft := Lib.hid hft
        replace ho := Lib.hid ho
        replace hak := Lib.hid hak
        replace hfl := Lib.hid hfl
        go_wp2_with (at_builtin; refine wpList_append_ow rfl _ _ 49 rfl w.heap.size 82 Try.underlying49 infoAskd rfl (by decide) _ _ _ rfl (ho.out.alloc _) _ 1 1 (fl [(a1, a2, a3)]) rfl (rd_new rfl (fl [(a1, a2, a3)]) _ _ _ rfl) (fl_one _) (by have := hfl.out; unfold maxLen; omega) (by have := hfl.out; omega) (by have := hB.size; simp; omega) ?_; intro v' w8 hown hgr _; have hB8 : Below w.heap.size w w8 := below_grow (hB.alloc hB.size _) (by have := hB.size; simp; omega) (ho.out.alloc _) (Nat.le_refl _) hgr; rw [← fl_append] at hown; obtain ⟨A9, c9, rfl, -⟩ := hown.shape; replace hown := Lib.hid hown; clear hgr)
        go_roundw
        case rel => exact ⟨k + 1, by go_num, by omega, by rw [hft.out, List.length_append]; exact hown.out, hB8⟩
        case measure => simp [intOf]; omega
    · obtain rfl : k = l.length := by omega
      rw [List.take_length] at ho ⊢
      replace ho := Lib.hid ho
      go_wp2_with fail
      go_ret
      exact ⟨_, rfl, ho.out, hB⟩
set_option maxRecDepth 100000 in
theorem ddrop_any (b : Nat) (r bu le : Int) (vU vO : Value) (U O : List A3) (row who : Int) (w : World) (h : LD w b r bu le vU U vO O row) (hn : U.length + O.length ≤ 4096) :
    Calls Try.prog 18 #[.pointer (some ⟨b, 0, none⟩), .int .i64 who] w fun e w' => e = .returned (.int .i64 ((U.length + O.length : Nat) - (fw who U).length - (fw who O).length : Int)) ∧
      ∃ vU' vO', LD w' b r bu le vU' (fw who U) vO' (fw who O) row ∧ Fr (fun k => k = b) w w' ∧ ∀ k, foot b vU' vO' k → k = b ∨ w.heap.size ≤ k := by
  have hU := h.u
  have hO := h.o
  obtain ⟨A1, c1, rfl, -⟩ := h.u
  obtain ⟨A2, c2, rfl, -⟩ := h.o
  have hbl : b < w.heap.size := h.ld.lt
  have k3 : w.cell? ⟨b, 3, none⟩ = some (.slice A1 U.length c1) := h.ld.cell 3
  have k4 : w.cell? ⟨b, 4, none⟩ = some (.slice A2 O.length c2) := h.ld.cell 4
  have hw : wrap64 ((U.length : Int) + O.length) = (U.length : Int) + O.length := by unfold wrap64; omega
  have hn1 : U.length ≤ 4096 := by omega
  have hn2 : O.length ≤ 4096 := by omega
  replace h := Lib.hid h
  replace hU := Lib.hid hU
  replace hO := Lib.hid hO
  go_enter Try.func18, Try.ntmps18
  go_wp2_with fail
  go_quiet (fail)
  have h1 := Lib.hid (h.out.keep (below_drewN (Below.refl _ _) nq))
  obtain ⟨w1, hw1⟩ : ∃ w1, w.drewN nq = w1 := ⟨_, rfl⟩
  have hB1 : Below w.heap.size w w1 := by rw [← hw1]; exact below_drewN (Below.refl _ _) nq
  rw [hw1] at h1 ⊢
  clear hw1 k3 k4
  have k3 : w1.cell? ⟨b, 3, none⟩ = some (.slice A1 U.length c1) := h1.out.ld.cell 3
  have k4 : w1.cell? ⟨b, 4, none⟩ = some (.slice A2 O.length c2) := h1.out.ld.cell 4
  go_wp2_with fail
  rw [show Op.load 49 (Operand.tmp 21) = id (Op.load 49 (Operand.tmp 21)) from rfl, show Op.load 49 (Operand.tmp 27) = id (Op.load 49 (Operand.tmp 27)) from rfl]
  have h2 := Lib.hid (h1.out.keep (Below.refl _ _).drew)
  go_region_held3 (fun _ => True) (trivial) ((first
    | (go_at_call 35; ((with_reducible refine (without_any b (.slice A1 U.length c1) U who _ h2.out.u hn1).mono ?_); rintro e w3 ⟨v3, rfl, ho3, hB3⟩; obtain ⟨A3, c3, rfl, -⟩ := ho3.shape; have h3 := Lib.hid (h2.out.keep hB3); have j3 : w3.cell? ⟨b, 3, none⟩ = some (.slice A1 U.length c1) := h3.out.ld.cell 3; have j4 : w3.cell? ⟨b, 4, none⟩ = some (.slice A2 O.length c2) := h3.out.ld.cell 4; replace hB3 := Lib.hid hB3; replace ho3 := Lib.hid ho3))
    | (go_at_call 35; ((with_reducible refine (without_any b (.slice A2 O.length c2) O who _ h3.out.o hn2).mono ?_); rintro e w5 ⟨v5, rfl, ho5, hB5⟩; obtain ⟨A5, c5, rfl, -⟩ := ho5.shape; have h5 := Lib.hid (h3.out.keep hB5); have i3 : w5.cell? ⟨b, 3, none⟩ = some (.slice A1 U.length c1) := h5.out.ld.cell 3; have i4 : w5.cell? ⟨b, 4, none⟩ = some (.slice A2 O.length c2) := h5.out.ld.cell 4; have f3 := h5.out.ld.frozen 3; have f4 := h5.out.ld.frozen 4; replace hB5 := Lib.hid hB5; replace ho5 := Lib.hid ho5))))
  all_goals
    have hf1 : (fw who U).length ≤ U.length := List.length_filter_le _ _
    have hf2 : (fw who O).length ≤ O.length := List.length_filter_le _ _
    have hb6 := Bl.setSame (Bl.setSame h5.out.ld 3 (.slice A3 (fw who U).length c3)) 4 (.slice A5 (fw who O).length c5)
    have hF6 : Fr (fun k => k = b) w ((w5.setCell ⟨b, 3, none⟩ (.slice A3 (fw who U).length c3)).setCell ⟨b, 4, none⟩ (.slice A5 (fw who O).length c5)) :=
      ((((Fr.of_below (F := fun k => k = b) hB1).drew.thenB hB3.out).thenB hB5.out).set _ (fun _ => rfl)).set _ (fun _ => rfl)
    have hs1 : w.heap.size ≤ w1.drew.heap.size := hB1.size
    have hs2 := hB3.out.size
    have ho36 : OW ((w5.setCell ⟨b, 3, none⟩ (.slice A3 (fw who U).length c3)).setCell ⟨b, 4, none⟩ (.slice A5 (fw who O).length c5)) w.heap.size 3 (.slice A3 (fw who U).length c3) (fw who U).length (fl (fw who U)) :=
      (((ho3.out.keep hB5.out).more hs1).set _ (fun e => by have := (ho3.out.lt _ e).1; omega)).set _ (fun e => by have := (ho3.out.lt _ e).1; omega)
    have ho56 : OW ((w5.setCell ⟨b, 3, none⟩ (.slice A3 (fw who U).length c3)).setCell ⟨b, 4, none⟩ (.slice A5 (fw who O).length c5)) w.heap.size 3 (.slice A5 (fw who O).length c5) (fw who O).length (fl (fw who O)) :=
      ((ho5.out.more (by omega)).set _ (fun e => by have := (ho5.out.lt _ e).1; omega)).set _ (fun e => by have := (ho5.out.lt _ e).1; omega)
    obtain ⟨w6, hw6⟩ : ∃ w6, (w5.setCell ⟨b, 3, none⟩ (.slice A3 (fw who U).length c3)).setCell ⟨b, 4, none⟩ (.slice A5 (fw who O).length c5) = w6 := ⟨_, rfl⟩
    rw [hw6] at hb6 hF6 ho36 ho56 ⊢
    clear hw6 i3 i4 j3 j4 f3 f4 h5 h3 h2 h1 k3 k4 ho3 ho5 hB3 hB5 hs1 hs2 hB1
    have k3 : w6.cell? ⟨b, 3, none⟩ = some (.slice A3 (fw who U).length c3) := hb6.cell 3
    have k4 : w6.cell? ⟨b, 4, none⟩ = some (.slice A5 (fw who O).length c5) := hb6.cell 4
    have hL : LD w6 b r bu le (.slice A3 (fw who U).length c3) (fw who U) (.slice A5 (fw who O).length c5) (fw who O) row := by
      refine ⟨hb6, ?_, ?_⟩
      · obtain ⟨A, c, e, q1, q2, q3, q4⟩ := ho36.shape
        exact ⟨A, c, e, q1, q2, q3, fun a ha => ⟨(q4 a ha).2, by have := (q4 a ha).1; omega⟩⟩
      · obtain ⟨A, c, e, q1, q2, q3, q4⟩ := ho56.shape
        exact ⟨A, c, e, q1, q2, q3, fun a ha => ⟨(q4 a ha).2, by have := (q4 a ha).1; omega⟩⟩
    have hft : ∀ k, foot b (.slice A3 (fw who U).length c3) (.slice A5 (fw who O).length c5) k → k = b ∨ w.heap.size ≤ k := by
      rintro k (e | e | e)
      · exact .inl e
      · exact .inr (ho36.lt _ e).1
      · exact .inr (ho56.lt _ e).1
    have e1 : wrap64 ((U.length : Int) + O.length - (fw who U).length) = (U.length : Int) + O.length - (fw who U).length := by unfold wrap64; omega
    have e2 : wrap64 ((U.length : Int) + O.length - (fw who U).length - (fw who O).length) = (U.length : Int) + O.length - (fw who U).length - (fw who O).length := by unfold wrap64; omega
    replace hL := Lib.hid hL
    replace hft := Lib.hid hft
    clear ho36 ho56 hb6
    go_wp2_with fail
    go_quiet (fail)
    go_wp2_with fail
    go_ret
    exact ⟨by simp, _, _, hL.out.keep (below_drewN (Below.refl _ _) _), hF6.thenB (below_drewN (Below.refl _ _) _), hft.out⟩
end Go.Proofs.Ytefeompdhalgcaa
