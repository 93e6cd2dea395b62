/- The document's cut, and the copy of all fragments, walked. Conditions: what each theorem names. -/
import Derived.RangeFuncNested
import Derived.RangeFuncBound
import Derived.RangeFuncCalls
import Derived.RangeFuncLeaves
import Derived.Shelf.Abstract
import Derived.Shelf.RegionOpen
import Derived.WalkKit
import Derived.OwnWalkIn
import Derived.TacticsInMore
import Derived.LoopNIn
import Derived.LoopIn
import Derived.Lib.Hide
import Derived.Outline
import Derived.RegionTactic
import Derived.BigRegion
import Derived.WalkLawsBesides
import Derived.WalkSpells
import Derived.Deep.QuietTactic
import Derived.BigQuiet
import Derived.Deep.RegionHeld3
import Derived.Deep.DeepCutAuto
import Derived.Deep.CutBlock
import Derived.StillTailTactics
import Derived.WalkSmall
import Derived.Test.YtmopjoeomjdikaaRgK
import Derived.Test.YtmopjoeomjdikaaRgH
import Derived.Test.YtmopjoeomjdikaaOel
import Derived.Lib.SliceRun
namespace Go.Proofs.Ytmopjoeomjdikaa
open Go.RowKit Go.Sed Go.Sort
set_option maxHeartbeats 2000000
set_option maxRecDepth 100000
theorem rcut_any (how : Int) (F : List Fg) (b e : ByteArray) (A : Option Addr) (c : Nat) (w : World) (h : FR w A F) (hl : F.length ≤ 1000000) (hsum : sumQ F ≤ 1048576) :
    Calls Try.prog 28 #[.int .i64 how, .slice A F.length c, .string b, .string e] w fun ee w' => ∃ v, ee = .returned v ∧ OW w' w.heap.size 3 v (tombsF (cutF how b e F)).length ((tombsF (cutF how b e F)).flatMap tc) ∧ Below w.heap.size w w' := by
  have hcm := Lib.hid (fun x y W => rcompare_any how x y W)
  have hsm := Lib.hid (fun i : Nat => Nat.le_trans (cutF_sum how b e (F.take i)) (Nat.le_trans (sumQ_up F i) hsum))
  obtain ⟨n, hn⟩ : ∃ n, F.length = n := ⟨_, rfl⟩
  rw [hn] at hl ⊢
  replace hn := Lib.hid hn
  replace h := Lib.hid h
  clear hsum
  go_enter Try.func28, Try.ntmps28
  go_wp2_with fail
  obtain ⟨w4, hw4⟩ : ∃ w4, w.alloc (.cells #[] 38) = w4 := ⟨_, rfl⟩
  rw [hw4]
  have hB4 : Below w.heap.size w w4 := by rw [← hw4]; exact (Below.refl _ _).alloc (Nat.le_refl _) _
  have b4 : Bl w4 w.heap.size (.cells #[] 38 (0, 0)) := by rw [← hw4]; exact Bl.new' rfl
  replace hw4 := Lib.hid hw4
  obtain ⟨z4, hz4⟩ : ∃ z, w.heap.size = z := ⟨_, rfl⟩
  rw [hz4] at b4 ⊢
  have ho0 : OW w4 z4 3 (.slice (some ⟨z4, 0, none⟩) 0 0) 0 [] := OW.empty (Nat.le_refl _) b4
  replace ho0 := Lib.hid ho0
  have hz4h := Lib.hid hz4
  clear hz4 b4
  replace hB4 := Lib.hid hB4
  go_loopw [9, 10] (fun v9 vi wr => ∃ i : Nat, i ≤ n ∧ vi = .int .i64 i ∧ OW wr z4 3 v9 (tombsF (cutF how b e (F.take i))).length ((tombsF (cutF how b e (F.take i))).flatMap tc) ∧ Below w.heap.size w wr) (fun _ vi _ => n - (intOf vi).toNat)
  case atStart => exact ⟨0, Nat.zero_le _, rfl, ho0.out, hB4.out⟩
  case round =>
    clear ho0 hB4
    obtain ⟨i, hi, rfl, ho, hB⟩ := hrel
    obtain ⟨wo, hwo⟩ : ∃ wo, wo = wr := ⟨_, rfl⟩
    subst hwo
    replace hB := Lib.hid hB
    by_cases hlt : i < n
    · obtain ⟨f, hfi⟩ : ∃ f, F[i]? = some f := ⟨_, List.getElem?_eq_getElem (by have := hn.out; omega)⟩
      obtain ⟨g, o, B, d, hA, hc⟩ := h.out.at hfi
      have hsn := cutF_snoc how b e F i f hfi
      have hs1 := hsm.out (i + 1)
      have htl := tombsF_len (cutF how b e (F.take (i + 1)))
      subst hA
      obtain ⟨e0, e1, -, -⟩ := hc wo hB.out
      have hcx := Lib.hid (hcm.out f.b b)
      have hcy := Lib.hid (hcm.out f.e e)
      obtain ⟨x, hx⟩ : ∃ x, cmpH how f.b b = x := ⟨_, rfl⟩
      obtain ⟨y, hy⟩ : ∃ x, cmpH how f.e e = x := ⟨_, rfl⟩
      rw [clip_eq how b e f hx hy] at hsn
      rw [hx] at hcx
      rw [hy] at hcy
      obtain ⟨Bk, hBk⟩ : ∃ z, (if x < 0 then b else f.b) = z := ⟨_, rfl⟩
      obtain ⟨Ek, hEk⟩ : ∃ z, (if 0 < y then e else f.e) = z := ⟨_, rfl⟩
      rw [hBk, hEk] at hsn
      have hcz := Lib.hid (hcm.out Bk Ek)
      simp only at hsn
      obtain ⟨z, hz⟩ : ∃ x, cmpH how Bk Ek = x := ⟨_, rfl⟩
      rw [hz] at hcz hsn
      have htn : tombsF (cutF how b e (F.take (i + 1))) = tombsF (cutF how b e (F.take i)) ++ (if z < 0 then f.q.map (fun n => (⟨Bk, Ek, n⟩ : Tb)) else []) := by
        rw [hsn, tombsF_app]
        split
        · rw [tombsF_one]
        · rfl
      rw [htn] at htl
      obtain ⟨T, hT⟩ : ∃ T, tombsF (cutF how b e (F.take i)) = T := ⟨_, rfl⟩
      rw [hT] at htn ho htl
      have hTl : T.length + (if z < 0 then f.q.length else 0) ≤ 1048576 := by
        rw [List.length_append] at htl
        have : (if z < 0 then f.q.map (fun n => (⟨Bk, Ek, n⟩ : Tb)) else []).length = if z < 0 then f.q.length else 0 := by split <;> simp
        omega
      have i0 : (0 : Int) ≤ (i : Int) := by omega
      have i1 : (i : Int) < (n : Int) := by omega
      replace htn := Lib.hid htn
      replace hx := Lib.hid hx
      replace hy := Lib.hid hy
      replace hz := Lib.hid hz
      replace ho := Lib.hid ho
      replace hBk := Lib.hid hBk
      replace hEk := Lib.hid hEk
      replace hc := Lib.hid hc
      clear hsn htl hs1 hT hfi
      have hcells : ∀ W, Below wo.heap.size wo W → W.cell? ⟨g, o + i * 3, none⟩ = some (.string f.b) ∧ W.cell? ⟨g, o + i * 3 + 1, none⟩ = some (.string f.e) := fun W hW => ⟨cell_keep hW e0, cell_keep hW e1⟩
      go_upto_region 5 with fail
      go_region_held3 (fun w' => w'.cell? ⟨g, o + i * 3, none⟩ = some (.string f.b) ∧ w'.cell? ⟨g, o + i * 3 + 1, none⟩ = some (.string f.e)) ((refine hcells _ ?_; first | exact Below.refl _ _ | exact (Below.refl _ _).drew | exact (Below.refl _ _).alloc (Nat.le_refl _) _ | exact ((Below.refl _ _).alloc (Nat.le_refl _) _).drew)) ((first | fail))
      obtain ⟨w1, hw1⟩ : ∃ w1, (wo.alloc (.cells #[.string f.b, .string f.e, .int .u64 0] 38)).drew = w1 := ⟨_, rfl⟩
      have hB1 : Below wo.heap.size wo w1 := by rw [← hw1]; exact ((Below.refl _ _).alloc (Nat.le_refl _) _).drew
      have b1 : Bl w1 wo.heap.size (.cells #[.string f.b, .string f.e, .int .u64 0] 38 (0, 0)) := by rw [← hw1]; exact (Bl.new' rfl).drew
      obtain ⟨tb, htb⟩ : ∃ tb, wo.heap.size = tb := ⟨_, rfl⟩
      have hne : ∀ q, u9.ownBlock = some q → q ≠ tb := fun q hq e => by have := (ho.out.lt q hq).2; omega
      have ho1 := Lib.hid (ho.out.keep hB1)
      have hBw := Lib.hid (below_then hB.out hB1)
      have htbw : w.heap.size ≤ tb := by rw [← htb]; exact hB.out.size
      rw [hw1]
      rw [htb] at b1 ⊢
      replace hw1 := Lib.hid hw1
      have q0 : w1.cell? ⟨tb, 0, none⟩ = some (.string f.b) := b1.cell 0
      have qz : w1.frozen? ⟨tb, 0, none⟩ = false := b1.frozen 0
      replace b1 := Lib.hid b1
      replace htb := Lib.hid htb
      replace hne := Lib.hid hne
      clear e0 e1 hcells hB1 ho
      go_upto_if 36 with (first
        | (go_at_call 11; (with_reducible refine (hcx.out _).mono ?_); rintro e1 w1 ⟨rfl, rfl⟩))
      go_cut [] (fun wx => Bl wx tb (.cells #[.string Bk, .string f.e, .int .u64 0] 38 (0, 0)) ∧ OW wx z4 3 u9 T.length (T.flatMap tc) ∧ Below w.heap.size w wx)
      case first =>
        by_cases hx0 : x < 0
        · have hBb : b = Bk := by rw [← hBk.out, if_pos hx0]
          have d0 : decide (x < 0) = true := decide_eq_true hx0
          replace hBb := Lib.hid hBb
          go_wp2_with fail
          go_meet
          exact ⟨by rw [← hBb.out]; simpa using b1.out.setSame 0 (.string b), ho1.out.set _ (fun e => hne.out tb e rfl), hBw.out.setCell htbw _⟩
        · have hBb : f.b = Bk := by rw [← hBk.out, if_neg hx0]
          have d0 : decide (x < 0) = false := decide_eq_false hx0
          replace hBb := Lib.hid hBb
          go_wp2_with fail
          go_meet
          exact ⟨by rw [← hBb.out]; exact b1.out, ho1.out, hBw.out⟩
      case rest =>
        obtain ⟨g3, ho3, hB3⟩ := hcut
        clear q0 qz
        obtain ⟨wp, hwp⟩ : ∃ wp, wp = wc := ⟨_, rfl⟩
        subst hwp
        have q1 : wp.cell? ⟨tb, 1, none⟩ = some (.string f.e) := g3.cell 1
        have qz : wp.frozen? ⟨tb, 1, none⟩ = false := g3.frozen 1
        replace ho3 := Lib.hid ho3
        replace hB3 := Lib.hid hB3
        replace g3 := Lib.hid g3
        go_upto_if 44 with (first
          | (go_at_call 11; (with_reducible refine (hcy.out _).mono ?_); rintro e1 w1 ⟨rfl, rfl⟩))
        go_cut [] (fun wx => Bl wx tb (.cells #[.string Bk, .string Ek, .int .u64 0] 38 (0, 0)) ∧ OW wx z4 3 u9 T.length (T.flatMap tc) ∧ Below w.heap.size w wx)
        case first =>
          by_cases hy0 : 0 < y
          · have hEe : e = Ek := by rw [← hEk.out, if_pos hy0]
            have d0 : decide (0 < y) = true := decide_eq_true hy0
            replace hEe := Lib.hid hEe
            go_wp2_with fail
            go_meet
            exact ⟨by rw [← hEe.out]; simpa using g3.out.setSame 1 (.string e), ho3.out.set _ (fun e => hne.out tb e rfl), hB3.out.setCell htbw _⟩
          · have hEe : f.e = Ek := by rw [← hEk.out, if_neg hy0]
            have d0 : decide (0 < y) = false := decide_eq_false hy0
            replace hEe := Lib.hid hEe
            go_wp2_with fail
            go_meet
            exact ⟨by rw [← hEe.out]; exact g3.out, ho3.out, hB3.out⟩
        case rest =>
          obtain ⟨g5, ho5, hB5⟩ := hcut
          clear q1 qz
          replace ho5 := Lib.hid ho5
          replace hB5 := Lib.hid hB5
          replace g5 := Lib.hid g5
          go_wp2_with fail
          go_loopw [9, 12] (fun v9 vi wr => ∃ (k : Nat) (s : Int), k ≤ f.q.length ∧ (z < 0 ∨ k = 0) ∧ vi = .int .i64 k ∧ OW wr z4 3 v9 (T.length + k) ((T ++ (f.q.take k).map (fun n => (⟨Bk, Ek, n⟩ : Tb))).flatMap tc) ∧ Bl wr tb (.cells #[.string Bk, .string Ek, .int .u64 s] 38 (0, 0)) ∧ (∀ q, v9.ownBlock = some q → q ≠ tb) ∧ Below w.heap.size w wr) (fun _ vi _ => f.q.length - (intOf vi).toNat)
          case atStart => exact ⟨0, 0, Nat.zero_le _, .inr rfl, rfl, by simpa using ho5.out, g5.out, hne.out, hB5.out⟩
          case round =>
            clear ho5 hne g5
            obtain ⟨k, sv, hk, hzk, rfl, ho, hb, hne, hBr⟩ := hrel
            obtain ⟨e0, e1, e2, r2⟩ := hc.out wr hBr
            clear e0 e1
            replace ho := Lib.hid ho
            replace hne := Lib.hid hne
            have k2 : wr.cell? ⟨tb, 0, none⟩ = some (.string Bk) := hb.cell 0
            have k3 : wr.cell? ⟨tb, 1, none⟩ = some (.string Ek) := hb.cell 1
            have hfl := hb.lt
            by_cases hkl : k < f.q.length
            · by_cases hz0 : z < 0
              · have d0 : decide (z < 0) = true := decide_eq_true hz0
                rw [if_pos hz0] at hTl
                obtain ⟨m, hm⟩ : ∃ m, f.q[k]? = some m := ⟨_, List.getElem?_eq_getElem hkl⟩
                obtain ⟨gb, ob, hBe, hbc⟩ := rd_at1 r2 hm
                have p0 := hbc wr (Below.refl _ _)
                have k4 : wr.cell? ⟨tb, 2, none⟩ = some (.int .u64 sv) := hb.cell 2
                have k5 : wr.frozen? ⟨tb, 2, none⟩ = false := hb.frozen 2
                have b6 : Bl (wr.setCell ⟨tb, 2, none⟩ (.int .u64 m)) tb (.cells #[.string Bk, .string Ek, .int .u64 m] 38 (0, 0)) := by simpa using hb.setSame 2 (.int .u64 m)
                have m0 : (wr.setCell ⟨tb, 2, none⟩ (.int .u64 m)).cell? ⟨tb, 0, none⟩ = some (.string Bk) := b6.cell 0
                have m1 : (wr.setCell ⟨tb, 2, none⟩ (.int .u64 m)).cell? ⟨tb, 1, none⟩ = some (.string Ek) := b6.cell 1
                have m2 : (wr.setCell ⟨tb, 2, none⟩ (.int .u64 m)).cell? ⟨tb, 2, none⟩ = some (.int .u64 m) := b6.cell 2
                have ho6 := Lib.hid (ho.out.set (b := tb) (i := 2) (.int .u64 m) (fun e => hne.out tb e rfl))
                have hB6 := Lib.hid (show Below w.heap.size w (wr.setCell ⟨tb, 2, none⟩ (.int .u64 m)) from hBr.setCell htbw _)
                have htk2 : (f.q.take (k + 1)).map (fun n => (⟨Bk, Ek, n⟩ : Tb)) = (f.q.take k).map (fun n => (⟨Bk, Ek, n⟩ : Tb)) ++ [⟨Bk, Ek, m⟩] := by rw [List.take_add_one, hm]; simp
                replace htk2 := Lib.hid htk2
                replace b6 := Lib.hid b6
                replace hBr := Lib.hid hBr
                replace hb := Lib.hid hb
                subst hBe
                have j0 : (0 : Int) ≤ (k : Int) := by omega
                have j1 : (k : Int) < (f.q.length : Int) := by omega
                clear hbc r2 hm hzk
                go_wp2_with (first
                  | (go_at_call 11; (with_reducible refine (hcz.out _).mono ?_); rintro e1 w1 ⟨rfl, rfl⟩)
                  | (at_builtin; refine wpList_append_ow rfl (.tmp 75) (.tmp 77) 22 rfl z4 38 rfl infoTomb rfl (by decide) _ _ _ rfl (ho6.out.alloc _) _ 1 _ (tc ⟨Bk, Ek, m⟩) rfl (rd_new (by simp) _ _ 1 3 rfl) (by intro u hu; exact tc_one [⟨Bk, Ek, m⟩] u (by simpa using hu)) (by unfold maxLen; omega) (by omega) (by have h1 := hB6.out.size; have h2 := hz4h.out; simp at h1 ⊢; omega) ?_; rintro v9n w9 ho9n hg9 hn9
                     have hF9 : Fr (fun q => u9.ownBlock = some q) (wr.setCell ⟨tb, 2, none⟩ (.int .u64 m)) w9 := ((Fr.refl _ _).alloc _).grown hg9 (fun q hq _ => hq)
                     replace hn9 := Lib.hid (show v9n.ownBlock = u9.ownBlock ∨ v9n.ownBlock = some ((wr.setCell ⟨tb, 2, none⟩ (.int .u64 m)).heap.size + 1) from hn9.imp (fun h => h) (fun h => h.trans (by simp)))
                     clear hg9 m0 m1 m2
                     replace hF9 := Lib.hid hF9
                     replace ho9n := Lib.hid ho9n))
                go_roundw
                case measure => simp only [intOf]; omega
                case rel =>
                  refine ⟨k + 1, m, by omega, .inl hz0, by go_num, ?_, b6.out.fr hF9.out (fun e => hne.out tb e rfl), fun q hq e => ?_, Fr.thenBelow hB6.out hF9.out (Nat.le_refl _) (fun i hi e => ?_)⟩
                  · rw [htk2.out, ← List.append_assoc, List.flatMap_append]
                    have := ho9n.out
                    simpa [Nat.add_assoc] using this
                  · rcases hn9.out with e2 | e2
                    · exact hne.out q (e2 ▸ hq) e
                    · rw [e2] at hq
                      injection hq with hq
                      simp at hq
                      omega
                  · have := (ho.out.lt i e).1
                    have := hz4h.out
                    omega
              · have d0 : decide (z < 0) = false := decide_eq_false hz0
                obtain rfl : k = 0 := by rcases hzk with h | h; exact absurd h hz0; exact h
                have htn2 := htn.out
                rw [if_neg hz0, List.append_nil] at htn2
                have ho7 : OW wr z4 3 u9 T.length (T.flatMap tc) := by simpa using ho.out
                replace htn2 := Lib.hid htn2
                replace ho7 := Lib.hid ho7
                replace hb := Lib.hid hb
                replace hBr := Lib.hid hBr
                have j1 : (0 : Int) < (f.q.length : Int) := by omega
                clear ho r2
                go_wp2_with (first
                  | (go_at_call 11; (with_reducible refine (hcz.out _).mono ?_); rintro e1 w1 ⟨rfl, rfl⟩))
                go_roundw
                case measure => simp only [intOf]; omega
                case rel => exact ⟨i + 1, by omega, by go_num, by rw [htn2.out]; exact ho7.out, hBr.out⟩
            · have hkq : k = f.q.length := by omega
              have ho7 : OW wr z4 3 u9 (tombsF (cutF how b e (F.take (i + 1)))).length ((tombsF (cutF how b e (F.take (i + 1)))).flatMap tc) := by
                have := ho.out
                rw [htn.out]
                by_cases hz0 : z < 0
                · rw [if_pos hz0]
                  rw [List.take_of_length_le (by omega)] at this
                  rw [List.length_append, List.length_map, ← hkq]
                  exact this
                · rw [if_neg hz0, List.append_nil]
                  obtain rfl : k = 0 := by rcases hzk with h | h; exact absurd h hz0; exact h
                  simpa using this
              replace ho7 := Lib.hid ho7
              replace hb := Lib.hid hb
              replace hBr := Lib.hid hBr
              have hkge : ¬ (k : Int) < (f.q.length : Int) := by omega
              have d9 : decide (k < f.q.length) = false := decide_eq_false hkl
              replace hkq := Lib.hid hkq
              clear ho r2 hzk
              go_wp2_with fail
              go_roundw
              case measure => simp only [intOf]; omega
              case rel => exact ⟨i + 1, by omega, by go_num, ho7.out, hBr.out⟩
    · obtain rfl : i = n := by omega
      rw [List.take_of_length_le (by have := hn.out; omega)] at ho
      replace ho := Lib.hid ho
      go_wp2_with fail
      go_ret
      exact ⟨_, rfl, by rw [hz4h.out]; exact ho.out, hB.out⟩
end Go.Proofs.Ytmopjoeomjdikaa
