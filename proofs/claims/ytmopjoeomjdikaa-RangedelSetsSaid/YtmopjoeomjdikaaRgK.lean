/- Fragments cut, and copied, walked: the program and the document. Conditions: what each theorem names. -/
import Derived.RangeFuncNested
import Derived.RangeFuncBound
import Derived.RangeFuncCalls
import Derived.RangeFuncLeaves
import Derived.Shelf.Abstract
import Derived.Shelf.RegionOpen
import Derived.WalkKit
import Derived.OwnWalkIn
import Derived.TacticsInMore
import Derived.LoopNIn
import Derived.LoopIn
import Derived.Lib.Hide
import Derived.Outline
import Derived.RegionTactic
import Derived.BigRegion
import Derived.WalkLawsBesides
import Derived.WalkSpells
import Derived.Deep.QuietTactic
import Derived.BigQuiet
import Derived.Deep.RegionHeld3
import Derived.Deep.DeepCutAuto
import Derived.Deep.CutBlock
import Derived.StillTailTactics
import Derived.WalkSmall
import Derived.Test.YtmopjoeomjdikaaRgN
import Derived.Test.YtmopjoeomjdikaaRgH
import Derived.Test.YtmopjoeomjdikaaOel
import Derived.Lib.SliceRun
namespace Go.Proofs.Ytmopjoeomjdikaa
open Go.RowKit Go.Sed Go.Sort
set_option maxHeartbeats 2000000
set_option maxRecDepth 100000
theorem clip_eq (how : Int) (b e : ByteArray) (f : Fg) {x y : Int} (hx : cmpH how f.b b = x) (hy : cmpH how f.e e = y) : clipF how b e f = ⟨if x < 0 then b else f.b, if 0 < y then e else f.e, f.q⟩ := by unfold clipF; rw [hx, hy]
theorem tombsF_app (F G : List Fg) : tombsF (F ++ G) = tombsF F ++ tombsF G := by unfold tombsF; exact List.flatMap_append
theorem tombsF_one (f : Fg) : tombsF [f] = f.q.map (fun n => ⟨f.b, f.e, n⟩) := by unfold tombsF; simp
theorem cutset_any (how : Int) (F : List Fg) (b e : ByteArray) (hb : Nat) (w : World) (h : ST w hb how F) (hl : F.length ≤ 1000000) (hsum : sumQ F ≤ 1048576) :
    Calls Try.prog 27 #[.pointer (some ⟨hb, 0, none⟩), .string b, .string e] w fun ee w' => ∃ v, ee = .returned v ∧ OW w' w.heap.size 3 v (tombsF (cutF how b e F)).length ((tombsF (cutF how b e F)).flatMap tc) ∧ Below w.heap.size w w' := by
  obtain ⟨A, c, c0, c1, hf⟩ := h.fr
  have hcm := Lib.hid (fun x y W => compare_any how x y W)
  have hto := Lib.hid (fun A c W (hW : FR W A (cutF how b e F)) => tombs_any (cutF how b e F) A c W hW (by have := cutF_len how b e F; unfold maxLen; omega) (Nat.le_trans (cutF_sum how b e F) hsum))
  obtain ⟨n, hn⟩ : ∃ n, F.length = n := ⟨_, rfl⟩
  obtain ⟨b0, hb0⟩ : ∃ b0, w.heap.size = b0 := ⟨_, rfl⟩
  rw [hn] at c1 hl
  replace hn := Lib.hid hn
  replace hf := Lib.hid hf
  rw [hb0]
  replace hb0 := Lib.hid hb0
  clear h hsum
  go_enter Try.func27, Try.ntmps27
  go_wp2_with fail
  go_loopw [7, 15] (fun v7 vi wr => ∃ (i : Nat) (G : List (Fg × Value)), i ≤ n ∧ vi = .int .i64 i ∧ OW wr b0 3 v7 (cutF how b e (F.take i)).length (G.flatMap fcs) ∧ G.map (·.1) = cutF how b e (F.take i) ∧ (∀ p ∈ G, ∃ B d, p.2 = .slice B p.1.q.length d ∧ Rd w 1 B p.1.q.length (u64C p.1.q)) ∧ Below w.heap.size w wr) (fun _ vi _ => n - (intOf vi).toNat)
  case atStart => exact ⟨0, [], Nat.zero_le _, rfl, OW.nil _ _ _, rfl, (fun p hp => by cases hp), Below.refl _ _⟩
  case round =>
    obtain ⟨i, G, hi, rfl, ho, hG, hpG, hB⟩ := hrel
    obtain ⟨wo, hwo⟩ : ∃ wo, wo = wr := ⟨_, rfl⟩
    subst hwo
    replace hB := Lib.hid hB
    replace hpG := Lib.hid hpG
    by_cases hlt : i < n
    · obtain ⟨f, hfi⟩ : ∃ f, F[i]? = some f := ⟨_, List.getElem?_eq_getElem (by have := hn.out; omega)⟩
      obtain ⟨g, o, B, d, hA, hc⟩ := hf.out.at hfi
      have hsn := cutF_snoc how b e F i f hfi
      have hcl := cutF_len how b e (F.take i)
      rw [List.length_take] at hcl
      subst hA
      obtain ⟨e0, e1, e2, -⟩ := hc wo hB.out
      have hrB := Lib.hid (hc w (Below.refl _ _)).2.2.2
      obtain ⟨C, hC⟩ : ∃ C, cutF how b e (F.take i) = C := ⟨_, rfl⟩
      rw [hC] at hsn ho hG hcl
      obtain ⟨w1, hw1⟩ : ∃ w1, wo.alloc (.cells #[.string f.b, .string f.e, .slice B f.q.length d] 34) = w1 := ⟨_, rfl⟩
      have hB1 : Below wo.heap.size wo w1 := by rw [← hw1]; exact (Below.refl _ _).alloc (Nat.le_refl _) _
      have b1 : Bl w1 wo.heap.size (.cells #[.string f.b, .string f.e, .slice B f.q.length d] 34 (0, 0)) := by rw [← hw1]; exact Bl.new' rfl
      obtain ⟨fb, hfb⟩ : ∃ fb, wo.heap.size = fb := ⟨_, rfl⟩
      have hne : ∀ q, u7.ownBlock = some q → q ≠ fb := fun q hq e => by have := (ho.lt q hq).2; omega
      have ho1 := ho.keep hB1
      have hBw := below_then hB.out hB1
      have k0 := cell_keep hBw c0
      rw [hfb] at b1
      have f0 : w1.cell? ⟨fb, 0, none⟩ = some (.string f.b) := b1.cell 0
      have f1 : w1.cell? ⟨fb, 1, none⟩ = some (.string f.e) := b1.cell 1
      have hbfb : w.heap.size ≤ fb := by rw [← hfb]; exact hB.out.size
      have hcx := Lib.hid (hcm.out f.b b)
      have hcy := Lib.hid (hcm.out f.e e)
      obtain ⟨x, hx⟩ : ∃ x, cmpH how f.b b = x := ⟨_, rfl⟩
      obtain ⟨y, hy⟩ : ∃ x, cmpH how f.e e = x := ⟨_, rfl⟩
      rw [clip_eq how b e f hx hy] at hsn
      rw [hx] at hcx
      rw [hy] at hcy
      obtain ⟨Bk, hBk⟩ : ∃ z, (if x < 0 then b else f.b) = z := ⟨_, rfl⟩
      obtain ⟨Ek, hEk⟩ : ∃ z, (if 0 < y then e else f.e) = z := ⟨_, rfl⟩
      rw [hBk, hEk] at hsn
      have hcz := Lib.hid (hcm.out Bk Ek)
      simp only at hsn
      obtain ⟨z, hz⟩ : ∃ x, cmpH how Bk Ek = x := ⟨_, rfl⟩
      rw [hz] at hcz hsn
      replace hx := Lib.hid hx
      replace hy := Lib.hid hy
      replace hz := Lib.hid hz
      replace hsn := Lib.hid hsn
      replace hw1 := Lib.hid hw1
      replace hne := Lib.hid hne
      replace ho1 := Lib.hid ho1
      replace b1 := Lib.hid b1
      replace hfb := Lib.hid hfb
      replace hC := Lib.hid hC
      replace hBk := Lib.hid hBk
      replace hEk := Lib.hid hEk
      replace hG := Lib.hid hG
      have hcx2 := Lib.hid (fun m => Calls.quiet_of_same ((hcx.out (w1.drewN m)).mono fun _ _ h => ⟨h.1, h.2.symm⟩))
      replace hBw := Lib.hid hBw
      clear ho hB1 hfi hc
      go_upto_region 5 with fail
      rw [hw1.out, hfb.out]
      clear e0 e1 e2
      go_quiet ((go_at_call 32; exact hcx2.out _))
      have hq1 := below_drewN (Below.refl w1.heap.size w1) nq
      obtain ⟨w2, hw2⟩ : ∃ w2, w1.drewN nq = w2 := ⟨_, rfl⟩
      rw [hw2] at hq1
      have g1 := b1.out.keep hq1
      have ho2 := Lib.hid (ho1.out.keep hq1)
      have hBw2 := Lib.hid (below_then hBw.out hq1)
      rw [hw2]
      replace hw2 := Lib.hid hw2
      have q0 : w2.cell? ⟨fb, 0, none⟩ = some (.string f.b) := g1.cell 0
      have qz : w2.frozen? ⟨fb, 0, none⟩ = false := g1.frozen 0
      clear f0 f1 k0 hq1
      replace g1 := Lib.hid g1
      go_upto_if 27 with (fail)
      go_cut [] (fun wx => Bl wx fb (.cells #[.string Bk, .string f.e, .slice B f.q.length d] 34 (0, 0)) ∧ OW wx b0 3 u7 C.length (G.flatMap fcs) ∧ Below w.heap.size w wx)
      case first =>
        by_cases hx0 : x < 0
        · have hBb : b = Bk := by rw [← hBk.out, if_pos hx0]
          have d0 : decide (x < 0) = true := decide_eq_true hx0
          replace hBb := Lib.hid hBb
          go_wp2_with fail
          go_meet
          exact ⟨by rw [← hBb.out]; simpa using g1.out.setSame 0 (.string b), ho2.out.set _ (fun e => hne.out fb e rfl), hBw2.out.setCell hbfb _⟩
        · have hBb : f.b = Bk := by rw [← hBk.out, if_neg hx0]
          have d0 : decide (x < 0) = false := decide_eq_false hx0
          replace hBb := Lib.hid hBb
          go_wp2_with fail
          go_meet
          exact ⟨by rw [← hBb.out]; exact g1.out, ho2.out, hBw2.out⟩
      case rest =>
        obtain ⟨g3, ho3, hB3⟩ := hcut
        clear q0 qz
        have r1 : wc.cell? ⟨fb, 1, none⟩ = some (.string f.e) := g3.cell 1
        have k1 := cell_keep hB3 c0
        have hcy2 := Lib.hid (fun m => Calls.quiet_of_same ((hcy.out (wc.drewN m)).mono fun _ _ h => ⟨h.1, h.2.symm⟩))
        replace ho3 := Lib.hid ho3
        replace hB3 := Lib.hid hB3
        replace g3 := Lib.hid g3
        go_upto_region 7 with fail
        go_quiet ((go_at_call 32; exact hcy2.out _))
        have hq1 := below_drewN (Below.refl wc.heap.size wc) nq
        obtain ⟨w4, hw4⟩ : ∃ w4, wc.drewN nq = w4 := ⟨_, rfl⟩
        rw [hw4] at hq1
        have g4 := g3.out.keep hq1
        have ho4 := Lib.hid (ho3.out.keep hq1)
        have hB4 := Lib.hid (below_then hB3.out hq1)
        rw [hw4]
        replace hw4 := Lib.hid hw4
        have q1 : w4.cell? ⟨fb, 1, none⟩ = some (.string f.e) := g4.cell 1
        have qz : w4.frozen? ⟨fb, 1, none⟩ = false := g4.frozen 1
        clear r1 k1 hq1
        replace g4 := Lib.hid g4
        go_upto_if 38 with (fail)
        obtain ⟨wp, hwp⟩ : ∃ wp, wp = wc := ⟨_, rfl⟩
        subst hwp
        go_cut [] (fun wx => Bl wx fb (.cells #[.string Bk, .string Ek, .slice B f.q.length d] 34 (0, 0)) ∧ OW wx b0 3 u7 C.length (G.flatMap fcs) ∧ Below w.heap.size w wx)
        case first =>
          by_cases hy0 : 0 < y
          · have hEe : e = Ek := by rw [← hEk.out, if_pos hy0]
            have d0 : decide (0 < y) = true := decide_eq_true hy0
            replace hEe := Lib.hid hEe
            go_wp2_with fail
            go_meet
            exact ⟨by rw [← hEe.out]; simpa using g4.out.setSame 1 (.string e), ho4.out.set _ (fun e => hne.out fb e rfl), hB4.out.setCell hbfb _⟩
          · have hEe : f.e = Ek := by rw [← hEk.out, if_neg hy0]
            have d0 : decide (0 < y) = false := decide_eq_false hy0
            replace hEe := Lib.hid hEe
            go_wp2_with fail
            go_meet
            exact ⟨by rw [← hEe.out]; exact g4.out, ho4.out, hB4.out⟩
        case rest =>
          obtain ⟨g5, ho5, hB5⟩ := hcut
          clear q1 qz
          have r0 : wc.cell? ⟨fb, 0, none⟩ = some (.string Bk) := g5.cell 0
          have r1 : wc.cell? ⟨fb, 1, none⟩ = some (.string Ek) := g5.cell 1
          have k1 := cell_keep hB5 c0
          have hcz2 := Lib.hid (fun m => Calls.quiet_of_same ((hcz.out (wc.drewN m)).mono fun _ _ h => ⟨h.1, h.2.symm⟩))
          replace ho5 := Lib.hid ho5
          replace hB5 := Lib.hid hB5
          replace g5 := Lib.hid g5
          go_upto_region 9 with fail
          go_quiet ((go_at_call 32; exact hcz2.out _))
          have hq1 := below_drewN (Below.refl wc.heap.size wc) nq
          obtain ⟨w6, hw6⟩ : ∃ w6, wc.drewN nq = w6 := ⟨_, rfl⟩
          rw [hw6] at hq1
          have g6 := g5.out.keep hq1
          have ho6 := Lib.hid (ho5.out.keep hq1)
          have hB6 := Lib.hid (below_then hB5.out hq1)
          rw [hw6]
          replace hw6 := Lib.hid hw6
          have q0 : w6.cell? ⟨fb, 0, none⟩ = some (.string Bk) := g6.cell 0
          have q1 : w6.cell? ⟨fb, 1, none⟩ = some (.string Ek) := g6.cell 1
          have q2 : w6.cell? ⟨fb, 2, none⟩ = some (.slice B f.q.length d) := g6.cell 2
          clear r0 r1 k1 hq1 g6
          by_cases hz0 : z < 0
          · have d0 : decide (z < 0) = true := decide_eq_true hz0
            rw [if_pos hz0] at hsn
            go_wp2_with (first
              | (at_builtin; refine wpList_append_ow rfl (.tmp 51) (.tmp 53) 24 rfl b0 34 rfl infoFrag rfl (by decide) _ _ _ rfl (ho6.out.alloc _) _ 1 _ (fcs (⟨Bk, Ek, f.q⟩, .slice B f.q.length d)) rfl (rd_new (by simp) _ _ 1 3 rfl) (by intro u hu; simp [fcs] at hu; rcases hu with rfl | rfl | rfl <;> rfl) (by unfold maxLen; omega) (by omega) (by have := hB6.out.size; have := hb0.out; simp; omega) ?_; rintro vn w9 hvn hgn -
                 have hB9 := Lib.hid (below_grow (hB6.out.alloc hB6.out.size _) (by have := hB6.out.size; simp; omega) (ho6.out.alloc _) (by rw [hb0.out]; exact Nat.le_refl _) hgn)
                 clear hgn
                 replace hvn := Lib.hid hvn))
            go_roundw
            case measure => simp only [intOf]; omega
            case rel =>
              refine ⟨i + 1, G ++ [(⟨Bk, Ek, f.q⟩, .slice B f.q.length d)], by omega, by go_num, ?_, ?_, ?_, hB9.out⟩
              · rw [hsn.out, List.length_append, List.flatMap_append]
                simpa using hvn.out
              · rw [hsn.out, List.map_append, hG.out]; rfl
              · intro p hp
                rcases List.mem_append.1 hp with h | h
                · exact hpG.out p h
                · obtain rfl := List.mem_singleton.1 h
                  exact ⟨B, d, rfl, hrB.out⟩
          · have d0 : decide (z < 0) = false := decide_eq_false hz0
            rw [if_neg hz0] at hsn
            go_wp2_with fail
            go_roundw
            case measure => simp only [intOf]; omega
            case rel => exact ⟨i + 1, G, by omega, by go_num, by rw [hsn.out, List.append_nil]; exact ho6.out, by rw [hsn.out, List.append_nil]; exact hG.out, hpG.out, hB6.out⟩
    · obtain rfl : i = n := by omega
      rw [List.take_of_length_le (by have := hn.out; omega)] at ho hG
      obtain ⟨A7, c7, rfl, hr7, -⟩ := ho.shape
      have hFR : FR wo A7 (cutF how b e F) := ⟨G, hG, hr7, fun p hp => by obtain ⟨B, d, e1, r⟩ := hpG.out p hp; exact ⟨B, d, e1, r.keep hB.out⟩⟩
      have ht := Lib.hid (hto.out A7 c7 wo hFR)
      replace ho := Lib.hid ho
      replace hG := Lib.hid hG
      replace hr7 := Lib.hid hr7
      replace hFR := Lib.hid hFR
      go_wp2_with (first
        | (go_at_call 45; refine ht.out.mono ?_; rintro e1 w2 ⟨v, rfl, ho2, hB2⟩; replace ho2 := Lib.hid ho2))
      go_ret
      exact ⟨_, rfl, ho2.out.more (by have := hB.out.size; have := hb0.out; omega), by have := below_then hB.out hB2; rwa [hb0.out] at this⟩
end Go.Proofs.Ytmopjoeomjdikaa
