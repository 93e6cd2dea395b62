/- RangedelSplits walked. Conditions: what each theorem names. -/
import Derived.RangeFuncNested
import Derived.RangeFuncBound
import Derived.RangeFuncCalls
import Derived.RangeFuncLeaves
import Derived.Shelf.Abstract
import Derived.Shelf.RegionOpen
import Derived.WalkKit
import Derived.OwnWalkIn
import Derived.TacticsInMore
import Derived.LoopNIn
import Derived.LoopIn
import Derived.Lib.Hide
import Derived.Outline
import Derived.RegionTactic
import Derived.BigRegion
import Derived.WalkLawsBesides
import Derived.WalkSpells
import Derived.Deep.QuietTactic
import Derived.BigQuiet
import Derived.Deep.RegionHeld3
import Derived.Deep.DeepCutAuto
import Derived.Deep.CutBlock
import Derived.StillTailTactics
import Derived.WalkSmall
import Derived.Test.YtmopjoeomjdikaaRgY
import Derived.Test.YtmopjoeomjdikaaRgH
namespace Go.Proofs.Ytmopjoeomjdikaa
open Go.RowKit Go.Sed Go.Sort
set_option maxHeartbeats 2000000
set_option maxRecDepth 100000
theorem rjoin_yes (how : Int) (F : List Fg) (A : Option Addr) (c : Nat) (w : World) (h : FR w A F) (hl : F.length ≤ maxLen) (hq : ∀ f ∈ F, f.q.length ≤ 35184372088832) (hs : ∀ f ∈ F, f.b.size ≤ maxLen ∧ f.e.size ≤ maxLen) (hb0 : longF F = false) (hb1 : canF how none F = true) (hb2 : how = 0 ∨ how = 1) :
    Calls Try.prog 17 #[.int .i64 how, .slice A F.length c] w fun e w' => ∃ v, e = .returned (.tuple #[v, .int .i64 0]) ∧ OW w' w.heap.size 3 v (tombsF F).length ((tombsF F).flatMap tc) ∧ Below w.heap.size w w' := by
  have hlo := (long_any F A c w h hl hq hs).2
  have hcn := Lib.hid (fun W (hW : Below w.heap.size w W) => rcan_any how F A c W (h.keep hW) hl (fun f hf => by have := hq f hf; unfold maxLen; omega))
  rw [hb0] at hlo
  rw [hb1] at hcn
  obtain ⟨hsz, hsum0⟩ := longF_no hb0
  obtain ⟨n, hn⟩ : ∃ n, F.length = n := ⟨_, rfl⟩
  rw [hn] at hlo hcn hsz ⊢
  have hsum := Lib.hid (fun i : Nat => Nat.le_trans (sumQ_up F i) hsum0)
  replace hlo := Lib.hid hlo
  have hd : ((how != 0) && (how != 1)) = false := by rcases hb2 with rfl | rfl <;> rfl
  have hd1 : (how == 0) = true ∨ (how == 1) = true := by rcases hb2 with rfl | rfl <;> simp
  replace hn := Lib.hid hn
  replace h := Lib.hid h
  replace hq := Lib.hid hq
  clear hl hs hb0 hb1 hsum0 hd
  have hgo : ∀ w1 : World, Below w.heap.size w w1 → ∃ wq : World, wq = w1 ∧ Below w.heap.size w wq := fun w1 h => ⟨w1, rfl, h⟩
  rcases hb2 with rfl | rfl
  all_goals
    clear hd1
    go_enter Try.func17, Try.ntmps17
    go_wp2_with (first
      | (go_at_call 46; refine hlo.out.mono ?_; rintro e1 w1 ⟨rfl, hB1⟩)
      | (go_at_call 47; refine (hcn.out _ hB1).mono ?_; rintro e3 w3 ⟨rfl, hB3⟩; have hB := Lib.hid (below_then hB1 hB3)))
    obtain ⟨wq, hwq⟩ : ∃ wq, wq = w3 := ⟨_, rfl⟩
    subst hwq
    obtain ⟨w4, hw4⟩ : ∃ w4, wq.alloc (.cells #[] 38) = w4 := ⟨_, rfl⟩
    rw [hw4]
    have hB4 : Below wq.heap.size wq w4 := by rw [← hw4]; exact (Below.refl _ _).alloc (Nat.le_refl _) _
    have b4 : Bl w4 wq.heap.size (.cells #[] 38 (0, 0)) := by rw [← hw4]; exact Bl.new' rfl
    replace hw4 := Lib.hid hw4
    obtain ⟨z4, hz4⟩ : ∃ z, wq.heap.size = z := ⟨_, rfl⟩
    rw [hz4] at b4 ⊢
    have hwz4 : w.heap.size ≤ z4 := by rw [← hz4]; exact hB.out.size
    have ho0 : OW w4 z4 3 (.slice (some ⟨z4, 0, none⟩) 0 0) 0 [] := OW.empty (Nat.le_refl _) b4
    replace ho0 := Lib.hid ho0
    have hz4h := Lib.hid hz4
    clear hz4 b4 hB1 hB3 hlo hcn
    replace hB4 := Lib.hid hB4
    go_loopw [6, 7] (fun v3 vi wr => ∃ i : Nat, i ≤ n ∧ vi = .int .i64 i ∧ OW wr z4 3 v3 (tombsF (F.take i)).length ((tombsF (F.take i)).flatMap tc) ∧ Below wq.heap.size wq wr) (fun _ vi _ => n - (intOf vi).toNat)
    case atStart => exact ⟨0, Nat.zero_le _, rfl, ho0.out, hB4.out⟩
    case round =>
      clear ho0 hB4
      obtain ⟨i, hi, rfl, ho, hBo⟩ := hrel
      obtain ⟨wo, hwo⟩ : ∃ wo, wo = wr := ⟨_, rfl⟩
      subst hwo
      have hBw := Lib.hid (below_then hB.out hBo)
      replace hBo := Lib.hid hBo
      by_cases hlt : i < n
      · obtain ⟨f, hf⟩ : ∃ f, F[i]? = some f := ⟨_, List.getElem?_eq_getElem (by have := hn.out; omega)⟩
        obtain ⟨g, o, B, d, hA, hc⟩ := h.out.at hf
        subst hA
        have htk := Lib.hid (tombsF_take F i f hf)
        have hsi := hsum.out (i + 1)
        rw [sumQ_take F i f hf] at hsi
        have htl := tombsF_len (F.take i)
        obtain ⟨T, hT⟩ : ∃ T, tombsF (F.take i) = T := ⟨_, rfl⟩
        rw [hT] at ho htk htl
        rw [← htl] at hsi
        clear htl hT hf
        replace ho := Lib.hid ho
        replace hc := Lib.hid hc
        have i0 : (0 : Int) ≤ (i : Int) := by omega
        have i1 : (i : Int) < (n : Int) := by omega
        go_wp2_with fail
        go_loopw [6, 8] (fun v3 vi wr => ∃ k : Nat, k ≤ f.q.length ∧ vi = .int .i64 k ∧ OW wr z4 3 v3 (T.length + k) ((T ++ (f.q.take k).map (fun n => (⟨f.b, f.e, n⟩ : Tb))).flatMap tc) ∧ Below wq.heap.size wq wr) (fun _ vi _ => f.q.length - (intOf vi).toNat)
        case atStart => exact ⟨0, Nat.zero_le _, rfl, by simpa using ho.out, hBo.out⟩
        case round =>
          clear ho
          obtain ⟨k, hk, rfl, ho, hBr⟩ := hrel
          obtain ⟨e0, e1, e2, r2⟩ := hc.out wr (below_then hB.out hBr)
          replace ho := Lib.hid ho
          replace hBr := Lib.hid hBr
          by_cases hkl : k < f.q.length
          · obtain ⟨m, hm⟩ : ∃ m, f.q[k]? = some m := ⟨_, List.getElem?_eq_getElem hkl⟩
            obtain ⟨gb, ob, hBe, hbc⟩ := rd_at1 r2 hm
            have q0 := hbc wr (Below.refl _ _)
            have htk2 : (f.q.take (k + 1)).map (fun n => (⟨f.b, f.e, n⟩ : Tb)) = (f.q.take k).map (fun n => (⟨f.b, f.e, n⟩ : Tb)) ++ [⟨f.b, f.e, m⟩] := by rw [List.take_add_one, hm]; simp
            replace htk2 := Lib.hid htk2
            subst hBe
            have k0 : (0 : Int) ≤ (k : Int) := by omega
            have k1 : (k : Int) < (f.q.length : Int) := by omega
            clear hbc r2
            have hcells : ∀ W, Below wq.heap.size wq W → W.cell? ⟨g, o + i * 3, none⟩ = some (.string f.b) ∧ W.cell? ⟨g, o + i * 3 + 1, none⟩ = some (.string f.e) ∧ W.cell? ⟨g, o + i * 3 + 2, none⟩ = some (.slice (some ⟨gb, ob, none⟩) f.q.length d) ∧ W.cell? ⟨gb, ob + k, none⟩ = some (.int .u64 m) := fun W hW => by
              obtain ⟨x0, x1, x2, x3⟩ := hc.out W (below_then hB.out hW)
              exact ⟨x0, x1, x2, x3.cellAt (by unfold u64C; rw [List.getElem?_map, hm]; rfl)⟩
            replace hm := Lib.hid hm
            go_upto_region 12 with fail
            go_region_held3 (fun w' => w'.cell? ⟨g, o + i * 3, none⟩ = some (.string f.b) ∧ w'.cell? ⟨g, o + i * 3 + 1, none⟩ = some (.string f.e) ∧ w'.cell? ⟨g, o + i * 3 + 2, none⟩ = some (.slice (some ⟨gb, ob, none⟩) f.q.length d) ∧ w'.cell? ⟨gb, ob + k, none⟩ = some (.int .u64 m)) ((refine hcells _ ?_; first | exact hBr.out.drew | exact hBr.out | exact (hBr.out.alloc hBr.out.size _).drew | exact hB9)) ((first
              | (refine step_append_ow rfl (.tmp 40) (.tmp 60) 22 rfl z4 38 rfl infoTomb rfl (by decide) _ _ _ rfl (by first | exact (ho.out.alloc _).drew | exact ho.out.drew.alloc _) _ 1 _ (tc ⟨f.b, f.e, m⟩) rfl (by first | exact (rd_new rfl _ _ 1 3 rfl).drew | exact rd_new rfl _ _ 1 3 rfl) (by intro u hu; exact tc_one [⟨f.b, f.e, m⟩] u (by simpa using hu)) (by unfold maxLen; omega) (by omega) (by have := hBr.out.size; have := hz4h.out; simp; omega) ?_; rintro v9n w9 ho9n hg9 hn9
                 have hB9 := below_grow ((hBr.out.alloc hBr.out.size _).drew) (by have := hBr.out.size; simp; omega) ((ho.out.alloc _).drew) (by rw [hz4h.out]; exact Nat.le_refl _) hg9
                 clear hg9 hn9
                 replace ho9n := Lib.hid ho9n)))
            go_wp2_with fail
            go_roundw
            case measure => simp only [intOf]; omega
            case rel =>
              refine ⟨k + 1, by omega, by go_num, ?_, hB9⟩
              rw [htk2.out, ← List.append_assoc, List.flatMap_append]
              have := ho9n.out
              simpa [Nat.add_assoc] using this
          · obtain rfl : k = f.q.length := by omega
            rw [List.take_length] at ho
            clear r2
            go_wp2_with fail
            go_roundw
            case measure => simp only [intOf]; omega
            case rel =>
              refine ⟨i + 1, by omega, by go_num, ?_, hBr.out⟩
              rw [htk.out, List.length_append, List.length_map]
              exact ho.out
      · obtain rfl : i = n := by omega
        rw [List.take_of_length_le (by have := hn.out; omega)] at ho
        replace ho := Lib.hid ho
        go_wp2_with fail
        go_ret2
        exact ⟨_, rfl, ho.out.more hwz4, hBw.out⟩
theorem rjoin_any (how : Int) (F : List Fg) (A : Option Addr) (c : Nat) (w : World) (h : FR w A F) (hl : F.length ≤ maxLen) (hq : ∀ f ∈ F, f.q.length ≤ 35184372088832) (hs : ∀ f ∈ F, f.b.size ≤ maxLen ∧ f.e.size ≤ maxLen) :
    Calls Try.prog 17 #[.int .i64 how, .slice A F.length c] w fun e w' => ∃ v, e = .returned (.tuple #[v, .int .i64 (joinE how F)]) ∧ OW w' w.heap.size 3 v (tombsJ how F).length ((tombsJ how F).flatMap tc) ∧ Below w.heap.size w w' := by
  have hlo := (long_any F A c w h hl hq hs).2
  by_cases hb0 : longF F = true
  · have hE : joinE how F = 2 := by unfold joinE; rw [if_pos hb0]
    have hJ : tombsJ how F = [] := by unfold tombsJ; rw [hE]; rfl
    rw [hb0] at hlo
    obtain ⟨n, hn⟩ : ∃ n, F.length = n := ⟨_, rfl⟩
    rw [hn] at hlo ⊢
    replace hlo := Lib.hid hlo
    replace hE := Lib.hid hE
    replace hJ := Lib.hid hJ
    clear h hl hq hs hb0 hn
    go_enter Try.func17, Try.ntmps17
    go_wp2_with (first
      | (go_at_call 46; refine hlo.out.mono ?_; rintro e1 w1 ⟨rfl, hB1⟩))
    go_ret2
    exact ⟨_, by rw [hE.out]; rfl, by rw [hJ.out]; exact OW.nil _ _ _, hB1⟩
  · by_cases hb2 : how = 0 ∨ how = 1
    · by_cases hb1 : canF how none F = true
      · have hE : joinE how F = 0 := by unfold joinE; rw [if_neg hb0, if_neg (not_not_intro hb2), if_neg (by rw [hb1]; decide)]
        have hJ : tombsJ how F = tombsF F := by unfold tombsJ; rw [hE]; rfl
        rw [hE, hJ]
        exact rjoin_yes how F A c w h hl hq hs (by simpa using hb0) hb1 hb2
      · have hE : joinE how F = 1 := by unfold joinE; rw [if_neg hb0, if_neg (not_not_intro hb2), if_pos (by simpa using hb1)]
        have hJ : tombsJ how F = [] := by unfold tombsJ; rw [hE]; rfl
        have hcn := Lib.hid (fun W (hW : Below w.heap.size w W) => rcan_any how F A c W (h.keep hW) hl (fun f hf => by have := hq f hf; unfold maxLen; omega))
        rw [show longF F = false by simpa using hb0] at hlo
        rw [show canF how none F = false by simpa using hb1] at hcn
        obtain ⟨n, hn⟩ : ∃ n, F.length = n := ⟨_, rfl⟩
        rw [hn] at hlo hcn ⊢
        replace hlo := Lib.hid hlo
        replace hE := Lib.hid hE
        replace hJ := Lib.hid hJ
        clear h hl hq hs hb0 hb1 hn
        rcases hb2 with rfl | rfl
        all_goals
          go_enter Try.func17, Try.ntmps17
          go_wp2_with (first
            | (go_at_call 46; refine hlo.out.mono ?_; rintro e1 w1 ⟨rfl, hB1⟩)
            | (go_at_call 47; refine (hcn.out _ hB1).mono ?_; rintro e3 w3 ⟨rfl, hB3⟩; have hB := Lib.hid (below_then hB1 hB3)))
          go_ret2
          exact ⟨_, by rw [hE.out]; rfl, by rw [hJ.out]; exact OW.nil _ _ _, hB.out⟩
    · have hE : joinE how F = 1 := by unfold joinE; rw [if_neg hb0, if_pos hb2]
      have hJ : tombsJ how F = [] := by unfold tombsJ; rw [hE]; rfl
      rw [show longF F = false by simpa using hb0] at hlo
      obtain ⟨n, hn⟩ : ∃ n, F.length = n := ⟨_, rfl⟩
      rw [hn] at hlo ⊢
      have d0 : (how != 0) = true := by rw [bne_iff_ne]; exact fun e => hb2 (.inl e)
      have d1 : (how != 1) = true := by rw [bne_iff_ne]; exact fun e => hb2 (.inr e)
      have d2 : (how == 0) = false := by rw [beq_eq_false_iff_ne]; exact fun e => hb2 (.inl e)
      have d3 : (how == 1) = false := by rw [beq_eq_false_iff_ne]; exact fun e => hb2 (.inr e)
      replace hlo := Lib.hid hlo
      replace hE := Lib.hid hE
      replace hJ := Lib.hid hJ
      clear h hl hq hs hb0 hn hb2
      go_enter Try.func17, Try.ntmps17
      go_wp2_with (first
        | (go_at_call 46; refine hlo.out.mono ?_; rintro e1 w1 ⟨rfl, hB1⟩))
      go_ret2
      exact ⟨_, by rw [hE.out]; rfl, by rw [hJ.out]; exact OW.nil _ _ _, hB1⟩
theorem frags_nil (w : World) : Calls Try.prog 18 #[.slice none 0 0, .slice none 0 0] w fun e w' => e = .returned (.bool true) ∧ Below w.heap.size w w' :=
  frags_same [] none none 0 0 w (FR.nil _ _) (FR.nil _ _) (Nat.zero_le _) (fun f hf => by cases hf)
theorem splits_no (how : Int) (p pf : Option Addr) (c cf : Nat) (l : List Tb) (F : List Fg) (w : World) (hl : l.length * 40 ≤ 140737488351232) (hr : Rd w 3 p l.length (l.flatMap tc)) (hs : ∀ t ∈ l, t.b.size ≤ maxLen ∧ t.e.size ≤ maxLen) (hf : FR w pf F) (hfl : F.length ≤ maxLen) (hq : ∀ f ∈ F, f.q.length ≤ 35184372088832) (hfs : ∀ f ∈ F, f.b.size ≤ maxLen ∧ f.e.size ≤ maxLen) (hc : (chkT how l == 0) = false) :
    Calls Try.prog 5 #[.int .i64 how, .slice p l.length c, .slice pf F.length cf] w fun e w' => e = .returned (.bool true) ∧ Below w.heap.size w w' := by
  have hlm : l.length ≤ maxLen := by unfold maxLen; omega
  have hcp := Lib.hid (copied_any l p c w hr hl)
  have hsp := Lib.hid (fun A c W (hW : Rd W 3 A l.length (l.flatMap tc)) => split_no how l A c W hW hs hlm hc)
  have hrs := Lib.hid (fun W (hW : Below w.heap.size w W) => rsplit_no how l p c W (hr.keep hW) hs hlm hc)
  have hjo := Lib.hid (fun W (hW : Below w.heap.size w W) => join_any how F pf cf W (hf.keep hW) hfl hq hfs)
  have hrj := Lib.hid (fun W (hW : Below w.heap.size w W) => rjoin_any how F pf cf W (hf.keep hW) hfl hq hfs)
  have hts := Lib.hid (fun A A' c c' W h h' hm => tombs_same (tombsJ how F) A A' c c' W h h' hm)
  obtain ⟨n, hn⟩ : ∃ n, l.length = n := ⟨_, rfl⟩
  obtain ⟨nF, hnF⟩ : ∃ n, F.length = n := ⟨_, rfl⟩
  obtain ⟨e, he⟩ : ∃ e, chkT how l = e := ⟨_, rfl⟩
  obtain ⟨j, hj⟩ : ∃ e, joinE how F = e := ⟨_, rfl⟩
  obtain ⟨J, hJ⟩ : ∃ e, tombsJ how F = e := ⟨_, rfl⟩
  rw [hn] at hcp hsp hrs ⊢
  rw [hnF] at hjo hrj ⊢
  rw [he] at hsp hrs hc
  rw [hj, hJ] at hjo hrj
  rw [hJ] at hts
  obtain ⟨nJ, hnJ⟩ : ∃ n, J.length = n := ⟨_, rfl⟩
  rw [hnJ] at hjo hrj hts
  have hne : (e != 0) = true := by simp [bne, hc]
  clear hr hs hl hn he hlm hf hfl hq hfs hnF hj hJ hnJ
  go_enter Try.func5, Try.ntmps5
  go_wp2_with (first
    | (go_at_call 8; refine hcp.out.mono ?_; rintro e1 w1 ⟨r, rfl, ho1, hB1⟩; obtain ⟨A1, c1, rfl, hr1, -⟩ := ho1.shape; replace ho1 := Lib.hid ho1; replace hr1 := Lib.hid hr1)
    | (go_at_call 7; refine (hsp.out A1 c1 w1 hr1.out).mono ?_; rintro e2 w2 ⟨rfl, hB2⟩; have hB12 := below_then hB1 hB2)
    | (go_at_call 15; refine (hrs.out w2 hB12).mono ?_; rintro e3 w3 ⟨rfl, hB3⟩; have hB13 := below_then hB12 hB3)
    | (go_at_call 16; refine (hjo.out w3 hB13).mono ?_; rintro e4 w4 ⟨v4, rfl, ho4, hB4⟩; obtain ⟨A4, c4, rfl, hr4, hk4, hm4, -⟩ := ho4.shape; have hB14 := below_then hB13 hB4; replace hr4 := Lib.hid hr4; clear ho4)
    | (go_at_call 17; refine (hrj.out w4 hB14).mono ?_; rintro e5 w5 ⟨v5, rfl, ho5, hB5⟩; obtain ⟨A5, c5, rfl, hr5, -⟩ := ho5.shape; have hB15 := below_then hB14 hB5; replace hr5 := Lib.hid hr5; replace hr4 := Lib.hid (hr4.out.keep hB5); clear ho5)
    | (go_at_call 18; refine (frags_nil w5).mono ?_; rintro e6 w6 ⟨rfl, hB6⟩; have hB16 := below_then hB15 hB6; replace hr4 := Lib.hid (hr4.out.keep hB6); replace hr5 := Lib.hid (hr5.out.keep hB6))
    | (go_at_call 19; refine (hts.out A4 A5 c4 c5 w6 hr4.out hr5.out (Nat.le_trans hk4 hm4)).mono ?_; rintro e7 w7 ⟨rfl, hB7⟩; have hB17 := below_then hB16 hB7)
    | (go_at_call 10; refine (lives_any w7).mono ?_; rintro e8 w8 ⟨rfl, hB8⟩))
  go_ret
  exact ⟨rfl, below_then hB17 hB8⟩
theorem splits_yes (how : Int) (p pf : Option Addr) (c cf : Nat) (l : List Tb) (F : List Fg) (w : World) (hr : Rd w 3 p l.length (l.flatMap tc)) (hs : ∀ t ∈ l, t.b.size ≤ maxLen ∧ t.e.size ≤ maxLen) (hf : FR w pf F) (hfl : F.length ≤ maxLen) (hq : ∀ f ∈ F, f.q.length ≤ 35184372088832) (hfs : ∀ f ∈ F, f.b.size ≤ maxLen ∧ f.e.size ≤ maxLen) (hc : chkT how l = 0) (hl : l.length ≤ 1024) :
    Calls Try.prog 5 #[.int .i64 how, .slice p l.length c, .slice pf F.length cf] w fun e w' => e = .returned (.bool true) ∧ Below w.heap.size w w' := by
  have hcp := Lib.hid (copied_any l p c w hr (by omega))
  have hsp := Lib.hid (fun A c W (hW : Rd W 3 A l.length (l.flatMap tc)) => split_yes how l A c W hW hs hc hl)
  have hrs := Lib.hid (fun W (hW : Below w.heap.size w W) => rsplit_yes how l p c W (hr.keep hW) hs hc hl)
  have hjo := Lib.hid (fun W (hW : Below w.heap.size w W) => join_any how F pf cf W (hf.keep hW) hfl hq hfs)
  have hrj := Lib.hid (fun W (hW : Below w.heap.size w W) => rjoin_any how F pf cf W (hf.keep hW) hfl hq hfs)
  have hts := Lib.hid (fun A A' c c' W h h' hm => tombs_same (tombsJ how F) A A' c c' W h h' hm)
  have hfo := split_fo how l hl
  have h3 := (chkT_ok.1 hc).2.2
  have hks := fun f (hf : f ∈ splitT how l) => split_keys h3 hf
  have hje := split_join hc
  have hJ2 : tombsJ how (splitT how l) = tombsF (splitT how l) := by unfold tombsJ; rw [hje]; rfl
  have hsu := sumQ_split (how := how) hl
  have hck := tombs_chk hc
  have hag := split_again (how := how) (l := l)
  have hhow := (chkT_ok.1 hc).1
  have htl := tombsF_len (splitT how l)
  have hst : ∀ t ∈ tombsF (splitT how l), t.b.size ≤ maxLen ∧ t.e.size ≤ maxLen := fun t ht => by
    have := chkTs_all hck t ht
    unfold maxLen; omega
  have hfs2 := Lib.hid (fun A A' c c' W h h' => frags_same (splitT how l) A A' c c' W h h' (by have := hfo.len; unfold maxLen; omega) (fun f hf => by have := hfo.qlen f hf; unfold maxLen; omega))
  have hjo2 := Lib.hid (fun A c W h => join_any how (splitT how l) A c W h (by have := hfo.len; unfold maxLen; omega) (fun f hf => by have := hfo.qlen f hf; omega) (fun f hf => by have := hks f hf; unfold maxLen; omega))
  rw [hje, hJ2] at hjo2
  obtain ⟨S, hS⟩ : ∃ S, splitT how l = S := ⟨_, rfl⟩
  rw [hS] at hsp hrs hfs2 hjo2 hsu hck hag hst htl
  obtain ⟨T, hT⟩ : ∃ T, tombsF S = T := ⟨_, rfl⟩
  rw [hT] at hjo2 hck hag hst htl
  have hno := Lib.hid (fun A c W (hW : Rd W 3 A T.length (T.flatMap tc)) (h0 : 1024 < T.length) => split_no how T A c W hW hst (by unfold maxLen; omega) (by rw [beq_eq_false_iff_ne]; intro e; have := (chkT_ok.1 e).2.1; omega))
  have hye := Lib.hid (fun A c W (hW : Rd W 3 A T.length (T.flatMap tc)) (h0 : T.length ≤ 1024) => split_yes how T A c W hW hst (chkT_ok.2 ⟨hhow, h0, hck⟩) h0)
  have h2T : 1024 < T.length → chkT how T = 2 := fun h => by unfold chkT; rw [if_neg (not_not_intro hhow), if_pos h]
  rw [hag] at hye
  obtain ⟨n, hn⟩ : ∃ n, l.length = n := ⟨_, rfl⟩
  obtain ⟨nF, hnF⟩ : ∃ n, F.length = n := ⟨_, rfl⟩
  obtain ⟨j, hj⟩ : ∃ e, joinE how F = e := ⟨_, rfl⟩
  obtain ⟨J, hJ⟩ : ∃ e, tombsJ how F = e := ⟨_, rfl⟩
  obtain ⟨nS, hnS⟩ : ∃ n, S.length = n := ⟨_, rfl⟩
  obtain ⟨nT, hnT⟩ : ∃ n, T.length = n := ⟨_, rfl⟩
  rw [hn] at hcp hsp hrs ⊢
  rw [hnF] at hjo hrj ⊢
  rw [hj, hJ] at hjo hrj
  rw [hJ] at hts
  rw [hnS] at hfs2 hjo2
  rw [hnT] at hjo2 hno hye h2T htl
  obtain ⟨nJ, hnJ⟩ : ∃ n, J.length = n := ⟨_, rfl⟩
  rw [hnJ] at hjo hrj hts
  replace hnS := Lib.hid hnS
  have hnT9 : nT ≤ 1048576 := by omega
  clear htl hsu
  clear hr hs hl hn hf hfl hq hfs hnF hj hJ hnJ hfo h3 hks hje hJ2 hck hag hhow hst hS hT hc hnT
  go_enter Try.func5, Try.ntmps5
  have tok : True := trivial
  go_upto_region 12 with (first
    | (go_at_call 8; refine hcp.out.mono ?_; rintro e1 w1 ⟨r, rfl, ho1, hB1⟩; obtain ⟨A1, c1, rfl, hr1, -⟩ := ho1.shape; replace ho1 := Lib.hid ho1; replace hr1 := Lib.hid hr1)
    | (go_at_call 7; refine (hsp.out A1 c1 w1 hr1.out).mono ?_; rintro e2 w2 ⟨v2, rfl, hFL2, hB2⟩; obtain ⟨A2, c2, rfl, hf2⟩ := hFL2.fr; rw [hnS.out]; have hB12 := below_then hB1 hB2; clear hFL2; replace hf2 := Lib.hid hf2)
    | (go_at_call 15; refine (hrs.out w2 hB12).mono ?_; rintro e3 w3 ⟨v3, rfl, hFL3, hB3⟩; obtain ⟨A3, c3, rfl, hf3⟩ := hFL3.fr; rw [hnS.out]; have hB13 := below_then hB12 hB3; clear hFL3; replace hf3 := Lib.hid hf3; replace hf2 := Lib.hid (hf2.out.keep hB3))
    | (go_at_call 16; have t1 := tok; clear tok; refine (hjo.out w3 hB13).mono ?_; rintro e4 w4 ⟨v4, rfl, ho4, hB4⟩; obtain ⟨A4, c4, rfl, hr4, hk4, hm4, -⟩ := ho4.shape; have hB14 := below_then hB13 hB4; replace hr4 := Lib.hid hr4; clear ho4; replace hf2 := Lib.hid (hf2.out.keep hB4); replace hf3 := Lib.hid (hf3.out.keep hB4))
    | (go_at_call 17; refine (hrj.out w4 hB14).mono ?_; rintro e5 w5 ⟨v5, rfl, ho5, hB5⟩; obtain ⟨A5, c5, rfl, hr5, -⟩ := ho5.shape; have hB15 := below_then hB14 hB5; replace hr5 := Lib.hid hr5; replace hr4 := Lib.hid (hr4.out.keep hB5); clear ho5; replace hf2 := Lib.hid (hf2.out.keep hB5); replace hf3 := Lib.hid (hf3.out.keep hB5))
    | (go_at_call 18; refine (hfs2.out A2 A3 c2 c3 w5 hf2.out hf3.out).mono ?_; rintro e6 w6 ⟨rfl, hB6⟩; have hB16 := below_then hB15 hB6; replace hr4 := Lib.hid (hr4.out.keep hB6); replace hr5 := Lib.hid (hr5.out.keep hB6); replace hf2 := Lib.hid (hf2.out.keep hB6); clear hf3)
    | (go_at_call 19; refine (hts.out A4 A5 c4 c5 w6 hr4.out hr5.out (Nat.le_trans hk4 hm4)).mono ?_; rintro e7 w7 ⟨rfl, hB7⟩; have hB17 := below_then hB16 hB7; replace hf2 := Lib.hid (hf2.out.keep hB7); clear hr4 hr5)
    | (go_at_call 16; refine (hjo2.out A2 c2 w7 hf2.out).mono ?_; rintro e8 w8 ⟨v8, rfl, ho8, hB8⟩; obtain ⟨A8, c8, rfl, hr8, -⟩ := ho8.shape; have hB18 := below_then hB17 hB8; replace hr8 := Lib.hid hr8; clear ho8; replace hf2 := Lib.hid (hf2.out.keep hB8)))
  by_cases hbig : 1024 < nT
  · have d0 : decide ((1024 : Int) < (nT : Int)) = true := decide_eq_true (by omega)
    have hno1 := hno.out A8 c8 w8 hr8.out hbig
    rw [h2T hbig] at hno1
    replace hno1 := Lib.hid hno1
    clear h2T
    go_wp2_with (first
      | (go_at_call 7; refine hno1.out.mono ?_; rintro e9 w9 ⟨rfl, hB9⟩; have hB19 := below_then hB18 hB9)
      | (go_at_call 10; refine (lives_any w9).mono ?_; rintro e10 w10 ⟨rfl, hB10⟩))
    go_ret
    exact ⟨rfl, below_then hB19 hB10⟩
  · have hye1 := Lib.hid (hye.out A8 c8 w8 hr8.out (by omega))
    clear h2T
    go_wp2_with (first
      | (go_at_call 7; refine hye1.out.mono ?_; rintro e9 w9 ⟨v9, rfl, hFL9, hB9⟩; obtain ⟨A9, c9, rfl, hf9⟩ := hFL9.fr; rw [hnS.out]; have hB19 := below_then hB18 hB9; clear hFL9; replace hf9 := Lib.hid hf9; replace hf2 := Lib.hid (hf2.out.keep hB9))
      | (go_at_call 18; refine (hfs2.out A9 A2 c9 c2 w9 hf9.out hf2.out).mono ?_; rintro e6 w11 ⟨rfl, hB11⟩; have hB111 := below_then hB19 hB11)
      | (go_at_call 10; refine (lives_any w11).mono ?_; rintro e10 w10 ⟨rfl, hB10⟩))
    go_ret
    exact ⟨rfl, below_then hB111 hB10⟩
theorem splits_walk (how : Int) (p pf : Option Addr) (c cf : Nat) (l : List Tb) (F : List Fg) (w : World) (hl : l.length * 40 ≤ 140737488351232) (hr : Rd w 3 p l.length (l.flatMap tc)) (hs : ∀ t ∈ l, t.b.size ≤ maxLen ∧ t.e.size ≤ maxLen) (hf : FR w pf F) (hfl : F.length ≤ maxLen) (hq : ∀ f ∈ F, f.q.length ≤ 35184372088832) (hfs : ∀ f ∈ F, f.b.size ≤ maxLen ∧ f.e.size ≤ maxLen) :
    Calls Try.prog 5 #[.int .i64 how, .slice p l.length c, .slice pf F.length cf] w fun e w' => e = .returned (.bool true) ∧ Below w.heap.size w w' := by
  by_cases hc : chkT how l = 0
  · exact splits_yes how p pf c cf l F w hr hs hf hfl hq hfs hc (chkT_ok.1 hc).2.1
  · exact splits_no how p pf c cf l F w hl hr hs hf hfl hq hfs (by rw [beq_eq_false_iff_ne]; exact hc)
end Go.Proofs.Ytmopjoeomjdikaa
