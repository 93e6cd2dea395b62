/- RangedelSets walked. Conditions: what each theorem names. -/
import Derived.RangeFuncNested
import Derived.RangeFuncBound
import Derived.RangeFuncCalls
import Derived.RangeFuncLeaves
import Derived.Shelf.Abstract
import Derived.Shelf.RegionOpen
import Derived.WalkKit
import Derived.OwnWalkIn
import Derived.TacticsInMore
import Derived.LoopNIn
import Derived.LoopIn
import Derived.Lib.Hide
import Derived.Outline
import Derived.RegionTactic
import Derived.BigRegion
import Derived.WalkLawsBesides
import Derived.WalkSpells
import Derived.Deep.QuietTactic
import Derived.BigQuiet
import Derived.Deep.RegionHeld3
import Derived.Deep.DeepCutAuto
import Derived.Deep.CutBlock
import Derived.StillTailTactics
import Derived.WalkSmall
import Derived.Test.YtmopjoeomjdikaaRgK3
import Derived.Test.YtmopjoeomjdikaaRgH
namespace Go.Proofs.Ytmopjoeomjdikaa
open Go.RowKit Go.Sed Go.Sort
set_option maxHeartbeats 4000000
set_option maxRecDepth 100000
/-- what a set is asked. -/
structure Ak where
  b : ByteArray
  e : ByteArray
  u : ByteArray
  ks : Int
  kd : Int
  lo : Int
  s : Int
def ac (a : Ak) : List Value := [.string a.b, .string a.e, .string a.u, .int .u64 a.ks, .int .i64 a.kd, .int .u64 a.lo, .int .u64 a.s]
theorem ac_len (a : Ak) : (ac a).length = 7 := rfl
theorem sets_no (how : Int) (p pk : Option Addr) (c ck nk : Nat) (l : List Tb) (w : World) (hl : l.length * 40 ≤ 140737488351232) (hr : Rd w 3 p l.length (l.flatMap tc)) (hs : ∀ t ∈ l, t.b.size ≤ maxLen ∧ t.e.size ≤ maxLen) (hc : (chkT how l == 0) = false) :
    Calls Try.prog 6 #[.int .i64 how, .slice p l.length c, .slice pk nk ck] w fun e w' => e = .returned (.bool true) ∧ Below w.heap.size w w' := by
  have hlm : l.length ≤ maxLen := by unfold maxLen; omega
  have hcp := Lib.hid (copied_any l p c w hr hl)
  have hsp := Lib.hid (fun A c W (hW : Rd W 3 A l.length (l.flatMap tc)) => new_no how l A c W hW hs hlm hc)
  have hck := Lib.hid (fun W (hW : Below w.heap.size w W) => rsplit_no how l p c W (hr.keep hW) hs hlm hc)
  obtain ⟨n, hn⟩ : ∃ n, l.length = n := ⟨_, rfl⟩
  obtain ⟨e, he⟩ : ∃ e, chkT how l = e := ⟨_, rfl⟩
  rw [hn] at hcp hsp hck ⊢
  rw [he] at hsp hck hc
  have hne : (e != 0) = true := by simp [bne, hc]
  clear hr hs hl hn he hlm
  go_enter Try.func6, Try.ntmps6
  go_wp2_with (first
    | (go_at_call 8; refine hcp.out.mono ?_; rintro e1 w1 ⟨r, rfl, ho1, hB1⟩; obtain ⟨A1, c1, rfl, hr1, -⟩ := ho1.shape; replace ho1 := Lib.hid ho1; replace hr1 := Lib.hid hr1)
    | (go_at_call 13; refine (hsp.out A1 c1 w1 hr1.out).mono ?_; rintro e2 w2 ⟨rfl, hB2⟩; have hB12 := below_then hB1 hB2)
    | (go_at_call 15; refine (hck.out w2 hB12).mono ?_; rintro e3 w3 ⟨rfl, hB3⟩)
    | (go_at_call 10; refine (lives_any w3).mono ?_; rintro e4 w4 ⟨rfl, hB4⟩))
  go_ret
  exact ⟨rfl, below_then hB12 (below_then hB3 hB4)⟩
theorem sets_yes (how : Int) (p pk : Option Addr) (c ck : Nat) (l : List Tb) (qs : List Ak) (w : World) (hr : Rd w 3 p l.length (l.flatMap tc)) (hs : ∀ t ∈ l, (t.b.size ≤ maxLen ∧ t.e.size ≤ maxLen) ∧ 0 ≤ t.s) (hc : chkT how l = 0) (hl : l.length ≤ 1024) (hk : Rd w 7 pk qs.length (qs.flatMap ac)) (hkl : qs.length ≤ maxLen) (hka : ∀ a ∈ qs, 0 ≤ a.ks ∧ 0 ≤ a.lo) :
    Calls Try.prog 6 #[.int .i64 how, .slice p l.length c, .slice pk qs.length ck] w fun e w' => e = .returned (.bool true) ∧ Below w.heap.size w w' := by
  have hcp := Lib.hid (copied_any l p c w hr (by omega))
  have hsp := Lib.hid (fun A c W (hW : Rd W 3 A l.length (l.flatMap tc)) => new_yes how l A c W hW (fun t ht => (hs t ht).1) hc hl)
  have hrs := Lib.hid (fun W (hW : Below w.heap.size w W) => rsplit_yes how l p c W (hr.keep hW) (fun t ht => (hs t ht).1) hc hl)
  have hfo := split_fo how l hl
  have hsu := sumQ_split (how := how) hl
  have h0 : ∀ t ∈ l, 0 ≤ t.s := fun t ht => (hs t ht).2
  have hml := Lib.hid (fun k s => most_law (how := how) (l := l) (k := k) (s := s) h0)
  have hcl := Lib.hid (fun k s m => covers_law (how := how) (l := l) (k := k) (s := s) (m := m) h0)
  have hci := Lib.hid (fun b e k s => cut_in (how := how) (l := l) (b := b) (e := e) (k := k) (s := s) h0)
  have hco := Lib.hid (fun b e k s => cut_out (how := how) (l := l) (b := b) (e := e) (k := k) (s := s) h0)
  have hrl := Lib.hid (fun W (hW : Below w.heap.size w W) => hr.keep hW)
  have hlm : l.length ≤ maxLen := by unfold maxLen; omega
  have hrm := Lib.hid (fun key s W (hW : Below w.heap.size w W) => rmost_any how l key s p c W (hr.keep hW) hlm)
  have hrc := Lib.hid (fun u m kd s W (hW : Below w.heap.size w W) => rcovers_any how l u m kd s p c W (hr.keep hW) hlm)
  obtain ⟨F, hF⟩ : ∃ F, splitT how l = F := ⟨_, rfl⟩
  rw [hF] at hsp hrs hfo hsu hml hcl hci hco
  obtain ⟨n, hn⟩ : ∃ n, l.length = n := ⟨_, rfl⟩
  obtain ⟨nK, hnK⟩ : ∃ nK, qs.length = nK := ⟨_, rfl⟩
  obtain ⟨nF, hnF⟩ : ∃ nF, F.length = nF := ⟨_, rfl⟩
  rw [hn] at hcp hsp hrs hrm hrc ⊢
  rw [hnK] at hk hkl ⊢
  unfold maxLen at hkl
  have hFl := hfo.len
  rw [hnF] at hFl
  have hcmp := Lib.hid (fun x y W => rcompare_any how x y W)
  have hfr := Lib.hid (fun A A' c c' W h h' => frags_same F A A' c c' W h h' (by rw [hnF]; unfold maxLen; omega) (fun f hf => by have := hfo.qlen f hf; unfold maxLen; omega))
  rw [hnF] at hfr
  have hfg := Lib.hid (fun hb W h => fragments_any how F hb W h (by rw [hnF]; exact hFl) hfo.qlen)
  rw [hnF] at hfg
  clear hr hs hc hl hF hlm hn
  replace hk := Lib.hid hk
  replace hka := Lib.hid hka
  replace hnK := Lib.hid hnK
  replace hnF := Lib.hid hnF
  replace hfo := Lib.hid hfo
  replace hsu := Lib.hid hsu
  replace h0 := Lib.hid h0
  go_enter Try.func6, Try.ntmps6
  go_wp2_with (first
    | (go_at_call 8; refine hcp.out.mono ?_; rintro e1 w1 ⟨r, rfl, ho1, hB1⟩; obtain ⟨A1, c1, rfl, hr1, -⟩ := ho1.shape; replace ho1 := Lib.hid ho1; replace hr1 := Lib.hid hr1)
    | (go_at_call 13; refine (hsp.out A1 c1 w1 hr1.out).mono ?_; rintro e2 w2 ⟨hb, rfl, hst, hB2⟩; have hB12 := below_then hB1 hB2; replace hst := Lib.hid hst)
    | (go_at_call 15; refine (hrs.out w2 hB12).mono ?_; rintro e3 w3 ⟨v3, rfl, hFL, hB3⟩; obtain ⟨A3, c3, rfl, hf3⟩ := hFL.fr; rw [hnF.out]; have hB13 := Lib.hid (below_then hB12 hB3); clear hFL; replace hf3 := Lib.hid hf3; replace hst := Lib.hid (hst.out.keep hB3)))
  clear hr1 ho1 hB1 hB2 hB3 hB12
  have hnx := Lib.hid (fun key W (hW : Below w3.heap.size w3 W) => next_any how F key hb W (hst.out.keep hW) hfo.out)
  have hrn := Lib.hid (fun key W (hW : Below w3.heap.size w3 W) => rnext_any how F key A3 c3 W (hf3.out.keep hW) (by rw [hnF.out]; unfold maxLen; omega))
  have hmo := Lib.hid (fun key s W (hW : Below w3.heap.size w3 W) => most_any how F key s hb W (hst.out.keep hW) hfo.out)
  have hcv := Lib.hid (fun u m kd s W (hW : Below w3.heap.size w3 W) => covers_any how F u m kd s hb W (hst.out.keep hW) hfo.out)
  have hwh := Lib.hid (fun b e lo s (h : 0 ≤ lo) W (hW : Below w3.heap.size w3 W) => (whole_any how F b e lo s hb W (hst.out.keep hW) hfo.out).mono (R' := fun ee w' => ee = .returned (.bool (wholeR how e lo s F b)) ∧ Below W.heap.size W w') (fun ee w' ⟨k, hk, he, hB⟩ => ⟨by rw [he, whole_at h hfo.out hk], hB⟩))
  have hrw := Lib.hid (fun b e lo s W (hW : Below w3.heap.size w3 W) => rwhole_any how F b e lo s A3 c3 W (hf3.out.keep hW) (by rw [hnF.out]; unfold maxLen; omega) (fun f hf => by have := hfo.out.qlen f hf; unfold maxLen; omega))
  have hcu := Lib.hid (fun b e W (hW : Below w3.heap.size w3 W) => cutset_any how F b e hb W (hst.out.keep hW) (by rw [hnF.out]; exact hFl) hsu.out)
  have hrcu := Lib.hid (fun b e W (hW : Below w3.heap.size w3 W) => rcut_any how F b e A3 c3 W (hf3.out.keep hW) (by rw [hnF.out]; exact hFl) hsu.out)
  rw [hnF.out] at hrn hrw hrcu
  go_loopw [11] (fun vi wr => ∃ i : Nat, i ≤ nK ∧ vi = .int .i64 i ∧ Below w3.heap.size w3 wr) (fun vi _ => nK - (intOf vi).toNat)
  case atStart => exact ⟨0, Nat.zero_le _, rfl, Below.refl _ _⟩
  case round =>
    obtain ⟨i, hi, rfl, hB⟩ := hrel
    obtain ⟨wo, hwo⟩ : ∃ wo, wo = wr := ⟨_, rfl⟩
    subst hwo
    by_cases hlt : i < nK
    · obtain ⟨a, ha⟩ : ∃ a, qs[i]? = some a := ⟨_, List.getElem?_eq_getElem (by have := hnK.out; omega)⟩
      have hkw := hk.out.keep (below_then hB13.out hB)
      obtain ⟨g, o, rfl, -⟩ := hk.out.2 (by omega)
      rw [← hnK.out] at hkw
      have e0 : wo.cell? ⟨g, o + i * 7, none⟩ = some (.string a.b) := hkw.elem ac_len ha (j := 0) rfl
      have e1 : wo.cell? ⟨g, o + i * 7 + 1, none⟩ = some (.string a.e) := hkw.elem ac_len ha (j := 1) rfl
      have e2 : wo.cell? ⟨g, o + i * 7 + 2, none⟩ = some (.string a.u) := hkw.elem ac_len ha (j := 2) rfl
      have e3 : wo.cell? ⟨g, o + i * 7 + 3, none⟩ = some (.int .u64 a.ks) := hkw.elem ac_len ha (j := 3) rfl
      have e4 : wo.cell? ⟨g, o + i * 7 + 4, none⟩ = some (.int .i64 a.kd) := hkw.elem ac_len ha (j := 4) rfl
      have e5 : wo.cell? ⟨g, o + i * 7 + 5, none⟩ = some (.int .u64 a.lo) := hkw.elem ac_len ha (j := 5) rfl
      have e6 : wo.cell? ⟨g, o + i * 7 + 6, none⟩ = some (.int .u64 a.s) := hkw.elem ac_len ha (j := 6) rfl
      have hap := hka.out a (List.mem_of_getElem? ha)
      obtain ⟨ab, ae, au, aks, akd, alo, sq⟩ := a
      simp only at e0 e1 e2 e3 e4 e5 e6 hap
      have i0 : (0 : Int) ≤ (i : Int) := by omega
      have i1 : (i : Int) < (nK : Int) := by omega
      obtain ⟨w5, hw5⟩ : ∃ w5, wo.alloc (.cells #[.string ab, .string ae, .string au, .int .u64 aks, .int .i64 akd, .int .u64 alo, .int .u64 sq] 56) = w5 := ⟨_, rfl⟩
      have hB5 : Below wo.heap.size wo w5 := by rw [← hw5]; exact (Below.refl _ _).alloc (Nat.le_refl _) _
      have b5 : Bl w5 wo.heap.size (.cells #[.string ab, .string ae, .string au, .int .u64 aks, .int .i64 akd, .int .u64 alo, .int .u64 sq] 56 (0, 0)) := by rw [← hw5]; exact Bl.new' rfl
      obtain ⟨xb, hxb⟩ : ∃ xb, wo.heap.size = xb := ⟨_, rfl⟩
      rw [hxb] at b5
      have hx := Lib.hid (fun W (hW : Below w5.heap.size w5 W) => (⟨(b5.keep hW).cell 0, (b5.keep hW).cell 1, (b5.keep hW).cell 2, (b5.keep hW).cell 3, (b5.keep hW).cell 4, (b5.keep hW).cell 5, (b5.keep hW).cell 6⟩ : W.cell? ⟨xb, 0, none⟩ = some (.string ab) ∧ W.cell? ⟨xb, 1, none⟩ = some (.string ae) ∧ W.cell? ⟨xb, 2, none⟩ = some (.string au) ∧ W.cell? ⟨xb, 3, none⟩ = some (.int .u64 aks) ∧ W.cell? ⟨xb, 4, none⟩ = some (.int .i64 akd) ∧ W.cell? ⟨xb, 5, none⟩ = some (.int .u64 alo) ∧ W.cell? ⟨xb, 6, none⟩ = some (.int .u64 sq)))
      have hB35' : Below w3.heap.size w3 w5 := below_then hB hB5
      have hB35 := Lib.hid (fun W (hW : Below w5.heap.size w5 W) => below_then hB35' hW)
      have hB05 := Lib.hid (fun W (hW : Below w5.heap.size w5 W) => below_then hB13.out (below_then hB35' hW))
      obtain ⟨x0, x1, x2, x3, x4, x5, x6⟩ := hx.out w5 (Below.refl _ _)
      have hBx := Lib.hid (Below.refl w5.heap.size w5)
      -- the answers
      have a1 := Lib.hid (fun W (hW : Below w5.heap.size w5 W) => hnx.out au W (hB35.out W hW))
      have a2 := Lib.hid (fun W (hW : Below w5.heap.size w5 W) => hrn.out au W (hB35.out W hW))
      have a3 := Lib.hid (fun W (hW : Below w5.heap.size w5 W) => hmo.out au sq W (hB35.out W hW))
      have a4 := Lib.hid (fun W (hW : Below w5.heap.size w5 W) => hrm.out au sq W (hB05.out W hW))
      have a5 := Lib.hid (fun W (hW : Below w5.heap.size w5 W) => hcv.out au aks akd sq W (hB35.out W hW))
      have a6 := Lib.hid (fun W (hW : Below w5.heap.size w5 W) => hrc.out au aks akd sq W (hB05.out W hW))
      have a7 := Lib.hid (fun W (hW : Below w5.heap.size w5 W) => hwh.out ab ae alo sq hap.2 W (hB35.out W hW))
      have a8 := Lib.hid (fun W (hW : Below w5.heap.size w5 W) => hrw.out ab ae alo sq W (hB35.out W hW))
      have a9 := Lib.hid (fun W (hW : Below w5.heap.size w5 W) => hcu.out ab ae W (hB35.out W hW))
      have a10 := Lib.hid (fun W (hW : Below w5.heap.size w5 W) => hrcu.out ab ae W (hB35.out W hW))
      rw [← hml.out au sq] at a4
      rw [hcl.out au sq aks hap.1] at a6
      have hin := Lib.hid (hci.out ab ae au sq)
      have hot := Lib.hid (hco.out ab ae au sq)
      rw [← hml.out au sq] at hin
      have htl : (tombsF (cutF how ab ae F)).length ≤ 1048576 := by rw [tombsF_len]; exact Nat.le_trans (cutF_sum how ab ae F) hsu.out
      obtain ⟨T, hT⟩ : ∃ T, tombsF (cutF how ab ae F) = T := ⟨_, rfl⟩
      rw [hT] at a9 a10 hin hot htl
      have hts := Lib.hid (fun A A' c c' W h h' => tombs_same T A A' c c' W h h' (by unfold maxLen; omega))
      have hmt := Lib.hid (fun A c W h => rmost_any how T au sq A c W h (by unfold maxLen; omega))
      obtain ⟨nT, hnT⟩ : ∃ nT, T.length = nT := ⟨_, rfl⟩
      rw [hnT] at a9 a10 hts hmt htl
      obtain ⟨⟨ns, nb⟩, hNX⟩ : ∃ z, nextS how F au = z := ⟨_, rfl⟩
      rw [hNX] at a1 a2
      obtain ⟨v, hv⟩ : ∃ v, uptoQ (overQ how F au) sq = v := ⟨_, rfl⟩
      rw [hv] at a3 a4 a5 a6 hin
      obtain ⟨bC, hbC⟩ : ∃ b, decide (aks < v) = b := ⟨_, rfl⟩
      rw [hbC] at a5 a6
      obtain ⟨bW, hbW⟩ : ∃ b, wholeR how ae alo sq F ab = b := ⟨_, rfl⟩
      rw [hbW] at a7 a8
      have cm1 := Lib.hid (hcmp.out ab au)
      have cm2 := Lib.hid (hcmp.out au ae)
      obtain ⟨y1, hy1⟩ : ∃ y, cmpH how ab au = y := ⟨_, rfl⟩
      obtain ⟨y2, hy2⟩ : ∃ y, cmpH how au ae = y := ⟨_, rfl⟩
      rw [hy1] at cm1 hin hot
      rw [hy2] at cm2 hin hot
      obtain ⟨mT, hmT⟩ : ∃ m, mostR how T au sq = m := ⟨_, rfl⟩
      rw [hmT] at hmt hin hot
      replace hw5 := Lib.hid hw5
      replace hxb := Lib.hid hxb
      replace hB := Lib.hid hB
      clear b5 hB5 hB35' hkw ha hT hnT hNX hv hbC hbW hy1 hy2 hmT
      go_upto_region 11 with fail
      rw [hw5.out]
      simp only [hxb.out]
      clear e0 e1 e2 e3 e4 e5 e6
      go_upto_region 13 with (first
        | (go_at_call 20; (with_reducible refine (a1.out _ hBx.out).mono ?_); rintro e9 w9 ⟨rfl, hB9⟩; clear x0 x1 x2 x3 x4 x5 x6; replace hBx := Lib.hid (below_then hBx.out hB9); obtain ⟨x0, x1, x2, x3, x4, x5, x6⟩ := hx.out _ hBx.out; clear hB9)
        | (go_at_call 21; (with_reducible refine (a2.out _ hBx.out).mono ?_); rintro e9 w9 ⟨rfl, rfl⟩))
      obtain ⟨w6, hw6⟩ : ∃ w6, w6 = w9 := ⟨_, rfl⟩
      subst hw6
      have hcells := fun W (hW : Below w6.heap.size w6 W) => hx.out W (below_then hBx.out hW)
      replace hcells := Lib.hid hcells
      simp only [List.append]
      refine wp_region_below (by kernel_rfl) (by kernel_rfl) ?_
      repeat (first
        | go_big_quiet_skip
        | (refine wpQuiet_step (fun K hK => ?_); go_simp; refine ⟨_, fun W hW => rfl, hK _ ?_⟩; clear hK K)
        | (refine wpQuiet_step (fun K hK => ?_); go_simp; apply Exists.intro; refine ⟨fun W hW => ?_, hK _ ?_⟩; ((first | (go_at_call 14; exact quiet_below hW (a3.out W (below_then hBx.out hW))) | (go_at_call 22; exact quiet_below hW (a4.out W (below_then hBx.out hW))) | (go_at_call 23; exact quiet_below hW (a5.out W (below_then hBx.out hW))) | (go_at_call 24; exact quiet_below hW (a6.out W (below_then hBx.out hW))) | (go_at_call 25; exact quiet_below hW (a7.out W (below_then hBx.out hW))) | (go_at_call 26; exact quiet_same hW (a8.out W (below_then hBx.out hW))))); clear hK K)
        | (refine wpQuiet_step (fun K hK => ?_); go_simp; apply Exists.intro; refine ⟨fun W hW => ?_, hK _ ?_⟩; (obtain ⟨z0, z1, z2, z3, z4, z5, z6⟩ := hcells.out W hW; go_simp; rfl); clear hK K))
      refine wpQuiet_nil ?_
      intro wq hBq
      clear x0 x1 x2 x3 x4 x5 x6
      replace hBx := Lib.hid (below_then hBx.out hBq)
      obtain ⟨x0, x1, x2, x3, x4, x5, x6⟩ := hx.out _ hBx.out
      clear hcells hBq
      have hzc3 := Lib.hid (hB35.out _ hBx.out).size
      obtain ⟨w7, hw7⟩ : ∃ w7, w7 = wq := ⟨_, rfl⟩
      subst hw7
      go_upto_region 18 with (first
        | (go_at_call 27; refine (a9.out _ hBx.out).mono ?_; rintro e9 wA ⟨v5, rfl, ho5, hB9⟩; obtain ⟨A5, c5, rfl, hr5, -⟩ := ho5.shape; clear x0 x1 x2 x3 x4 x5 x6; replace hBx := Lib.hid (below_then hBx.out hB9); obtain ⟨x0, x1, x2, x3, x4, x5, x6⟩ := hx.out _ hBx.out; replace ho5 := Lib.hid ho5; replace hr5 := Lib.hid hr5; clear hB9)
        | (go_at_call 28; refine (a10.out _ hBx.out).mono ?_; rintro e9 wB ⟨v6, rfl, ho6, hB9⟩; obtain ⟨A6, c6, rfl, hr6, -⟩ := ho6.shape; clear x0 x1 x2 x3 x4 x5 x6; replace hBx := Lib.hid (below_then hBx.out hB9); obtain ⟨x0, x1, x2, x3, x4, x5, x6⟩ := hx.out _ hBx.out; replace ho5 := Lib.hid (ho5.out.keep hB9); replace hr5 := Lib.hid (hr5.out.keep hB9); clear ho6; replace hr6 := Lib.hid hr6; clear hB9)
        | (go_at_call 19; refine (hts.out A5 A6 c5 c6 _ hr5.out hr6.out).mono ?_; rintro e9 wC ⟨rfl, hB9⟩; clear x0 x1 x2 x3 x4 x5 x6; replace hBx := Lib.hid (below_then hBx.out hB9); obtain ⟨x0, x1, x2, x3, x4, x5, x6⟩ := hx.out _ hBx.out; replace ho5 := Lib.hid (ho5.out.keep hB9); replace hr5 := Lib.hid (hr5.out.keep hB9); clear hr6; clear hB9))
      obtain ⟨zc, hzc⟩ : ∃ zc, w7.heap.size = zc := ⟨_, rfl⟩
      rw [hzc] at ho5 hzc3
      replace hzc := Lib.hid hzc
      clear a1 a2 a4 a5 a6 a7 a8 a9 a10
      by_cases hy1 : y1 ≤ 0
      · have d1 : decide (y1 ≤ 0) = true := decide_eq_true hy1
        by_cases hy2 : y2 < 0
        · have d2 : decide (y2 < 0) = true := decide_eq_true hy2
          have hmv := hin.out ⟨hy1, hy2⟩
          subst hmv
          clear hin hot
          go_upto_region 23 with (first
            | (go_at_call 11; (with_reducible refine (cm1.out _).mono ?_); rintro e9 w9 ⟨rfl, rfl⟩)
            | (go_at_call 11; (with_reducible refine (cm2.out _).mono ?_); rintro e9 w9 ⟨rfl, rfl⟩)
            | (go_at_call 22; (with_reducible refine (hmt.out A5 c5 _ hr5.out).mono ?_); rintro e9 wD ⟨rfl, hB9⟩; clear x0 x1 x2 x3 x4 x5 x6; replace hBx := Lib.hid (below_then hBx.out hB9); obtain ⟨x0, x1, x2, x3, x4, x5, x6⟩ := hx.out _ hBx.out; replace ho5 := Lib.hid (ho5.out.keep hB9); replace hr5 := Lib.hid (hr5.out.keep hB9); clear hB9)
            | (go_at_call 14; (with_reducible refine (a3.out _ hBx.out).mono ?_); rintro e9 wE ⟨rfl, hB9⟩; clear x0 x1 x2 x3 x4 x5 x6; replace hBx := Lib.hid (below_then hBx.out hB9); obtain ⟨x0, x1, x2, x3, x4, x5, x6⟩ := hx.out _ hBx.out; replace ho5 := Lib.hid (ho5.out.keep hB9); replace hr5 := Lib.hid (hr5.out.keep hB9); clear hB9))
          go_loopw [20] (fun vi wr => ∃ (k : Nat) (xs : List Value), k ≤ nT ∧ vi = .int .i64 k ∧ OW wr zc 3 (.slice A5 nT c5) nT xs ∧ Below w3.heap.size w3 wr) (fun vi _ => nT - (intOf vi).toNat)
          case atStart => exact ⟨0, _, Nat.zero_le _, rfl, ho5.out, hB35.out _ hBx.out⟩
          case round =>
            clear hBx x0 x1 x2 x3 x4 x5 x6
            obtain ⟨k, xs, hk, rfl, ho, hBr⟩ := hrel
            by_cases hkl : k < nT
            · obtain ⟨g, o, rfl, -⟩ := ho.rd.2 (by omega)
              have hlt := ho.lt g rfl
              have hcap := ho.capLe
              obtain ⟨z0, z1⟩ := ho.free (j := k * 3) (by omega)
              obtain ⟨z2, z3⟩ := ho.free (j := k * 3 + 1) (by omega)
              obtain ⟨z4, z5⟩ := ho.free (j := k * 3 + 2) (by omega)
              obtain ⟨y0, hy0⟩ := Option.isSome_iff_exists.1 z0
              obtain ⟨y1, hy1⟩ := Option.isSome_iff_exists.1 z2
              obtain ⟨y2, hy2⟩ := Option.isSome_iff_exists.1 z4
              have d0 : wr.cell? ⟨g, o + k * 3, none⟩ = some y0 := hy0
              have d1 : wr.cell? ⟨g, o + k * 3 + 1, none⟩ = some y1 := by rw [Nat.add_assoc]; exact hy1
              have d2 : wr.cell? ⟨g, o + k * 3 + 2, none⟩ = some y2 := by rw [Nat.add_assoc]; exact hy2
              have f0 : wr.frozen? ⟨g, o + k * 3, none⟩ = false := z1
              have f1 : wr.frozen? ⟨g, o + k * 3 + 1, none⟩ = false := by rw [Nat.add_assoc]; exact z3
              have f2 : wr.frozen? ⟨g, o + k * 3 + 2, none⟩ = false := by rw [Nat.add_assoc]; exact z5
              have k0 : (0 : Int) ≤ (k : Int) := by omega
              have k1 : (k : Int) < (nT : Int) := by omega
              have hgl := hzc3.out
              have hnew := ((ho.setAt (j := k * 3) (by omega) (.string .empty)).setAt (j := k * 3 + 1) (by omega) (.string .empty)).setAt (j := k * 3 + 2) (by omega) (.int .u64 0)
              rw [← Nat.add_assoc, ← Nat.add_assoc] at hnew
              have hBn := ((hBr.setCell (p := ⟨g, o + k * 3, none⟩) (by simp only; omega) (.string .empty)).setCell (p := ⟨g, o + k * 3 + 1, none⟩) (by simp only; omega) (.string .empty)).setCell (p := ⟨g, o + k * 3 + 2, none⟩) (by simp only; omega) (.int .u64 0)
              replace hnew := Lib.hid hnew
              replace hBn := Lib.hid hBn
              clear z0 z1 z2 z3 z4 z5 hy0 hy1 hy2 ho hBr hlt hcap
              go_wp2_with fail
              go_roundw
              case measure => simp only [intOf]; omega
              case rel => exact ⟨k + 1, _, by omega, by go_num, hnew.out, hBn.out⟩
            · obtain rfl : k = nT := by omega
              replace ho := Lib.hid ho
              go_wp2_with fail
              go_roundw
              case measure => simp only [intOf]; omega
              case rel => exact ⟨i + 1, by omega, by go_num, hBr⟩
        · have d2 : decide (y2 < 0) = false := decide_eq_false hy2
          have hmv := hot.out (fun h => hy2 h.2)
          subst hmv
          clear hin hot
          go_upto_region 23 with (first
            | (go_at_call 11; (with_reducible refine (cm1.out _).mono ?_); rintro e9 w9 ⟨rfl, rfl⟩)
            | (go_at_call 11; (with_reducible refine (cm2.out _).mono ?_); rintro e9 w9 ⟨rfl, rfl⟩)
            | (go_at_call 22; (with_reducible refine (hmt.out A5 c5 _ hr5.out).mono ?_); rintro e9 wD ⟨rfl, hB9⟩; clear x0 x1 x2 x3 x4 x5 x6; replace hBx := Lib.hid (below_then hBx.out hB9); obtain ⟨x0, x1, x2, x3, x4, x5, x6⟩ := hx.out _ hBx.out; replace ho5 := Lib.hid (ho5.out.keep hB9); replace hr5 := Lib.hid (hr5.out.keep hB9); clear hB9)
            | (go_at_call 14; (with_reducible refine (a3.out _ hBx.out).mono ?_); rintro e9 wE ⟨rfl, hB9⟩; clear x0 x1 x2 x3 x4 x5 x6; replace hBx := Lib.hid (below_then hBx.out hB9); obtain ⟨x0, x1, x2, x3, x4, x5, x6⟩ := hx.out _ hBx.out; replace ho5 := Lib.hid (ho5.out.keep hB9); replace hr5 := Lib.hid (hr5.out.keep hB9); clear hB9))
          go_loopw [20] (fun vi wr => ∃ (k : Nat) (xs : List Value), k ≤ nT ∧ vi = .int .i64 k ∧ OW wr zc 3 (.slice A5 nT c5) nT xs ∧ Below w3.heap.size w3 wr) (fun vi _ => nT - (intOf vi).toNat)
          case atStart => exact ⟨0, _, Nat.zero_le _, rfl, ho5.out, hB35.out _ hBx.out⟩
          case round =>
            clear hBx x0 x1 x2 x3 x4 x5 x6
            obtain ⟨k, xs, hk, rfl, ho, hBr⟩ := hrel
            by_cases hkl : k < nT
            · obtain ⟨g, o, rfl, -⟩ := ho.rd.2 (by omega)
              have hlt := ho.lt g rfl
              have hcap := ho.capLe
              obtain ⟨z0, z1⟩ := ho.free (j := k * 3) (by omega)
              obtain ⟨z2, z3⟩ := ho.free (j := k * 3 + 1) (by omega)
              obtain ⟨z4, z5⟩ := ho.free (j := k * 3 + 2) (by omega)
              obtain ⟨y0, hy0⟩ := Option.isSome_iff_exists.1 z0
              obtain ⟨y1, hy1⟩ := Option.isSome_iff_exists.1 z2
              obtain ⟨y2, hy2⟩ := Option.isSome_iff_exists.1 z4
              have d0 : wr.cell? ⟨g, o + k * 3, none⟩ = some y0 := hy0
              have d1 : wr.cell? ⟨g, o + k * 3 + 1, none⟩ = some y1 := by rw [Nat.add_assoc]; exact hy1
              have d2 : wr.cell? ⟨g, o + k * 3 + 2, none⟩ = some y2 := by rw [Nat.add_assoc]; exact hy2
              have f0 : wr.frozen? ⟨g, o + k * 3, none⟩ = false := z1
              have f1 : wr.frozen? ⟨g, o + k * 3 + 1, none⟩ = false := by rw [Nat.add_assoc]; exact z3
              have f2 : wr.frozen? ⟨g, o + k * 3 + 2, none⟩ = false := by rw [Nat.add_assoc]; exact z5
              have k0 : (0 : Int) ≤ (k : Int) := by omega
              have k1 : (k : Int) < (nT : Int) := by omega
              have hgl := hzc3.out
              have hnew := ((ho.setAt (j := k * 3) (by omega) (.string .empty)).setAt (j := k * 3 + 1) (by omega) (.string .empty)).setAt (j := k * 3 + 2) (by omega) (.int .u64 0)
              rw [← Nat.add_assoc, ← Nat.add_assoc] at hnew
              have hBn := ((hBr.setCell (p := ⟨g, o + k * 3, none⟩) (by simp only; omega) (.string .empty)).setCell (p := ⟨g, o + k * 3 + 1, none⟩) (by simp only; omega) (.string .empty)).setCell (p := ⟨g, o + k * 3 + 2, none⟩) (by simp only; omega) (.int .u64 0)
              replace hnew := Lib.hid hnew
              replace hBn := Lib.hid hBn
              clear z0 z1 z2 z3 z4 z5 hy0 hy1 hy2 ho hBr hlt hcap
              go_wp2_with fail
              go_roundw
              case measure => simp only [intOf]; omega
              case rel => exact ⟨k + 1, _, by omega, by go_num, hnew.out, hBn.out⟩
            · obtain rfl : k = nT := by omega
              replace ho := Lib.hid ho
              go_wp2_with fail
              go_roundw
              case measure => simp only [intOf]; omega
              case rel => exact ⟨i + 1, by omega, by go_num, hBr⟩
      · have d1 : decide (y1 ≤ 0) = false := decide_eq_false hy1
        have hmv := hot.out (fun h => hy1 h.1)
        subst hmv
        clear hin hot
        go_upto_region 23 with (first
          | (go_at_call 11; (with_reducible refine (cm1.out _).mono ?_); rintro e9 w9 ⟨rfl, rfl⟩)
          | (go_at_call 11; (with_reducible refine (cm2.out _).mono ?_); rintro e9 w9 ⟨rfl, rfl⟩)
          | (go_at_call 22; (with_reducible refine (hmt.out A5 c5 _ hr5.out).mono ?_); rintro e9 wD ⟨rfl, hB9⟩; clear x0 x1 x2 x3 x4 x5 x6; replace hBx := Lib.hid (below_then hBx.out hB9); obtain ⟨x0, x1, x2, x3, x4, x5, x6⟩ := hx.out _ hBx.out; replace ho5 := Lib.hid (ho5.out.keep hB9); replace hr5 := Lib.hid (hr5.out.keep hB9); clear hB9)
          | (go_at_call 14; (with_reducible refine (a3.out _ hBx.out).mono ?_); rintro e9 wE ⟨rfl, hB9⟩; clear x0 x1 x2 x3 x4 x5 x6; replace hBx := Lib.hid (below_then hBx.out hB9); obtain ⟨x0, x1, x2, x3, x4, x5, x6⟩ := hx.out _ hBx.out; replace ho5 := Lib.hid (ho5.out.keep hB9); replace hr5 := Lib.hid (hr5.out.keep hB9); clear hB9))
        go_loopw [20] (fun vi wr => ∃ (k : Nat) (xs : List Value), k ≤ nT ∧ vi = .int .i64 k ∧ OW wr zc 3 (.slice A5 nT c5) nT xs ∧ Below w3.heap.size w3 wr) (fun vi _ => nT - (intOf vi).toNat)
        case atStart => exact ⟨0, _, Nat.zero_le _, rfl, ho5.out, hB35.out _ hBx.out⟩
        case round =>
          clear hBx x0 x1 x2 x3 x4 x5 x6
          obtain ⟨k, xs, hk, rfl, ho, hBr⟩ := hrel
          by_cases hkl : k < nT
          · obtain ⟨g, o, rfl, -⟩ := ho.rd.2 (by omega)
            have hlt := ho.lt g rfl
            have hcap := ho.capLe
            obtain ⟨z0, z1⟩ := ho.free (j := k * 3) (by omega)
            obtain ⟨z2, z3⟩ := ho.free (j := k * 3 + 1) (by omega)
            obtain ⟨z4, z5⟩ := ho.free (j := k * 3 + 2) (by omega)
            obtain ⟨y0, hy0⟩ := Option.isSome_iff_exists.1 z0
            obtain ⟨y1, hy1⟩ := Option.isSome_iff_exists.1 z2
            obtain ⟨y2, hy2⟩ := Option.isSome_iff_exists.1 z4
            have d0 : wr.cell? ⟨g, o + k * 3, none⟩ = some y0 := hy0
            have d1 : wr.cell? ⟨g, o + k * 3 + 1, none⟩ = some y1 := by rw [Nat.add_assoc]; exact hy1
            have d2 : wr.cell? ⟨g, o + k * 3 + 2, none⟩ = some y2 := by rw [Nat.add_assoc]; exact hy2
            have f0 : wr.frozen? ⟨g, o + k * 3, none⟩ = false := z1
            have f1 : wr.frozen? ⟨g, o + k * 3 + 1, none⟩ = false := by rw [Nat.add_assoc]; exact z3
            have f2 : wr.frozen? ⟨g, o + k * 3 + 2, none⟩ = false := by rw [Nat.add_assoc]; exact z5
            have k0 : (0 : Int) ≤ (k : Int) := by omega
            have k1 : (k : Int) < (nT : Int) := by omega
            have hgl := hzc3.out
            have hnew := ((ho.setAt (j := k * 3) (by omega) (.string .empty)).setAt (j := k * 3 + 1) (by omega) (.string .empty)).setAt (j := k * 3 + 2) (by omega) (.int .u64 0)
            rw [← Nat.add_assoc, ← Nat.add_assoc] at hnew
            have hBn := ((hBr.setCell (p := ⟨g, o + k * 3, none⟩) (by simp only; omega) (.string .empty)).setCell (p := ⟨g, o + k * 3 + 1, none⟩) (by simp only; omega) (.string .empty)).setCell (p := ⟨g, o + k * 3 + 2, none⟩) (by simp only; omega) (.int .u64 0)
            replace hnew := Lib.hid hnew
            replace hBn := Lib.hid hBn
            clear z0 z1 z2 z3 z4 z5 hy0 hy1 hy2 ho hBr hlt hcap
            go_wp2_with fail
            go_roundw
            case measure => simp only [intOf]; omega
            case rel => exact ⟨k + 1, _, by omega, by go_num, hnew.out, hBn.out⟩
          · obtain rfl : k = nT := by omega
            replace ho := Lib.hid ho
            go_wp2_with fail
            go_roundw
            case measure => simp only [intOf]; omega
            case rel => exact ⟨i + 1, by omega, by go_num, hBr⟩
    · obtain rfl : i = nK := by omega
      replace hB := Lib.hid hB
      go_wp2_with (first
        | (go_at_call 29; refine (hfg.out hb _ (hst.out.keep hB.out)).mono ?_; rintro e4 w4 ⟨A4, c4, rfl, hf4, hB4⟩; have hB34 := below_then hB.out hB4; replace hf4 := Lib.hid hf4)
        | (go_at_call 18; refine (hfr.out A4 A3 c4 c3 w4 hf4.out (hf3.out.keep hB34)).mono ?_; rintro e5 w5 ⟨rfl, hB5⟩; have hB35 := below_then hB34 hB5)
        | (go_at_call 10; refine (lives_any _).mono ?_; rintro e6 w6 ⟨rfl, hB6⟩))
      go_ret
      exact ⟨rfl, below_then hB13.out (below_then hB35 hB6)⟩
theorem sets_walk (how : Int) (p pk : Option Addr) (c ck : Nat) (l : List Tb) (qs : List Ak) (w : World) (hl : l.length * 40 ≤ 140737488351232) (hr : Rd w 3 p l.length (l.flatMap tc)) (hs : ∀ t ∈ l, (t.b.size ≤ maxLen ∧ t.e.size ≤ maxLen) ∧ 0 ≤ t.s) (hk : Rd w 7 pk qs.length (qs.flatMap ac)) (hkl : qs.length ≤ maxLen) (hka : ∀ a ∈ qs, 0 ≤ a.ks ∧ 0 ≤ a.lo) :
    Calls Try.prog 6 #[.int .i64 how, .slice p l.length c, .slice pk qs.length ck] w fun e w' => e = .returned (.bool true) ∧ Below w.heap.size w w' := by
  by_cases hc : chkT how l = 0
  · exact sets_yes how p pk c ck l qs w hr hs hc (chkT_ok.1 hc).2.1 hk hkl hka
  · exact sets_no how p pk c ck qs.length l w hl hr (fun t ht => (hs t ht).1) (by rw [beq_eq_false_iff_ne]; exact hc)
end Go.Proofs.Ytmopjoeomjdikaa
