/- RangedelApart walked. Conditions: what each theorem names. -/
import Derived.RangeFuncNested
import Derived.RangeFuncBound
import Derived.RangeFuncCalls
import Derived.RangeFuncLeaves
import Derived.Shelf.Abstract
import Derived.Shelf.RegionOpen
import Derived.WalkKit
import Derived.OwnWalkIn
import Derived.TacticsInMore
import Derived.LoopNIn
import Derived.LoopIn
import Derived.Lib.Hide
import Derived.Outline
import Derived.RegionTactic
import Derived.BigRegion
import Derived.WalkLawsBesides
import Derived.WalkSpells
import Derived.Deep.QuietTactic
import Derived.BigQuiet
import Derived.Deep.RegionHeld3
import Derived.Deep.DeepCutAuto
import Derived.Deep.CutBlock
import Derived.StillTailTactics
import Derived.WalkSmall
import Derived.Test.YtmopjoeomjdikaaRgH
namespace Go.Proofs.Ytmopjoeomjdikaa
open Go.RowKit Go.Sed Go.Sort
set_option maxHeartbeats 2000000
set_option maxRecDepth 100000
theorem take_any {α : Type} (p : α → Bool) (l : List α) (k : Nat) (a : α) (h : l[k]? = some a) : (l.take (k + 1)).any p = ((l.take k).any p || p a) := by
  rw [List.take_add_one, h, List.any_append]
  simp
theorem apart_no (how : Int) (p pk : Option Addr) (c ck nk : Nat) (l : List Tb) (w : World) (hl : l.length * 40 ≤ 140737488351232) (hr : Rd w 3 p l.length (l.flatMap tc)) (hs : ∀ t ∈ l, t.b.size ≤ maxLen ∧ t.e.size ≤ maxLen) (hc : (chkT how l == 0) = false) :
    Calls Try.prog 3 #[.int .i64 how, .slice p l.length c, .slice pk nk ck] w fun e w' => e = .returned (.bool true) ∧ Below w.heap.size w w' := by
  have hlm : l.length ≤ maxLen := by unfold maxLen; omega
  have hcp := Lib.hid (copied_any l p c w hr hl)
  have hsp := Lib.hid (fun A c W (hW : Rd W 3 A l.length (l.flatMap tc)) => split_no how l A c W hW hs hlm hc)
  have hck := Lib.hid (fun W (hW : Below w.heap.size w W) => rcheck_any how l p c W (hr.keep hW) hs hlm)
  obtain ⟨n, hn⟩ : ∃ n, l.length = n := ⟨_, rfl⟩
  obtain ⟨e, he⟩ : ∃ e, chkT how l = e := ⟨_, rfl⟩
  rw [hn] at hcp hsp hck ⊢
  rw [he] at hsp hck hc
  have hne : (e != 0) = true := by simp [bne, hc]
  have hee : (e == e) = true := by simp
  clear hr hs hl hn he hlm
  go_enter Try.func3, Try.ntmps3
  go_wp2_with (first
    | (go_at_call 8; refine hcp.out.mono ?_; rintro e1 w1 ⟨r, rfl, ho1, hB1⟩; obtain ⟨A1, c1, rfl, hr1, -⟩ := ho1.shape; replace ho1 := Lib.hid ho1; replace hr1 := Lib.hid hr1)
    | (go_at_call 7; refine (hsp.out A1 c1 w1 hr1.out).mono ?_; rintro e2 w2 ⟨rfl, hB2⟩; have hB12 := below_then hB1 hB2)
    | (go_at_call 9; refine (hck.out w2 hB12).mono ?_; rintro e3 w3 ⟨rfl, hB3⟩)
    | (go_at_call 10; refine (lives_any w3).mono ?_; rintro e4 w4 ⟨rfl, hB4⟩))
  go_ret
  exact ⟨rfl, below_then hB12 (below_then hB3 hB4)⟩
theorem apart_yes (how : Int) (p pk : Option Addr) (c ck : Nat) (l : List Tb) (ks : List ByteArray) (w : World) (hr : Rd w 3 p l.length (l.flatMap tc)) (hs : ∀ t ∈ l, t.b.size ≤ maxLen ∧ t.e.size ≤ maxLen) (hc : chkT how l = 0) (hl : l.length ≤ 1024) (hk : Rd w 1 pk ks.length (stC ks)) (hkl : ks.length ≤ maxLen) :
    Calls Try.prog 3 #[.int .i64 how, .slice p l.length c, .slice pk ks.length ck] w fun e w' => e = .returned (.bool true) ∧ Below w.heap.size w w' := by
  have hcp := Lib.hid (copied_any l p c w hr (by omega))
  have hsp := Lib.hid (fun A c W (hW : Rd W 3 A l.length (l.flatMap tc)) => split_yes how l A c W hW hs hc hl)
  have hfo := split_fo how l hl
  have hin := Lib.hid (fun k => split_in (how := how) (l := l) (k := k))
  have hrc := Lib.hid (fun x y W => rcompare_any how x y W)
  have hov := Lib.hid (fun t k W => over_any how t k W)
  obtain ⟨F, hF⟩ : ∃ F, splitT how l = F := ⟨_, rfl⟩
  rw [hF] at hfo hin hsp
  replace hin := Lib.hid hin
  have hFl := hfo.len
  obtain ⟨n, hn⟩ : ∃ n, l.length = n := ⟨_, rfl⟩
  obtain ⟨nF, hnF⟩ : ∃ nF, F.length = nF := ⟨_, rfl⟩
  obtain ⟨nK, hnK⟩ : ∃ nK, ks.length = nK := ⟨_, rfl⟩
  rw [hn] at hcp hsp hr hl ⊢
  rw [hnK] at hk hkl ⊢
  rw [hnF] at hFl
  clear hs hc hF
  unfold maxLen at hkl
  replace hr := Lib.hid hr
  replace hk := Lib.hid hk
  replace hfo := Lib.hid hfo
  go_enter Try.func3, Try.ntmps3
  go_wp2_with (first
    | (go_at_call 8; refine hcp.out.mono ?_; rintro e1 w1 ⟨r, rfl, ho1, hB1⟩; obtain ⟨A1, c1, rfl, hr1, -⟩ := ho1.shape; replace ho1 := Lib.hid ho1; replace hr1 := Lib.hid hr1)
    | (go_at_call 7; refine (hsp.out A1 c1 w1 hr1.out).mono ?_; rintro e2 w2 ⟨v, rfl, hFL, hB2⟩; obtain ⟨A, cF, G, rfl, hG, hrG, -⟩ := hFL.shape; rw [hnF] at hrG ⊢; replace hrG := Lib.hid hrG; replace hG := Lib.hid hG; replace hFL := Lib.hid hFL; have hB12 := below_then hB1 hB2; replace hB12 := Lib.hid hB12; clear hB1 hB2 hr1 ho1))
  have hGl : G.length = nF := by rw [← hnF, ← hG.out, List.length_map]
  have hGF : ∀ (i : Nat) (q : Fg × Value), G[i]? = some q → F[i]? = some q.1 := fun i q h => by rw [← hG.out, List.getElem?_map, h]; rfl
  have hGc : ∀ (W : World) (hW : Below w2.heap.size w2 W) (i : Nat) (q : Fg × Value) (g o : Nat), A = some ⟨g, o, none⟩ → G[i]? = some q → W.cell? ⟨g, o + i * 3, none⟩ = some (.string q.1.b) ∧ W.cell? ⟨g, o + i * 3 + 1, none⟩ = some (.string q.1.e) := by
    intro W hW i q g o hA hq
    have h := hrG.out.keep hW
    subst hA
    rw [← hGl] at h
    exact ⟨h.elem fcs_len hq (j := 0) rfl, h.elem fcs_len hq (j := 1) rfl⟩
  replace hGl := Lib.hid hGl
  replace hGF := Lib.hid hGF
  replace hGc := Lib.hid hGc
  go_loopw [9] (fun vi wr => ∃ i : Nat, i ≤ nF ∧ vi = .int .i64 i ∧ Below w2.heap.size w2 wr) (fun vi _ => nF - (intOf vi).toNat)
  case atStart => exact ⟨0, Nat.zero_le _, rfl, Below.refl _ _⟩
  case round =>
    obtain ⟨i, hi, rfl, hB⟩ := hrel
    replace hB := Lib.hid hB
    by_cases hlt : i < nF
    · obtain ⟨q, hq⟩ : ∃ q, G[i]? = some q := ⟨_, List.getElem?_eq_getElem (by have := hGl.out; omega)⟩
      obtain ⟨g, o, rfl, -⟩ := hrG.out.2 (by omega)
      obtain ⟨e0, e1⟩ := hGc.out wr hB.out i q g o rfl hq
      have hqF := hGF.out i q hq
      have hne : cmpH how q.1.b q.1.e < 0 := hfo.out.ne q.1 (List.mem_of_getElem? hqF)
      have hcx := Lib.hid (fun W => hrc.out q.1.b q.1.e W)
      obtain ⟨x, hx⟩ : ∃ x, cmpH how q.1.b q.1.e = x := ⟨_, rfl⟩
      rw [hx] at hne hcx
      have d0 : decide (0 ≤ x) = false := decide_eq_false (by omega)
      replace hx := Lib.hid hx
      have hcx2 := Lib.hid (fun m => Calls.quiet_of_same ((hcx.out (wr.drewN m)).mono fun _ _ h => ⟨h.1, h.2.symm⟩))
      by_cases hi0 : i = 0
      · subst hi0
        have g0 : wr.cell? ⟨g, o, none⟩ = some (.string q.1.b) := by simpa using e0
        have g1 : wr.cell? ⟨g, o + 1, none⟩ = some (.string q.1.e) := by simpa using e1
        have g2 : (0 : Int) < (nF : Int) := by omega
        clear e0 e1
        go_upto_region 7 with fail
        go_quiet ((go_at_call 11; exact hcx2.out _))
        go_wp2_with fail
        go_roundw
        case measure => simp only [intOf]; omega
        case rel => exact ⟨1, by omega, by go_num, below_drewN hB.out _⟩
      · obtain ⟨j, rfl⟩ : ∃ j, i = j + 1 := ⟨i - 1, by omega⟩
        obtain ⟨r, hrr⟩ : ∃ r, G[j]? = some r := ⟨_, List.getElem?_eq_getElem (by have := hGl.out; omega)⟩
        obtain ⟨f0, f1⟩ := hGc.out wr hB.out j r g o rfl hrr
        have hup : cmpH how r.1.e q.1.b ≤ 0 := by
          have h1 := hGF.out j r hrr
          obtain ⟨a1, e1⟩ := List.getElem?_eq_some_iff.1 h1
          obtain ⟨a2, e2⟩ := List.getElem?_eq_some_iff.1 hqF
          have := List.pairwise_iff_getElem.1 hfo.out.up j (j + 1) a1 a2 (by omega)
          rw [e1, e2] at this
          exact this
        have hcy := Lib.hid (fun W => hrc.out r.1.e q.1.b W)
        obtain ⟨y, hy⟩ : ∃ y, cmpH how r.1.e q.1.b = y := ⟨_, rfl⟩
        rw [hy] at hup hcy
        have d1 : decide (0 < y) = false := decide_eq_false (by omega)
        replace hy := Lib.hid hy
        have hcy2 := Lib.hid (fun m => Calls.quiet_of_same ((hcy.out (wr.drewN m)).mono fun _ _ h => ⟨h.1, h.2.symm⟩))
        have j1 : IntKind.i64.wrap ((j : Int) + 1 - 1) = (j : Int) := by simp [IntKind.wrap, IntKind.bits, IntKind.signed]; omega
        have j2 : IntKind.i64.wrap (j : Int) = (j : Int) := by simp [IntKind.wrap, IntKind.bits, IntKind.signed]; omega
        have j3 : (0 : Int) ≤ (j : Int) := by omega
        have j4 : (j : Int) < (nF : Int) := by omega
        have j5 : (0 : Int) ≤ (j : Int) + 1 := by omega
        have j6 : (j : Int) + 1 < (nF : Int) := by omega
        have j7 : ((j : Int) + 1).toNat = j + 1 := by omega
        have j8 : decide ((0 : Int) < (j : Int) + 1) = true := decide_eq_true (by omega)
        clear f0 hqF hq hrr hi0
        go_upto_region 7 with fail
        go_quiet ((first
          | (go_at_call 11; with_reducible exact hcx2.out _)
          | (go_at_call 11; with_reducible exact hcy2.out _)))
        go_wp2_with fail
        go_roundw
        case measure => simp only [intOf]; omega
        case rel => exact ⟨j + 2, by omega, by go_num, below_drewN hB.out _⟩
    · obtain rfl : nF = i := by omega
      go_wp2_with fail
      go_loopw [10] (fun vi wr => ∃ j : Nat, j ≤ nK ∧ vi = .int .i64 j ∧ Below w2.heap.size w2 wr) (fun vi _ => nK - (intOf vi).toNat)
      case atStart => exact ⟨0, Nat.zero_le _, rfl, hB.out⟩
      case round =>
        clear hB
        obtain ⟨wo, hwo⟩ : ∃ wo, wo = wr := ⟨_, rfl⟩
        subst hwo
        obtain ⟨j, hj, rfl, hB⟩ := hrel
        replace hB := Lib.hid hB
        by_cases hlt : j < nK
        · obtain ⟨k, hkj⟩ : ∃ k, ks[j]? = some k := ⟨_, List.getElem?_eq_getElem (by omega)⟩
          obtain ⟨gk, ok, rfl, -⟩ := hk.out.2 (by omega)
          have hkc := Lib.hid (fun W (hW : Below w2.heap.size w2 W) => (show W.cell? ⟨gk, ok + j, none⟩ = some (.string k) from (hk.out.keep (hB12.out.trans (hW.mono hB12.out.size))).cellAt (by unfold stC; rw [List.getElem?_map, hkj]; rfl)))
          replace hkj := Lib.hid hkj
          go_wp2_with fail
          go_loopw [11, 13] (fun v11 vi wr => ∃ i : Nat, i ≤ nF ∧ vi = .int .i64 i ∧ v11 = .bool ((F.take i).any (inF how k)) ∧ Below w2.heap.size w2 wr) (fun _ vi _ => nF - (intOf vi).toNat)
          case atStart => exact ⟨0, Nat.zero_le _, rfl, rfl, hB.out⟩
          case round =>
            clear hB
            obtain ⟨i, hi, rfl, rfl, hB⟩ := hrel
            have e2 := hkc.out wr hB
            replace hB := Lib.hid hB
            by_cases hlt3 : i < nF
            · obtain ⟨q, hq⟩ : ∃ q, G[i]? = some q := ⟨_, List.getElem?_eq_getElem (by have := hGl.out; omega)⟩
              obtain ⟨g, o, rfl, -⟩ := hrG.out.2 (by omega)
              obtain ⟨e0, e1⟩ := hGc.out wr hB.out i q g o rfl hq
              have hta := Lib.hid (take_any (inF how k) F i q.1 (hGF.out i q hq))
              have i0 : (0 : Int) ≤ (i : Int) := by omega
              have i1 : (i : Int) < (nF : Int) := by omega
              have k0 : (0 : Int) ≤ (j : Int) := by omega
              have k1 : (j : Int) < (nK : Int) := by omega
              replace hq := Lib.hid hq
              obtain ⟨bI, hbI⟩ : ∃ bI, (F.take i).any (inF how k) = bI := ⟨_, rfl⟩
              rw [hbI] at hta ⊢
              replace hbI := Lib.hid hbI
              cases bI with
              | true =>
                go_upto_region 16 with fail
                go_quiet (fail)
                go_wp2_with fail
                go_roundw
                case measure => simp only [intOf]; omega
                case rel => exact ⟨i + 1, by omega, by go_num, by rw [hta.out, Bool.true_or], below_drewN hB.out _⟩
              | false =>
                have hcx := Lib.hid (fun W => hrc.out q.1.b k W)
                have hcy := Lib.hid (fun W => hrc.out k q.1.e W)
                have hI : inF how k q.1 = (decide (cmpH how q.1.b k ≤ 0) && decide (cmpH how k q.1.e < 0)) := rfl
                obtain ⟨x, hx⟩ : ∃ x, cmpH how q.1.b k = x := ⟨_, rfl⟩
                obtain ⟨y, hy⟩ : ∃ y, cmpH how k q.1.e = y := ⟨_, rfl⟩
                rw [hx] at hcx hI
                rw [hy] at hcy hI
                have hcx2 := Lib.hid (fun m => Calls.quiet_of_same ((hcx.out (wr.drewN m)).mono fun _ _ h => ⟨h.1, h.2.symm⟩))
                have hcy2 := Lib.hid (fun m => Calls.quiet_of_same ((hcy.out (wr.drewN m)).mono fun _ _ h => ⟨h.1, h.2.symm⟩))
                rw [hI, Bool.false_or] at hta
                clear hI
                replace hx := Lib.hid hx
                replace hy := Lib.hid hy
                by_cases hx0 : x ≤ 0
                · have d0 : decide (x ≤ 0) = true := decide_eq_true hx0
                  rw [d0, Bool.true_and] at hta
                  go_upto_region 16 with fail
                  go_quiet ((first
                    | (go_at_call 11; with_reducible exact hcx2.out _)
                    | (go_at_call 11; with_reducible exact hcy2.out _)))
                  go_wp2_with fail
                  go_roundw
                  case measure => simp only [intOf]; omega
                  case rel => exact ⟨i + 1, by omega, by go_num, by rw [hta.out], below_drewN hB.out _⟩
                · have d0 : decide (x ≤ 0) = false := decide_eq_false hx0
                  rw [d0, Bool.false_and] at hta
                  go_upto_region 16 with fail
                  go_quiet ((go_at_call 11; exact hcx2.out _))
                  go_wp2_with fail
                  go_roundw
                  case measure => simp only [intOf]; omega
                  case rel => exact ⟨i + 1, by omega, by go_num, by rw [hta.out], below_drewN hB.out _⟩
            · obtain rfl : nF = i := by omega
              rw [List.take_of_length_le (by omega)]
              have hin2 := hin.out k
              obtain ⟨bI, hbI⟩ : ∃ bI, F.any (inF how k) = bI := ⟨_, rfl⟩
              rw [hbI] at hin2 ⊢
              replace hin2 := Lib.hid hin2
              replace hbI := Lib.hid hbI
              clear e2
              go_wp2_with fail
              go_loopw [12, 14] (fun v12 vi wr => ∃ m : Nat, m ≤ n ∧ vi = .int .i64 m ∧ v12 = .bool ((l.take m).any (fun t => overT how t k)) ∧ Below w2.heap.size w2 wr) (fun _ vi _ => n - (intOf vi).toNat)
              case atStart => exact ⟨0, Nat.zero_le _, rfl, rfl, hB.out⟩
              case round =>
                clear hB
                obtain ⟨m, hm, rfl, rfl, hB⟩ := hrel
                have e2 := hkc.out wr hB
                have k0 : (0 : Int) ≤ (j : Int) := by omega
                have k1 : (j : Int) < (nK : Int) := by omega
                by_cases hlt4 : m < n
                · obtain ⟨t, ht⟩ : ∃ t, l[m]? = some t := ⟨_, List.getElem?_eq_getElem (by omega)⟩
                  have hrw := hr.out.keep (hB12.out.trans (hB.mono hB12.out.size))
                  obtain ⟨g, o, rfl, -⟩ := hr.out.2 (by omega)
                  rw [← hn] at hrw
                  obtain ⟨e0, e1, e3⟩ := Rd.tb hrw ht
                  have hta := Lib.hid (take_any (fun t => overT how t k) l m t ht)
                  have i0 : (0 : Int) ≤ (m : Int) := by omega
                  have i1 : (m : Int) < (n : Int) := by omega
                  clear hrw ht
                  have hcells : ∀ W, Below wr.heap.size wr W → W.cell? ⟨gk, ok + j, none⟩ = some (.string k) ∧ W.cell? ⟨g, o + m * 3, none⟩ = some (.string t.b) ∧ W.cell? ⟨g, o + m * 3 + 1, none⟩ = some (.string t.e) ∧ W.cell? ⟨g, o + m * 3 + 2, none⟩ = some (.int .u64 t.s) := fun W hW => ⟨cell_keep hW e2, cell_keep hW e0, cell_keep hW e1, cell_keep hW e3⟩
                  replace hB := Lib.hid hB
                  obtain ⟨bO, hbO⟩ : ∃ bO, (l.take m).any (fun t => overT how t k) = bO := ⟨_, rfl⟩
                  rw [hbO] at hta ⊢
                  replace hbO := Lib.hid hbO
                  cases bO with
                  | true =>
                    go_upto_region 20 with fail
                    go_quiet (fail)
                    go_wp2_with fail
                    go_roundw
                    case measure => simp only [intOf]; omega
                    case rel => exact ⟨m + 1, by omega, by go_num, by rw [hta.out, Bool.true_or], below_drewN hB.out _⟩
                  | false =>
                    rw [Bool.false_or] at hta
                    have hcO := Lib.hid (fun W => hov.out t k W)
                    obtain ⟨bT, hbT⟩ : ∃ bT, overT how t k = bT := ⟨_, rfl⟩
                    rw [hbT] at hcO hta
                    replace hbT := Lib.hid hbT
                    go_upto_region 20 with fail
                    go_region_held3 (fun w' => w'.cell? ⟨gk, ok + j, none⟩ = some (.string k) ∧ w'.cell? ⟨g, o + m * 3, none⟩ = some (.string t.b) ∧ w'.cell? ⟨g, o + m * 3 + 1, none⟩ = some (.string t.e) ∧ w'.cell? ⟨g, o + m * 3 + 2, none⟩ = some (.int .u64 t.s)) ((first | go_keep | (refine hcells _ ?_; first | exact hB3 | exact below_then (Below.refl _ _).drew hB3))) ((first
                      | (go_at_call 12; refine (hcO.out _).mono ?_; rintro e w3 ⟨rfl, hB3⟩; replace hB3 := below_then (Below.refl wr.heap.size wr).drew hB3)))
                    go_wp2_with fail
                    go_roundw
                    case measure => simp only [intOf]; omega
                    case rel => exact ⟨m + 1, by omega, by go_num, by rw [hta.out], below_then hB.out hB3⟩
                · obtain rfl : n = m := by omega
                  rw [List.take_of_length_le (by omega), ← hin2.out]
                  replace hB := Lib.hid hB
                  clear e2
                  have hbb : (bI != bI) = false := by cases bI <;> rfl
                  cases bI with
                  | true =>
                    go_wp2_with fail
                    go_roundw
                    case measure => simp only [intOf]; omega
                    case rel => exact ⟨j + 1, by omega, by go_num, hB.out⟩
                  | false =>
                    go_wp2_with fail
                    go_roundw
                    case measure => simp only [intOf]; omega
                    case rel => exact ⟨j + 1, by omega, by go_num, hB.out⟩
        · obtain rfl : nK = j := by omega
          go_wp2_with (first
            | (go_at_call 10; refine (lives_any _).mono ?_; rintro e4 w4 ⟨rfl, hB4⟩))
          go_ret
          exact ⟨rfl, below_then hB12.out (below_then hB.out hB4)⟩
theorem chkT_len {how : Int} {l : List Tb} (h : chkT how l = 0) : l.length ≤ 1024 := by
  unfold chkT at h
  split at h
  · cases h
  · split at h
    · cases h
    · omega
theorem apart_walk (how : Int) (p pk : Option Addr) (c ck : Nat) (l : List Tb) (ks : List ByteArray) (w : World) (hl : l.length * 40 ≤ 140737488351232) (hr : Rd w 3 p l.length (l.flatMap tc)) (hs : ∀ t ∈ l, t.b.size ≤ maxLen ∧ t.e.size ≤ maxLen) (hk : Rd w 1 pk ks.length (stC ks)) (hkl : ks.length ≤ maxLen) :
    Calls Try.prog 3 #[.int .i64 how, .slice p l.length c, .slice pk ks.length ck] w fun e w' => e = .returned (.bool true) ∧ Below w.heap.size w w' := by
  by_cases hc : chkT how l = 0
  · exact apart_yes how p pk c ck l ks w hr hs hc (chkT_len hc) hk hkl
  · exact apart_no how p pk c ck ks.length l w hl hr hs (by rw [beq_eq_false_iff_ne]; exact hc)
end Go.Proofs.Ytmopjoeomjdikaa
