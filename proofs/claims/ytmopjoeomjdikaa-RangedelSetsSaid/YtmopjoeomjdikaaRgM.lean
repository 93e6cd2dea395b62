/- What the document answers of tombstones and fragments, walked. Conditions: what each theorem names. -/
import Derived.RangeFuncNested
import Derived.RangeFuncBound
import Derived.RangeFuncCalls
import Derived.RangeFuncLeaves
import Derived.Shelf.Abstract
import Derived.Shelf.RegionOpen
import Derived.WalkKit
import Derived.OwnWalkIn
import Derived.TacticsInMore
import Derived.LoopNIn
import Derived.LoopIn
import Derived.Lib.Hide
import Derived.Outline
import Derived.RegionTactic
import Derived.BigRegion
import Derived.WalkLawsBesides
import Derived.WalkSpells
import Derived.Deep.QuietTactic
import Derived.BigQuiet
import Derived.Deep.RegionHeld3
import Derived.Deep.DeepCutAuto
import Derived.Deep.CutBlock
import Derived.StillTailTactics
import Derived.WalkSmall
import Derived.Test.YtmopjoeomjdikaaRgZ
import Derived.Test.YtmopjoeomjdikaaRgH
import Derived.Test.YtmopjoeomjdikaaQb
namespace Go.Proofs.Ytmopjoeomjdikaa
open Go.RowKit Go.Sed Go.Sort
set_option maxHeartbeats 2000000
set_option maxRecDepth 100000
theorem ST.fr {w : World} {hb : Nat} {how : Int} {F : List Fg} (h : ST w hb how F) : ∃ (A : Option Addr) (c : Nat), w.cell? ⟨hb, 0, none⟩ = some (.int .i64 how) ∧ w.cell? ⟨hb, 1, none⟩ = some (.slice A F.length c) ∧ FR w A F := by
  obtain ⟨A, c, G, h1, h2, h3, h4, h5⟩ := h
  exact ⟨A, c, h2, h3, G, h1, h4, h5⟩
theorem overQ_fall {how : Int} {F : List Fg} {key : ByteArray} (ho : FO how F) : (overQ how F key).length ≤ 1000000000000 ∧ (overQ how F key).Pairwise (fun x y => y < x) := by
  unfold overQ
  cases hf : F.find? (inF how key) with
  | none => exact ⟨Nat.zero_le _, List.Pairwise.nil⟩
  | some f =>
    have hm := List.mem_of_find?_eq_some hf
    have := ho.qlen f hm
    exact ⟨by simp only [Option.map_some, Option.getD_some]; omega, ho.fall f hm⟩
theorem covers_any (how : Int) (F : List Fg) (u : ByteArray) (m kd s : Int) (hb : Nat) (w : World) (h : ST w hb how F) (ho : FO how F) :
    Calls Try.prog 23 #[.pointer (some ⟨hb, 0, none⟩), .agg #[.string u, .int .u64 m, .int .i64 kd], .int .u64 s] w fun ee w' => ee = .returned (.bool (decide (m < uptoQ (overQ how F u) s))) ∧ Below w.heap.size w w' := by
  obtain ⟨w1, hw1⟩ : ∃ w1, w.alloc (.cells #[.string u, .int .u64 m, .int .i64 kd] 54) = w1 := ⟨_, rfl⟩
  have hB1 : Below w.heap.size w w1 := by rw [← hw1]; exact (Below.refl _ _).alloc (Nat.le_refl _) _
  have b1 : Bl w1 w.heap.size (.cells #[.string u, .int .u64 m, .int .i64 kd] 54 (0, 0)) := by rw [← hw1]; exact Bl.new' rfl
  have c0 : w1.cell? ⟨w.heap.size, 0, none⟩ = some (.string u) := b1.cell 0
  have c1 : w1.cell? ⟨w.heap.size, 1, none⟩ = some (.int .u64 m) := b1.cell 1
  have hq := overQ_fall (key := u) ho
  have hov := Lib.hid (fun W (hW : Below w1.heap.size w1 W) => over_set how F u hb W ((h.keep hB1).keep hW) ho)
  obtain ⟨Q, hQ⟩ : ∃ Q, overQ how F u = Q := ⟨_, rfl⟩
  rw [hQ] at hov hq ⊢
  have hup := Lib.hid (fun A c W (hW : Rd W 1 A Q.length (u64C Q)) => upto_any Q s c A W hW hq.1 hq.2)
  obtain ⟨z, hz⟩ : ∃ z, uptoQ Q s = z := ⟨_, rfl⟩
  rw [hz] at hup ⊢
  have hcells : ∀ W, Below w1.heap.size w1 W → W.cell? ⟨w.heap.size, 0, none⟩ = some (.string u) ∧ W.cell? ⟨w.heap.size, 1, none⟩ = some (.int .u64 m) := fun W hW => ⟨cell_keep hW c0, cell_keep hW c1⟩
  replace hw1 := Lib.hid hw1
  clear h ho hQ hq hz b1
  go_enter Try.func23, Try.ntmps23
  go_upto_region 1 with fail
  rw [hw1.out]
  go_region_held3 (fun w' => w'.cell? ⟨w.heap.size, 0, none⟩ = some (.string u) ∧ w'.cell? ⟨w.heap.size, 1, none⟩ = some (.int .u64 m)) ((refine hcells _ ?_; first | exact (Below.refl _ _).drew | exact Below.refl _ _ | exact hB2 | exact hB3)) ((first
    | (go_at_call 39; refine (hov.out _ (by first | exact (Below.refl _ _).drew | exact Below.refl _ _)).mono ?_; rintro e w2 ⟨A, c, rfl, hr2, hB2⟩; replace hB2 := below_then (by first | exact (Below.refl w1.heap.size w1).drew | exact Below.refl w1.heap.size w1) hB2; have hu := hup.out A c w2 hr2; replace hr2 := Lib.hid hr2)
    | (go_at_call 38; refine hu.mono ?_; rintro e w3 ⟨rfl, hB3⟩; replace hB3 := below_then hB2 (drewN_below hB3))))
  go_wp2_with fail
  go_ret
  exact ⟨rfl, below_then hB1 hB3⟩
def nextS (how : Int) (F : List Fg) (key : ByteArray) : ByteArray × Bool := match nextF how key F with
  | some x => (x, true)
  | none => (.empty, false)
theorem next_any (how : Int) (F : List Fg) (key : ByteArray) (hb : Nat) (w : World) (h : ST w hb how F) (ho : FO how F) :
    Calls Try.prog 20 #[.pointer (some ⟨hb, 0, none⟩), .string key] w fun ee w' => ee = .returned (.tuple #[.string (nextS how F key).1, .bool (nextS how F key).2]) ∧ Below w.heap.size w w' := by
  have hat := Lib.hid (at_any how F key hb w h ho)
  have hst := Lib.hid (fun W (hW : Below w.heap.size w W) => (h.keep hW).fr)
  have hcm := Lib.hid (fun b W => compare_any how b key W)
  have hnx := Lib.hid (fun k => next_at (how := how) (key := key) (F := F) (k := k) ho.ne)
  have hln := ho.len
  clear h ho
  go_enter Try.func20, Try.ntmps20
  go_upto_region 2 with (first
    | (go_at_call 48; refine hat.out.mono ?_; rintro e w1 ⟨k, rfl, hk, hB1⟩))
  obtain ⟨A, c, c0, c1, hf⟩ := hst.out w1 hB1
  have hnk := hnx.out k hk
  obtain ⟨n, hn⟩ : ∃ n, F.length = n := ⟨_, rfl⟩
  have hkn : k ≤ n := hn ▸ hk.1
  rw [hn] at c1 hln
  replace hB1 := Lib.hid hB1
  by_cases hlt : k < n
  · obtain ⟨f, hfk⟩ : ∃ f, F[k]? = some f := ⟨_, List.getElem?_eq_getElem (by omega)⟩
    rw [hfk, Option.map_some] at hnk
    obtain ⟨g, o, B, d, hA, hc⟩ := hf.at hfk
    subst hA
    obtain ⟨e0, e1, -, -⟩ := hc w1 (Below.refl _ _)
    have hcx := Lib.hid (fun W => hcm.out f.b W)
    obtain ⟨x, hx⟩ : ∃ x, cmpH how f.b key = x := ⟨_, rfl⟩
    rw [hx] at hcx hnk
    have hcx2 := Lib.hid (fun m => Calls.quiet_of_same ((hcx.out (w1.drewN m)).mono fun _ _ h => ⟨h.1, h.2.symm⟩))
    have i0 : (0 : Int) ≤ (k : Int) := by omega
    have i1 : (k : Int) < (n : Int) := by omega
    have i2 : ((k : Int) == (n : Int)) = false := by rw [beq_eq_false_iff_ne]; omega
    replace hx := Lib.hid hx
    replace hn := Lib.hid hn
    clear hk hf hc hfk
    by_cases hx0 : 0 < x
    · rw [if_pos hx0] at hnk
      have hr : nextS how F key = (f.b, true) := by unfold nextS; rw [hnk]
      have d0 : decide (0 < x) = true := decide_eq_true hx0
      replace hr := Lib.hid hr
      replace hnk := Lib.hid hnk
      go_upto_region 4 with fail
      go_quiet ((go_at_call 32; exact hcx2.out _))
      go_wp2_with fail
      go_ret2
      exact ⟨by rw [hr.out]; rfl, below_drewN hB1.out _⟩
    · rw [if_neg hx0] at hnk
      have hr : nextS how F key = (f.e, true) := by unfold nextS; rw [hnk]
      have d0 : decide (0 < x) = false := decide_eq_false hx0
      replace hr := Lib.hid hr
      replace hnk := Lib.hid hnk
      go_upto_region 4 with fail
      go_quiet ((go_at_call 32; exact hcx2.out _))
      go_wp2_with fail
      go_ret2
      exact ⟨by rw [hr.out]; rfl, below_drewN hB1.out _⟩
  · rw [List.getElem?_eq_none (by omega), Option.map_none] at hnk
    have hr : nextS how F key = (.empty, false) := by unfold nextS; rw [hnk]
    have i2 : ((k : Int) == (n : Int)) = true := by rw [beq_iff_eq]; omega
    replace hr := Lib.hid hr
    replace hnk := Lib.hid hnk
    clear hlt hkn hk hf
    replace hn := Lib.hid hn
    go_wp2_with fail
    go_ret2
    exact ⟨by rw [hr.out]; rfl, hB1.out⟩
theorem rnext_any (how : Int) (F : List Fg) (key : ByteArray) (A : Option Addr) (c : Nat) (w : World) (h : FR w A F) (hl : F.length ≤ maxLen) :
    Calls Try.prog 21 #[.int .i64 how, .slice A F.length c, .string key] w fun ee w' => ee = .returned (.tuple #[.string (nextS how F key).1, .bool (nextS how F key).2]) ∧ w = w' := by
  have hcm := Lib.hid (fun b W => rcompare_any how b key W)
  obtain ⟨n, hn⟩ : ∃ n, F.length = n := ⟨_, rfl⟩
  rw [hn] at hl ⊢
  unfold maxLen at hl
  replace hn := Lib.hid hn
  replace h := Lib.hid h
  go_enter Try.func21, Try.ntmps21
  go_wp2_with fail
  go_loop [8] (fun vi => ∃ i : Nat, i ≤ n ∧ vi = .int .i64 i ∧ nextF how key F = nextF how key (F.drop i)) (fun vi => n - (intOf vi).toNat)
  case atStart => exact ⟨0, Nat.zero_le _, rfl, rfl⟩
  case round =>
    obtain ⟨i, hi, rfl, hnk⟩ := hrel
    by_cases hlt : i < n
    · obtain ⟨f, hf⟩ : ∃ f, F[i]? = some f := ⟨_, List.getElem?_eq_getElem (by have := hn.out; omega)⟩
      obtain ⟨g, o, B, d, hA, hc⟩ := h.out.at hf
      rw [drop_at hf, nextF_cons] at hnk
      subst hA
      obtain ⟨e0, e1, -, -⟩ := hc w (Below.refl _ _)
      have hcx := Lib.hid (fun W => hcm.out f.b W)
      have hcy := Lib.hid (fun W => hcm.out f.e W)
      obtain ⟨x, hx⟩ : ∃ x, cmpH how f.b key = x := ⟨_, rfl⟩
      obtain ⟨y, hy⟩ : ∃ x, cmpH how f.e key = x := ⟨_, rfl⟩
      rw [hx] at hcx hnk
      rw [hy] at hcy hnk
      have i0 : (0 : Int) ≤ (i : Int) := by omega
      have i1 : (i : Int) < (n : Int) := by omega
      replace hx := Lib.hid hx
      replace hy := Lib.hid hy
      clear hc hf
      by_cases hx0 : 0 < x
      · rw [if_pos hx0] at hnk
        have hr : nextS how F key = (f.b, true) := by unfold nextS; rw [hnk]
        have d0 : decide (0 < x) = true := decide_eq_true hx0
        replace hr := Lib.hid hr
        replace hnk := Lib.hid hnk
        go_wp2_with (first
          | (go_at_call 11; (with_reducible refine (hcx.out _).mono ?_); rintro e w1 ⟨rfl, rfl⟩))
        go_ret2
        exact ⟨by rw [hr.out]; rfl, rfl⟩
      · rw [if_neg hx0] at hnk
        have d0 : decide (0 < x) = false := decide_eq_false hx0
        by_cases hy0 : 0 < y
        · rw [if_pos hy0] at hnk
          have hr : nextS how F key = (f.e, true) := by unfold nextS; rw [hnk]
          have d1 : decide (0 < y) = true := decide_eq_true hy0
          replace hr := Lib.hid hr
          replace hnk := Lib.hid hnk
          go_wp2_with (first
            | (go_at_call 11; (with_reducible refine (hcx.out _).mono ?_); rintro e w1 ⟨rfl, rfl⟩)
            | (go_at_call 11; (with_reducible refine (hcy.out _).mono ?_); rintro e w1 ⟨rfl, rfl⟩))
          go_ret2
          exact ⟨by rw [hr.out]; rfl, rfl⟩
        · rw [if_neg hy0] at hnk
          have d1 : decide (0 < y) = false := decide_eq_false hy0
          replace hnk := Lib.hid hnk
          go_wp2_with (first
            | (go_at_call 11; (with_reducible refine (hcx.out _).mono ?_); rintro e w1 ⟨rfl, rfl⟩)
            | (go_at_call 11; (with_reducible refine (hcy.out _).mono ?_); rintro e w1 ⟨rfl, rfl⟩))
          go_round
          case measure => simp only [intOf]; omega
          case rel => exact ⟨i + 1, by omega, by go_num, hnk.out⟩
    · obtain rfl : i = n := by omega
      rw [List.drop_of_length_le (by have := hn.out; omega)] at hnk
      have hr : nextS how F key = (.empty, false) := by unfold nextS; rw [hnk]; rfl
      replace hr := Lib.hid hr
      replace hnk := Lib.hid hnk
      go_wp2_with fail
      go_ret2
      exact ⟨by rw [hr.out]; rfl, rfl⟩
theorem rmost_any (how : Int) (l : List Tb) (key : ByteArray) (s : Int) (A : Option Addr) (c : Nat) (w : World) (hr : Rd w 3 A l.length (l.flatMap tc)) (hl : l.length ≤ maxLen) :
    Calls Try.prog 22 #[.int .i64 how, .slice A l.length c, .string key, .int .u64 s] w fun e w' => e = .returned (.int .u64 (mostR how l key s)) ∧ Below w.heap.size w w' := by
  obtain ⟨n, hn⟩ : ∃ n, l.length = n := ⟨_, rfl⟩
  have hrk := Lib.hid (fun W (hW : Below w.heap.size w W) => hr.keep hW)
  have hov := Lib.hid (fun t W => over_any how t key W)
  rw [hn] at hl ⊢
  unfold maxLen at hl
  clear hr
  replace hn := Lib.hid hn
  go_enter Try.func22, Try.ntmps22
  go_wp2_with fail
  go_loopw [9, 10] (fun v9 vi wr => ∃ i : Nat, i ≤ n ∧ vi = .int .i64 i ∧ v9 = .int .u64 (mostR how (l.take i) key s) ∧ Below w.heap.size w wr) (fun _ vi _ => n - (intOf vi).toNat)
  case atStart => exact ⟨0, Nat.zero_le _, rfl, rfl, Below.refl _ _⟩
  case round =>
    obtain ⟨i, hi, rfl, rfl, hB⟩ := hrel
    by_cases hlt : i < n
    · obtain ⟨t, ht⟩ : ∃ t, l[i]? = some t := ⟨_, List.getElem?_eq_getElem (by have := hn.out; omega)⟩
      have hms := mostR_snoc how l i t key s ht
      have hr := hrk.out wr hB
      obtain ⟨g, o, hA, -⟩ := hr.2 (by have := hn.out; omega)
      subst hA
      obtain ⟨e0, e1, e2⟩ := Rd.tb hr ht
      have i0 : (0 : Int) ≤ (i : Int) := by omega
      have i1 : (i : Int) < (n : Int) := by omega
      have hcO := Lib.hid (fun W => hov.out t W)
      obtain ⟨bT, hbT⟩ : ∃ bT, overT how t key = bT := ⟨_, rfl⟩
      rw [hbT] at hcO hms
      obtain ⟨m, hm⟩ : ∃ m, mostR how (l.take i) key s = m := ⟨_, rfl⟩
      rw [hm] at hms ⊢
      replace hbT := Lib.hid hbT
      replace hm := Lib.hid hm
      replace hB := Lib.hid hB
      clear hr ht
      cases bT with
      | false =>
        rw [if_neg (by decide)] at hms
        replace hms := Lib.hid hms
        go_wp2_with (first
          | (go_at_call 12; refine (hcO.out _).mono ?_; rintro e w3 ⟨rfl, hB3⟩))
        go_roundw
        case measure => simp only [intOf]; omega
        case rel => exact ⟨i + 1, by omega, by go_num, by rw [hms.out], below_then hB.out hB3⟩
      | true =>
        rw [if_pos rfl] at hms
        by_cases hs : t.s ≤ s
        · rw [if_pos hs] at hms
          have d0 : decide (t.s ≤ s) = true := decide_eq_true hs
          by_cases hlt2 : m < t.s
          · rw [if_pos hlt2] at hms
            have d1 : decide (m < t.s) = true := decide_eq_true hlt2
            replace hms := Lib.hid hms
            go_wp2_with (first
              | (go_at_call 12; refine (hcO.out _).mono ?_; rintro e w3 ⟨rfl, hB3⟩; have e2' := cell_keep hB3 e2))
            go_roundw
            case measure => simp only [intOf]; omega
            case rel => exact ⟨i + 1, by omega, by go_num, by rw [hms.out], below_then hB.out hB3⟩
          · rw [if_neg hlt2] at hms
            have d1 : decide (m < t.s) = false := decide_eq_false hlt2
            replace hms := Lib.hid hms
            go_wp2_with (first
              | (go_at_call 12; refine (hcO.out _).mono ?_; rintro e w3 ⟨rfl, hB3⟩; have e2' := cell_keep hB3 e2))
            go_roundw
            case measure => simp only [intOf]; omega
            case rel => exact ⟨i + 1, by omega, by go_num, by rw [hms.out], below_then hB.out hB3⟩
        · rw [if_neg hs] at hms
          have d0 : decide (t.s ≤ s) = false := decide_eq_false hs
          replace hms := Lib.hid hms
          go_wp2_with (first
            | (go_at_call 12; refine (hcO.out _).mono ?_; rintro e w3 ⟨rfl, hB3⟩; have e2' := cell_keep hB3 e2))
          go_roundw
          case measure => simp only [intOf]; omega
          case rel => exact ⟨i + 1, by omega, by go_num, by rw [hms.out], below_then hB.out hB3⟩
    · obtain rfl : i = n := by omega
      rw [List.take_of_length_le (by have := hn.out; omega)]
      go_wp2_with fail
      go_ret
      exact ⟨rfl, hB⟩
end Go.Proofs.Ytmopjoeomjdikaa
