/- What the document answers of tombstones and fragments, walked: whether one hides an entry, a range. Conditions: what each theorem names. -/
import Derived.RangeFuncNested
import Derived.RangeFuncBound
import Derived.RangeFuncCalls
import Derived.RangeFuncLeaves
import Derived.Shelf.Abstract
import Derived.Shelf.RegionOpen
import Derived.WalkKit
import Derived.OwnWalkIn
import Derived.TacticsInMore
import Derived.LoopNIn
import Derived.LoopIn
import Derived.Lib.Hide
import Derived.Outline
import Derived.RegionTactic
import Derived.BigRegion
import Derived.WalkLawsBesides
import Derived.WalkSpells
import Derived.Deep.QuietTactic
import Derived.BigQuiet
import Derived.Deep.RegionHeld3
import Derived.Deep.DeepCutAuto
import Derived.Deep.CutBlock
import Derived.StillTailTactics
import Derived.WalkSmall
import Derived.Test.YtmopjoeomjdikaaRgM
import Derived.Test.YtmopjoeomjdikaaRgH
import Derived.Test.YtmopjoeomjdikaaSl
namespace Go.Proofs.Ytmopjoeomjdikaa
open Go.RowKit Go.Sed Go.Sort
set_option maxHeartbeats 2000000
set_option maxRecDepth 100000
def covR (how : Int) (k : ByteArray) (s m : Int) (t : Tb) : Bool := overT how t k && decide (t.s ≤ s) && decide (m < t.s)
theorem rcovers_any (how : Int) (l : List Tb) (u : ByteArray) (m kd s : Int) (A : Option Addr) (c : Nat) (w : World) (hr : Rd w 3 A l.length (l.flatMap tc)) (hl : l.length ≤ maxLen) :
    Calls Try.prog 24 #[.int .i64 how, .slice A l.length c, .agg #[.string u, .int .u64 m, .int .i64 kd], .int .u64 s] w fun e w' => e = .returned (.bool (coversR how l u s m)) ∧ Below w.heap.size w w' := by
  have hCov : coversR how l u s m = l.any (covR how u s m) := rfl
  obtain ⟨w1, hw1⟩ : ∃ w1, w.alloc (.cells #[.string u, .int .u64 m, .int .i64 kd] 54) = w1 := ⟨_, rfl⟩
  have hB1 : Below w.heap.size w w1 := by rw [← hw1]; exact (Below.refl _ _).alloc (Nat.le_refl _) _
  have b1 : Bl w1 w.heap.size (.cells #[.string u, .int .u64 m, .int .i64 kd] 54 (0, 0)) := by rw [← hw1]; exact Bl.new' rfl
  obtain ⟨n, hn⟩ : ∃ n, l.length = n := ⟨_, rfl⟩
  have hrk := Lib.hid (fun W (hW : Below w.heap.size w W) => hr.keep hW)
  have hov := Lib.hid (fun t W => over_any how t u W)
  rw [hn] at hl ⊢
  unfold maxLen at hl
  clear hr
  obtain ⟨kb, hkb⟩ : ∃ kb, w.heap.size = kb := ⟨_, rfl⟩
  rw [hkb] at b1
  replace hn := Lib.hid hn
  replace hw1 := Lib.hid hw1
  replace hCov := Lib.hid hCov
  go_enter Try.func24, Try.ntmps24
  go_upto_region 1 with fail
  rw [hw1.out]

  have hkbh := Lib.hid hkb
  rw [hkb] at hB1
  clear hkb
  go_wp2_with fail
  replace hB1 : Below w.heap.size w w1 := by rw [hkbh.out]; exact hB1
  go_loopw [9] (fun vi wr => ∃ i : Nat, i ≤ n ∧ vi = .int .i64 i ∧ (l.take i).any (covR how u s m) = false ∧ Bl wr kb (.cells #[.string u, .int .u64 m, .int .i64 kd] 54 (0, 0)) ∧ Below w.heap.size w wr) (fun vi _ => n - (intOf vi).toNat)
  case atStart => exact ⟨0, Nat.zero_le _, rfl, rfl, b1, hB1⟩
  case round =>
    clear b1
    obtain ⟨i, hi, rfl, hna, hb1, hB⟩ := hrel
    by_cases hlt : i < n
    · obtain ⟨t, ht⟩ : ∃ t, l[i]? = some t := ⟨_, List.getElem?_eq_getElem (by have := hn.out; omega)⟩
      have hr := hrk.out wr hB
      obtain ⟨g, o, hA, -⟩ := hr.2 (by have := hn.out; omega)
      subst hA
      obtain ⟨e0, e1, e2⟩ := Rd.tb hr ht
      have c0 : wr.cell? ⟨kb, 0, none⟩ = some (.string u) := hb1.cell 0
      have c1 : wr.cell? ⟨kb, 1, none⟩ = some (.int .u64 m) := hb1.cell 1
      have hany : (l.take (i + 1)).any (covR how u s m) = covR how u s m t := by rw [List.take_add_one, ht, List.any_append, hna]; simp
      have htrue : covR how u s m t = true → coversR how l u s m = true := fun h => by rw [hCov.out]; exact List.any_eq_true.2 ⟨t, List.mem_of_getElem? ht, h⟩
      have hC : covR how u s m t = (overT how t u && decide (t.s ≤ s) && decide (m < t.s)) := rfl
      have i0 : (0 : Int) ≤ (i : Int) := by omega
      have i1 : (i : Int) < (n : Int) := by omega
      have hcO := Lib.hid (fun W => hov.out t W)
      obtain ⟨bT, hbT⟩ : ∃ bT, overT how t u = bT := ⟨_, rfl⟩
      rw [hbT] at hcO hC
      rw [hC] at hany htrue
      have hcells : ∀ W, Below wr.heap.size wr W → W.cell? ⟨g, o + i * 3, none⟩ = some (.string t.b) ∧ W.cell? ⟨g, o + i * 3 + 1, none⟩ = some (.string t.e) ∧ W.cell? ⟨g, o + i * 3 + 2, none⟩ = some (.int .u64 t.s) ∧ W.cell? ⟨kb, 0, none⟩ = some (.string u) ∧ W.cell? ⟨kb, 1, none⟩ = some (.int .u64 m) := fun W hW => ⟨cell_keep hW e0, cell_keep hW e1, cell_keep hW e2, cell_keep hW c0, cell_keep hW c1⟩
      replace hbT := Lib.hid hbT
      replace hB := Lib.hid hB
      replace hb1 := Lib.hid hb1
      clear hr ht hna hC e0 e1 e2 c0 c1
      cases bT with
      | false =>
        rw [Bool.false_and, Bool.false_and] at hany
        replace hany := Lib.hid hany
        replace htrue := Lib.hid htrue
        go_upto_region 4 with fail
        refine wp_region_below (by kernel_rfl) (by kernel_rfl) ?_
        repeat (first
          | go_big_quiet_skip
          | (refine wpQuiet_step (fun K hK => ?_); go_simp; refine ⟨_, fun W hW => rfl, hK _ ?_⟩; clear hK K)
          | (refine wpQuiet_step (fun K hK => ?_); go_simp; apply Exists.intro; refine ⟨fun W hW => ?_, hK _ ?_⟩; ((first | (go_at_call 12; exact quiet_below hW (hcO.out W)))); clear hK K)
          | (refine wpQuiet_step (fun K hK => ?_); go_simp; apply Exists.intro; refine ⟨fun W hW => ?_, hK _ ?_⟩; (obtain ⟨e0x, e1x, e2x, c0x, c1x⟩ := hcells W hW; go_simp; rfl); clear hK K))
        refine wpQuiet_nil ?_
        intro wq hBq
        go_wp2_with fail
        go_roundw
        case measure => simp only [intOf]; omega
        case rel => exact ⟨i + 1, by omega, by go_num, hany.out, hb1.out.keep hBq, below_then hB.out hBq⟩
      | true =>
        rw [Bool.true_and] at hany htrue
        by_cases hs : t.s ≤ s
        · have d0 : decide (t.s ≤ s) = true := decide_eq_true hs
          rw [d0, Bool.true_and] at hany htrue
          by_cases hm : m < t.s
          · have d1 : decide (m < t.s) = true := decide_eq_true hm
            have hres := htrue d1
            replace hres := Lib.hid hres
            replace hany := Lib.hid hany
            clear htrue
            go_upto_region 4 with fail
            refine wp_region_below (by kernel_rfl) (by kernel_rfl) ?_
            repeat (first
              | go_big_quiet_skip
              | (refine wpQuiet_step (fun K hK => ?_); go_simp; refine ⟨_, fun W hW => rfl, hK _ ?_⟩; clear hK K)
              | (refine wpQuiet_step (fun K hK => ?_); go_simp; apply Exists.intro; refine ⟨fun W hW => ?_, hK _ ?_⟩; ((first | (go_at_call 12; exact quiet_below hW (hcO.out W)))); clear hK K)
              | (refine wpQuiet_step (fun K hK => ?_); go_simp; apply Exists.intro; refine ⟨fun W hW => ?_, hK _ ?_⟩; (obtain ⟨e0x, e1x, e2x, c0x, c1x⟩ := hcells W hW; go_simp; rfl); clear hK K))
            refine wpQuiet_nil ?_
            intro wq hBq
            go_wp2_with fail
            go_ret
            exact ⟨by rw [hres.out]; rfl, below_then hB.out hBq⟩
          · have d1 : decide (m < t.s) = false := decide_eq_false hm
            rw [d1] at hany
            replace hany := Lib.hid hany
            replace htrue := Lib.hid htrue
            go_upto_region 4 with fail
            refine wp_region_below (by kernel_rfl) (by kernel_rfl) ?_
            repeat (first
              | go_big_quiet_skip
              | (refine wpQuiet_step (fun K hK => ?_); go_simp; refine ⟨_, fun W hW => rfl, hK _ ?_⟩; clear hK K)
              | (refine wpQuiet_step (fun K hK => ?_); go_simp; apply Exists.intro; refine ⟨fun W hW => ?_, hK _ ?_⟩; ((first | (go_at_call 12; exact quiet_below hW (hcO.out W)))); clear hK K)
              | (refine wpQuiet_step (fun K hK => ?_); go_simp; apply Exists.intro; refine ⟨fun W hW => ?_, hK _ ?_⟩; (obtain ⟨e0x, e1x, e2x, c0x, c1x⟩ := hcells W hW; go_simp; rfl); clear hK K))
            refine wpQuiet_nil ?_
            intro wq hBq
            go_wp2_with fail
            go_roundw
            case measure => simp only [intOf]; omega
            case rel => exact ⟨i + 1, by omega, by go_num, hany.out, hb1.out.keep hBq, below_then hB.out hBq⟩
        · have d0 : decide (t.s ≤ s) = false := decide_eq_false hs
          rw [d0, Bool.false_and] at hany
          replace hany := Lib.hid hany
          replace htrue := Lib.hid htrue
          go_upto_region 4 with fail
          refine wp_region_below (by kernel_rfl) (by kernel_rfl) ?_
          repeat (first
            | go_big_quiet_skip
            | (refine wpQuiet_step (fun K hK => ?_); go_simp; refine ⟨_, fun W hW => rfl, hK _ ?_⟩; clear hK K)
            | (refine wpQuiet_step (fun K hK => ?_); go_simp; apply Exists.intro; refine ⟨fun W hW => ?_, hK _ ?_⟩; ((first | (go_at_call 12; exact quiet_below hW (hcO.out W)))); clear hK K)
            | (refine wpQuiet_step (fun K hK => ?_); go_simp; apply Exists.intro; refine ⟨fun W hW => ?_, hK _ ?_⟩; (obtain ⟨e0x, e1x, e2x, c0x, c1x⟩ := hcells W hW; go_simp; rfl); clear hK K))
          refine wpQuiet_nil ?_
          intro wq hBq
          go_wp2_with fail
          go_roundw
          case measure => simp only [intOf]; omega
          case rel => exact ⟨i + 1, by omega, by go_num, hany.out, hb1.out.keep hBq, below_then hB.out hBq⟩
    · obtain rfl : i = n := by omega
      rw [List.take_of_length_le (by have := hn.out; omega)] at hna
      have hres : coversR how l u s m = false := hCov.out.trans hna
      replace hres := Lib.hid hres
      replace hna := Lib.hid hna
      go_wp2_with fail
      go_ret
      exact ⟨by rw [hres.out]; rfl, hB⟩
theorem hitQ_snoc {below s : Int} {q : List Int} {k : Nat} {x : Int} (hx : q[k]? = some x) : hitQ below s (q.take (k + 1)) = (hitQ below s (q.take k) || (decide (below < x) && decide (x ≤ s))) := by
  unfold hitQ
  rw [List.take_add_one, hx, List.any_append]
  simp
theorem rwhole_any (how : Int) (F : List Fg) (b0 e : ByteArray) (below s : Int) (A : Option Addr) (c : Nat) (w : World) (h : FR w A F) (hl : F.length ≤ maxLen) (hq : ∀ f ∈ F, f.q.length ≤ maxLen) :
    Calls Try.prog 26 #[.int .i64 how, .slice A F.length c, .string b0, .string e, .int .u64 below, .int .u64 s] w fun ee w' => ee = .returned (.bool (wholeR how e below s F b0)) ∧ w = w' := by
  have hcm := Lib.hid (fun x y W => rcompare_any how x y W)
  obtain ⟨n, hn⟩ : ∃ n, F.length = n := ⟨_, rfl⟩
  rw [hn] at hl ⊢
  unfold maxLen at hl hq
  replace hn := Lib.hid hn
  replace hq := Lib.hid hq
  replace h := Lib.hid h
  go_enter Try.func26, Try.ntmps26
  go_wp2_with fail
  go_loop [13, 14] (fun vb vi => ∃ (i : Nat) (b : ByteArray), i ≤ n ∧ vb = .string b ∧ vi = .int .i64 i ∧ wholeR how e below s F b0 = wholeR how e below s (F.drop i) b) (fun _ vi => n - (intOf vi).toNat)
  case atStart => exact ⟨0, b0, Nat.zero_le _, rfl, rfl, rfl⟩
  case round =>
    obtain ⟨i, b, hi, rfl, rfl, hwl⟩ := hrel
    have hcx := Lib.hid (hcm.out b e)
    obtain ⟨x, hx⟩ : ∃ x, cmpH how b e = x := ⟨_, rfl⟩
    rw [hx] at hcx
    by_cases hlt : i < n
    · obtain ⟨f, hf⟩ : ∃ f, F[i]? = some f := ⟨_, List.getElem?_eq_getElem (by have := hn.out; omega)⟩
      obtain ⟨g, o, B, d, hA, hc⟩ := h.out.at hf
      rw [drop_at hf, wholeR_cons, hx] at hwl
      subst hA
      obtain ⟨e0, e1, e2, hrq⟩ := hc w (Below.refl _ _)
      have hql := hq.out f (List.mem_of_getElem? hf)
      have i0 : (0 : Int) ≤ (i : Int) := by omega
      have i1 : (i : Int) < (n : Int) := by omega
      replace hx := Lib.hid hx
      by_cases hx0 : x < 0
      · rw [if_pos hx0] at hwl
        have d0 : decide (x < 0) = true := decide_eq_true hx0
        have hcy := Lib.hid (hcm.out f.e b)
        have hcz := Lib.hid (hcm.out f.b b)
        obtain ⟨y, hy⟩ : ∃ x, cmpH how f.e b = x := ⟨_, rfl⟩
        obtain ⟨z, hz⟩ : ∃ x, cmpH how f.b b = x := ⟨_, rfl⟩
        rw [hy] at hcy hwl
        rw [hz] at hcz hwl
        replace hy := Lib.hid hy
        replace hz := Lib.hid hz
        clear hc hf
        by_cases hy0 : y ≤ 0
        · rw [if_pos hy0] at hwl
          have d1 : decide (y ≤ 0) = true := decide_eq_true hy0
          replace hwl := Lib.hid hwl
          replace hrq := Lib.hid hrq
          go_wp2_with (first
            | (go_at_call 11; (with_reducible refine (hcx.out _).mono ?_); rintro e1 w1 ⟨rfl, rfl⟩)
            | (go_at_call 11; (with_reducible refine (hcy.out _).mono ?_); rintro e1 w1 ⟨rfl, rfl⟩))
          go_round
          case measure => simp only [intOf]; omega
          case rel => exact ⟨i + 1, b, by omega, rfl, by go_num, hwl.out⟩
        · rw [if_neg hy0] at hwl
          have d1 : decide (y ≤ 0) = false := decide_eq_false hy0
          replace hwl := Lib.hid hwl
          replace hrq := Lib.hid hrq
          go_wp2_with (first
            | (go_at_call 11; (with_reducible refine (hcx.out _).mono ?_); rintro e1 w1 ⟨rfl, rfl⟩)
            | (go_at_call 11; (with_reducible refine (hcy.out _).mono ?_); rintro e1 w1 ⟨rfl, rfl⟩))
          go_loop [15, 16] (fun v15 vi => ∃ k : Nat, k ≤ f.q.length ∧ v15 = .bool (hitQ below s (f.q.take k)) ∧ vi = .int .i64 k) (fun _ vi => f.q.length - (intOf vi).toNat)
          case atStart => exact ⟨0, Nat.zero_le _, rfl, rfl⟩
          case round =>
            obtain ⟨k, hk, rfl, rfl⟩ := hrel
            by_cases hkl : k < f.q.length
            · obtain ⟨m, hm⟩ : ∃ m, f.q[k]? = some m := ⟨_, List.getElem?_eq_getElem hkl⟩
              obtain ⟨gb, ob, hBe, hbc⟩ := rd_at1 hrq.out hm
              have q0 := hbc w (Below.refl _ _)
              have hsn := Lib.hid (hitQ_snoc (below := below) (s := s) hm)
              subst hBe
              have k0 : (0 : Int) ≤ (k : Int) := by omega
              have k1 : (k : Int) < (f.q.length : Int) := by omega
              obtain ⟨bH, hbH⟩ : ∃ x, hitQ below s (f.q.take k) = x := ⟨_, rfl⟩
              rw [hbH] at hsn ⊢
              replace hbH := Lib.hid hbH
              clear hbc hm
              cases bH with
              | true =>
                go_wp2_with fail
                go_round
                case measure => simp only [intOf]; omega
                case rel => exact ⟨k + 1, by omega, by rw [hsn.out]; rfl, by go_num⟩
              | false =>
                rw [Bool.false_or] at hsn
                by_cases hm1 : below < m
                · have d2 : decide (below < m) = true := decide_eq_true hm1
                  rw [d2, Bool.true_and] at hsn
                  go_wp2_with fail
                  go_round
                  case measure => simp only [intOf]; omega
                  case rel => exact ⟨k + 1, by omega, by rw [hsn.out], by go_num⟩
                · have d2 : decide (below < m) = false := decide_eq_false hm1
                  rw [d2, Bool.false_and] at hsn
                  go_wp2_with fail
                  go_round
                  case measure => simp only [intOf]; omega
                  case rel => exact ⟨k + 1, by omega, by rw [hsn.out], by go_num⟩
            · obtain rfl : k = f.q.length := by omega
              rw [List.take_length]
              obtain ⟨bH, hbH⟩ : ∃ x, hitQ below s f.q = x := ⟨_, rfl⟩
              rw [hbH] at hwl ⊢
              replace hbH := Lib.hid hbH
              cases bH with
              | false =>
                rw [if_pos rfl] at hwl
                go_wp2_with fail
                go_ret
                exact ⟨by rw [hwl.out]; rfl, rfl⟩
              | true =>
                rw [if_neg (by decide)] at hwl
                by_cases hz0 : 0 < z
                · have d3 : decide (0 < z) = true := decide_eq_true hz0
                  rw [if_pos hz0] at hwl
                  go_wp2_with (first
                    | (go_at_call 11; (with_reducible refine (hcz.out _).mono ?_); rintro e1 w1 ⟨rfl, rfl⟩))
                  go_ret
                  exact ⟨by rw [hwl.out]; rfl, rfl⟩
                · have d3 : decide (0 < z) = false := decide_eq_false hz0
                  rw [if_neg hz0] at hwl
                  go_wp2_with (first
                    | (go_at_call 11; (with_reducible refine (hcz.out _).mono ?_); rintro e1 w1 ⟨rfl, rfl⟩))
                  go_round
                  case measure => simp only [intOf]; omega
                  case rel => exact ⟨i + 1, f.e, by omega, rfl, by go_num, hwl.out⟩
      · rw [if_neg hx0] at hwl
        have d0 : decide (x < 0) = false := decide_eq_false hx0
        have d1 : decide (0 ≤ x) = true := decide_eq_true (by omega)
        replace hwl := Lib.hid hwl
        clear hc hf hrq
        go_wp2_with (first
          | (go_at_call 11; (with_reducible refine (hcx.out _).mono ?_); rintro e1 w1 ⟨rfl, rfl⟩))
        go_ret
        exact ⟨by rw [hwl.out]; rfl, rfl⟩
    · obtain rfl : i = n := by omega
      rw [List.drop_of_length_le (by have := hn.out; omega)] at hwl
      have hr : wholeR how e below s F b0 = decide (0 ≤ x) := by rw [hwl, ← hx]; rfl
      replace hx := Lib.hid hx
      replace hr := Lib.hid hr
      clear hwl
      go_wp2_with (first
        | (go_at_call 11; (with_reducible refine (hcx.out _).mono ?_); rintro e1 w1 ⟨rfl, rfl⟩))
      go_ret
      exact ⟨by rw [hr.out]; rfl, rfl⟩
end Go.Proofs.Ytmopjoeomjdikaa
