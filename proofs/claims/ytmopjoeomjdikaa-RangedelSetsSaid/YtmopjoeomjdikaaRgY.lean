/- The document's fragments and joins, walked whole. Conditions: what each theorem names. -/
import Derived.RangeFuncNested
import Derived.RangeFuncBound
import Derived.RangeFuncCalls
import Derived.RangeFuncLeaves
import Derived.Shelf.Abstract
import Derived.Shelf.RegionOpen
import Derived.WalkKit
import Derived.OwnWalkIn
import Derived.TacticsInMore
import Derived.LoopNIn
import Derived.LoopIn
import Derived.Lib.Hide
import Derived.Outline
import Derived.RegionTactic
import Derived.BigRegion
import Derived.WalkLawsBesides
import Derived.WalkSpells
import Derived.Deep.QuietTactic
import Derived.BigQuiet
import Derived.Deep.RegionHeld3
import Derived.Deep.DeepCutAuto
import Derived.Deep.CutBlock
import Derived.StillTailTactics
import Derived.WalkSmall
import Derived.Test.YtmopjoeomjdikaaRgX
import Derived.Test.YtmopjoeomjdikaaRgH
namespace Go.Proofs.Ytmopjoeomjdikaa
open Go.RowKit Go.Sed Go.Sort
set_option maxHeartbeats 2000000
set_option maxRecDepth 100000
theorem insU_len {α : Type} [DecidableEq α] (lt : α → α → Bool) (s : α) : ∀ l : List α, (insU lt s l).length ≤ l.length + 1
  | [] => Nat.le_refl _
  | x :: r => by
    have := insU_len lt s r
    unfold insU
    split
    · simp only [List.length_cons]; omega
    · split <;> simp only [List.length_cons] <;> omega
theorem rends_len (how : Int) : ∀ (L : List Tb) (c : List ByteArray), (L.foldl (fun c t => insU (ltBb how) t.e (insU (ltBb how) t.b c)) c).length ≤ c.length + 2 * L.length
  | [], c => Nat.le_refl _
  | t :: r, c => by
    have h1 := rends_len how r (insU (ltBb how) t.e (insU (ltBb how) t.b c))
    have h2 := insU_len (ltBb how) t.e (insU (ltBb how) t.b c)
    have h3 := insU_len (ltBb how) t.b c
    simp only [List.foldl_cons, List.length_cons]
    omega
theorem rseqs_len' : ∀ (l : List Tb) (q : List Int), (l.foldl (fun q t => insU gtI t.s q) q).length ≤ q.length + l.length
  | [], _ => Nat.le_refl _
  | t :: r, q => by
    have h1 := rseqs_len' r (insU gtI t.s q)
    have h2 := insU_len gtI t.s q
    simp only [List.foldl_cons, List.length_cons]
    omega
theorem rseqs_len (l : List Tb) : ∀ q : List Int, (l.foldl (fun q t => insU gtI t.s q) q).length ≤ q.length + l.length
  | q => rseqs_len' l q
theorem ow_cap {w : World} {base size n c : Nat} {A : Option Addr} {xs : List Value} (h : OW w base size (.slice A n c) n xs) : n ≤ c ∧ c ≤ maxLen := by
  obtain ⟨A', c', e, _, h1, h2, _⟩ := h.shape
  injection e with _ _ e
  subst e
  exact ⟨h1, h2⟩
theorem rsplit_no (how : Int) (l : List Tb) (A : Option Addr) (c : Nat) (w : World) (hr : Rd w 3 A l.length (l.flatMap tc)) (hs : ∀ t ∈ l, t.b.size ≤ maxLen ∧ t.e.size ≤ maxLen) (hl : l.length ≤ maxLen) (hc : (chkT how l == 0) = false) :
    Calls Try.prog 15 #[.int .i64 how, .slice A l.length c] w fun e w' => e = .returned (.tuple #[.slice none 0 0, .int .i64 (chkT how l)]) ∧ Below w.heap.size w w' := by
  have hck := Lib.hid (rcheck_any how l A c w hr hs hl)
  obtain ⟨n, hn⟩ : ∃ n, l.length = n := ⟨_, rfl⟩
  obtain ⟨e, he⟩ : ∃ e, chkT how l = e := ⟨_, rfl⟩
  rw [hn] at hck ⊢
  rw [he] at hck hc ⊢
  have hne : (e != 0) = true := by simp [bne, hc]
  clear hr hs hl hn he
  go_enter Try.func15, Try.ntmps15
  go_wp2_with (go_at_call 9; refine hck.out.mono ?_; rintro e2 w2 ⟨rfl, hB2⟩)
  go_ret2
  exact ⟨rfl, hB2⟩
theorem rsplit_yes (how : Int) (l : List Tb) (A : Option Addr) (c : Nat) (w : World) (hr : Rd w 3 A l.length (l.flatMap tc)) (hs : ∀ t ∈ l, t.b.size ≤ maxLen ∧ t.e.size ≤ maxLen) (hc : chkT how l = 0) (hl : l.length ≤ 1024) :
    Calls Try.prog 15 #[.int .i64 how, .slice A l.length c] w fun e w' => ∃ v, e = .returned (.tuple #[v, .int .i64 0]) ∧ FL w' w.heap.size v (splitT how l) ∧ Below w.heap.size w w' := by
  have hck := Lib.hid (rcheck_any how l A c w hr hs (by unfold maxLen; omega))
  rw [hc] at hck
  have hcp := Lib.hid (fun x y W => rcompare_any how x y W)
  have hwt := Lib.hid (fun L s A c W => with_any how L s A c W)
  obtain ⟨n, hn⟩ : ∃ n, l.length = n := ⟨_, rfl⟩
  rw [hn] at hck hl ⊢
  clear hs hc
  replace hr := Lib.hid hr
  go_enter Try.func15, Try.ntmps15
  go_wp2_with (go_at_call 9; refine hck.out.mono ?_; rintro e2 w2 ⟨rfl, hB2⟩; replace hB2 := Lib.hid hB2)
  obtain ⟨wz, hwz⟩ : ∃ wz, w2.alloc (.cells #[] 9) = wz := ⟨_, rfl⟩
  rw [hwz]
  have hBz : Below w.heap.size w wz := by rw [← hwz]; exact hB2.out.alloc hB2.out.size _
  replace hwz := Lib.hid hwz
  go_loopw [7, 8] (fun v7 vi wr => ∃ (k : Nat) (A7 : Option Addr) (c7 : Nat), k ≤ n ∧ vi = .int .i64 k ∧ v7 = .slice A7 (rends how (liveT how (l.take k))).length c7 ∧ (rends how (liveT how (l.take k))).length ≤ c7 ∧ c7 ≤ maxLen ∧ Rd wr 1 A7 (rends how (liveT how (l.take k))).length (stC (rends how (liveT how (l.take k)))) ∧ Below w.heap.size w wr) (fun _ vi _ => n - (intOf vi).toNat)
  case atStart => exact ⟨0, some ⟨w2.heap.size, 0, none⟩, 0, Nat.zero_le _, rfl, rfl, Nat.le_refl _, by unfold maxLen; omega, Rd.nil _ _ _, hBz⟩
  case round =>
    obtain ⟨k, A7, c7, hk, rfl, rfl, hl7, hm7, hr7, hB⟩ := hrel
    replace hB := Lib.hid hB
    by_cases hlt : k < n
    · obtain ⟨t, ht⟩ : ∃ t, l[k]? = some t := ⟨_, List.getElem?_eq_getElem (by omega)⟩
      have hsn := liveT_snoc how l k t ht
      have hrw := hr.out.keep hB.out
      obtain ⟨g, o, rfl, -⟩ := hr.out.2 (by omega)
      obtain ⟨e0, e1, e2⟩ := Rd.tb hrw ht
      have hEl := rends_len how (liveT how (l.take k)) []
      have hll := liveT_len how (l.take k)
      rw [List.length_take] at hll
      obtain ⟨E, hE⟩ : ∃ E, rends how (liveT how (l.take k)) = E := ⟨_, rfl⟩
      have hEl2 : E.length ≤ 2048 := by rw [← hE]; unfold rends; simp only [List.length_nil, Nat.zero_add] at hEl; omega
      have hEs : rends how (liveT how (l.take (k + 1))) = if cmpH how t.b t.e < 0 then insU (ltBb how) t.e (insU (ltBb how) t.b E) else E := by
        rw [hsn]
        split
        · rw [rends_snoc, hE]
        · rw [List.append_nil, hE]
      rw [hE] at hl7 hr7 ⊢
      clear hEl hll hE hsn hrw ht
      have i0 : (0 : Int) ≤ (k : Int) := by omega
      have i1 : (k : Int) < (n : Int) := by omega
      have hcx := Lib.hid (hcp.out t.b t.e)
      obtain ⟨y, hy⟩ : ∃ y, cmpH how t.b t.e = y := ⟨_, rfl⟩
      rw [hy] at hcx hEs
      replace hy := Lib.hid hy
      have hcx2 := Lib.hid (fun m => Calls.quiet_of_same ((hcx.out (wr.drewN m)).mono fun _ _ h => ⟨h.1, h.2.symm⟩))
      replace hEs := Lib.hid hEs
      replace hr7 := Lib.hid hr7
      by_cases hy0 : y < 0
      · have d0 : decide (y < 0) = true := decide_eq_true hy0
        go_upto_region 8 with fail
        go_quiet ((go_at_call 11; exact hcx2.out _))
        obtain ⟨w3, hw3⟩ : ∃ w3, wr.drewN nq = w3 := ⟨_, rfl⟩
        rw [hw3]
        have hB3 : Below wr.heap.size wr w3 := by rw [← hw3]; exact below_drewN (Below.refl _ _) _
        replace hw3 := Lib.hid hw3
        have f0 := cell_keep hB3 e0
        have f1 := cell_keep hB3 e1
        have hr3 := Lib.hid (hr7.out.keep hB3)
        have hBw := Lib.hid (below_then hB.out hB3)
        clear e0 e1 e2 hB3
        have hI1 := insU_len (ltBb how) t.b E
        have hw1 := Lib.hid (fun W (hW : Below w3.heap.size w3 W) => hwt.out E t.b A7 c7 W (hr3.out.keep hW) hl7 hm7 (by omega))
        have hw2 := Lib.hid (fun A c W h1 h2 h3 => hwt.out (insU (ltBb how) t.b E) t.e A c W h1 h2 h3 (by omega))
        obtain ⟨I1, hI1e⟩ : ∃ I, insU (ltBb how) t.b E = I := ⟨_, rfl⟩
        rw [hI1e] at hw1 hw2 hEs hI1
        obtain ⟨I2, hI2e⟩ : ∃ I, insU (ltBb how) t.e I1 = I := ⟨_, rfl⟩
        rw [hI2e] at hw2 hEs
        replace hI1e := Lib.hid hI1e
        replace hI2e := Lib.hid hI2e
        have hcells : ∀ W, Below w3.heap.size w3 W → W.cell? ⟨g, o + k * 3, none⟩ = some (.string t.b) ∧ W.cell? ⟨g, o + k * 3 + 1, none⟩ = some (.string t.e) ∧ Below w3.heap.size w3 W := fun W hW => ⟨cell_keep hW f0, cell_keep hW f1, hW⟩
        go_wp2_with fail
        have tok : True := trivial
        go_region_held3 (fun w' => w'.cell? ⟨g, o + k * 3, none⟩ = some (.string t.b) ∧ w'.cell? ⟨g, o + k * 3 + 1, none⟩ = some (.string t.e) ∧ Below w3.heap.size w3 w') ((refine hcells _ ?_; first | exact (Below.refl _ _).drew | exact Below.refl _ _ | exact hB5 | exact hB6)) ((first
          | (go_at_call 40; have t1 := tok; clear tok; refine (hw1.out _ (by first | exact Below.refl _ _ | exact (Below.refl _ _).drew)).mono ?_; rintro e5 w5 ⟨A5, c5, rfl, h51, h52, hr5, hB5⟩; replace hB5 := below_then (by first | exact Below.refl w3.heap.size w3 | exact (Below.refl w3.heap.size w3).drew) hB5)
          | (go_at_call 40; refine (hw2.out _ _ _ hr5 h51 h52).mono ?_; rintro e6 w6 ⟨A6, c6, rfl, h61, h62, hr6, hB6⟩; replace hB6 := below_then hB5 hB6; clear hB5 hr5)))
        go_wp2_with fail
        go_roundw
        case measure => simp only [intOf]; omega
        case rel => exact ⟨k + 1, A6, c6, by omega, by go_num, by rw [hEs.out, if_pos hy0], by rw [hEs.out, if_pos hy0]; exact h61, h62, by rw [hEs.out, if_pos hy0]; exact hr6, below_then hBw.out hB6⟩
      · have d0 : decide (y < 0) = false := decide_eq_false hy0
        go_upto_region 8 with fail
        go_quiet ((go_at_call 11; exact hcx2.out _))
        go_wp2_with fail
        go_roundw
        case measure => simp only [intOf]; omega
        case rel => exact ⟨k + 1, A7, c7, by omega, by go_num, by rw [hEs.out, if_neg hy0], by rw [hEs.out, if_neg hy0]; exact hl7, hm7, by rw [hEs.out, if_neg hy0]; exact hr7.out.keep (below_drewN (Below.refl _ _) _), below_drewN hB.out _⟩
    · obtain rfl : n = k := by omega
      rw [List.take_of_length_le (by omega), rends_eq] at hl7 hr7 ⊢
      obtain ⟨L, hL⟩ : ∃ L, liveT how l = L := ⟨_, rfl⟩
      obtain ⟨C, hC⟩ : ∃ C, cutsT how l = C := ⟨_, rfl⟩
      have hsp : splitT how l = fragsN how L C (C.length - 1) := by unfold splitT; rw [hC, hL]
      have hCn : C.length ≤ 2048 := by rw [← hC]; have := cuts_len how l; omega
      have hsq := Lib.hid (fun (j : Nat) (a b : ByteArray) (ha : C[j]? = some a) (hb : C[j + 1]? = some b) => (hL ▸ rseqs_eq (hC ▸ ha) (hC ▸ hb) : rseqs how l a = seqsT how L a b))
      rw [hC] at hl7 hr7 ⊢
      replace hsp := Lib.hid hsp
      replace hC := Lib.hid hC
      replace hL := Lib.hid hL
      have hr7h := Lib.hid hr7
      clear hr7
      go_wp2_with fail
      obtain ⟨wq, hwq⟩ : ∃ wq, wq = wr := ⟨_, rfl⟩
      subst hwq
      obtain ⟨w4, hw4⟩ : ∃ w4, wq.alloc (.cells #[] 34) = w4 := ⟨_, rfl⟩
      rw [hw4]
      have hB4 : Below wq.heap.size wq w4 := by rw [← hw4]; exact (Below.refl _ _).alloc (Nat.le_refl _) _
      have b4 : Bl w4 wq.heap.size (.cells #[] 34 (0, 0)) := by rw [← hw4]; exact Bl.new' rfl
      replace hw4 := Lib.hid hw4
      have hr4 := hr7h
      have hBw4 := hB
      obtain ⟨z4, hz4⟩ : ∃ z, wq.heap.size = z := ⟨_, rfl⟩
      rw [hz4] at b4 ⊢
      have hwz4 : w.heap.size ≤ z4 := by rw [← hz4]; exact hB.out.size
      have hFL0 : FL w4 z4 (.slice (some ⟨z4, 0, none⟩) 0 0) (fragsN how L C 0) := ⟨[], rfl, OW.empty (Nat.le_refl _) b4, fun p hp => by cases hp⟩
      replace hFL0 := Lib.hid hFL0
      have hz4h := Lib.hid hz4
      clear hz4 hr7h b4
      replace hB4 := Lib.hid hB4
      go_loopw [9, 10] (fun v i wr => ∃ k : Nat, k ≤ C.length - 1 ∧ i = .int .i64 k ∧ FL wr z4 v (fragsN how L C k) ∧ Below wq.heap.size wq wr) (fun _ i _ => C.length - (intOf i).toNat)
      case atStart => exact ⟨0, Nat.zero_le _, rfl, hFL0.out, hB4.out⟩
      case round =>
        clear hFL0
        obtain ⟨j, hj, rfl, hFL, hBj⟩ := hrel
        obtain ⟨wo, hwo⟩ : ∃ wo, wo = wr := ⟨_, rfl⟩
        subst hwo
        obtain ⟨G, hG, hoG, hpG⟩ := hFL
        by_cases hlt : j + 1 < C.length
        · obtain ⟨a, ha⟩ : ∃ a, C[j]? = some a := ⟨_, List.getElem?_eq_getElem (by omega)⟩
          obtain ⟨b, hb2⟩ : ∃ b, C[j + 1]? = some b := ⟨_, List.getElem?_eq_getElem (by omega)⟩
          have hr4w := hr4.out.keep hBj
          obtain ⟨g8, o8, rfl, -⟩ := hr4w.2 (by omega)
          have q0 : wo.cell? ⟨g8, o8 + j, none⟩ = some (.string a) := hr4w.cellAt (by unfold stC; rw [List.getElem?_map, ha]; rfl)
          have q1 : wo.cell? ⟨g8, o8 + (j + 1), none⟩ = some (.string b) := hr4w.cellAt (by unfold stC; rw [List.getElem?_map, hb2]; rfl)
          have hfn := Lib.hid (fragsN_succ how L C j a b ha hb2)
          have hse := Lib.hid (hsq.out j a b ha hb2)
          have hFn := fragsN_len how L C j
          obtain ⟨F, hF⟩ : ∃ F, fragsN how L C j = F := ⟨_, rfl⟩
          rw [hF] at hG hoG hFn
          replace hF := Lib.hid hF
          replace hBj := Lib.hid hBj
          replace hoG := Lib.hid hoG
          replace hpG := Lib.hid hpG
          clear hr4w ha hb2
          have i1 : IntKind.i64.wrap ((j : Int) + 1) = (j : Int) + 1 := by simp [IntKind.wrap, IntKind.bits, IntKind.signed]; omega
          have i2 : IntKind.i64.wrap (j : Int) = (j : Int) := by simp [IntKind.wrap, IntKind.bits, IntKind.signed]; omega
          have i3 : (0 : Int) ≤ (j : Int) := by omega
          have i4 : (j : Int) < (C.length : Int) := by omega
          have i5 : (0 : Int) ≤ (j : Int) + 1 := by omega
          have i6 : (j : Int) + 1 < (C.length : Int) := by omega
          have i7 : ((j : Int) + 1).toNat = j + 1 := by omega
          go_upto_region 14 with fail
          have hg8 : g8 < wo.heap.size := cell_lt q0
          have hcells : ∀ W, Below wo.heap.size wo W → W.cell? ⟨g8, o8 + j, none⟩ = some (.string a) ∧ W.cell? ⟨g8, o8 + (j + 1), none⟩ = some (.string b) ∧ Below wo.heap.size wo W := fun W hW => ⟨cell_keep hW q0, cell_keep hW q1, hW⟩
          go_region_held3 (fun w' => w'.cell? ⟨g8, o8 + j, none⟩ = some (.string a) ∧ w'.cell? ⟨g8, o8 + (j + 1), none⟩ = some (.string b) ∧ Below wo.heap.size wo w') ((refine hcells _ ?_; first | exact Below.refl _ _ | exact (Below.refl _ _).drew | exact (Below.refl _ _).alloc (Nat.le_refl _) _ | exact ((Below.refl _ _).alloc (Nat.le_refl _) _).drew)) ((first | fail))
          go_wp2_with fail
          obtain ⟨w5, hw5⟩ : ∃ w5, (wo.alloc (.cells #[.string a, .string b, .slice none 0 0] 34)).drew = w5 := ⟨_, rfl⟩
          have hB5 : Below wo.heap.size wo w5 := by rw [← hw5]; exact ((Below.refl _ _).alloc (Nat.le_refl _) _).drew
          have b5 : Bl w5 wo.heap.size (.cells #[.string a, .string b, .slice none 0 0] 34 (0, 0)) := by rw [← hw5]; exact (Bl.new' rfl).drew
          have z5 : w5.heap.size = wo.heap.size + 1 := by rw [← hw5]; exact (Array.size_push _)
          rw [hw5]
          replace hw5 := Lib.hid hw5
          obtain ⟨fb, hfb⟩ : ∃ fb, wo.heap.size = fb := ⟨_, rfl⟩
          rw [hfb] at b5 z5
          rw [hfb]
          have hB45 : Below wq.heap.size wq w5 := hBj.out.trans (hB5.mono hBj.out.size)
          have hBw5 : Below w.heap.size w w5 := below_then hBw4.out hB45
          have hz4 : z4 ≤ fb := by rw [← hfb, ← hz4h.out]; exact hBj.out.size
          have hzw : w.heap.size ≤ z4 := hwz4
          have q5 := cell_keep hB5 q0
          have hg8b : g8 < fb := by rw [← hfb]; exact hg8
          have hl3 : Rd w5 3 A n (l.flatMap tc) := by have := hr.out.keep hBw5; rwa [hn] at this
          have h3lo : ∀ ad, A = some ad → 0 < n → ad.block < fb := fun ad e h0 => by
            obtain ⟨b', o', e', hc'⟩ := hr.out.2 (by omega)
            rw [e] at e'
            obtain rfl := Option.some.inj e'
            obtain ⟨x, hx⟩ : ∃ x, (l.flatMap tc)[0]? = some x := ⟨_, List.getElem?_eq_getElem (by have := hr.out.1; omega)⟩
            have := cell_lt (hc' 0 x hx)
            simp only
            omega
          clear q0 q1 hcells i1 i2 i5 i6 i7 hg8
          replace hB5 := Lib.hid hB5
          replace hB45 := Lib.hid hB45
          replace hBw5 := Lib.hid hBw5
          replace hl3 := Lib.hid hl3
          replace h3lo := Lib.hid h3lo
          go_loopw [12] (fun i wr => ∃ (m : Nat) (Au : Option Addr) (cu : Nat), m ≤ n ∧ i = .int .i64 m ∧ Bl wr fb (.cells #[.string a, .string b, .slice Au (rseqs how (l.take m) a).length cu] 34 (0, 0)) ∧ OW wr w5.heap.size 1 (.slice Au (rseqs how (l.take m) a).length cu) (rseqs how (l.take m) a).length (u64C (rseqs how (l.take m) a)) ∧ Fr (fun q => q = fb) w5 wr) (fun i _ => n - (intOf i).toNat)
          case atStart => exact ⟨0, none, 0, Nat.zero_le _, rfl, b5, OW.nil _ _ _, Fr.refl _ _⟩
          case round =>
            clear b5
            obtain ⟨m, Au, cu, hm, rfl, hbf, hou, hFf⟩ := hrel
            by_cases hml : m < n
            · obtain ⟨t, ht⟩ : ∃ t, l[m]? = some t := ⟨_, List.getElem?_eq_getElem (by have := hr.out.1; rw [flat_len tc 3 tc_len] at this; omega)⟩
              have hss := rseqs_snoc how l m t a ht
              have hsl := rseqs_len ((l.take m).filter (fun t => overT how t a)) []
              have hfl := List.length_filter_le (fun t => overT how t a) (l.take m)
              rw [List.length_take] at hfl
              have hsl2 : (rseqs how (l.take m) a).length ≤ 1024 := by unfold rseqs; simp only [List.length_nil, Nat.zero_add] at hsl; omega
              have r3 := hl3.out.fr hFf (fun ad e h => by have := h3lo.out ad e (by omega); omega)
              obtain ⟨g3, o3, rfl, -⟩ := r3.2 (by omega)
              have hnl : l.length = n := by have := hr.out.1; rw [flat_len tc 3 tc_len] at this; omega
              rw [← hnl] at r3
              obtain ⟨e0, e1, e2⟩ := Rd.tb r3 ht
              have q6 : wr.cell? ⟨g8, o8 + j, none⟩ = some (.string a) := by rw [World.cell?_of_block (a := ⟨g8, o8 + j, none⟩) (hFf.block g8 (by omega) (by omega))]; exact q5
              obtain ⟨S, hS⟩ : ∃ S, rseqs how (l.take m) a = S := ⟨_, rfl⟩
              rw [hS] at hss hou hsl2 hbf
              have hBw := Lib.hid (Fr.thenBelow hBw5.out hFf (by omega) (fun i hi e => by omega))
              clear hS hsl hfl r3 hnl ht
              have k0 : (0 : Int) ≤ (m : Int) := by omega
              have k1 : (m : Int) < (n : Int) := by omega
              have hcO := Lib.hid (fun W => over_any how t a W)
              obtain ⟨bT, hbT⟩ : ∃ bT, overT how t a = bT := ⟨_, rfl⟩
              rw [hbT] at hcO hss
              replace hbT := Lib.hid hbT
              replace hss := Lib.hid hss
              replace hou := Lib.hid hou
              replace hFf := Lib.hid hFf
              have hcells : ∀ W, Below wr.heap.size wr W → W.cell? ⟨g8, o8 + j, none⟩ = some (.string a) ∧ W.cell? ⟨g3, o3 + m * 3, none⟩ = some (.string t.b) ∧ W.cell? ⟨g3, o3 + m * 3 + 1, none⟩ = some (.string t.e) ∧ W.cell? ⟨g3, o3 + m * 3 + 2, none⟩ = some (.int .u64 t.s) := fun W hW => ⟨cell_keep hW q6, cell_keep hW e0, cell_keep hW e1, cell_keep hW e2⟩
              replace hbf := Lib.hid hbf
              go_upto_region 18 with fail
              go_region_held3 (fun w' => w'.cell? ⟨g8, o8 + j, none⟩ = some (.string a) ∧ w'.cell? ⟨g3, o3 + m * 3, none⟩ = some (.string t.b) ∧ w'.cell? ⟨g3, o3 + m * 3 + 1, none⟩ = some (.string t.e) ∧ w'.cell? ⟨g3, o3 + m * 3 + 2, none⟩ = some (.int .u64 t.s)) ((first | go_keep | (refine hcells _ ?_; first | exact hB3 | exact below_then (Below.refl _ _).drew hB3))) ((first
                | (go_at_call 12; refine (hcO.out _).mono ?_; rintro e w3 ⟨rfl, hB3⟩; replace hB3 := below_then (Below.refl wr.heap.size wr).drew hB3)))
              have hb3 := hbf.out.keep hB3
              have e3 : w3.cell? ⟨g3, o3 + m * 3 + 2, none⟩ = some (.int .u64 t.s) := cell_keep hB3 e2
              have f2 : w3.cell? ⟨fb, 2, none⟩ = some (.slice Au S.length cu) := hb3.cell 2
              have hF3 := hFf.out.thenB hB3
              have ho3 := hou.out.keep hB3
              replace hb3 := Lib.hid hb3
              replace hF3 := Lib.hid hF3
              replace ho3 := Lib.hid ho3
              clear hcells q6 e0 e1 e2 hB3 hbf hou hFf
              cases bT with
              | true =>
                rw [if_pos rfl] at hss
                go_wp2_with fail
                go_still_tail 7, (by kernel_rfl)
                change wpList _ _ _ _ _ w3.drew
                obtain ⟨hc3, hm3⟩ := ow_cap ho3.out
                have hsC := Lib.hid (fun W (hW : Below w3.heap.size w3 W) => seqs_any S t.s Au cu W ((ho3.out.keep hW).rd) hc3 hm3 (by omega))
                have hsl := insU_len gtI t.s S
                obtain ⟨S', hS'⟩ : ∃ S', insU gtI t.s S = S' := ⟨_, rfl⟩
                rw [hS'] at hsC hss hsl
                replace hS' := Lib.hid hS'
                go_wp2_with (first
                  | (go_at_call 41; (with_reducible refine (hsC.out _ (Below.refl _ _).drew).mono ?_); rintro e8 w8 ⟨A8, c8, rfl, h81, h82, hr8, hB8, ho8⟩
                     replace hB8 := below_then (Below.refl w3.heap.size w3).drew hB8
                     replace ho8 := ho8 w5.heap.size (by have := hF3.out.size; simp; omega) ho3.out.drew
                     have hb8 := hb3.out.keep hB8
                     have g2 : w8.cell? ⟨fb, 2, none⟩ = some (.slice Au S.length cu) := hb8.cell 2
                     have gz : w8.frozen? ⟨fb, 2, none⟩ = false := hb8.frozen 2
                     replace hb8 := Lib.hid hb8
                     replace ho8 := Lib.hid ho8
                     clear hr8))
                go_roundw
                case measure => simp only [intOf]; omega
                case rel => exact ⟨m + 1, A8, c8, by omega, by go_num, by rw [hss.out]; simpa using hb8.out.setSame 2 (.slice A8 S'.length c8), by rw [hss.out]; exact ho8.out.set _ (fun e => by have := (ho8.out.lt _ e).1; omega), (hF3.out.thenB hB8).set _ (fun _ => rfl)⟩
              | false =>
                rw [if_neg (by decide)] at hss
                go_wp2_with fail
                go_roundw
                case measure => simp only [intOf]; omega
                case rel => exact ⟨m + 1, Au, cu, by omega, by go_num, by rw [hss.out]; exact hb3.out, by rw [hss.out]; exact ho3.out, hF3.out⟩
            · obtain rfl : n = m := by omega
              rw [List.take_of_length_le (by omega)] at hbf hou
              rw [hse.out] at hbf hou
              obtain ⟨q, hq⟩ : ∃ q, seqsT how L a b = q := ⟨_, rfl⟩
              rw [hq] at hbf hou
              have f0 : wr.cell? ⟨fb, 0, none⟩ = some (.string a) := hbf.cell 0
              have f1 : wr.cell? ⟨fb, 1, none⟩ = some (.string b) := hbf.cell 1
              have f2 : wr.cell? ⟨fb, 2, none⟩ = some (.slice Au q.length cu) := hbf.cell 2
              have hB7 := Lib.hid (Fr.thenBelow hB5.out hFf (Nat.le_refl _) (fun i hi e => by omega))
              replace hou := Lib.hid hou
              replace hbf := Lib.hid hbf
              replace hFf := Lib.hid hFf
              replace hq := Lib.hid hq
              have hwol := Lib.hid hfb
              by_cases hq0 : 0 < q.length
              · have d1 : decide ((0 : Int) < (q.length : Int)) = true := decide_eq_true (by omega)
                have d2 : decide (0 < q.length) = true := decide_eq_true hq0
                replace hfb := Lib.hid hfb
                go_wp2_with (first
                  | (at_builtin; (refine wpList_append_ow rfl (.tmp 101) (.tmp 103) 24 rfl z4 34 rfl infoFrag rfl (by decide) _ _ _ rfl ((hoG.out.keep hB7.out).alloc _) _ 1 _ (fcs (⟨a, b, q⟩, .slice Au q.length cu)) rfl (rd_new (by simp) _ _ 1 3 rfl) (by intro u hu; simp [fcs] at hu; rcases hu with rfl | rfl | rfl <;> rfl) (by unfold maxLen; omega) (by omega) (by have := hB7.out.size; have := hwol.out; simp; omega) ?_); rintro vn w9 hvn hgn hnn
                     have hf9 : Fr (fun q => u9.ownBlock = some q) wr w9 := ((Fr.refl _ _).alloc _).grown hgn (fun q hq _ => hq)
                     have hnv : vn.ownBlock = u9.ownBlock ∨ vn.ownBlock = some (wr.heap.size + 1) := hnn.imp (fun h => h) (fun h => h.trans (by simp))
                     have hFL9 := Lib.hid (FL.push (f := ⟨a, b, q⟩) hG (hoG.out.keep hB7.out) (fun p hp => ⟨(hpG.out p hp).1.keep hB7.out, (hpG.out p hp).2⟩) (hou.out.more (by omega)) (fun q hq e => by have := (hou.out.lt q hq).1; have := (hoG.out.lt q e).2; have := hwol.out; omega) hvn hf9 (Nat.le_succ _) hnv)
                     have hB9 := Lib.hid (Fr.thenBelow (hBj.out.trans (hB7.out.mono hBj.out.size)) hf9 (Nat.le_refl _) (fun i hi e => by have := (hoG.out.lt i e).1; have := hz4h.out; omega))
                     clear hgn hnn hvn hf9 hnv f0 f1 f2))
                go_roundw
                case measure => simp only [intOf]; omega
                case rel =>
                  refine ⟨j + 1, by omega, by go_num, ?_, hB9.out⟩
                  rw [hfn.out, hF.out, frag1, hq.out, if_pos hq0]
                  exact hFL9.out
              · have d1 : decide ((0 : Int) < (q.length : Int)) = false := decide_eq_false (by omega)
                have d2 : decide (0 < q.length) = false := decide_eq_false hq0
                replace hfb := Lib.hid hfb
                go_wp2_with fail
                go_roundw
                case measure => simp only [intOf]; omega
                case rel =>
                  refine ⟨j + 1, by omega, by go_num, ?_, hBj.out.trans (hB7.out.mono hBj.out.size)⟩
                  rw [hfn.out, hF.out, frag1, hq.out, if_neg hq0, List.append_nil]
                  exact ⟨G, hG, hoG.out.keep hB7.out, fun p hp => ⟨(hpG.out p hp).1.keep hB7.out, (hpG.out p hp).2⟩⟩
        · obtain rfl : j = C.length - 1 := by omega
          have hFL := Lib.hid (show FL wo w.heap.size u9 (splitT how l) from hsp.out ▸ FL.more ⟨G, hG, hoG, hpG⟩ hwz4)
          have d1 : decide ((((C.length - 1 : Nat) : Int) + 1) < (C.length : Int)) = false := decide_eq_false (by omega)
          have hBe2 := Lib.hid (below_then hBw4.out hBj)
          go_wp2_with fail
          go_ret2
          exact ⟨_, rfl, hFL.out, hBe2.out⟩
end Go.Proofs.Ytmopjoeomjdikaa
