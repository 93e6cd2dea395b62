/- Fragments joined: the program's answer and the document's. Conditions: what each theorem names. -/
import Derived.RangeFuncNested
import Derived.RangeFuncBound
import Derived.RangeFuncCalls
import Derived.RangeFuncLeaves
import Derived.Shelf.Abstract
import Derived.Shelf.RegionOpen
import Derived.WalkKit
import Derived.OwnWalkIn
import Derived.TacticsInMore
import Derived.LoopNIn
import Derived.LoopIn
import Derived.Lib.Hide
import Derived.Outline
import Derived.RegionTactic
import Derived.BigRegion
import Derived.WalkLawsBesides
import Derived.WalkSpells
import Derived.Deep.QuietTactic
import Derived.BigQuiet
import Derived.Deep.RegionHeld3
import Derived.Deep.DeepCutAuto
import Derived.Deep.CutBlock
import Derived.StillTailTactics
import Derived.WalkSmall
import Derived.Test.YtmopjoeomjdikaaRgT
import Derived.Test.YtmopjoeomjdikaaRgH
import Derived.Test.YtmopjoeomjdikaaRgS
namespace Go.Proofs.Ytmopjoeomjdikaa
open Go.RowKit Go.Sed Go.Sort
set_option maxHeartbeats 2000000
set_option maxRecDepth 100000
theorem rlong_few (F : List Fg) (A : Option Addr) (c : Nat) (w : World) (h : FR w A F) (hl : F.length ≤ 2048) (hq : ∀ f ∈ F, f.q.length ≤ 35184372088832) (hs : ∀ f ∈ F, f.b.size ≤ maxLen ∧ f.e.size ≤ maxLen) :
    Calls Try.prog 46 #[.slice A F.length c] w fun e w' => e = .returned (.bool (longF F)) ∧ Below w.heap.size w w' := by
  obtain ⟨n, hn⟩ : ∃ n, F.length = n := ⟨_, rfl⟩
  rw [hn] at hl ⊢
  unfold maxLen at hs
  have hsum := Lib.hid (fun i : Nat => Nat.le_trans (sumQ_up F i) (sumQ_le 35184372088832 F hq))
  replace hn := Lib.hid hn
  replace hs := Lib.hid hs
  replace hq := Lib.hid hq
  replace h := Lib.hid h
  go_enter Try.func46, Try.ntmps46
  go_wp2_with fail
  go_loopw [3, 4] (fun v3 vi wr => ∃ i : Nat, i ≤ n ∧ vi = .int .i64 i ∧ v3 = .int .i64 (sumQ (F.take i)) ∧ (F.take i).any longK = false ∧ sumQ (F.take i) ≤ 1048576 ∧ Below w.heap.size w wr) (fun _ vi _ => n - (intOf vi).toNat)
  case atStart => exact ⟨0, Nat.zero_le _, rfl, rfl, rfl, Nat.zero_le _, Below.refl _ _⟩
  case round =>
    obtain ⟨i, hi, rfl, rfl, ha, hsi, hB⟩ := hrel
    replace hB := Lib.hid hB
    by_cases hlt : i < n
    · obtain ⟨f, hf⟩ : ∃ f, F[i]? = some f := ⟨_, List.getElem?_eq_getElem (by have := hn.out; omega)⟩
      obtain ⟨g, o, B, d, hA, hc⟩ := h.out.at hf
      subst hA
      obtain ⟨e0, e1, e2, -⟩ := hc wr hB.out
      have hst := Lib.hid (sumQ_take F i f hf)
      have hq1 := hq.out f (List.mem_of_getElem? hf)
      have hs1 := hs.out f (List.mem_of_getElem? hf)
      have hany : (F.take (i + 1)).any longK = longK f := by rw [List.take_add_one, hf, List.any_append, ha]; simp
      replace ha := Lib.hid ha
      replace hany := Lib.hid hany
      have hlk := Lib.hid (longF_key hf)
      have hup := Lib.hid (sumQ_up F (i + 1))
      have hK : longK f = (decide (1024 < f.b.size) || decide (1024 < f.e.size)) := rfl
      replace hK := Lib.hid hK
      obtain ⟨S, hS⟩ : ∃ S, sumQ (F.take i) = S := ⟨_, rfl⟩
      rw [hS] at hst hsi ⊢
      obtain ⟨zb, hzb⟩ : ∃ z, f.b.size = z := ⟨_, rfl⟩
      obtain ⟨ze, hze⟩ : ∃ z, f.e.size = z := ⟨_, rfl⟩
      rw [hzb, hze] at hs1
      obtain ⟨hs1, hs2⟩ := hs1
      replace hS := Lib.hid hS
      clear hc hf
      have i0 : (0 : Int) ≤ (i : Int) := by omega
      have i1 : (i : Int) < (n : Int) := by omega
      by_cases hb : 1024 < zb
      · have hr : longF F = true := hlk.out (by rw [hK.out, hzb, decide_eq_true hb]; rfl)
        have d0 : decide ((1024 : Int) < (zb : Int)) = true := decide_eq_true (by omega)
        replace hr := Lib.hid hr
        go_wp2_with fail
        go_ret
        exact ⟨by rw [hr.out]; rfl, hB.out⟩
      · have d0 : decide ((1024 : Int) < (zb : Int)) = false := decide_eq_false (by omega)
        by_cases he : 1024 < ze
        · have hr : longF F = true := hlk.out (by rw [hK.out, hze, decide_eq_true he, Bool.or_true])
          have d1 : decide ((1024 : Int) < (ze : Int)) = true := decide_eq_true (by omega)
          replace hr := Lib.hid hr
          go_wp2_with fail
          go_ret
          exact ⟨by rw [hr.out]; rfl, hB.out⟩
        · have d1 : decide ((1024 : Int) < (ze : Int)) = false := decide_eq_false (by omega)
          have hk0 : longK f = false := by rw [hK.out, hzb, hze, decide_eq_false hb, decide_eq_false he]; rfl
          replace hk0 := Lib.hid hk0
          by_cases hbig : 1048576 < S + f.q.length
          · have d2 : decide ((1048576 : Int) < (S : Int) + (f.q.length : Int)) = true := decide_eq_true (by omega)
            have hr : longF F = true := by
              have h1 := hup.out
              rw [hst.out] at h1
              unfold longF
              rw [decide_eq_true (show 1048576 < sumQ F by omega), Bool.or_true]
            replace hr := Lib.hid hr
            go_wp2_with fail
            go_ret
            exact ⟨by rw [hr.out]; rfl, hB.out⟩
          · have d2 : decide ((1048576 : Int) < (S : Int) + (f.q.length : Int)) = false := decide_eq_false (by omega)
            go_wp2_with fail
            go_roundw
            case measure => simp only [intOf]; omega
            case rel => exact ⟨i + 1, by omega, by go_num, by rw [hst.out]; go_num, hany.out.trans hk0.out, by rw [hst.out]; omega, hB.out⟩
    · obtain rfl : i = n := by omega
      rw [List.take_of_length_le (by have := hn.out; omega)] at ha hsi ⊢
      have hr : longF F = false := by unfold longF; rw [ha, hn.out, decide_eq_false (by omega : ¬ 2048 < i), decide_eq_false (by omega : ¬ 1048576 < sumQ F)]; rfl
      replace hr := Lib.hid hr
      replace ha := Lib.hid ha
      have d2 : decide ((2048 : Int) < (i : Int)) = false := decide_eq_false (by omega)
      go_wp2_with fail
      go_ret
      exact ⟨by rw [hr.out]; rfl, hB.out⟩
theorem rlong_many (F : List Fg) (A : Option Addr) (c : Nat) (w : World) (h : FR w A F) (hl : 2048 < F.length) (hl2 : F.length ≤ maxLen) (hs : ∀ f ∈ F, f.b.size ≤ maxLen ∧ f.e.size ≤ maxLen) :
    Calls Try.prog 46 #[.slice A F.length c] w fun e w' => e = .returned (.bool true) ∧ Below w.heap.size w w' := by
  obtain ⟨n, hn⟩ : ∃ n, F.length = n := ⟨_, rfl⟩
  rw [hn] at hl hl2 ⊢
  unfold maxLen at hs hl2
  replace hn := Lib.hid hn
  replace hs := Lib.hid hs
  replace h := Lib.hid h
  go_enter Try.func46, Try.ntmps46
  go_wp2_with fail
  go_loopw [3, 4] (fun v3 vi wr => ∃ (i : Nat) (z : Int), i ≤ n ∧ vi = .int .i64 i ∧ v3 = .int .i64 z ∧ Below w.heap.size w wr) (fun _ vi _ => n - (intOf vi).toNat)
  case atStart => exact ⟨0, 0, Nat.zero_le _, rfl, rfl, Below.refl _ _⟩
  case round =>
    obtain ⟨i, z, hi, rfl, rfl, hB⟩ := hrel
    replace hB := Lib.hid hB
    by_cases hlt : i < n
    · obtain ⟨f, hf⟩ : ∃ f, F[i]? = some f := ⟨_, List.getElem?_eq_getElem (by have := hn.out; omega)⟩
      obtain ⟨g, o, B, d, hA, hc⟩ := h.out.at hf
      subst hA
      obtain ⟨e0, e1, e2, -⟩ := hc wr hB.out
      have hs1 := hs.out f (List.mem_of_getElem? hf)
      obtain ⟨zb, hzb⟩ : ∃ z, f.b.size = z := ⟨_, rfl⟩
      obtain ⟨ze, hze⟩ : ∃ z, f.e.size = z := ⟨_, rfl⟩
      rw [hzb, hze] at hs1
      obtain ⟨hs1, hs2⟩ := hs1
      clear hc hf
      have i0 : (0 : Int) ≤ (i : Int) := by omega
      have i1 : (i : Int) < (n : Int) := by omega
      by_cases hb : 1024 < zb
      · have d0 : decide ((1024 : Int) < (zb : Int)) = true := decide_eq_true (by omega)
        go_wp2_with fail
        go_ret
        exact ⟨rfl, hB.out⟩
      · have d0 : decide ((1024 : Int) < (zb : Int)) = false := decide_eq_false (by omega)
        by_cases he : 1024 < ze
        · have d1 : decide ((1024 : Int) < (ze : Int)) = true := decide_eq_true (by omega)
          go_wp2_with fail
          go_ret
          exact ⟨rfl, hB.out⟩
        · have d1 : decide ((1024 : Int) < (ze : Int)) = false := decide_eq_false (by omega)
          obtain ⟨z', hz'⟩ : ∃ z', IntKind.i64.wrap (z + (f.q.length : Int)) = z' := ⟨_, rfl⟩
          go_upto_region 6 with fail
          try rw [hz']
          by_cases hbig : 1048576 < z'
          · have d2 : decide ((1048576 : Int) < z') = true := decide_eq_true hbig
            replace hz' := Lib.hid hz'
            go_wp2_with fail
            go_ret
            exact ⟨rfl, hB.out⟩
          · have d2 : decide ((1048576 : Int) < z') = false := decide_eq_false hbig
            replace hz' := Lib.hid hz'
            go_wp2_with fail
            go_roundw
            case measure => simp only [intOf]; omega
            case rel => exact ⟨i + 1, _, by omega, by go_num, rfl, hB.out⟩
    · obtain rfl : i = n := by omega
      have d2 : decide ((2048 : Int) < (i : Int)) = true := decide_eq_true (by omega)
      go_wp2_with fail
      go_ret
      exact ⟨rfl, hB.out⟩
theorem tombsF_take (F : List Fg) (i : Nat) (f : Fg) (hf : F[i]? = some f) : tombsF (F.take (i + 1)) = tombsF (F.take i) ++ f.q.map (fun n => ⟨f.b, f.e, n⟩) := by
  unfold tombsF
  rw [List.take_add_one, hf, List.flatMap_append]
  simp
theorem tombs_any (F : List Fg) (A : Option Addr) (c : Nat) (w : World) (h : FR w A F) (hl : F.length ≤ maxLen) (hq : sumQ F ≤ 1048576) :
    Calls Try.prog 45 #[.slice A F.length c] w fun e w' => ∃ v, e = .returned v ∧ OW w' w.heap.size 3 v (tombsF F).length ((tombsF F).flatMap tc) ∧ Below w.heap.size w w' := by
  obtain ⟨n, hn⟩ : ∃ n, F.length = n := ⟨_, rfl⟩
  rw [hn] at hl ⊢
  unfold maxLen at hl
  obtain ⟨b0, hb0⟩ : ∃ b0, w.heap.size = b0 := ⟨_, rfl⟩
  have hsum := Lib.hid (fun i : Nat => Nat.le_trans (sumQ_up F i) hq)
  replace hn := Lib.hid hn
  replace h := Lib.hid h
  rw [hb0]
  replace hb0 := Lib.hid hb0
  go_enter Try.func45, Try.ntmps45
  go_wp2_with fail
  go_loopw [3, 10] (fun v3 vi wr => ∃ i : Nat, i ≤ n ∧ vi = .int .i64 i ∧ OW wr b0 3 v3 (tombsF (F.take i)).length ((tombsF (F.take i)).flatMap tc) ∧ Below w.heap.size w wr) (fun _ vi _ => n - (intOf vi).toNat)
  case atStart => exact ⟨0, Nat.zero_le _, rfl, OW.nil _ _ _, Below.refl _ _⟩
  case round =>
    obtain ⟨i, hi, rfl, ho, hB⟩ := hrel
    obtain ⟨wo, hwo⟩ : ∃ wo, wo = wr := ⟨_, rfl⟩
    subst hwo
    replace hB := Lib.hid hB
    by_cases hlt : i < n
    · obtain ⟨f, hf⟩ : ∃ f, F[i]? = some f := ⟨_, List.getElem?_eq_getElem (by have := hn.out; omega)⟩
      obtain ⟨g, o, B, d, hA, hc⟩ := h.out.at hf
      subst hA
      obtain ⟨e0, e1, e2, r⟩ := hc wo hB.out
      have htk := Lib.hid (tombsF_take F i f hf)
      have hsi := hsum.out (i + 1)
      rw [sumQ_take F i f hf] at hsi
      have htl := tombsF_len (F.take i)
      obtain ⟨T, hT⟩ : ∃ T, tombsF (F.take i) = T := ⟨_, rfl⟩
      rw [hT] at ho htk htl
      rw [← htl] at hsi
      clear htl hT
      obtain ⟨w1, hw1⟩ : ∃ w1, wo.alloc (.cells #[.string f.b, .string f.e, .slice B f.q.length d] 34) = w1 := ⟨_, rfl⟩
      have hB1 : Below wo.heap.size wo w1 := by rw [← hw1]; exact (Below.refl _ _).alloc (Nat.le_refl _) _
      have b1 : Bl w1 wo.heap.size (.cells #[.string f.b, .string f.e, .slice B f.q.length d] 34 (0, 0)) := by rw [← hw1]; exact Bl.new' rfl
      have ho1 := ho.keep hB1
      obtain ⟨fb, hfb⟩ : ∃ fb, wo.heap.size = fb := ⟨_, rfl⟩
      have hne : ∀ q, u3.ownBlock = some q → q ≠ fb := fun q hq e => by have := (ho.lt q hq).2; omega
      rw [hfb] at b1
      have hBw := Lib.hid (below_then hB.out hB1)
      have c2 : w1.cell? ⟨fb, 2, none⟩ = some (.slice B f.q.length d) := b1.cell 2
      replace hw1 := Lib.hid hw1
      replace hne := Lib.hid hne
      replace ho1 := Lib.hid ho1
      replace b1 := Lib.hid b1
      replace hfb := Lib.hid hfb
      clear ho hB1 hf
      replace r := Lib.hid (hc w1 hBw.out).2.2.2
      replace hc := Lib.hid hc
      go_upto_region 5 with fail
      rw [hw1.out, hfb.out]
      go_wp2_with fail
      clear e0 e1 e2 c2
      go_loopw [3, 17] (fun v3 vi wr => ∃ k : Nat, k ≤ f.q.length ∧ vi = .int .i64 k ∧ OW wr b0 3 v3 (T.length + k) ((T ++ (f.q.take k).map (fun n => (⟨f.b, f.e, n⟩ : Tb))).flatMap tc) ∧ Bl wr fb (.cells #[.string f.b, .string f.e, .slice B f.q.length d] 34 (0, 0)) ∧ (∀ q, v3.ownBlock = some q → q ≠ fb) ∧ Below w.heap.size w wr) (fun _ vi _ => f.q.length - (intOf vi).toNat)
      case atStart => exact ⟨0, Nat.zero_le _, rfl, by simpa using ho1.out, b1.out, hne.out, hBw.out⟩
      case round =>
        clear ho1 hne
        obtain ⟨k, hk, rfl, ho, hb, hne, hBr⟩ := hrel
        replace hne := Lib.hid hne
        replace ho := Lib.hid ho
        by_cases hkl : k < f.q.length
        · obtain ⟨m, hm⟩ : ∃ m, f.q[k]? = some m := ⟨_, List.getElem?_eq_getElem hkl⟩
          have r2 := (hc.out wr hBr).2.2.2
          obtain ⟨gb, ob, hBe, hbc⟩ := rd_at1 r2 hm
          have q0 := hbc wr (Below.refl _ _)
          have f0 : wr.cell? ⟨fb, 0, none⟩ = some (.string f.b) := hb.cell 0
          have f1 : wr.cell? ⟨fb, 1, none⟩ = some (.string f.e) := hb.cell 1
          have hfl := hb.lt
          have htk2 : (f.q.take (k + 1)).map (fun n => (⟨f.b, f.e, n⟩ : Tb)) = (f.q.take k).map (fun n => (⟨f.b, f.e, n⟩ : Tb)) ++ [⟨f.b, f.e, m⟩] := by rw [List.take_add_one, hm]; simp
          replace htk2 := Lib.hid htk2
          replace hb := Lib.hid hb
          replace hBr := Lib.hid hBr
          subst hBe
          clear hbc r2 hm
          go_wp2_with (first
            | (at_builtin; refine wpList_append_ow rfl (.tmp 21) (.tmp 28) 22 rfl b0 38 rfl infoTomb rfl (by decide) _ _ _ rfl (ho.out.alloc _) _ 1 _ (tc ⟨f.b, f.e, m⟩) rfl (rd_new rfl _ _ 1 3 rfl) (by intro u hu; exact tc_one [⟨f.b, f.e, m⟩] u (by simpa using hu)) (by unfold maxLen; omega) (by omega) (by have := hBr.out.size; have := hb0.out; simp; omega) ?_; rintro v9n w9 ho9n hg9 hn9
               have hF9 : Fr (fun q => u3.ownBlock = some q) wr w9 := ((Fr.refl _ _).alloc _).grown hg9 (fun q hq _ => hq)
               replace hn9 := Lib.hid (show v9n.ownBlock = u3.ownBlock ∨ v9n.ownBlock = some (wr.heap.size + 1) from hn9.imp (fun h => h) (fun h => h.trans (by simp)))
               clear hg9 f0 f1 q0
               replace hF9 := Lib.hid hF9
               replace ho9n := Lib.hid ho9n))
          go_roundw
          case measure => simp only [intOf]; omega
          case rel =>
            refine ⟨k + 1, by omega, by go_num, ?_, hb.out.fr hF9.out (fun e => hne.out fb e rfl), fun q hq e => ?_, Fr.thenBelow hBr.out hF9.out (Nat.le_refl _) (fun i hi e => ?_)⟩
            · rw [htk2.out, ← List.append_assoc, List.flatMap_append]
              have := ho9n.out
              simpa [Nat.add_assoc] using this
            · rcases hn9.out with e2 | e2
              · exact hne.out q (e2 ▸ hq) e
              · rw [e2] at hq
                injection hq with hq
                omega
            · have := (ho.out.lt i e).1
              have := hb0.out
              omega
        · obtain rfl : k = f.q.length := by omega
          rw [List.take_length] at ho
          replace hb := Lib.hid hb
          replace hBr := Lib.hid hBr
          go_wp2_with fail
          go_roundw
          case measure => simp only [intOf]; omega
          case rel =>
            refine ⟨i + 1, by omega, by go_num, ?_, hBr.out⟩
            rw [htk.out, List.length_append, List.length_map]
            exact ho.out
    · obtain rfl : i = n := by omega
      rw [List.take_of_length_le (by have := hn.out; omega)] at ho
      replace ho := Lib.hid ho
      go_wp2_with fail
      go_ret
      exact ⟨_, rfl, ho.out, hb0.out ▸ hB.out⟩
end Go.Proofs.Ytmopjoeomjdikaa
