/- Fragments and tombstones in memory, held against each other; whether fragments are too many. Conditions: what each theorem names. -/
import Derived.RangeFuncNested
import Derived.RangeFuncBound
import Derived.RangeFuncCalls
import Derived.RangeFuncLeaves
import Derived.Shelf.Abstract
import Derived.Shelf.RegionOpen
import Derived.WalkKit
import Derived.OwnWalkIn
import Derived.TacticsInMore
import Derived.LoopNIn
import Derived.LoopIn
import Derived.Lib.Hide
import Derived.Outline
import Derived.RegionTactic
import Derived.BigRegion
import Derived.WalkLawsBesides
import Derived.WalkSpells
import Derived.Deep.QuietTactic
import Derived.BigQuiet
import Derived.Deep.RegionHeld3
import Derived.Deep.DeepCutAuto
import Derived.Deep.CutBlock
import Derived.StillTailTactics
import Derived.WalkSmall
import Derived.Test.YtmopjoeomjdikaaRgQ
import Derived.Test.YtmopjoeomjdikaaRgH
namespace Go.Proofs.Ytmopjoeomjdikaa
open Go.RowKit Go.Sed Go.Sort
set_option maxHeartbeats 2000000
set_option maxRecDepth 100000
/-- fragments in memory. -/
def FR (w : World) (A : Option Addr) (F : List Fg) : Prop :=
  ∃ G : List (Fg × Value), G.map (·.1) = F ∧ Rd w 3 A F.length (G.flatMap fcs) ∧ ∀ p ∈ G, ∃ B d, p.2 = .slice B p.1.q.length d ∧ Rd w 1 B p.1.q.length (u64C p.1.q)
theorem FR.keep {w w' : World} {A : Option Addr} {F : List Fg} (h : FR w A F) (hB : Below w.heap.size w w') : FR w' A F := by
  obtain ⟨G, h1, h2, h3⟩ := h
  exact ⟨G, h1, h2.keep hB, fun p hp => by obtain ⟨B, d, e, r⟩ := h3 p hp; exact ⟨B, d, e, r.keep hB⟩⟩
theorem FR.at {w : World} {A : Option Addr} {F : List Fg} (h : FR w A F) {i : Nat} {f : Fg} (hf : F[i]? = some f) : ∃ (g o : Nat) (B : Option Addr) (d : Nat), A = some ⟨g, o, none⟩ ∧ ∀ W, Below w.heap.size w W →
    W.cell? ⟨g, o + i * 3, none⟩ = some (.string f.b) ∧ W.cell? ⟨g, o + i * 3 + 1, none⟩ = some (.string f.e) ∧ W.cell? ⟨g, o + i * 3 + 2, none⟩ = some (.slice B f.q.length d) ∧ Rd W 1 B f.q.length (u64C f.q) := by
  obtain ⟨G, h1, h2, h3⟩ := h
  have hil := (List.getElem?_eq_some_iff.1 hf).1
  have hGl : G.length = F.length := by rw [← h1, List.length_map]
  obtain ⟨p, hp⟩ : ∃ p, G[i]? = some p := ⟨_, List.getElem?_eq_getElem (by omega)⟩
  obtain rfl : f = p.1 := by
    rw [← h1, List.getElem?_map, hp] at hf
    exact (Option.some.inj hf).symm
  obtain ⟨g, o, rfl, -⟩ := h2.2 (by omega)
  obtain ⟨B, d, e, r⟩ := h3 p (List.mem_of_getElem? hp)
  rw [← hGl] at h2
  refine ⟨g, o, B, d, rfl, fun W hW => ?_⟩
  have h2W := h2.keep hW
  exact ⟨h2W.elem fcs_len hp (j := 0) rfl, h2W.elem fcs_len hp (j := 1) rfl, by rw [← e]; exact h2W.elem fcs_len hp (j := 2) rfl, r.keep hW⟩
theorem FL.fr {w : World} {base : Nat} {v : Value} {F : List Fg} (h : FL w base v F) : ∃ (A : Option Addr) (c : Nat), v = .slice A F.length c ∧ FR w A F := by
  obtain ⟨A, c, G, e, h1, h2, h3⟩ := h.shape
  exact ⟨A, c, e, G, h1, h2, h3⟩
theorem FR.nil (w : World) (A : Option Addr) : FR w A [] := ⟨[], rfl, Rd.nil _ _ _, fun p hp => by cases hp⟩
theorem rd_at1 {w : World} {B : Option Addr} {q : List Int} (h : Rd w 1 B q.length (u64C q)) {k : Nat} {x : Int} (hx : q[k]? = some x) : ∃ g o : Nat, B = some ⟨g, o, none⟩ ∧ ∀ W, Below w.heap.size w W → W.cell? ⟨g, o + k, none⟩ = some (.int .u64 x) := by
  obtain ⟨g, o, rfl, -⟩ := h.2 (by have := (List.getElem?_eq_some_iff.1 hx).1; omega)
  exact ⟨g, o, rfl, fun W hW => (h.keep hW).cellAt (by unfold u64C; rw [List.getElem?_map, hx]; rfl)⟩
theorem frags_same (F : List Fg) (A A' : Option Addr) (c c' : Nat) (w : World) (h : FR w A F) (h' : FR w A' F) (hl : F.length ≤ maxLen) (hq : ∀ f ∈ F, f.q.length ≤ maxLen) :
    Calls Try.prog 18 #[.slice A F.length c, .slice A' F.length c'] w fun e w' => e = .returned (.bool true) ∧ Below w.heap.size w w' := by
  obtain ⟨n, hn⟩ : ∃ n, F.length = n := ⟨_, rfl⟩
  rw [hn] at hl ⊢
  unfold maxLen at hl hq
  replace hq := Lib.hid hq
  replace hn := Lib.hid hn
  replace h := Lib.hid h
  replace h' := Lib.hid h'
  go_enter Try.func18, Try.ntmps18
  go_wp2_with fail
  go_loopw [5] (fun vi wr => ∃ i : Nat, i ≤ n ∧ vi = .int .i64 i ∧ Below w.heap.size w wr) (fun vi _ => n - (intOf vi).toNat)
  case atStart => exact ⟨0, Nat.zero_le _, rfl, Below.refl _ _⟩
  case round =>
    obtain ⟨i, hi, rfl, hB⟩ := hrel
    obtain ⟨wo, hwo⟩ : ∃ wo, wo = wr := ⟨_, rfl⟩
    subst hwo
    replace hB := Lib.hid hB
    by_cases hlt : i < n
    · obtain ⟨f, hf⟩ : ∃ f, F[i]? = some f := ⟨_, List.getElem?_eq_getElem (by have := hn.out; omega)⟩
      obtain ⟨g, o, B, d, hA, hc⟩ := h.out.at hf
      obtain ⟨g', o', B', d', hA', hc'⟩ := h'.out.at hf
      subst hA hA'
      have hm := hq.out f (List.mem_of_getElem? hf)
      obtain ⟨e0, e1, e2, -⟩ := hc wo hB.out
      obtain ⟨e0', e1', e2', -⟩ := hc' wo hB.out
      replace hc := Lib.hid hc
      replace hc' := Lib.hid hc'
      have i0 : (0 : Int) ≤ (i : Int) := by omega
      have i1 : (i : Int) < (n : Int) := by omega
      clear hf
      go_upto_region 6 with fail
      go_quiet (fail)
      go_wp2_with fail
      clear e0 e1 e2 e0' e1' e2'
      go_loopw [6] (fun vi wr => ∃ k : Nat, k ≤ f.q.length ∧ vi = .int .i64 k ∧ Below w.heap.size w wr) (fun vi _ => f.q.length - (intOf vi).toNat)
      case atStart => exact ⟨0, Nat.zero_le _, rfl, below_drewN hB.out _⟩
      case round =>
        clear hB
        obtain ⟨k, hk, rfl, hB⟩ := hrel
        obtain ⟨e0, e1, e2, r⟩ := hc.out wr hB
        obtain ⟨e0', e1', e2', r'⟩ := hc'.out wr hB
        clear e0 e1 e0' e1'
        replace hB := Lib.hid hB
        by_cases hkl : k < f.q.length
        · obtain ⟨x, hx⟩ : ∃ x, f.q[k]? = some x := ⟨_, List.getElem?_eq_getElem hkl⟩
          obtain ⟨gb, ob, hBe, hb⟩ := rd_at1 r hx
          obtain ⟨gb', ob', hBe', hb'⟩ := rd_at1 r' hx
          subst hBe hBe'
          have b0 := hb wr (Below.refl _ _)
          have b0' := hb' wr (Below.refl _ _)
          have k0 : (0 : Int) ≤ (k : Int) := by omega
          have k1 : (k : Int) < (f.q.length : Int) := by omega
          clear hb hb' r r' hx
          go_upto_region 11 with fail
          go_quiet (fail)
          go_wp2_with fail
          go_roundw
          case measure => simp only [intOf]; omega
          case rel => exact ⟨k + 1, by omega, by go_num, below_drewN hB.out _⟩
        · obtain rfl : k = f.q.length := by omega
          clear r r'
          go_wp2_with fail
          go_roundw
          case measure => simp only [intOf]; omega
          case rel => exact ⟨i + 1, by omega, by go_num, hB.out⟩
    · obtain rfl : i = n := by omega
      go_wp2_with fail
      go_ret
      exact ⟨rfl, hB.out⟩
theorem tombs_same (l : List Tb) (A A' : Option Addr) (c c' : Nat) (w : World) (h : Rd w 3 A l.length (l.flatMap tc)) (h' : Rd w 3 A' l.length (l.flatMap tc)) (hl : l.length ≤ maxLen) :
    Calls Try.prog 19 #[.slice A l.length c, .slice A' l.length c'] w fun e w' => e = .returned (.bool true) ∧ Below w.heap.size w w' := by
  have hk := Lib.hid (fun W (hW : Below w.heap.size w W) => And.intro (h.keep hW) (h'.keep hW))
  clear h h'
  obtain ⟨n, hn⟩ : ∃ n, l.length = n := ⟨_, rfl⟩
  rw [hn] at hl ⊢
  unfold maxLen at hl
  replace hn := Lib.hid hn
  go_enter Try.func19, Try.ntmps19
  go_wp2_with fail
  go_loopw [5] (fun vi wr => ∃ i : Nat, i ≤ n ∧ vi = .int .i64 i ∧ Below w.heap.size w wr) (fun vi _ => n - (intOf vi).toNat)
  case atStart => exact ⟨0, Nat.zero_le _, rfl, Below.refl _ _⟩
  case round =>
    obtain ⟨i, hi, rfl, hB⟩ := hrel
    obtain ⟨h1, h2⟩ := hk.out wr hB
    replace hB := Lib.hid hB
    by_cases hlt : i < n
    · obtain ⟨t, ht⟩ : ∃ t, l[i]? = some t := ⟨_, List.getElem?_eq_getElem (by have := hn.out; omega)⟩
      obtain ⟨g, o, hA, -⟩ := h1.2 (by have := hn.out; omega)
      obtain ⟨g', o', hA', -⟩ := h2.2 (by have := hn.out; omega)
      subst hA hA'
      obtain ⟨e0, e1, e2⟩ := Rd.tb h1 ht
      obtain ⟨e0', e1', e2'⟩ := Rd.tb h2 ht
      have i0 : (0 : Int) ≤ (i : Int) := by omega
      have i1 : (i : Int) < (n : Int) := by omega
      clear h1 h2 ht
      go_upto_region 6 with fail
      go_quiet (fail)
      go_wp2_with fail
      go_roundw
      case measure => simp only [intOf]; omega
      case rel => exact ⟨i + 1, by omega, by go_num, below_drewN hB.out _⟩
    · obtain rfl : i = n := by omega
      clear h1 h2
      go_wp2_with fail
      go_ret
      exact ⟨rfl, hB.out⟩
theorem sumQ_take (F : List Fg) (i : Nat) (f : Fg) (hf : F[i]? = some f) : sumQ (F.take (i + 1)) = sumQ (F.take i) + f.q.length := by
  rw [List.take_add_one, hf, sumQ_append]
  simp [sumQ]
theorem sumQ_le (M : Nat) : ∀ F : List Fg, (∀ f ∈ F, f.q.length ≤ M) → sumQ F ≤ F.length * M
  | [], _ => Nat.zero_le _
  | f :: r, h => by
    have := sumQ_le M r (fun g hg => h g (List.mem_cons_of_mem _ hg))
    have := h f List.mem_cons_self
    simp only [sumQ, List.length_cons, Nat.add_mul, Nat.one_mul]
    omega
theorem sumQ_up (F : List Fg) (i : Nat) : sumQ (F.take i) ≤ sumQ F := by
  have := sumQ_append (F.take i) (F.drop i)
  rw [List.take_append_drop] at this
  omega
theorem longF_key {F : List Fg} {i : Nat} {f : Fg} (hf : F[i]? = some f) (h : longK f = true) : longF F = true := by
  unfold longF
  rw [List.any_eq_true.2 ⟨f, List.mem_of_getElem? hf, h⟩]
  rfl
theorem long_few (F : List Fg) (A : Option Addr) (c : Nat) (w : World) (h : FR w A F) (hl : F.length ≤ 2048) (hq : ∀ f ∈ F, f.q.length ≤ 35184372088832) (hs : ∀ f ∈ F, f.b.size ≤ maxLen ∧ f.e.size ≤ maxLen) :
    Calls Try.prog 42 #[.slice A F.length c] w fun e w' => e = .returned (.bool (longF F)) ∧ Below w.heap.size w w' := by
  obtain ⟨n, hn⟩ : ∃ n, F.length = n := ⟨_, rfl⟩
  rw [hn] at hl ⊢
  unfold maxLen at hs
  have hsum := Lib.hid (fun i : Nat => Nat.le_trans (sumQ_up F i) (sumQ_le 35184372088832 F hq))
  replace hn := Lib.hid hn
  replace hs := Lib.hid hs
  replace hq := Lib.hid hq
  replace h := Lib.hid h
  go_enter Try.func42, Try.ntmps42
  go_wp2_with fail
  go_loopw [3, 8] (fun v3 vi wr => ∃ i : Nat, i ≤ n ∧ vi = .int .i64 i ∧ v3 = .int .i64 (sumQ (F.take i)) ∧ (F.take i).any longK = false ∧ Below w.heap.size w wr) (fun _ vi _ => n - (intOf vi).toNat)
  case atStart => exact ⟨0, Nat.zero_le _, rfl, rfl, rfl, Below.refl _ _⟩
  case round =>
    obtain ⟨i, hi, rfl, rfl, ha, hB⟩ := hrel
    replace hB := Lib.hid hB
    have hsi : sumQ (F.take i) ≤ 72057594037927936 := by have h1 := hsum.out i; rw [hn.out] at h1; omega
    by_cases hlt : i < n
    · obtain ⟨f, hf⟩ : ∃ f, F[i]? = some f := ⟨_, List.getElem?_eq_getElem (by have := hn.out; omega)⟩
      obtain ⟨g, o, B, d, hA, hc⟩ := h.out.at hf
      subst hA
      obtain ⟨e0, e1, e2, -⟩ := hc wr hB.out
      have hst := Lib.hid (sumQ_take F i f hf)
      have hq1 := hq.out f (List.mem_of_getElem? hf)
      have hs1 := hs.out f (List.mem_of_getElem? hf)
      have hany : (F.take (i + 1)).any longK = longK f := by rw [List.take_add_one, hf, List.any_append, ha]; simp
      replace ha := Lib.hid ha
      replace hany := Lib.hid hany
      have hlk := Lib.hid (longF_key hf)
      have hK : longK f = (decide (1024 < f.b.size) || decide (1024 < f.e.size)) := rfl
      replace hK := Lib.hid hK
      obtain ⟨S, hS⟩ : ∃ S, sumQ (F.take i) = S := ⟨_, rfl⟩
      rw [hS] at hst hsi ⊢
      obtain ⟨zb, hzb⟩ : ∃ z, f.b.size = z := ⟨_, rfl⟩
      obtain ⟨ze, hze⟩ : ∃ z, f.e.size = z := ⟨_, rfl⟩
      rw [hzb, hze] at hs1
      obtain ⟨hs1, hs2⟩ := hs1
      replace hS := Lib.hid hS
      clear hc hf
      by_cases hb : 1024 < zb
      · have hr : longF F = true := hlk.out (by rw [hK.out, hzb, decide_eq_true hb]; rfl)
        have d0 : decide ((1024 : Int) < (zb : Int)) = true := decide_eq_true (by omega)
        replace hr := Lib.hid hr
        go_wp2_with fail
        go_ret
        exact ⟨by rw [hr.out]; rfl, hB.out.alloc hB.out.size _⟩
      · have d0 : decide ((1024 : Int) < (zb : Int)) = false := decide_eq_false (by omega)
        by_cases he : 1024 < ze
        · have hr : longF F = true := hlk.out (by rw [hK.out, hze, decide_eq_true he, Bool.or_true])
          have d1 : decide ((1024 : Int) < (ze : Int)) = true := decide_eq_true (by omega)
          replace hr := Lib.hid hr
          go_wp2_with fail
          go_ret
          exact ⟨by rw [hr.out]; rfl, hB.out.alloc hB.out.size _⟩
        · have d1 : decide ((1024 : Int) < (ze : Int)) = false := decide_eq_false (by omega)
          have hk0 : longK f = false := by rw [hK.out, hzb, hze, decide_eq_false hb, decide_eq_false he]; rfl
          replace hk0 := Lib.hid hk0
          go_wp2_with fail
          go_roundw
          case measure => simp only [intOf]; omega
          case rel => exact ⟨i + 1, by omega, by go_num, by rw [hst.out]; go_num, hany.out.trans hk0.out, hB.out.alloc hB.out.size _⟩
    · obtain rfl : i = n := by omega
      rw [List.take_of_length_le (by have := hn.out; omega)] at ha hsi ⊢
      have hr : longF F = decide (1048576 < sumQ F) := by unfold longF; rw [ha, hn.out, decide_eq_false (by omega : ¬ 2048 < i)]; rfl
      replace hr := Lib.hid hr
      replace ha := Lib.hid ha
      have d2 : decide ((2048 : Int) < (i : Int)) = false := decide_eq_false (by omega)
      go_wp2_with fail
      go_ret
      exact ⟨by rw [hr.out, show decide (1048576 < sumQ F) = decide ((1048576 : Int) < (sumQ F : Int)) from by rw [decide_eq_decide]; omega]; rfl, hB.out⟩
theorem long_many (F : List Fg) (A : Option Addr) (c : Nat) (w : World) (h : FR w A F) (hl : 2048 < F.length) (hl2 : F.length ≤ maxLen) (hs : ∀ f ∈ F, f.b.size ≤ maxLen ∧ f.e.size ≤ maxLen) :
    Calls Try.prog 42 #[.slice A F.length c] w fun e w' => e = .returned (.bool true) ∧ Below w.heap.size w w' := by
  obtain ⟨n, hn⟩ : ∃ n, F.length = n := ⟨_, rfl⟩
  rw [hn] at hl hl2 ⊢
  unfold maxLen at hs hl2
  replace hn := Lib.hid hn
  replace hs := Lib.hid hs
  replace h := Lib.hid h
  go_enter Try.func42, Try.ntmps42
  go_wp2_with fail
  go_loopw [3, 8] (fun v3 vi wr => ∃ (i : Nat) (z : Int), i ≤ n ∧ vi = .int .i64 i ∧ v3 = .int .i64 z ∧ Below w.heap.size w wr) (fun _ vi _ => n - (intOf vi).toNat)
  case atStart => exact ⟨0, 0, Nat.zero_le _, rfl, rfl, Below.refl _ _⟩
  case round =>
    obtain ⟨i, z, hi, rfl, rfl, hB⟩ := hrel
    replace hB := Lib.hid hB
    by_cases hlt : i < n
    · obtain ⟨f, hf⟩ : ∃ f, F[i]? = some f := ⟨_, List.getElem?_eq_getElem (by have := hn.out; omega)⟩
      obtain ⟨g, o, B, d, hA, hc⟩ := h.out.at hf
      subst hA
      obtain ⟨e0, e1, e2, -⟩ := hc wr hB.out
      have hs1 := hs.out f (List.mem_of_getElem? hf)
      obtain ⟨zb, hzb⟩ : ∃ z, f.b.size = z := ⟨_, rfl⟩
      obtain ⟨ze, hze⟩ : ∃ z, f.e.size = z := ⟨_, rfl⟩
      rw [hzb, hze] at hs1
      obtain ⟨hs1, hs2⟩ := hs1
      clear hc hf
      by_cases hb : 1024 < zb
      · have d0 : decide ((1024 : Int) < (zb : Int)) = true := decide_eq_true (by omega)
        go_wp2_with fail
        go_ret
        exact ⟨rfl, hB.out.alloc hB.out.size _⟩
      · have d0 : decide ((1024 : Int) < (zb : Int)) = false := decide_eq_false (by omega)
        by_cases he : 1024 < ze
        · have d1 : decide ((1024 : Int) < (ze : Int)) = true := decide_eq_true (by omega)
          go_wp2_with fail
          go_ret
          exact ⟨rfl, hB.out.alloc hB.out.size _⟩
        · have d1 : decide ((1024 : Int) < (ze : Int)) = false := decide_eq_false (by omega)
          go_wp2_with fail
          go_roundw
          case measure => simp only [intOf]; omega
          case rel => exact ⟨i + 1, _, by omega, by go_num, rfl, hB.out.alloc hB.out.size _⟩
    · obtain rfl : i = n := by omega
      have d2 : decide ((2048 : Int) < (i : Int)) = true := decide_eq_true (by omega)
      go_wp2_with fail
      go_ret
      exact ⟨rfl, hB.out⟩
end Go.Proofs.Ytmopjoeomjdikaa
