/- A set of fragments is asked: binary searches. Conditions: what each theorem names. -/
import Derived.RangeFuncNested
import Derived.RangeFuncBound
import Derived.RangeFuncCalls
import Derived.RangeFuncLeaves
import Derived.Shelf.Abstract
import Derived.Shelf.RegionOpen
import Derived.WalkKit
import Derived.OwnWalkIn
import Derived.TacticsInMore
import Derived.LoopNIn
import Derived.LoopIn
import Derived.Lib.Hide
import Derived.Outline
import Derived.RegionTactic
import Derived.BigRegion
import Derived.WalkLawsBesides
import Derived.WalkSpells
import Derived.Deep.QuietTactic
import Derived.BigQuiet
import Derived.Deep.RegionHeld3
import Derived.Deep.DeepCutAuto
import Derived.Deep.CutBlock
import Derived.StillTailTactics
import Derived.WalkSmall
import Derived.Test.YtmopjoeomjdikaaRgD
namespace Go.Proofs.Ytmopjoeomjdikaa
open Go.RowKit Go.Sed Go.Sort
set_option maxHeartbeats 2000000
set_option maxRecDepth 100000
def leI (how : Int) (x key : ByteArray) : Int := if cmpH how x key ≤ 0 then -1 else 1
theorem at1_any (how : Int) (b e : ByteArray) (u : Value) (key : ByteArray) (sb hb : Nat) (w : World) (h0 : w.cell? ⟨sb, 0, none⟩ = some (.pointer (some ⟨hb, 0, none⟩))) (h1 : w.cell? ⟨hb, 0, none⟩ = some (.int .i64 how)) :
    Calls Try.prog 58 #[.agg #[.string b, .string e, u], .string key, .pointer (some ⟨sb, 0, none⟩)] w fun ee w' => ee = .returned (.int .i64 (leI how e key)) ∧ Below w.heap.size w w' := by
  obtain ⟨w1, hw1⟩ : ∃ w1, w.alloc (.cells #[.string b, .string e, u] 34) = w1 := ⟨_, rfl⟩
  have hB : Below w.heap.size w w1 := by rw [← hw1]; exact (Below.refl _ _).alloc (Nat.le_refl _) _
  have b0 : Bl w1 w.heap.size (.cells #[.string b, .string e, u] 34 (0, 0)) := by rw [← hw1]; exact Bl.new' rfl
  have c1 : w1.cell? ⟨w.heap.size, 1, none⟩ = some (.string e) := b0.cell 1
  have d0 := cell_keep hB h0
  have d1 := cell_keep hB h1
  obtain ⟨p, hp⟩ : ∃ p, cmpH how e key = p := ⟨_, rfl⟩
  have hc := fun W => hp ▸ compare_any how e key W
  unfold leI
  rw [hp]
  clear hp h0 h1 b0
  replace hw1 := Lib.hid hw1
  by_cases hq : p ≤ 0
  · rw [if_pos hq]
    go_enter Try.func58, Try.ntmps58
    go_wp2_with fail
    rw [hw1.out]
    go_region_held3 (fun w' => w'.cell? ⟨sb, 0, none⟩ = some (.pointer (some ⟨hb, 0, none⟩)) ∧ w'.cell? ⟨hb, 0, none⟩ = some (.int .i64 how) ∧ w'.cell? ⟨w.heap.size, 1, none⟩ = some (.string e)) (go_keep) ((first | (go_at_call 32; refine (hc _).mono ?_; rintro e w' ⟨rfl, rfl⟩)))
    go_wp2_with fail
    go_ret
    exact ⟨rfl, hB.drew⟩
  · rw [if_neg hq]
    go_enter Try.func58, Try.ntmps58
    go_wp2_with fail
    rw [hw1.out]
    go_region_held3 (fun w' => w'.cell? ⟨sb, 0, none⟩ = some (.pointer (some ⟨hb, 0, none⟩)) ∧ w'.cell? ⟨hb, 0, none⟩ = some (.int .i64 how) ∧ w'.cell? ⟨w.heap.size, 1, none⟩ = some (.string e)) (go_keep) ((first | (go_at_call 32; refine (hc _).mono ?_; rintro e w' ⟨rfl, rfl⟩)))
    go_wp2_with fail
    go_ret
    exact ⟨rfl, hB.drew⟩
/-- where a key stands among ends that rise. -/
def AtF (how : Int) (F : List Fg) (key : ByteArray) (k : Nat) : Prop := k ≤ F.length ∧ ∀ i f, F[i]? = some f → (i < k ↔ cmpH how f.e key ≤ 0)
theorem mid_i64 (i j : Nat) (h : i < j) (hj : j ≤ 1000000000000) : ∃ m : Nat, (i + j) / 2 = m ∧ i ≤ m ∧ m < j := ⟨_, rfl, by omega, by omega⟩
theorem bsF_any (how : Int) (G : List (Fg × Value)) (key : ByteArray) (sb hb c : Nat) (A : Option Addr) (w : World) (hr : Rd w 3 A G.length (G.flatMap fcs)) (h0 : w.cell? ⟨sb, 0, none⟩ = some (.pointer (some ⟨hb, 0, none⟩))) (h1 : w.cell? ⟨hb, 0, none⟩ = some (.int .i64 how))
    (hn : G.length ≤ 1000000000000) (hmo : (G.map (·.1)).Pairwise (fun f g => cmpH how f.e g.e ≤ 0)) :
    Calls Try.prog 57 #[.slice A G.length c, .string key, .func (.func 58) #[] #[.pointer (some ⟨sb, 0, none⟩)]] w fun ee w' => ∃ (k : Nat) (q : Bool), ee = .returned (.tuple #[.int .i64 k, .bool q]) ∧ AtF how (G.map (·.1)) key k ∧ Below w.heap.size w w' := by
  obtain ⟨F, hF⟩ : ∃ F, G.map (·.1) = F := ⟨_, rfl⟩
  rw [hF] at hmo ⊢
  obtain ⟨n, hnn⟩ : ∃ n, G.length = n := ⟨_, rfl⟩
  have hFn : F.length = n := by rw [← hF, List.length_map, hnn]
  have hget : ∀ (i : Nat) (p : Fg × Value), G[i]? = some p → F[i]? = some p.1 := fun i p h => by rw [← hF, List.getElem?_map, h]; rfl
  have hle : ∀ (i j : Nat) (f g : Fg), i < j → F[i]? = some f → F[j]? = some g → cmpH how f.e g.e ≤ 0 := by
    intro i j f g hij hf hg
    obtain ⟨a1, rfl⟩ := List.getElem?_eq_some_iff.1 hf
    obtain ⟨a2, rfl⟩ := List.getElem?_eq_some_iff.1 hg
    exact List.pairwise_iff_getElem.1 hmo i j a1 a2 hij
  have hcl := Lib.hid (fun (p : Fg × Value) W (hW : Below w.heap.size w W) => at1_any how p.1.b p.1.e p.2 key sb hb W (cell_keep hW h0) (cell_keep hW h1))
  have hrG := Lib.hid hr
  rw [hnn] at hn ⊢
  replace hget := Lib.hid hget
  replace hle := Lib.hid hle
  clear hmo hr hF h0 h1
  go_enter Try.func57, Try.ntmps57
  go_wp2_with fail
  go_loopw [9, 10] (fun vi vj wr => ∃ i j : Nat, vi = .int .i64 i ∧ vj = .int .i64 j ∧ i ≤ j ∧ j ≤ n ∧ (∀ x f, F[x]? = some f → x < i → cmpH how f.e key ≤ 0) ∧ (∀ x f, F[x]? = some f → j ≤ x → 0 < cmpH how f.e key) ∧ Below w.heap.size w wr) (fun vi vj _ => (intOf vj).toNat - (intOf vi).toNat)
  case atStart => exact ⟨0, n, rfl, rfl, Nat.zero_le _, Nat.le_refl _, fun x f _ h => absurd h (by omega), fun x f hx h => absurd (List.getElem?_eq_some_iff.1 hx).1 (by omega), Below.refl _ _⟩
  case round =>
    obtain ⟨i, j, rfl, rfl, hij, hjn, hlo, hhi, hB⟩ := hrel
    replace hlo := Lib.hid hlo
    replace hhi := Lib.hid hhi
    replace hB := Lib.hid hB
    by_cases hlt : i < j
    · obtain ⟨m, hm, hm1, hm2⟩ := mid_i64 i j hlt (by omega)
      obtain ⟨p, hp⟩ : ∃ p, G[m]? = some p := ⟨_, List.getElem?_eq_getElem (by omega)⟩
      obtain ⟨g, o, rfl, -⟩ := hrG.out.2 (by omega)
      have hrw := hrG.out.keep hB.out
      have e0 : wr.cell? ⟨g, o + m * 3, none⟩ = some (.string p.1.b) := hrw.elem fcs_len hp (j := 0) rfl
      have e1 : wr.cell? ⟨g, o + m * 3 + 1, none⟩ = some (.string p.1.e) := hrw.elem fcs_len hp (j := 1) rfl
      have e2 : wr.cell? ⟨g, o + m * 3 + 2, none⟩ = some p.2 := hrw.elem fcs_len hp (j := 2) rfl
      clear hrw
      have hFm := hget.out m p hp
      have hmi : ((i : Int) + (j : Int)) / 2 = (m : Int) := by omega
      have hcp := Lib.hid (hcl.out p wr hB.out)
      obtain ⟨y, hy⟩ : ∃ y, leI how p.1.e key = y := ⟨_, rfl⟩
      rw [hy] at hcp
      replace hFm := Lib.hid hFm
      replace hp := Lib.hid hp
      by_cases hq : cmpH how p.1.e key ≤ 0
      · have hy1 : y = -1 := by rw [← hy]; exact if_pos hq
        subst hy1
        replace hq := Lib.hid hq
        replace hy := Lib.hid hy
        go_wp2_with (first
          | (go_at_call 58; refine hcp.out.mono ?_; rintro e w2 ⟨rfl, hB2⟩; replace hB2 := Lib.hid hB2))
        go_roundw
        case measure => simp only [intOf]; omega
        case rel =>
          refine ⟨m + 1, j, by go_num, rfl, by omega, hjn, fun x f hx hxm => ?_, hhi.out, below_then hB.out hB2.out⟩
          rcases Nat.lt_or_eq_of_le (Nat.le_of_lt_succ hxm) with e | e
          · exact leB_trans how (hle.out x m f p.1 e hx hFm.out) hq.out
          · subst e
            rw [hFm.out] at hx
            obtain rfl := Option.some.inj hx
            exact hq.out
      · have hy1 : y = 1 := by rw [← hy]; exact if_neg hq
        subst hy1
        replace hq := Lib.hid hq
        replace hy := Lib.hid hy
        go_wp2_with (first
          | (go_at_call 58; refine hcp.out.mono ?_; rintro e w2 ⟨rfl, hB2⟩; replace hB2 := Lib.hid hB2))
        go_roundw
        case measure => simp only [intOf]; omega
        case rel =>
          refine ⟨i, m, rfl, by go_num, by omega, by omega, hlo.out, fun x f hx hxm => ?_, below_then hB.out hB2.out⟩
          rcases Nat.lt_or_eq_of_le hxm with e | e
          · have h1 := hle.out m x p.1 f e hFm.out hx
            have h2 := hq.out
            rcases Classical.em (cmpH how f.e key ≤ 0) with h | h
            · have := leB_trans how h1 h; omega
            · omega
          · subst e
            rw [hFm.out] at hx
            obtain rfl := Option.some.inj hx
            have := hq.out; omega
    · obtain rfl : i = j := by omega
      have hat := Lib.hid (show AtF how F key i from ⟨by omega, fun x f hx => ⟨fun h => hlo.out x f hx h, fun h => Classical.byContradiction (fun hc => by have := hhi.out x f hx (by omega); omega)⟩⟩)
      by_cases hin : i < n
      · obtain ⟨p, hp⟩ : ∃ p, G[i]? = some p := ⟨_, List.getElem?_eq_getElem (by omega)⟩
        obtain ⟨g, o, rfl, -⟩ := hrG.out.2 (by omega)
        have hrw := hrG.out.keep hB.out
        have e0 : wr.cell? ⟨g, o + i * 3, none⟩ = some (.string p.1.b) := hrw.elem fcs_len hp (j := 0) rfl
        have e1 : wr.cell? ⟨g, o + i * 3 + 1, none⟩ = some (.string p.1.e) := hrw.elem fcs_len hp (j := 1) rfl
        have e2 : wr.cell? ⟨g, o + i * 3 + 2, none⟩ = some p.2 := hrw.elem fcs_len hp (j := 2) rfl
        have hcp := Lib.hid (hcl.out p wr hB.out)
        obtain ⟨y, hy⟩ : ∃ y, leI how p.1.e key = y := ⟨_, rfl⟩
        rw [hy] at hcp
        clear hrw hp
        replace hy := Lib.hid hy
        go_wp2_with (first
          | (go_at_call 58; refine hcp.out.mono ?_; rintro e w2 ⟨rfl, hB2⟩; replace hB2 := Lib.hid hB2))
        go_ret2
        exact ⟨i, _, rfl, hat.out, below_then hB.out hB2.out⟩
      · go_wp2_with fail
        go_ret2
        first
          | exact ⟨i, false, hat.out, hB.out⟩
          | exact ⟨i, false, rfl, hat.out, hB.out⟩
          | exact ⟨hat.out, hB.out⟩
/-- a set in memory: its fragments, of a row that stands. -/
def ST (w : World) (hb : Nat) (how : Int) (F : List Fg) : Prop :=
  ∃ (A : Option Addr) (c : Nat) (G : List (Fg × Value)), G.map (·.1) = F ∧ w.cell? ⟨hb, 0, none⟩ = some (.int .i64 how) ∧ w.cell? ⟨hb, 1, none⟩ = some (.slice A F.length c) ∧ Rd w 3 A F.length (G.flatMap fcs) ∧
    ∀ p ∈ G, ∃ B d, p.2 = .slice B p.1.q.length d ∧ Rd w 1 B p.1.q.length (u64C p.1.q)
theorem ST.keep {w w' : World} {hb : Nat} {how : Int} {F : List Fg} (h : ST w hb how F) (hB : Below w.heap.size w w') : ST w' hb how F := by
  obtain ⟨A, c, G, h1, h2, h3, h4, h5⟩ := h
  exact ⟨A, c, G, h1, cell_keep hB h2, cell_keep hB h3, h4.keep hB, fun p hp => by obtain ⟨B, d, e, r⟩ := h5 p hp; exact ⟨B, d, e, r.keep hB⟩⟩
/-- fragments as they should be. -/
structure FO (how : Int) (F : List Fg) : Prop where
  ne : ∀ f ∈ F, cmpH how f.b f.e < 0
  up : F.Pairwise (fun f g => cmpH how f.e g.b ≤ 0)
  fall : ∀ f ∈ F, f.q.Pairwise (fun x y => y < x)
  len : F.length ≤ 1000000
  qlen : ∀ f ∈ F, f.q.length ≤ 1000000
theorem FO.ends {how : Int} {F : List Fg} (h : FO how F) : F.Pairwise (fun f g => cmpH how f.e g.e ≤ 0) := by
  refine List.Pairwise.imp_of_mem (fun {f g} hf hg hfg => ?_) h.up
  have := leB_lt how hfg (h.ne g hg)
  omega
theorem at_any (how : Int) (F : List Fg) (key : ByteArray) (hb : Nat) (w : World) (h : ST w hb how F) (ho : FO how F) :
    Calls Try.prog 48 #[.pointer (some ⟨hb, 0, none⟩), .string key] w fun ee w' => ∃ k : Nat, ee = .returned (.int .i64 k) ∧ AtF how F key k ∧ Below w.heap.size w w' := by
  obtain ⟨w1, hw1⟩ : ∃ w1, w.alloc (.cells #[.pointer (some ⟨hb, 0, none⟩)] 42) = w1 := ⟨_, rfl⟩
  have hB : Below w.heap.size w w1 := by rw [← hw1]; exact (Below.refl _ _).alloc (Nat.le_refl _) _
  have b0 : Bl w1 w.heap.size (.cells #[.pointer (some ⟨hb, 0, none⟩)] 42 (0, 0)) := by rw [← hw1]; exact Bl.new' rfl
  obtain ⟨A, c, G, hG, d2, d1, hr, -⟩ := h.keep hB
  have d0 : w1.cell? ⟨w.heap.size, 0, none⟩ = some (.pointer (some ⟨hb, 0, none⟩)) := b0.cell 0
  have hGl : G.length = F.length := by rw [← hG, List.length_map]
  have hmf : ∀ (fn : Fn) (first cap : Array Value) (w : World), (Instr.makeFunc fn first cap).run Try.prog w = .ok (.func fn first cap) w := fun _ _ _ _ => rfl
  have hbs := bsF_any how G key w.heap.size hb c A w1 (by rw [hGl]; exact hr) d0 d2 (by rw [hGl]; have := ho.len; omega) (by rw [hG]; exact ho.ends)
  rw [hG, hGl] at hbs
  replace hbs := Lib.hid hbs
  clear b0 d2 hGl h hG hr
  replace hw1 := Lib.hid hw1
  go_enter Try.func48, Try.ntmps48
  go_upto_region 1 with fail
  rw [hw1.out]
  go_wp2_with (first
    | (go_at_call 57; refine hbs.out.mono ?_; rintro e w2 ⟨k, q, rfl, hat, hB2⟩))
  go_ret
  exact ⟨k, rfl, hat, below_then hB hB2⟩
/-- the numbers over a key. -/
def overQ (how : Int) (F : List Fg) (key : ByteArray) : List Int := ((F.find? (inF how key)).map Fg.q).getD []
theorem overQ_no {how : Int} {F : List Fg} {key : ByteArray} {k : Nat} (ho : FO how F) (h : AtF how F key k) (hn : ∀ f, F[k]? = some f → 0 < cmpH how f.b key) : overQ how F key = [] := by
  have : F.find? (inF how key) = none := by
    rw [List.find?_eq_none]
    intro f hf hin
    unfold inF at hin
    rw [Bool.and_eq_true, decide_eq_true_eq, decide_eq_true_eq] at hin
    obtain ⟨i, hi⟩ := List.mem_iff_getElem?.1 hf
    have e1 := cmpH_swap how key f.e
    have h1 := h.2 i f hi
    rcases Nat.lt_trichotomy i k with e | e | e
    · have := h1.1 e; omega
    · subst e
      have := hn f hi; omega
    · have hil := (List.getElem?_eq_some_iff.1 hi).1
      obtain ⟨g, hg⟩ : ∃ g, F[k]? = some g := ⟨_, List.getElem?_eq_getElem (by omega)⟩
      have h2 := (h.2 k g hg)
      have hkg : 0 < cmpH how g.e key := by
        rcases Classical.em (cmpH how g.e key ≤ 0) with e0 | e0
        · have := h2.2 e0; omega
        · omega
      have hle : cmpH how g.e f.b ≤ 0 := by
        obtain ⟨a1, rfl⟩ := List.getElem?_eq_some_iff.1 hg
        obtain ⟨a2, rfl⟩ := List.getElem?_eq_some_iff.1 hi
        exact List.pairwise_iff_getElem.1 ho.up k i a1 a2 e
      have := leB_trans how hle hin.1
      omega
  unfold overQ
  rw [this]
  rfl
theorem overQ_yes {how : Int} {F : List Fg} {key : ByteArray} {k : Nat} {f : Fg} (ho : FO how F) (h : AtF how F key k) (hf : F[k]? = some f) (hb : cmpH how f.b key ≤ 0) : overQ how F key = f.q := by
  have hin : inF how key f = true := by
    unfold inF
    rw [Bool.and_eq_true, decide_eq_true_eq, decide_eq_true_eq]
    have e1 := cmpH_swap how key f.e
    refine ⟨hb, ?_⟩
    rcases Classical.em (cmpH how f.e key ≤ 0) with e0 | e0
    · have := (h.2 k f hf).2 e0; omega
    · omega
  have : F.find? (inF how key) = some f := by
    rw [List.find?_eq_some_iff_getElem]
    obtain ⟨a1, rfl⟩ := List.getElem?_eq_some_iff.1 hf
    refine ⟨hin, k, a1, rfl, fun j hj => ?_⟩
    obtain ⟨g, hg⟩ : ∃ g, F[j]? = some g := ⟨_, List.getElem?_eq_getElem (by omega)⟩
    have h2 := (h.2 j g hg).1 hj
    obtain ⟨a2, rfl⟩ := List.getElem?_eq_some_iff.1 hg
    have e1 := cmpH_swap how key F[j].e
    unfold inF
    simp only [Bool.not_eq_true', Bool.and_eq_false_iff, decide_eq_false_iff_not]
    exact .inr (by omega)
  unfold overQ
  rw [this]
  rfl
end Go.Proofs.Ytmopjoeomjdikaa
