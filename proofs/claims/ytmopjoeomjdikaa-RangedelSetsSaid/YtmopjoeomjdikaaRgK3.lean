/- A set's fragments, copied, walked. Conditions: what each theorem names. -/
import Derived.RangeFuncNested
import Derived.RangeFuncBound
import Derived.RangeFuncCalls
import Derived.RangeFuncLeaves
import Derived.Shelf.Abstract
import Derived.Shelf.RegionOpen
import Derived.WalkKit
import Derived.OwnWalkIn
import Derived.TacticsInMore
import Derived.LoopNIn
import Derived.LoopIn
import Derived.Lib.Hide
import Derived.Outline
import Derived.RegionTactic
import Derived.BigRegion
import Derived.WalkLawsBesides
import Derived.WalkSpells
import Derived.Deep.QuietTactic
import Derived.BigQuiet
import Derived.Deep.RegionHeld3
import Derived.Deep.DeepCutAuto
import Derived.Deep.CutBlock
import Derived.StillTailTactics
import Derived.WalkSmall
import Derived.Test.YtmopjoeomjdikaaRgK2
import Derived.Test.YtmopjoeomjdikaaRgH
import Derived.Test.YtmopjoeomjdikaaOel
import Derived.Lib.SliceRun
namespace Go.Proofs.Ytmopjoeomjdikaa
open Go.RowKit Go.Sed Go.Sort
set_option maxHeartbeats 2000000
set_option maxRecDepth 100000
theorem cloneF_any (xs : List Value) (n : Nat) (A : Option Addr) (c : Nat) (w : World) (hr : Rd w 3 A n xs) (h1 : ∀ u ∈ xs, u.oneCell' = true) (hl : n * 56 ≤ 140737488351232) :
    Calls Try.prog 49 #[.slice A n c] w fun e w' => ∃ r, e = .returned r ∧ OW w' w.heap.size 3 r n xs ∧ Below w.heap.size w w' := by
  cases A with
  | none =>
    obtain rfl : n = 0 := by
      rcases Nat.eq_zero_or_pos n with h | h
      · exact h
      · obtain ⟨_, _, e, _⟩ := hr.2 h; cases e
    obtain rfl : xs = [] := List.eq_nil_of_length_eq_zero (by simpa using hr.1)
    have heq := fun (W : World) => Lib.run_eql_slice_nil (P := Try.prog) W 24 34 none 0 c 0 0 Try.underlying24
    simp only [Option.isNone_none] at heq
    clear hr h1 hl
    go_enter Try.func49, Try.ntmps49
    go_wp2_with fail
    go_ret
    exact ⟨_, rfl, OW.nil _ _ _, Below.refl _ _⟩
  | some ad =>
    have heq := fun (W : World) => Lib.run_eql_slice_nil (P := Try.prog) W 24 34 (some ad) n c 0 0 Try.underlying24
    simp only [Option.isNone_some] at heq
    go_enter Try.func49, Try.ntmps49
    go_wp2_with (at_builtin; refine wpList_append_ow rfl (.tmp 5) (.tmp 6) 24 rfl w.heap.size 34 rfl infoFrag rfl (by decide) _ 0 [] rfl (OW.of_block (T := 34) (Nat.le_refl _) (Bl.new' rfl) (Nat.le_refl _) (by unfold maxLen; omega) rfl rfl) (some ad) n c xs rfl (hr.keep ((Below.refl _ _).alloc (Nat.le_refl _) _)) h1 (by unfold maxLen; omega) (by omega) (by simp) ?_; rintro v2 w2 ho2 hg2 -; replace hg2 := hg2)
    go_ret
    rw [Nat.zero_add, List.nil_append] at ho2
    exact ⟨v2, rfl, ho2, ((Below.refl _ _).alloc (Nat.le_refl _) _).grown hg2 (by simp) (fun k hk => by have hk2 : some w.heap.size = some k := hk; injection hk2 with hk2; omega)⟩
theorem cloneU_any (xs : List Value) (n : Nat) (A : Option Addr) (c : Nat) (w : World) (hr : Rd w 1 A n xs) (h1 : ∀ u ∈ xs, u.oneCell' = true) (hl : n * 8 ≤ 140737488351232) :
    Calls Try.prog 50 #[.slice A n c] w fun e w' => ∃ r, e = .returned r ∧ OW w' w.heap.size 1 r n xs ∧ Below w.heap.size w w' := by
  cases A with
  | none =>
    obtain rfl : n = 0 := by
      rcases Nat.eq_zero_or_pos n with h | h
      · exact h
      · obtain ⟨_, _, e, _⟩ := hr.2 h; cases e
    obtain rfl : xs = [] := List.eq_nil_of_length_eq_zero (by simpa using hr.1)
    have heq := fun (W : World) => Lib.run_eql_slice_nil (P := Try.prog) W 32 36 none 0 c 0 0 Try.underlying32
    simp only [Option.isNone_none] at heq
    clear hr h1 hl
    go_enter Try.func50, Try.ntmps50
    go_wp2_with fail
    go_ret
    exact ⟨_, rfl, OW.nil _ _ _, Below.refl _ _⟩
  | some ad =>
    have heq := fun (W : World) => Lib.run_eql_slice_nil (P := Try.prog) W 32 36 (some ad) n c 0 0 Try.underlying32
    simp only [Option.isNone_some] at heq
    go_enter Try.func50, Try.ntmps50
    go_wp2_with (at_builtin; refine wpList_append_ow rfl (.tmp 5) (.tmp 6) 32 rfl w.heap.size 36 rfl infoU64 rfl (by decide) _ 0 [] rfl (OW.of_block (T := 36) (Nat.le_refl _) (Bl.new' rfl) (Nat.le_refl _) (by unfold maxLen; omega) rfl rfl) (some ad) n c xs rfl (hr.keep ((Below.refl _ _).alloc (Nat.le_refl _) _)) h1 (by unfold maxLen; omega) (by omega) (by simp) ?_; rintro v2 w2 ho2 hg2 -; replace hg2 := hg2)
    go_ret
    rw [Nat.zero_add, List.nil_append] at ho2
    exact ⟨v2, rfl, ho2, ((Below.refl _ _).alloc (Nat.le_refl _) _).grown hg2 (by simp) (fun k hk => by have hk2 : some w.heap.size = some k := hk; injection hk2 with hk2; omega)⟩
theorem set_getElem_self {α : Type} {l : List α} {i : Nat} {a : α} (h : l[i]? = some a) : l.set i a = l := by
  apply List.ext_getElem?
  intro j
  by_cases e : j = i
  · subst e
    rw [List.getElem?_set_self (List.getElem?_eq_some_iff.1 h).1, h]
  · rw [List.getElem?_set_ne (fun e' => e e'.symm)]
theorem rd_setFar0 {w : World} {n b i : Nat} {A : Option Addr} {xs : List Value} (h : Rd w 1 A n xs) (v : Value) (hk : 0 < n → ∀ a, A = some a → a.block ≠ b) : Rd (w.setCell ⟨b, i, none⟩ v) 1 A n xs := by
  rcases Nat.eq_zero_or_pos n with h0 | h0
  · subst h0
    obtain rfl : xs = [] := List.eq_nil_of_length_eq_zero (by simpa using h.1)
    exact Rd.nil _ _ _
  · exact h.setFar v (hk h0)
theorem fragments_any (how : Int) (F : List Fg) (hb : Nat) (w : World) (h : ST w hb how F) (hl : F.length ≤ 1000000) (hq : ∀ f ∈ F, f.q.length ≤ 1000000) :
    Calls Try.prog 29 #[.pointer (some ⟨hb, 0, none⟩)] w fun ee w' => ∃ (A : Option Addr) (c : Nat), ee = .returned (.slice A F.length c) ∧ FR w' A F ∧ Below w.heap.size w w' := by
  obtain ⟨A, c, c0, c1, G0, hG0, hr0, hp0⟩ := h.fr
  clear c0
  have hone : ∀ u ∈ G0.flatMap fcs, u.oneCell' = true := by
    intro u hu
    obtain ⟨p, hp, hu⟩ := List.mem_flatMap.1 hu
    obtain ⟨B, d, e, _⟩ := hp0 p hp
    unfold fcs at hu
    rw [e] at hu
    simp at hu
    rcases hu with rfl | rfl | rfl <;> rfl
  have hcl := Lib.hid (cloneF_any (G0.flatMap fcs) F.length A c w hr0 hone (by omega))
  have hcu := Lib.hid (fun xs n A c W h1 h2 h3 => cloneU_any xs n A c W h1 h2 h3)
  obtain ⟨n, hn⟩ : ∃ n, F.length = n := ⟨_, rfl⟩
  rw [hn] at c1 hl hcl ⊢
  have hlo : ∀ p ∈ G0, ∃ B d, p.2 = .slice B p.1.q.length d ∧ Rd w 1 B p.1.q.length (u64C p.1.q) ∧ (0 < p.1.q.length → ∀ ad, B = some ad → ad.block < w.heap.size) := fun p hp => by
    obtain ⟨B, d, e, r⟩ := hp0 p hp
    refine ⟨B, d, e, r, fun h0 ad had => ?_⟩
    obtain ⟨b', o', e', hc'⟩ := r.2 h0
    rw [had] at e'
    obtain rfl := Option.some.inj e'
    obtain ⟨x, hx⟩ : ∃ x, (u64C p.1.q)[0]? = some x := ⟨_, List.getElem?_eq_getElem (by unfold u64C; rw [List.length_map]; omega)⟩
    exact cell_lt (hc' 0 x hx)
  replace hlo := Lib.hid hlo
  replace hn := Lib.hid hn
  replace hq := Lib.hid hq
  clear h hone hr0 hp0
  go_enter Try.func29, Try.ntmps29
  go_wp2_with (first
    | (go_at_call 49; refine hcl.out.mono ?_; rintro e w1 ⟨r, rfl, ho, hB1⟩; obtain ⟨A1, c1', rfl, -⟩ := ho.shape; replace ho := Lib.hid ho))
  by_cases hn0 : n = 0
  · have hF : F = [] := List.eq_nil_of_length_eq_zero (hn.out.trans hn0)
    replace hF := Lib.hid hF
    subst hn0
    go_loopw [12] (fun vi wr => vi = .int .i64 0 ∧ wr = w1) (fun vi _ => 0)
    case atStart => exact ⟨rfl, rfl⟩
    case round =>
      obtain ⟨rfl, rfl⟩ := hrel
      go_wp2_with fail
      go_ret
      exact ⟨_, _, rfl, by rw [hF.out]; exact FR.nil _ _, hB1⟩
  · obtain ⟨g, o, rfl, -⟩ := ho.out.rd.2 (by omega)
    have hgb : w.heap.size ≤ g ∧ g < w1.heap.size := ho.out.lt g rfl
    go_loopw [12] (fun vi wr => ∃ (i : Nat) (G : List (Fg × Value)), i ≤ n ∧ vi = .int .i64 i ∧ G.map (·.1) = F ∧ OW wr w.heap.size 3 (.slice (some ⟨g, o, none⟩) n c1') n (G.flatMap fcs) ∧ (∀ p ∈ G, ∃ B d, p.2 = .slice B p.1.q.length d ∧ Rd wr 1 B p.1.q.length (u64C p.1.q) ∧ (0 < p.1.q.length → ∀ ad, B = some ad → ad.block ≠ g)) ∧ Below w.heap.size w wr) (fun vi _ => n - (intOf vi).toNat)
    case atStart => exact ⟨0, G0, Nat.zero_le _, rfl, hG0, ho.out, (fun p hp => by obtain ⟨B, d, e, r, hx⟩ := hlo.out p hp; exact ⟨B, d, e, r.keep hB1, fun h0 ad had => by have := hx h0 ad had; omega⟩), hB1⟩
    case round =>
      clear ho hB1
      obtain ⟨i, G, hi, rfl, hG, ho, hpG, hB⟩ := hrel
      by_cases hlt : i < n
      · have hGl : G.length = n := by rw [← hn.out, ← hG, List.length_map]
        obtain ⟨p, hp⟩ : ∃ p, G[i]? = some p := ⟨_, List.getElem?_eq_getElem (by omega)⟩
        obtain ⟨B, d, hp2, r, hx⟩ := hpG p (List.mem_of_getElem? hp)
        have hrG := ho.rd
        rw [← hGl] at hrG
        have e2 : wr.cell? ⟨g, o + i * 3 + 2, none⟩ = some (.slice B p.1.q.length d) := by rw [← hp2]; exact hrG.elem fcs_len hp (j := 2) rfl
        have hql := hq.out p.1 (by rw [← hG]; exact List.mem_map.2 ⟨p, List.mem_of_getElem? hp, rfl⟩)
        have hcc := Lib.hid (hcu.out (u64C p.1.q) p.1.q.length B d wr r (u64C_one _) (by omega))
        have i0 : (0 : Int) ≤ (i : Int) := by omega
        have i1 : (i : Int) < (n : Int) := by omega
        have hij : i * 3 + 2 < n * 3 := by omega
        obtain ⟨m, hm⟩ : ∃ m, p.1.q.length = m := ⟨_, rfl⟩
        rw [hm] at e2 hcc
        replace ho := Lib.hid ho
        replace hpG := Lib.hid hpG
        replace hm := Lib.hid hm
        replace hGl := Lib.hid hGl
        replace hp := Lib.hid hp
        replace hB := Lib.hid hB
        replace hG := Lib.hid hG
        clear hrG r hx hp2
        go_wp2_with (first
          | (go_at_call 50; refine hcc.out.mono ?_; rintro e w2 ⟨r, rfl, ho2, hB2⟩; obtain ⟨A2, c2, rfl, hr2, -⟩ := ho2.shape; have ho3 := ho.out.keep hB2; have e2' := cell_keep hB2 e2; have ez : w2.frozen? ⟨g, o + i * 3 + 2, none⟩ = false := (by have := (ho3.free (j := i * 3 + 2) (by have := ho3.capLe; omega)).2; rwa [← Nat.add_assoc] at this); replace ho2 := Lib.hid ho2; replace hr2 := Lib.hid hr2; replace ho3 := Lib.hid ho3))
        go_roundw
        case measure => simp only [intOf]; omega
        case rel =>
          refine ⟨i + 1, G.set i (p.1, .slice A2 m c2), by omega, by go_num, ?_, ?_, ?_, ?_⟩
          · rw [List.map_set, ← hG.out, set_getElem_self (by rw [List.getElem?_map, hp.out]; rfl)]
          · have := ho3.out.setAt (j := i * 3 + 2) hij (.slice A2 m c2)
            rw [flat_set fcs 3 fcs_len G i 2 p _ (p.1, .slice A2 m c2) hp.out (by decide) rfl, ← Nat.add_assoc] at this
            exact this
          · intro q hq'
            rcases List.mem_or_eq_of_mem_set hq' with h | rfl
            · obtain ⟨B', d', e', r', hx'⟩ := hpG.out q h
              exact ⟨B', d', e', rd_setFar0 (r'.keep hB2) _ hx', hx'⟩
            · refine ⟨A2, c2, by rw [hm.out], rd_setFar0 (by rw [hm.out]; exact hr2.out) _ (fun _ ad had => ?_), fun _ ad had => ?_⟩
              · have := (ho2.out.lt ad.block (by subst had; rfl)).1
                have := (ho.out.lt g rfl).2
                omega
              · have := (ho2.out.lt ad.block (by subst had; rfl)).1
                have := (ho.out.lt g rfl).2
                omega
          · exact (below_then hB.out hB2).setCell hgb.1 _
      · obtain rfl : i = n := by omega
        have hGl : G.length = i := by rw [← hn.out, ← hG, List.length_map]
        have hrd := ho.rd
        replace ho := Lib.hid ho
        have hFR : FR wr (some ⟨g, o, none⟩) F := ⟨G, hG, by rw [hn.out]; exact hrd, fun p hp => by obtain ⟨B, d, e, r, _⟩ := hpG p hp; exact ⟨B, d, e, r⟩⟩
        replace hFR := Lib.hid hFR
        clear hrd hpG hGl
        go_wp2_with fail
        go_ret
        exact ⟨_, _, rfl, hFR.out, hB⟩
end Go.Proofs.Ytmopjoeomjdikaa
