/- The document's fragments, walked; joins. Conditions: what each theorem names. -/
import Derived.RangeFuncNested
import Derived.RangeFuncBound
import Derived.RangeFuncCalls
import Derived.RangeFuncLeaves
import Derived.Shelf.Abstract
import Derived.Shelf.RegionOpen
import Derived.WalkKit
import Derived.OwnWalkIn
import Derived.TacticsInMore
import Derived.LoopNIn
import Derived.LoopIn
import Derived.Lib.Hide
import Derived.Outline
import Derived.RegionTactic
import Derived.BigRegion
import Derived.WalkLawsBesides
import Derived.WalkSpells
import Derived.Deep.QuietTactic
import Derived.BigQuiet
import Derived.Deep.RegionHeld3
import Derived.Deep.DeepCutAuto
import Derived.Deep.CutBlock
import Derived.StillTailTactics
import Derived.WalkSmall
import Derived.Test.YtmopjoeomjdikaaRgW
import Derived.Test.YtmopjoeomjdikaaRgH
import Derived.Test.YtmopjoeomjdikaaSl
namespace Go.Proofs.Ytmopjoeomjdikaa
open Go.RowKit Go.Sed Go.Sort
set_option maxHeartbeats 2000000
set_option maxRecDepth 100000
theorem long_any (F : List Fg) (A : Option Addr) (c : Nat) (w : World) (h : FR w A F) (hl : F.length ≤ maxLen) (hq : ∀ f ∈ F, f.q.length ≤ 35184372088832) (hs : ∀ f ∈ F, f.b.size ≤ maxLen ∧ f.e.size ≤ maxLen) :
    (Calls Try.prog 42 #[.slice A F.length c] w fun e w' => e = .returned (.bool (longF F)) ∧ Below w.heap.size w w') ∧ (Calls Try.prog 46 #[.slice A F.length c] w fun e w' => e = .returned (.bool (longF F)) ∧ Below w.heap.size w w') := by
  by_cases h2 : F.length ≤ 2048
  · exact ⟨long_few F A c w h h2 hq hs, rlong_few F A c w h h2 hq hs⟩
  · have : longF F = true := by unfold longF; rw [decide_eq_true (by omega : 2048 < F.length), Bool.or_true, Bool.true_or]
    rw [this]
    exact ⟨long_many F A c w h (by omega) hl hs, rlong_many F A c w h (by omega) hl hs⟩
/-- what a join tells. -/
def tombsJ (how : Int) (F : List Fg) : List Tb := if joinE how F = 0 then tombsF F else []
theorem longF_no {F : List Fg} (h : longF F = false) : F.length ≤ 2048 ∧ sumQ F ≤ 1048576 := by
  unfold longF at h
  rw [Bool.or_eq_false_iff, Bool.or_eq_false_iff, decide_eq_false_iff_not, decide_eq_false_iff_not] at h
  omega
theorem join_any (how : Int) (F : List Fg) (A : Option Addr) (c : Nat) (w : World) (h : FR w A F) (hl : F.length ≤ maxLen) (hq : ∀ f ∈ F, f.q.length ≤ 35184372088832) (hs : ∀ f ∈ F, f.b.size ≤ maxLen ∧ f.e.size ≤ maxLen) :
    Calls Try.prog 16 #[.int .i64 how, .slice A F.length c] w fun e w' => ∃ v, e = .returned (.tuple #[v, .int .i64 (joinE how F)]) ∧ OW w' w.heap.size 3 v (tombsJ how F).length ((tombsJ how F).flatMap tc) ∧ Below w.heap.size w w' := by
  have hlo := (long_any F A c w h hl hq hs).1
  have hcn := Lib.hid (fun W (hW : Below w.heap.size w W) => can_any how F A c W (h.keep hW) hl (fun f hf => by have := hq f hf; unfold maxLen; omega))
  have hto := Lib.hid (fun W (hW : Below w.heap.size w W) (h2 : sumQ F ≤ 1048576) => tombs_any F A c W (h.keep hW) hl h2)
  have hcm := Lib.hid (fun W => comparator_any how W)
  obtain ⟨b0, hb0⟩ : ∃ b, longF F = b := ⟨_, rfl⟩
  obtain ⟨b1, hb1⟩ : ∃ b, canF how none F = b := ⟨_, rfl⟩
  obtain ⟨b2, hb2⟩ : ∃ b, decide (how = 0 ∨ how = 1) = b := ⟨_, rfl⟩
  have hE : joinE how F = if b0 = true then 2 else if b2 = false then 1 else if b1 = false then 1 else 0 := by
    unfold joinE
    rw [hb0, hb1, ← hb2]
    simp only [decide_eq_false_iff_not]
  have hno : b0 = false → sumQ F ≤ 1048576 := fun e => (longF_no (hb0.trans e)).2
  rw [hb0] at hlo
  rw [hb1] at hcn
  rw [hb2] at hcm
  obtain ⟨n, hn⟩ : ∃ n, F.length = n := ⟨_, rfl⟩
  rw [hn] at hlo hcn hto ⊢
  replace hlo := Lib.hid hlo
  replace hno := Lib.hid hno
  clear h hl hq hs hb0 hb1 hb2 hn
  cases b0 with
  | true =>
    rw [if_pos rfl] at hE
    have hJ : tombsJ how F = [] := by unfold tombsJ; rw [hE]; rfl
    replace hE := Lib.hid hE
    replace hJ := Lib.hid hJ
    go_enter Try.func16, Try.ntmps16
    go_wp2_with (first
      | (go_at_call 42; refine hlo.out.mono ?_; rintro e1 w1 ⟨rfl, hB1⟩))
    go_ret2
    exact ⟨_, by rw [hE.out]; rfl, by rw [hJ.out]; exact OW.nil _ _ _, hB1⟩
  | false =>
    rw [if_neg (by decide)] at hE
    cases b2 with
    | false =>
      rw [if_pos rfl] at hE
      have hJ : tombsJ how F = [] := by unfold tombsJ; rw [hE]; rfl
      replace hE := Lib.hid hE
      replace hJ := Lib.hid hJ
      go_enter Try.func16, Try.ntmps16
      go_wp2_with (first
        | (go_at_call 42; refine hlo.out.mono ?_; rintro e1 w1 ⟨rfl, hB1⟩)
        | (go_at_call 43; refine (hcm.out _).mono ?_; rintro e2 w2 ⟨rfl, rfl⟩))
      go_ret2
      exact ⟨_, by rw [hE.out]; rfl, by rw [hJ.out]; exact OW.nil _ _ _, hB1⟩
    | true =>
      rw [if_neg (by decide)] at hE
      have hs1 := hno.out rfl
      cases b1 with
      | false =>
        rw [if_pos rfl] at hE
        have hJ : tombsJ how F = [] := by unfold tombsJ; rw [hE]; rfl
        replace hE := Lib.hid hE
        replace hJ := Lib.hid hJ
        go_enter Try.func16, Try.ntmps16
        go_wp2_with (first
          | (go_at_call 42; refine hlo.out.mono ?_; rintro e1 w1 ⟨rfl, hB1⟩)
          | (go_at_call 43; refine (hcm.out _).mono ?_; rintro e2 w2 ⟨rfl, rfl⟩)
          | (go_at_call 44; refine (hcn.out _ hB1).mono ?_; rintro e3 w3 ⟨rfl, hB3⟩))
        go_ret2
        exact ⟨_, by rw [hE.out]; rfl, by rw [hJ.out]; exact OW.nil _ _ _, below_then hB1 hB3⟩
      | true =>
        rw [if_neg (by decide)] at hE
        have hJ : tombsJ how F = tombsF F := by unfold tombsJ; rw [hE]; rfl
        replace hE := Lib.hid hE
        replace hJ := Lib.hid hJ
        go_enter Try.func16, Try.ntmps16
        go_wp2_with (first
          | (go_at_call 42; refine hlo.out.mono ?_; rintro e1 w1 ⟨rfl, hB1⟩)
          | (go_at_call 43; refine (hcm.out _).mono ?_; rintro e2 w2 ⟨rfl, rfl⟩)
          | (go_at_call 44; refine (hcn.out _ hB1).mono ?_; rintro e3 w3 ⟨rfl, hB3⟩; have hB13 := below_then hB1 hB3)
          | (go_at_call 45; refine (hto.out _ hB13 hs1).mono ?_; rintro e4 w4 ⟨v, rfl, ho, hB4⟩; replace ho := Lib.hid ho))
        go_ret2
        exact ⟨_, by rw [hE.out]; rfl, by rw [hJ.out]; exact ho.out.more hB13.size, below_then hB13 hB4⟩
theorem stC_one (l : List ByteArray) : ∀ u ∈ stC l, u.oneCell' = true := by
  intro u hu
  obtain ⟨x, -, rfl⟩ := List.mem_map.1 hu
  rfl
theorem u64C_one (l : List Int) : ∀ u ∈ u64C l, u.oneCell' = true := by
  intro u hu
  obtain ⟨x, -, rfl⟩ := List.mem_map.1 hu
  rfl
theorem with_any (how : Int) (l : List ByteArray) (s : ByteArray) (A : Option Addr) (c : Nat) (w : World) (h : Rd w 1 A l.length (stC l)) (hc : l.length ≤ c) (hcm : c ≤ maxLen) (hl : l.length ≤ 1000000) :
    Calls Try.prog 40 #[.int .i64 how, .slice A l.length c, .string s] w fun e w' => ∃ A' c', e = .returned (.slice A' (insU (ltBb how) s l).length c') ∧ (insU (ltBb how) s l).length ≤ c' ∧ c' ≤ maxLen ∧ Rd w' 1 A' (insU (ltBb how) s l).length (stC (insU (ltBb how) s l)) ∧ Below w.heap.size w w' := by
  have hcp := Lib.hid (fun x W => rcompare_any how x s W)
  have hins := Lib.hid (insU_at (ltBb how) s l)
  obtain ⟨n, hn⟩ : ∃ n, l.length = n := ⟨_, rfl⟩
  rw [hn] at h hc hl hins ⊢
  unfold maxLen at hcm
  obtain ⟨I, hI⟩ : ∃ I, insU (ltBb how) s l = I := ⟨_, rfl⟩
  rw [hI] at hins ⊢
  replace hn := Lib.hid hn
  replace h := Lib.hid h
  replace hI := Lib.hid hI
  go_enter Try.func40, Try.ntmps40
  go_wp2_with fail
  go_loop [7] (fun vi => ∃ k : Nat, k ≤ n ∧ vi = .int .i64 k ∧ ∀ (i : Nat) (x : ByteArray), i < k → l[i]? = some x → ltBb how x s = true) (fun vi => n - (intOf vi).toNat)
  case atStart => exact ⟨0, Nat.zero_le _, rfl, fun i x hi => absurd hi (by omega)⟩
  case round =>
    obtain ⟨k, hk, rfl, hlt⟩ := hrel
    replace hlt := Lib.hid hlt
    by_cases hkn : k < n
    · obtain ⟨x, hx⟩ : ∃ x, l[k]? = some x := ⟨_, List.getElem?_eq_getElem (by have := hn.out; omega)⟩
      obtain ⟨g, o, hA, -⟩ := h.out.2 (by omega)
      have e0 : w.cell? ⟨g, o + k, none⟩ = some (.string x) := (hA ▸ h.out).cellAt (by unfold stC; rw [List.getElem?_map, hx]; rfl)
      have hcx := Lib.hid (hcp.out x)
      have hL : ltBb how x s = decide (cmpH how x s < 0) := rfl
      obtain ⟨y, hy⟩ : ∃ y, cmpH how x s = y := ⟨_, rfl⟩
      rw [hy] at hcx hL
      replace hy := Lib.hid hy
      have k0 : (0 : Int) ≤ (k : Int) := by omega
      have k1 : (k : Int) < (n : Int) := by omega
      by_cases hy0 : y < 0
      · have d0 : decide (y < 0) = true := decide_eq_true hy0
        have hlt2 : ∀ (i : Nat) (x : ByteArray), i < k + 1 → l[i]? = some x → ltBb how x s = true := fun i z hi hz => by
          by_cases e : i < k
          · exact hlt.out i z e hz
          · obtain rfl : i = k := by omega
            rw [hx] at hz
            obtain rfl := Option.some.inj hz
            rw [hL]; exact d0
        replace hlt2 := Lib.hid hlt2
        replace hL := Lib.hid hL
        replace hx := Lib.hid hx
        subst hA
        go_wp2_with (first
          | (go_at_call 11; refine (hcx.out _).mono ?_; rintro e1 w1 ⟨rfl, rfl⟩))
        go_round
        case measure => simp only [intOf]; omega
        case rel => exact ⟨k + 1, by omega, by go_num, hlt2.out⟩
      · have d0 : decide (y < 0) = false := decide_eq_false hy0
        have hie := hins.out k hk hlt.out (fun z hz => by rw [hx] at hz; obtain rfl := Option.some.inj hz; rw [hL]; exact d0)
        rw [hx] at hie
        replace hL := Lib.hid hL
        replace hx := Lib.hid hx
        by_cases hxs : x = s
        · subst hxs
          rw [if_pos rfl] at hie
          have hIn : I.length = n := by rw [hie]; exact hn.out
          have hrI : Rd w 1 A I.length (stC I) := by rw [hIn, hie]; exact h.out
          replace hrI := Lib.hid hrI
          replace hie := Lib.hid hie
          replace hIn := Lib.hid hIn
          subst hA
          go_wp2_with (first
            | (go_at_call 11; refine (hcx.out _).mono ?_; rintro e1 w1 ⟨rfl, rfl⟩))
          go_ret
          exact ⟨_, c, by rw [hIn.out]; rfl, by rw [hIn.out]; exact hc, by unfold maxLen; exact hcm, hrI.out, Below.refl _ _⟩
        · rw [if_neg (fun e => hxs (Option.some.inj e))] at hie
          have hxs1 : (x.toList == s.toList) = false := by rw [eq_ba]; exact decide_eq_false hxs
          subst hA
          have hIl : I.length = n + 1 := by
            have := hn.out
            rw [hie, List.length_append, List.length_cons, List.length_take, List.length_drop]
            omega
          have hIe : stC I = stC (l.take k) ++ [.string s] ++ stC (l.drop k) := by rw [hie]; simp [stC]
          replace hie := Lib.hid hie
          replace hIl := Lib.hid hIl
          replace hIe := Lib.hid hIe
          go_wp2_with (first
            | (go_at_call 11; refine (hcx.out _).mono ?_; rintro e1 w1 ⟨rfl, rfl⟩)
            | (at_builtin; refine wpList_append_ow rfl (.tmp 38) (.tmp 41) 23 rfl w.heap.size 9 rfl infoStr rfl (by decide) _ _ _ rfl (OW.empty (Nat.le_refl _) (Bl.new' rfl)) _ k c (stC (l.take k)) rfl (by rw [show stC (l.take k) = (stC l).take k from List.map_take]; exact (rd_take h.out hk).alloc _) (stC_one _) (by unfold maxLen; omega) (by omega) (by simp) ?_; rintro v1 w1 ho1 hg1 -; rw [Nat.zero_add, List.nil_append] at ho1; have hB1 := Lib.hid (below_grow ((Below.refl _ _).alloc (Nat.le_refl _) _) (by simp) (OW.empty (w := w.alloc (.cells #[] 9)) (T := 9) (size := 1) (base := w.heap.size) (Nat.le_refl _) (Bl.new' rfl)) (Nat.le_refl _) hg1); clear hg1; replace ho1 := Lib.hid ho1)
            | (at_builtin; refine wpList_append_ow rfl (.tmp 42) (.tmp 44) 23 rfl w.heap.size 9 rfl infoStr rfl (by decide) _ _ _ rfl (ho1.out.alloc _) _ 1 _ [.string s] rfl (rd_new rfl _ _ 1 1 rfl) (by intro u hu; simp at hu; subst hu; rfl) (by unfold maxLen; omega) (by omega) (by have := hB1.out.size; simp; omega) ?_; rintro v2 w2 ho2 hg2 -; have hB2 := Lib.hid (below_grow (hB1.out.alloc hB1.out.size _) (by have := hB1.out.size; simp; omega) (ho1.out.alloc _) (Nat.le_refl _) hg2); clear hg2; replace ho2 := Lib.hid ho2)
            | (at_builtin; refine wpList_append_ow rfl (.tmp 46) (.tmp 49) 23 rfl w.heap.size 9 rfl infoStr rfl (by decide) _ _ _ rfl ho2.out _ (n - k) _ (stC (l.drop k)) rfl (by rw [show stC (l.drop k) = (stC l).drop k from List.map_drop]; have hrd := rd_drop (h.out.keep hB2.out) hc hk; rw [if_neg (by omega), Option.map_some, add_mk] at hrd; exact hrd) (stC_one _) (by unfold maxLen; omega) (by omega) hB2.out.size ?_; rintro v3 w3 ho3 hg3 -; have hB3 := Lib.hid (below_grow hB2.out hB2.out.size ho2.out (Nat.le_refl _) hg3); clear hg3; replace ho3 := Lib.hid ho3))
          go_ret
          obtain ⟨A', c', hv3, hr3, hc3, hm3, -⟩ := ho3.out.shape
          have hk2 : k + 1 + (n - k) = I.length := by have := hIl.out; omega
          rw [hk2] at hv3 hr3 hc3
          exact ⟨A', c', by rw [← hv3]; rfl, hc3, hm3, by rw [hIe.out]; exact hr3, hB3.out⟩
    · obtain rfl : k = n := by omega
      have hie := hins.out k hk hlt.out (fun z hz => by rw [List.getElem?_eq_none (by have := hn.out; omega)] at hz; cases hz)
      rw [List.getElem?_eq_none (by have := hn.out; omega), if_neg (by intro h; cases h)] at hie
      have hIl : I.length = k + 1 := by
        have := hn.out
        rw [hie, List.length_append, List.length_cons, List.length_take, List.length_drop]
        omega
      have hIe : stC I = stC (l.take k) ++ [.string s] ++ [] := by rw [hie, List.drop_of_length_le (by have := hn.out; omega)]; simp [stC]
      replace hie := Lib.hid hie
      replace hIl := Lib.hid hIl
      replace hIe := Lib.hid hIe
      go_wp2_with (first
        | (at_builtin; refine wpList_append_ow rfl (.tmp 38) (.tmp 41) 23 rfl w.heap.size 9 rfl infoStr rfl (by decide) _ _ _ rfl (OW.empty (Nat.le_refl _) (Bl.new' rfl)) _ k c (stC (l.take k)) rfl (by rw [show stC (l.take k) = (stC l).take k from List.map_take]; exact (rd_take h.out hk).alloc _) (stC_one _) (by unfold maxLen; omega) (by omega) (by simp) ?_; rintro v1 w1 ho1 hg1 -; rw [Nat.zero_add, List.nil_append] at ho1; have hB1 := Lib.hid (below_grow ((Below.refl _ _).alloc (Nat.le_refl _) _) (by simp) (OW.empty (w := w.alloc (.cells #[] 9)) (T := 9) (size := 1) (base := w.heap.size) (Nat.le_refl _) (Bl.new' rfl)) (Nat.le_refl _) hg1); clear hg1; replace ho1 := Lib.hid ho1)
        | (at_builtin; refine wpList_append_ow rfl (.tmp 42) (.tmp 44) 23 rfl w.heap.size 9 rfl infoStr rfl (by decide) _ _ _ rfl (ho1.out.alloc _) _ 1 _ [.string s] rfl (rd_new rfl _ _ 1 1 rfl) (by intro u hu; simp at hu; subst hu; rfl) (by unfold maxLen; omega) (by omega) (by have := hB1.out.size; simp; omega) ?_; rintro v2 w2 ho2 hg2 -; have hB2 := Lib.hid (below_grow (hB1.out.alloc hB1.out.size _) (by have := hB1.out.size; simp; omega) (ho1.out.alloc _) (Nat.le_refl _) hg2); clear hg2; replace ho2 := Lib.hid ho2)
        | (at_builtin; refine wpList_append_ow rfl (.tmp 46) (.tmp 49) 23 rfl w.heap.size 9 rfl infoStr rfl (by decide) _ _ _ rfl ho2.out _ 0 _ [] rfl (Rd.nil _ _ _) (by intro u hu; cases hu) (by unfold maxLen; omega) (by omega) hB2.out.size ?_; rintro v3 w3 ho3 hg3 -; have hB3 := Lib.hid (below_grow hB2.out hB2.out.size ho2.out (Nat.le_refl _) hg3); clear hg3; replace ho3 := Lib.hid ho3))
      all_goals
        go_ret
        obtain ⟨A', c', hv3, hr3, hc3, hm3, -⟩ := ho3.out.shape
        have hk2 : k + 1 + 0 = I.length := by have := hIl.out; omega
        rw [hk2] at hv3 hr3 hc3
        exact ⟨A', c', by rw [← hv3]; rfl, hc3, hm3, by rw [hIe.out]; exact hr3, hB3.out⟩
theorem seqs_any (l : List Int) (s : Int) (A : Option Addr) (c : Nat) (w : World) (h : Rd w 1 A l.length (u64C l)) (hc : l.length ≤ c) (hcm : c ≤ maxLen) (hl : l.length ≤ 1000000) :
    Calls Try.prog 41 #[.slice A l.length c, .int .u64 s] w fun e w' => ∃ A' c', e = .returned (.slice A' (insU gtI s l).length c') ∧ (insU gtI s l).length ≤ c' ∧ c' ≤ maxLen ∧ Rd w' 1 A' (insU gtI s l).length (u64C (insU gtI s l)) ∧ Below w.heap.size w w' ∧ (∀ base, base ≤ w.heap.size → OW w base 1 (.slice A l.length c) l.length (u64C l) → OW w' base 1 (.slice A' (insU gtI s l).length c') (insU gtI s l).length (u64C (insU gtI s l))) := by
  have hins := Lib.hid (insU_at gtI s l)
  obtain ⟨n, hn⟩ : ∃ n, l.length = n := ⟨_, rfl⟩
  rw [hn] at h hc hl hins ⊢
  unfold maxLen at hcm
  obtain ⟨I, hI⟩ : ∃ I, insU gtI s l = I := ⟨_, rfl⟩
  rw [hI] at hins ⊢
  replace hn := Lib.hid hn
  replace h := Lib.hid h
  replace hI := Lib.hid hI
  go_enter Try.func41, Try.ntmps41
  go_wp2_with fail
  go_loop [5] (fun vi => ∃ k : Nat, k ≤ n ∧ vi = .int .i64 k ∧ ∀ (i : Nat) (x : Int), i < k → l[i]? = some x → gtI x s = true) (fun vi => n - (intOf vi).toNat)
  case atStart => exact ⟨0, Nat.zero_le _, rfl, fun i x hi => absurd hi (by omega)⟩
  case round =>
    obtain ⟨k, hk, rfl, hlt⟩ := hrel
    replace hlt := Lib.hid hlt
    by_cases hkn : k < n
    · obtain ⟨x, hx⟩ : ∃ x, l[k]? = some x := ⟨_, List.getElem?_eq_getElem (by have := hn.out; omega)⟩
      obtain ⟨g, o, hA, -⟩ := h.out.2 (by omega)
      have e0 : w.cell? ⟨g, o + k, none⟩ = some (.int .u64 x) := (hA ▸ h.out).cellAt (by unfold u64C; rw [List.getElem?_map, hx]; rfl)
      have hL : gtI x s = decide (s < x) := rfl
      have k0 : (0 : Int) ≤ (k : Int) := by omega
      have k1 : (k : Int) < (n : Int) := by omega
      by_cases hy0 : s < x
      · have d0 : decide (s < x) = true := decide_eq_true hy0
        have hlt2 : ∀ (i : Nat) (x : Int), i < k + 1 → l[i]? = some x → gtI x s = true := fun i z hi hz => by
          by_cases e : i < k
          · exact hlt.out i z e hz
          · obtain rfl : i = k := by omega
            rw [hx] at hz
            obtain rfl := Option.some.inj hz
            rw [hL]; exact d0
        replace hlt2 := Lib.hid hlt2
        replace hL := Lib.hid hL
        replace hx := Lib.hid hx
        subst hA
        go_wp2_with fail
        go_round
        case measure => simp only [intOf]; omega
        case rel => exact ⟨k + 1, by omega, by go_num, hlt2.out⟩
      · have d0 : decide (s < x) = false := decide_eq_false hy0
        have hie := hins.out k hk hlt.out (fun z hz => by rw [hx] at hz; obtain rfl := Option.some.inj hz; rw [hL]; exact d0)
        rw [hx] at hie
        replace hL := Lib.hid hL
        replace hx := Lib.hid hx
        by_cases hxs : x = s
        · subst hxs
          rw [if_pos rfl] at hie
          have hIn : I.length = n := by rw [hie]; exact hn.out
          have hrI : Rd w 1 A I.length (u64C I) := by rw [hIn, hie]; exact h.out
          replace hrI := Lib.hid hrI
          replace hie := Lib.hid hie
          replace hIn := Lib.hid hIn
          subst hA
          go_wp2_with fail
          go_ret
          exact ⟨_, c, by rw [hIn.out]; rfl, by rw [hIn.out]; exact hc, by unfold maxLen; exact hcm, hrI.out, Below.refl _ _, fun base _ ho => by rw [hIn.out, hie.out]; exact ho⟩
        · rw [if_neg (fun e => hxs (Option.some.inj e))] at hie
          have hxs1 : (x == s) = false := beq_eq_false_iff_ne.2 hxs
          subst hA
          have hIl : I.length = n + 1 := by
            have := hn.out
            rw [hie, List.length_append, List.length_cons, List.length_take, List.length_drop]
            omega
          have hIe : u64C I = u64C (l.take k) ++ [.int .u64 s] ++ u64C (l.drop k) := by rw [hie]; simp [u64C]
          replace hie := Lib.hid hie
          replace hIl := Lib.hid hIl
          replace hIe := Lib.hid hIe
          go_wp2_with (first
            | (at_builtin; refine wpList_append_ow rfl (.tmp 34) (.tmp 37) 32 rfl w.heap.size 36 rfl infoU64 rfl (by decide) _ _ _ rfl (OW.empty (Nat.le_refl _) (Bl.new' rfl)) _ k c (u64C (l.take k)) rfl (by rw [show u64C (l.take k) = (u64C l).take k from List.map_take]; exact (rd_take h.out hk).alloc _) (u64C_one _) (by unfold maxLen; omega) (by omega) (by simp) ?_; rintro v1 w1 ho1 hg1 -; rw [Nat.zero_add, List.nil_append] at ho1; have hB1 := Lib.hid (below_grow ((Below.refl _ _).alloc (Nat.le_refl _) _) (by simp) (OW.empty (w := w.alloc (.cells #[] 36)) (T := 36) (size := 1) (base := w.heap.size) (Nat.le_refl _) (Bl.new' rfl)) (Nat.le_refl _) hg1); clear hg1; replace ho1 := Lib.hid ho1)
            | (at_builtin; refine wpList_append_ow rfl (.tmp 38) (.tmp 40) 32 rfl w.heap.size 36 rfl infoU64 rfl (by decide) _ _ _ rfl (ho1.out.alloc _) _ 1 _ [.int .u64 s] rfl (rd_new rfl _ _ 1 1 rfl) (by intro u hu; simp at hu; subst hu; rfl) (by unfold maxLen; omega) (by omega) (by have := hB1.out.size; simp; omega) ?_; rintro v2 w2 ho2 hg2 -; have hB2 := Lib.hid (below_grow (hB1.out.alloc hB1.out.size _) (by have := hB1.out.size; simp; omega) (ho1.out.alloc _) (Nat.le_refl _) hg2); clear hg2; replace ho2 := Lib.hid ho2)
            | (at_builtin; refine wpList_append_ow rfl (.tmp 42) (.tmp 45) 32 rfl w.heap.size 36 rfl infoU64 rfl (by decide) _ _ _ rfl ho2.out _ (n - k) _ (u64C (l.drop k)) rfl (by rw [show u64C (l.drop k) = (u64C l).drop k from List.map_drop]; have hrd := rd_drop (h.out.keep hB2.out) hc hk; rw [if_neg (by omega), Option.map_some, add_mk] at hrd; exact hrd) (u64C_one _) (by unfold maxLen; omega) (by omega) hB2.out.size ?_; rintro v3 w3 ho3 hg3 -; have hB3 := Lib.hid (below_grow hB2.out hB2.out.size ho2.out (Nat.le_refl _) hg3); clear hg3; replace ho3 := Lib.hid ho3))
          go_ret
          obtain ⟨A', c', hv3, hr3, hc3, hm3, -⟩ := ho3.out.shape
          have hk2 : k + 1 + (n - k) = I.length := by have := hIl.out; omega
          rw [hk2] at hv3 hr3 hc3
          exact ⟨A', c', by rw [← hv3]; rfl, hc3, hm3, by rw [hIe.out]; exact hr3, hB3.out, fun base hb _ => by rw [← hv3, hIe.out, ← hk2]; exact ho3.out.more hb⟩
    · obtain rfl : k = n := by omega
      have hie := hins.out k hk hlt.out (fun z hz => by rw [List.getElem?_eq_none (by have := hn.out; omega)] at hz; cases hz)
      rw [List.getElem?_eq_none (by have := hn.out; omega), if_neg (by intro h; cases h)] at hie
      have hIl : I.length = k + 1 := by
        have := hn.out
        rw [hie, List.length_append, List.length_cons, List.length_take, List.length_drop]
        omega
      have hIe : u64C I = u64C (l.take k) ++ [.int .u64 s] ++ [] := by rw [hie, List.drop_of_length_le (by have := hn.out; omega)]; simp [u64C]
      replace hie := Lib.hid hie
      replace hIl := Lib.hid hIl
      replace hIe := Lib.hid hIe
      go_wp2_with (first
        | (at_builtin; refine wpList_append_ow rfl (.tmp 34) (.tmp 37) 32 rfl w.heap.size 36 rfl infoU64 rfl (by decide) _ _ _ rfl (OW.empty (Nat.le_refl _) (Bl.new' rfl)) _ k c (u64C (l.take k)) rfl (by rw [show u64C (l.take k) = (u64C l).take k from List.map_take]; exact (rd_take h.out hk).alloc _) (u64C_one _) (by unfold maxLen; omega) (by omega) (by simp) ?_; rintro v1 w1 ho1 hg1 -; rw [Nat.zero_add, List.nil_append] at ho1; have hB1 := Lib.hid (below_grow ((Below.refl _ _).alloc (Nat.le_refl _) _) (by simp) (OW.empty (w := w.alloc (.cells #[] 36)) (T := 36) (size := 1) (base := w.heap.size) (Nat.le_refl _) (Bl.new' rfl)) (Nat.le_refl _) hg1); clear hg1; replace ho1 := Lib.hid ho1)
        | (at_builtin; refine wpList_append_ow rfl (.tmp 38) (.tmp 40) 32 rfl w.heap.size 36 rfl infoU64 rfl (by decide) _ _ _ rfl (ho1.out.alloc _) _ 1 _ [.int .u64 s] rfl (rd_new rfl _ _ 1 1 rfl) (by intro u hu; simp at hu; subst hu; rfl) (by unfold maxLen; omega) (by omega) (by have := hB1.out.size; simp; omega) ?_; rintro v2 w2 ho2 hg2 -; have hB2 := Lib.hid (below_grow (hB1.out.alloc hB1.out.size _) (by have := hB1.out.size; simp; omega) (ho1.out.alloc _) (Nat.le_refl _) hg2); clear hg2; replace ho2 := Lib.hid ho2)
        | (at_builtin; refine wpList_append_ow rfl (.tmp 42) (.tmp 45) 32 rfl w.heap.size 36 rfl infoU64 rfl (by decide) _ _ _ rfl ho2.out _ 0 _ [] rfl (Rd.nil _ _ _) (by intro u hu; cases hu) (by unfold maxLen; omega) (by omega) hB2.out.size ?_; rintro v3 w3 ho3 hg3 -; have hB3 := Lib.hid (below_grow hB2.out hB2.out.size ho2.out (Nat.le_refl _) hg3); clear hg3; replace ho3 := Lib.hid ho3))
      all_goals
        go_ret
        obtain ⟨A', c', hv3, hr3, hc3, hm3, -⟩ := ho3.out.shape
        have hk2 : k + 1 + 0 = I.length := by have := hIl.out; omega
        rw [hk2] at hv3 hr3 hc3
        exact ⟨A', c', by rw [← hv3]; rfl, hc3, hm3, by rw [hIe.out]; exact hr3, hB3.out, fun base hb _ => by rw [← hv3, hIe.out, ← hk2]; exact ho3.out.more hb⟩
end Go.Proofs.Ytmopjoeomjdikaa
