/- What the parts of layer 9 stand on: the order, what is wrong with tombstones. Conditions: what each theorem names. -/
import Derived.RangeFuncNested
import Derived.RangeFuncBound
import Derived.RangeFuncCalls
import Derived.RangeFuncLeaves
import Derived.Shelf.Abstract
import Derived.Shelf.RegionOpen
import Derived.WalkKit
import Derived.OwnWalkIn
import Derived.TacticsInMore
import Derived.LoopNIn
import Derived.LoopIn
import Derived.Lib.Hide
import Derived.Outline
import Derived.RegionTactic
import Derived.BigRegion
import Derived.WalkLawsBesides
import Derived.WalkSpells
import Derived.Deep.QuietTactic
import Derived.BigQuiet
import Derived.Deep.RegionHeld3
import Derived.Deep.DeepCutAuto
import Derived.Deep.CutBlock
import Derived.StillTailTactics
import Derived.WalkSmall
import Derived.Lib.Bytealg
import Derived.Lib.ConvBytes
import Derived.Laws.BytesArg
import Derived.Test.YtmopjoeomjdikaaProg
import Derived.Test.YtmopjoeomjdikaaArg
import Derived.Test.YtmopjoeomjdikaaFr
import Derived.Test.YtmopjoeomjdikaaCodecS
namespace Go.Proofs.Ytmopjoeomjdikaa
open Go.RowKit Go.Sed
set_option maxHeartbeats 1000000
set_option maxRecDepth 100000
theorem cmpstr_any (a b : ByteArray) (w : World) :
    Calls Try.prog 59 #[.string a, .string b] w fun e w' => e = .returned (.int .i64 (cmpB a b)) ∧ w = w' := by
  go_enter Try.func59, Try.ntmps59
  go_wp2
  rw [run_callFunc_extern (f := 79) Try.func79 (by kernel_rfl) (by kernel_rfl) (by kernel_rfl) (e := Extern.BytealgCompare.compare) (by kernel_rfl), Lib.run_compareString]
  simp only [Result.andThen]
  rw [Oper.upon_value]
  go_wp2
  go_ret
  exact ⟨rfl, rfl⟩
theorem scompare_any (a b : ByteArray) (w : World) :
    Calls Try.prog 51 #[.string a, .string b] w fun e w' => e = .returned (.int .i64 (cmpB a b)) ∧ w = w' := by
  go_enter Try.func51, Try.ntmps51
  go_wp2_with (go_at_call 59; refine (cmpstr_any _ _ _).mono ?_; rintro e w' ⟨rfl, rfl⟩)
  go_ret
  exact ⟨rfl, rfl⟩
theorem compare_any (how : Int) (a b : ByteArray) (w : World) :
    Calls Try.prog 32 #[.int .i64 how, .string a, .string b] w fun e w' => e = .returned (.int .i64 (cmpH how a b)) ∧ w = w' := by
  unfold cmpH
  by_cases h : how = 1
  · rw [if_pos h]
    subst h
    go_enter Try.func32, Try.ntmps32
    go_wp2_with (go_at_call 51; refine (scompare_any _ _ _).mono ?_; rintro e w' ⟨rfl, rfl⟩)
    go_ret
    exact ⟨rfl, rfl⟩
  · rw [if_neg h]
    have h : (how == 1) = false := by rw [beq_eq_false_iff_ne]; exact h
    go_enter Try.func32, Try.ntmps32
    go_wp2_with (go_at_call 51; refine (scompare_any _ _ _).mono ?_; rintro e w' ⟨rfl, rfl⟩)
    go_ret
    exact ⟨rfl, rfl⟩
theorem cmpu_any (a b : Int) (w : World) :
    Calls Try.prog 55 #[.int .u64 a, .int .u64 b] w fun e w' => e = .returned (.int .i64 (cmpI a b)) ∧ w = w' := by
  unfold cmpI
  by_cases h1 : a < b
  · rw [if_pos h1]
    go_enter Try.func55, Try.ntmps55
    go_wp2
    go_ret
    exact ⟨rfl, rfl⟩
  · rw [if_neg h1]
    by_cases h2 : b < a
    · rw [if_pos h2]
      go_enter Try.func55, Try.ntmps55
      go_wp2
      go_ret
      exact ⟨rfl, rfl⟩
    · rw [if_neg h2]
      go_enter Try.func55, Try.ntmps55
      go_wp2
      go_ret
      exact ⟨rfl, rfl⟩
theorem rcompare_any (how : Int) (a b : ByteArray) (w : World) :
    Calls Try.prog 11 #[.int .i64 how, .string a, .string b] w fun e w' => e = .returned (.int .i64 (cmpH how a b)) ∧ w = w' := by
  have hs := cmpB_swap a b
  have he := eq_cmpB a b
  have hl := less_cmpB a b
  unfold cmpH
  rcases cmpB_range a b with h | h | h
  all_goals
    rw [h] at hs he hl
    rw [hs, h]
    clear hs h
    by_cases hh : how = 1
  all_goals
    first
      | (rw [if_pos hh]; replace hh : (how == 1) = true := by rw [beq_iff_eq]; exact hh)
      | (rw [if_neg hh]; replace hh : (how == 1) = false := by rw [beq_eq_false_iff_ne]; exact hh)
    simp only [decide_true, decide_false, show ((-1 : Int) = 0) = False by simp, show ((0 : Int) = -1) = False by simp, show ((1 : Int) = 0) = False by simp, show ((1 : Int) = -1) = False by simp] at he hl
    go_enter Try.func11, Try.ntmps11
    go_wp2
    go_ret
    exact ⟨by rfl, rfl⟩
theorem falling_any (a b : Int) (w : World) :
    Calls Try.prog 36 #[.int .u64 a, .int .u64 b] w fun e w' => e = .returned (.int .i64 (cmpI b a)) ∧ w = w' := by
  go_enter Try.func36, Try.ntmps36
  go_wp2_with (go_at_call 55; refine (cmpu_any _ _ _).mono ?_; rintro e w' ⟨rfl, rfl⟩)
  go_ret
  exact ⟨rfl, rfl⟩
/-- the order of a closure that holds which one it is. -/
theorem order_any (how : Int) (a b : ByteArray) (hb : Nat) (w : World) (h : w.cell? ⟨hb, 0, none⟩ = some (.int .i64 how)) :
    Calls Try.prog 31 #[.string a, .string b, .pointer (some ⟨hb, 0, none⟩)] w fun e w' => e = .returned (.int .i64 (cmpH how a b)) ∧ w = w' := by
  go_enter Try.func31, Try.ntmps31
  go_wp2_with (go_at_call 32; refine (compare_any _ _ _ _).mono ?_; rintro e w' ⟨rfl, rfl⟩)
  go_ret
  exact ⟨rfl, rfl⟩
theorem comparator_any (how : Int) (w : World) :
    Calls Try.prog 43 #[.int .i64 how] w fun e w' => e = .returned (.bool (decide (how = 0 ∨ how = 1))) ∧ w = w' := by
  by_cases h : how = 0
  · subst h
    go_enter Try.func43, Try.ntmps43
    go_wp2
    go_ret
    exact ⟨rfl, rfl⟩
  · by_cases h1 : how = 1
    · subst h1
      go_enter Try.func43, Try.ntmps43
      go_wp2
      go_ret
      exact ⟨rfl, rfl⟩
    · have e0 : (how == 0) = false := by rw [beq_eq_false_iff_ne]; exact h
      have e1 : (how == 1) = false := by rw [beq_eq_false_iff_ne]; exact h1
      rw [show decide (how = 0 ∨ how = 1) = false by simp [h, h1]]
      clear h h1
      go_enter Try.func43, Try.ntmps43
      go_wp2
      go_ret
      exact ⟨rfl, rfl⟩
/-- a tombstone. -/
structure Tb where
  b : ByteArray
  e : ByteArray
  s : Int
def tc (t : Tb) : List Value := [.string t.b, .string t.e, .int .u64 t.s]
theorem tc_len (t : Tb) : (tc t).length = 3 := rfl
def chkTs : List Tb → Int
  | [] => 0
  | t :: r => if 72057594037927935 < t.s then 1 else if 1024 < t.b.size then 2 else if 1024 < t.e.size then 2 else chkTs r
def chkT (how : Int) (l : List Tb) : Int := if ¬ (how = 0 ∨ how = 1) then 1 else if 1024 < l.length then 2 else chkTs l
theorem chkTs_cons (t : Tb) (r : List Tb) : chkTs (t :: r) = if 72057594037927935 < t.s then 1 else if 1024 < t.b.size then 2 else if 1024 < t.e.size then 2 else chkTs r := rfl
theorem drop_at {α : Type} {l : List α} {k : Nat} {t : α} (ht : l[k]? = some t) : l.drop k = t :: l.drop (k + 1) := by
  have hi := (List.getElem?_eq_some_iff.1 ht).1
  rw [List.drop_eq_getElem_cons hi]
  congr 1
  exact (List.getElem?_eq_some_iff.1 ht).2
theorem Rd.tb {w : World} {g o : Nat} {l : List Tb} (hr : Rd w 3 (some ⟨g, o, none⟩) l.length (l.flatMap tc)) {k : Nat} {t : Tb} (ht : l[k]? = some t) :
    w.cell? ⟨g, o + k * 3, none⟩ = some (.string t.b) ∧ w.cell? ⟨g, o + k * 3 + 1, none⟩ = some (.string t.e) ∧ w.cell? ⟨g, o + k * 3 + 2, none⟩ = some (.int .u64 t.s) :=
  ⟨hr.elem tc_len ht (j := 0) rfl, hr.elem tc_len ht (j := 1) rfl, hr.elem tc_len ht (j := 2) rfl⟩
theorem check_any (how : Int) (l : List Tb) (A : Option Addr) (c : Nat) (w : World) (hr : Rd w 3 A l.length (l.flatMap tc)) (hs : ∀ t ∈ l, t.b.size ≤ maxLen ∧ t.e.size ≤ maxLen) (hl : l.length ≤ maxLen) :
    Calls Try.prog 30 #[.int .i64 how, .slice A l.length c] w fun e w' => e = .returned (.int .i64 (chkT how l)) ∧ Below w.heap.size w w' := by
  have hcm := comparator_any how w
  unfold chkT
  by_cases hh : how = 0 ∨ how = 1
  · rw [if_neg (not_not_intro hh)]
    rw [decide_eq_true hh] at hcm
    obtain ⟨n, hn⟩ : ∃ n, l.length = n := ⟨_, rfl⟩
    rw [hn] at hr hl ⊢
    by_cases h1 : 1024 < n
    · rw [if_pos h1]
      unfold maxLen at hl
      go_enter Try.func30, Try.ntmps30
      go_wp2_with (go_at_call 43; refine hcm.mono ?_; rintro e w' ⟨rfl, rfl⟩)
      go_ret
      exact ⟨rfl, Below.refl _ _⟩
    · rw [if_neg h1]
      go_enter Try.func30, Try.ntmps30
      go_wp2_with (go_at_call 43; refine hcm.mono ?_; rintro e w' ⟨rfl, rfl⟩)
      go_loopw [17] (fun i wr => ∃ k : Nat, k ≤ n ∧ i = .int .i64 k ∧ Below w.heap.size w wr ∧ chkTs l = chkTs (l.drop k)) (fun i _ => n - (intOf i).toNat)
      case atStart => exact ⟨0, Nat.zero_le _, rfl, Below.refl _ _, rfl⟩
      case round =>
        obtain ⟨k, hk, rfl, hB, hc⟩ := hrel
        have hB := Lib.hid hB
        by_cases hlt : k < n
        · obtain ⟨t, ht⟩ : ∃ t, l[k]? = some t := ⟨_, List.getElem?_eq_getElem (by omega)⟩
          obtain ⟨g, o, rfl, -⟩ := hr.2 (by omega)
          rw [← hn] at hr
          obtain ⟨c0, c1, c2⟩ := Rd.tb (hr.keep hB.out) ht
          rw [drop_at ht, chkTs_cons] at hc
          have hts := hs t (List.mem_of_getElem? ht)
          unfold maxLen at hts hl
          clear hr hs ht
          by_cases g1 : 72057594037927935 < t.s
          · rw [if_pos g1] at hc
            replace hc := Lib.hid hc
            go_wp2_with fail
            go_ret
            exact ⟨by rw [hc.out]; rfl, by first | exact hB.out | exact hB.out.alloc hB.out.size _⟩
          · rw [if_neg g1] at hc
            by_cases g2 : 1024 < t.b.size
            · rw [if_pos g2] at hc
              replace hc := Lib.hid hc
              go_wp2_with fail
              go_ret
              exact ⟨by rw [hc.out]; rfl, by first | exact hB.out | exact hB.out.alloc hB.out.size _⟩
            · rw [if_neg g2] at hc
              by_cases g3 : 1024 < t.e.size
              · rw [if_pos g3] at hc
                replace hc := Lib.hid hc
                go_wp2_with fail
                go_ret
                exact ⟨by rw [hc.out]; rfl, by first | exact hB.out | exact hB.out.alloc hB.out.size _⟩
              · rw [if_neg g3] at hc
                replace hc := Lib.hid hc
                go_wp2_with fail
                go_roundw
                case rel => exact ⟨k + 1, by omega, by go_num, by first | exact hB.out | exact hB.out.alloc hB.out.size _, hc.out⟩
                case measure => simp only [intOf]; omega
        · obtain rfl : k = n := by omega
          rw [List.drop_of_length_le (by omega)] at hc
          replace hc := Lib.hid hc
          clear hr hs
          go_wp2_with fail
          go_ret
          exact ⟨by rw [hc.out]; rfl, hB.out⟩
  · rw [if_pos hh]
    rw [decide_eq_false hh] at hcm
    go_enter Try.func30, Try.ntmps30
    go_wp2_with (go_at_call 43; refine hcm.mono ?_; rintro e w' ⟨rfl, rfl⟩)
    go_ret
    exact ⟨rfl, Below.refl _ _⟩
theorem rcheck_any (how : Int) (l : List Tb) (A : Option Addr) (c : Nat) (w : World) (hr : Rd w 3 A l.length (l.flatMap tc)) (hs : ∀ t ∈ l, t.b.size ≤ maxLen ∧ t.e.size ≤ maxLen) (hl : l.length ≤ maxLen) :
    Calls Try.prog 9 #[.int .i64 how, .slice A l.length c] w fun e w' => e = .returned (.int .i64 (chkT how l)) ∧ Below w.heap.size w w' := by
  unfold chkT
  by_cases hh : how = 0 ∨ how = 1
  · rw [if_neg (not_not_intro hh)]
    rcases hh with rfl | rfl
    all_goals
      obtain ⟨n, hn⟩ : ∃ n, l.length = n := ⟨_, rfl⟩
      rw [hn] at hr hl ⊢
      by_cases h1 : 1024 < n
      · rw [if_pos h1]
        unfold maxLen at hl
        go_enter Try.func9, Try.ntmps9
        go_wp2_with fail
        go_ret
        exact ⟨rfl, Below.refl _ _⟩
      · rw [if_neg h1]
        go_enter Try.func9, Try.ntmps9
        go_wp2_with fail
        go_loopw [5] (fun i wr => ∃ k : Nat, k ≤ n ∧ i = .int .i64 k ∧ Below w.heap.size w wr ∧ chkTs l = chkTs (l.drop k)) (fun i _ => n - (intOf i).toNat)
        case atStart => exact ⟨0, Nat.zero_le _, rfl, Below.refl _ _, rfl⟩
        case round =>
          obtain ⟨k, hk, rfl, hB, hc⟩ := hrel
          have hB := Lib.hid hB
          by_cases hlt : k < n
          · obtain ⟨t, ht⟩ : ∃ t, l[k]? = some t := ⟨_, List.getElem?_eq_getElem (by omega)⟩
            obtain ⟨g, o, rfl, -⟩ := hr.2 (by omega)
            rw [← hn] at hr
            obtain ⟨c0, c1, c2⟩ := Rd.tb (hr.keep hB.out) ht
            rw [drop_at ht, chkTs_cons] at hc
            have hts := hs t (List.mem_of_getElem? ht)
            unfold maxLen at hts hl
            clear hr hs ht
            by_cases g1 : 72057594037927935 < t.s
            · rw [if_pos g1] at hc
              replace hc := Lib.hid hc
              go_wp2_with fail
              go_ret
              exact ⟨by rw [hc.out]; rfl, by first | exact hB.out | exact hB.out.alloc hB.out.size _⟩
            · rw [if_neg g1] at hc
              by_cases g2 : 1024 < t.b.size
              · rw [if_pos g2] at hc
                replace hc := Lib.hid hc
                go_wp2_with fail
                go_ret
                exact ⟨by rw [hc.out]; rfl, by first | exact hB.out | exact hB.out.alloc hB.out.size _⟩
              · rw [if_neg g2] at hc
                by_cases g3 : 1024 < t.e.size
                · rw [if_pos g3] at hc
                  replace hc := Lib.hid hc
                  go_wp2_with fail
                  go_ret
                  exact ⟨by rw [hc.out]; rfl, by first | exact hB.out | exact hB.out.alloc hB.out.size _⟩
                · rw [if_neg g3] at hc
                  replace hc := Lib.hid hc
                  go_wp2_with fail
                  go_roundw
                  case rel => exact ⟨k + 1, by omega, by go_num, by first | exact hB.out | exact hB.out.alloc hB.out.size _, hc.out⟩
                  case measure => simp only [intOf]; omega
          · obtain rfl : k = n := by omega
            rw [List.drop_of_length_le (by omega)] at hc
            replace hc := Lib.hid hc
            clear hr hs
            go_wp2_with fail
            go_ret
            exact ⟨by rw [hc.out]; rfl, hB.out⟩
  · rw [if_pos hh]
    have e0 : (how == 0) = false := by rw [beq_eq_false_iff_ne]; exact fun e => hh (.inl e)
    have e1 : (how == 1) = false := by rw [beq_eq_false_iff_ne]; exact fun e => hh (.inr e)
    have e2 : (how != 0) = true := by simp [bne, e0]
    have e3 : (how != 1) = true := by simp [bne, e1]
    clear hh hr hs
    go_enter Try.func9, Try.ntmps9
    go_wp2_with fail
    go_ret
    exact ⟨rfl, Below.refl _ _⟩
def overT (how : Int) (t : Tb) (k : ByteArray) : Bool := decide (cmpH how t.b k ≤ 0) && decide (cmpH how k t.e < 0)
theorem over_any (how : Int) (t : Tb) (k : ByteArray) (w : World) :
    Calls Try.prog 12 #[.int .i64 how, .agg #[.string t.b, .string t.e, .int .u64 t.s], .string k] w fun e w' => e = .returned (.bool (overT how t k)) ∧ Below w.heap.size w w' := by
  have h1 := fun W => rcompare_any how t.b k W
  have h2 := fun W => rcompare_any how k t.e W
  unfold overT
  obtain ⟨p, hp⟩ : ∃ p, cmpH how t.b k = p := ⟨_, rfl⟩
  obtain ⟨q, hq⟩ : ∃ q, cmpH how k t.e = q := ⟨_, rfl⟩
  rw [hp] at h1 ⊢
  rw [hq] at h2 ⊢
  obtain ⟨b, e, s⟩ := t
  simp only at h1 h2 ⊢
  clear hp hq
  by_cases c1 : p ≤ 0
  · go_enter Try.func12, Try.ntmps12
    go_wp2_with (first
      | (go_at_call 11; (with_reducible refine (h1 _).mono ?_); rintro e w' ⟨rfl, rfl⟩)
      | (go_at_call 11; (with_reducible refine (h2 _).mono ?_); rintro e w' ⟨rfl, rfl⟩))
    go_ret
    exact ⟨by simp [c1], (Below.refl _ _).alloc (Nat.le_refl _) _⟩
  · go_enter Try.func12, Try.ntmps12
    go_wp2_with (first
      | (go_at_call 11; (with_reducible refine (h1 _).mono ?_); rintro e w' ⟨rfl, rfl⟩)
      | (go_at_call 11; (with_reducible refine (h2 _).mono ?_); rintro e w' ⟨rfl, rfl⟩))
    go_ret
    exact ⟨by rw [decide_eq_false (show ¬ p ≤ 0 by omega)]; rfl, (Below.refl _ _).alloc (Nat.le_refl _) _⟩
theorem infoTomb : (Try.prog.info? 38).map (fun i => (i.zero, i.size, i.bytes)) = some (some (.agg #[.string .empty, .string .empty, .int .u64 0]), 3, 40) := by kernel_rfl
theorem tc_one (l : List Tb) : ∀ u ∈ l.flatMap tc, u.oneCell' = true := by
  intro u hu
  obtain ⟨t, _, h⟩ := List.mem_flatMap.1 hu
  simp only [tc, List.mem_cons, List.not_mem_nil, or_false] at h
  rcases h with rfl | rfl | rfl <;> rfl
theorem copied_any (l : List Tb) (A : Option Addr) (c : Nat) (w : World) (hr : Rd w 3 A l.length (l.flatMap tc)) (hl : l.length * 40 ≤ 140737488351232) :
    Calls Try.prog 8 #[.slice A l.length c] w fun e w' => ∃ r, e = .returned r ∧ OW w' w.heap.size 3 r l.length (l.flatMap tc) ∧ Below w.heap.size w w' := by
  have h1 := tc_one l
  obtain ⟨n, hn⟩ : ∃ n, l.length = n := ⟨_, rfl⟩
  obtain ⟨xs, hx⟩ : ∃ xs, l.flatMap tc = xs := ⟨_, rfl⟩
  rw [hn, hx] at hr ⊢
  rw [hx] at h1
  rw [hn] at hl
  clear hn hx
  go_enter Try.func8, Try.ntmps8
  go_wp2_with (at_builtin; refine wpList_append_ow rfl (.tmp 3) (.tmp 4) 22 rfl w.heap.size 38 rfl infoTomb rfl (by decide) _ 0 [] rfl (OW.of_block (T := 38) (Nat.le_refl _) (Bl.new' rfl) (Nat.le_refl _) (by unfold maxLen; omega) rfl rfl) A n c xs rfl (hr.keep ((Below.refl _ _).alloc (Nat.le_refl _) _)) h1 (by unfold maxLen; omega) (by omega) (by simp) ?_; rintro v2 w2 ho2 hg2 -; replace hg2 := hg2)
  go_ret
  rw [Nat.zero_add, List.nil_append] at ho2
  exact ⟨v2, rfl, ho2, ((Below.refl _ _).alloc (Nat.le_refl _) _).grown hg2 (by simp) (fun k hk => by have hk2 : some w.heap.size = some k := hk; injection hk2 with hk2; omega)⟩
end Go.Proofs.Ytmopjoeomjdikaa
