/- Contracts of layer 20 (stall): the limiter. -/
import Derived.Test.YtefeompdhalgcaaProg
import Derived.RangeFuncNested
import Derived.RangeFuncBound
import Derived.RangeFuncCalls
import Derived.RangeFuncLeaves
import Derived.Shelf.Abstract
import Derived.Shelf.RegionOpen
import Derived.WalkKit
import Derived.OwnWalkIn
import Derived.TacticsInMore
import Derived.LoopNIn
import Derived.LoopIn
import Derived.Lib.Hide
import Derived.Outline
import Derived.RegionTactic
import Derived.BigRegion
import Derived.WalkLawsBesides
import Derived.WalkSpells
import Derived.Deep.QuietTactic
import Derived.BigQuiet
import Derived.Deep.RegionHeld3
import Derived.Lib.Bytealg
import Derived.Lib.ConvBytes
import Derived.Laws.BytesArg
import Derived.Test.YtefeompdhalgcaaSed
import Derived.Test.YtefeompdhalgcaaOwn
import Derived.Deep.DeepCutAuto
import Derived.Deep.CutBlock
import Derived.Lib.SliceRun
import Derived.Test.YtefeompdhalgcaaFr
namespace Go.Proofs.Ytefeompdhalgcaa
open Go.RowKit Go.Sed
set_option maxHeartbeats 1000000
/-- an ask: who, how many, urgent? -/
abbrev A3 := Int × Int × Bool
def fl (l : List A3) : List Value := l.flatMap fun a => [.int .i64 a.1, .int .u64 a.2.1, .bool a.2.2]
theorem fl_cons (a : A3) (l : List A3) : fl (a :: l) = [.int .i64 a.1, .int .u64 a.2.1, .bool a.2.2] ++ fl l := rfl
theorem fl_append (l m : List A3) : fl (l ++ m) = fl l ++ fl m := by simp [fl]
theorem fl_len (l : List A3) : (fl l).length = l.length * 3 := by
  induction l with
  | nil => rfl
  | cons a l ih => rw [fl_cons, List.length_append, ih]; simp; omega
theorem fl_one (l : List A3) : ∀ u ∈ fl l, u.oneCell' = true := by
  intro u hu
  simp only [fl, List.mem_flatMap] at hu
  obtain ⟨a, _, h⟩ := hu
  simp at h
  rcases h with rfl | rfl | rfl <;> rfl
def Lm (W : World) (b : Nat) (r bu le : Int) (vU vO : Value) (row : Int) : Prop :=
  Bl W b (.cells #[.int .u64 r, .int .u64 bu, .int .u64 le, vU, vO, .int .i64 row] 74 (0, 0))
/-- a list of asks that can be read. -/
def SL (W : World) (b : Nat) (v : Value) (l : List A3) : Prop := ∃ A c, v = .slice A l.length c ∧ Rd W 3 A l.length (fl l) ∧ l.length ≤ c ∧ c ≤ maxLen ∧ ∀ a, A = some a → a.block < W.heap.size ∧ a.block ≠ b
theorem SL.fr {F : Nat → Prop} {w w' : World} {b : Nat} {v : Value} {l : List A3} (h : SL w b v l) (hf : Fr F w w') (hk : ∀ a, v.ownBlock = some a → ¬ F a) : SL w' b v l := by
  obtain ⟨A, c, rfl, h1, h2, h3, h4⟩ := h
  refine ⟨A, c, rfl, h1.fr hf (fun a e => hk _ (by subst e; rfl)), h2, h3, fun a e => ⟨Nat.lt_of_lt_of_le (h4 a e).1 hf.size, (h4 a e).2⟩⟩
theorem SL.of_own {w : World} {b base : Nat} {v : Value} {l : List A3} (h : OW w base 3 v l.length (fl l)) (hb : b < base) : SL w b v l := by
  obtain ⟨A, c, rfl, h1, h2, h3, h4⟩ := h.shape
  exact ⟨A, c, rfl, h1, h2, h3, fun a e => ⟨(h4 a e).2, by have := (h4 a e).1; omega⟩⟩
def minI (a b : Int) : Int := if b < a then b else a
def plusI (a b : Int) : Int := if 18446744073709551615 < a + b then 18446744073709551615 else a + b
def ahN (n m : Nat) (row : Int) : Int := if n + m = 0 then -1 else if n = 0 then 1 else if 0 < m ∧ 10 ≤ row then 1 else 0
def ahI (U O : List A3) (row : Int) : Int := ahN U.length O.length row
theorem new_no (r b : Int) (w : World) (h : r = 0 ∨ b = 0 ∨ b < r) :
    Calls Try.prog 9 #[.int .u64 r, .int .u64 b] w fun e w' => e = .returned (.tuple #[.pointer none, .int .i64 1]) ∧ w = w' := by
  have h1 : (r == 0) = true ∨ ((r == 0) = false ∧ (b == 0) = true) ∨ ((r == 0) = false ∧ (b == 0) = false ∧ b < r) := by
    by_cases e1 : r = 0
    · left; simp [e1]
    · right
      by_cases e2 : b = 0
      · left; simp [e1, e2]
      · right; simp [e1, e2]; omega
  clear h
  rcases h1 with h1 | ⟨h1, h2⟩ | ⟨h1, h2, h3⟩
  all_goals
    go_enter Try.func9, Try.ntmps9
    go_wp2
    go_ret2
    exact ⟨rfl, rfl⟩
theorem new_yes (r b : Int) (w : World) (h1 : (r == 0) = false) (h2 : (b == 0) = false) (h3 : r ≤ b) :
    Calls Try.prog 9 #[.int .u64 r, .int .u64 b] w fun e w' => e = .returned (.tuple #[.pointer (some ⟨w.heap.size, 0, none⟩), .int .i64 0]) ∧ Lm w' w.heap.size r b b (.slice none 0 0) (.slice none 0 0) 0 ∧ Below w.heap.size w w' := by
  have h4 : ¬ b < r := by omega
  go_enter Try.func9, Try.ntmps9
  go_wp2
  go_ret2
  exact ⟨rfl, Bl.new' rfl, (Below.refl _ _).alloc (Nat.le_refl _) _⟩
theorem of_any (u : Bool) (w : World) : Calls Try.prog 26 #[.bool u] w fun e w' => e = .returned (.int .i64 (if u then 0 else 1)) ∧ w = w' := by
  cases u
  all_goals
    go_enter Try.func26, Try.ntmps26
    go_wp2
    go_ret
    exact ⟨rfl, rfl⟩
theorem ahead0 (b : Nat) (r bu le : Int) (A1 A2 : Option Addr) (n m c1 c2 : Nat) (row : Int) (w : World) (hb : Lm w b r bu le (.slice A1 n c1) (.slice A2 m c2) row) (hn : n + m ≤ 4096) :
    Calls Try.prog 28 #[.pointer (some ⟨b, 0, none⟩)] w fun e w' => e = .returned (.int .i64 (ahN n m row)) ∧ Below w.heap.size w w' := by
  have k3 : w.cell? ⟨b, 3, none⟩ = some (.slice A1 n c1) := hb.cell 3
  have k4 : w.cell? ⟨b, 4, none⟩ = some (.slice A2 m c2) := hb.cell 4
  have k5 : w.cell? ⟨b, 5, none⟩ = some (.int .i64 row) := hb.cell 5
  have hw : wrap64 ((n : Int) + m) = (n : Int) + m := by unfold wrap64; omega
  unfold ahN
  clear hb
  by_cases h0 : n + m = 0
  · obtain rfl : n = 0 := by omega
    obtain rfl : m = 0 := by omega
    go_enter Try.func28, Try.ntmps28
    go_wp2_with fail
    go_region
    go_wp2_with fail
    go_ret
    exact ⟨rfl, (Below.refl _ _).drew⟩
  · rw [if_neg h0]
    have e0 : (((n : Int) + m) == 0) = false := by rw [beq_eq_false_iff_ne]; omega
    by_cases h1 : n = 0
    · subst h1
      have e1 : ((m : Int) == 0) = false := by rw [beq_eq_false_iff_ne]; omega
      rw [if_pos rfl]
      go_enter Try.func28, Try.ntmps28
      go_wp2_with fail
      go_region
      go_wp2_with fail
      go_ret
      exact ⟨rfl, (Below.refl _ _).drew⟩
    · rw [if_neg h1]
      have e1 : ((n : Int) == 0) = false := by rw [beq_eq_false_iff_ne]; omega
      by_cases h2 : 0 < m
      · have e2 : (0 : Int) < m := by omega
        by_cases h3 : 10 ≤ row
        · rw [if_pos ⟨h2, h3⟩]
          go_enter Try.func28, Try.ntmps28
          go_wp2_with fail
          go_region
          go_wp2_with fail
          go_ret
          exact ⟨rfl, (Below.refl _ _).drew⟩
        · rw [if_neg (fun h => h3 h.2)]
          go_enter Try.func28, Try.ntmps28
          go_wp2_with fail
          go_region
          go_wp2_with fail
          go_ret
          exact ⟨rfl, (Below.refl _ _).drew⟩
      · obtain rfl : m = 0 := by omega
        rw [if_neg (fun h => h2 h.1)]
        go_enter Try.func28, Try.ntmps28
        go_wp2_with fail
        go_region
        go_wp2_with fail
        go_ret
        exact ⟨rfl, (Below.refl _ _).drew⟩
theorem ahead_any (b : Nat) (r bu le : Int) (vU vO : Value) (row : Int) (U O : List A3) (w : World) (hb : Lm w b r bu le vU vO row) (hU : SL w b vU U) (hO : SL w b vO O) (hn : U.length + O.length ≤ 4096) :
    Calls Try.prog 28 #[.pointer (some ⟨b, 0, none⟩)] w fun e w' => e = .returned (.int .i64 (ahI U O row)) ∧ Below w.heap.size w w' := by
  obtain ⟨A1, c1, rfl, -⟩ := hU
  obtain ⟨A2, c2, rfl, -⟩ := hO
  exact ahead0 b r bu le A1 A2 _ _ c1 c2 row w hb hn
theorem infoAsk : (Try.prog.info? 77).map (fun i => (i.zero, i.size, i.bytes)) = some (some (.agg #[.int .i64 0, .int .u64 0, .bool false]), 3, 24) := by kernel_rfl
set_option maxRecDepth 100000 in
/-- a copy of its own. -/
theorem clone_any (A : Option Addr) (n c : Nat) (xs : List Value) (w : World) (hr : Rd w 3 A n xs) (h1 : ∀ u ∈ xs, u.oneCell' = true) (hn : n ≤ 4096) :
    Calls Try.prog 33 #[.slice A n c] w fun e w' => ∃ v, e = .returned v ∧ OW w' w.heap.size 3 v n xs ∧ Below w.heap.size w w' := by
  have heq := fun (W : World) (a : Option Addr) (n c : Nat) => Lib.run_eql_slice_nil (P := Try.prog) W 71 77 a n c 0 0 Try.underlying71
  rcases A with _ | a
  · obtain rfl : n = 0 := by
      rcases Nat.eq_zero_or_pos n with h | h
      · exact h
      · obtain ⟨_, _, e, _⟩ := hr.2 h; cases e
    obtain rfl : xs = [] := List.eq_nil_of_length_eq_zero (by have := hr.1; omega)
    clear h1 hr
    go_enter Try.func33, Try.ntmps33
    go_wp2
    go_ret
    exact ⟨_, rfl, OW.nil _ _ _, Below.refl _ _⟩
  · replace hn := Lib.hid hn
    replace h1 := Lib.hid h1
    replace hr := Lib.hid hr
    go_enter Try.func33, Try.ntmps33
    go_wp2_with (at_builtin; refine wpList_append_ow rfl _ _ 71 rfl w.heap.size 77 Try.underlying71 infoAsk rfl (by decide) _ 0 [] rfl (OW.empty (Nat.le_refl _) (Bl.new' rfl)) _ n c xs rfl (hr.out.alloc _) h1.out (by have := hn.out; unfold maxLen; omega) (by have := hn.out; omega) (by simp) ?_; intro v' w1 hown hgr _; have hB : Below w.heap.size w w1 := below_grow ((Below.refl _ _).alloc (Nat.le_refl _) _) (by simp) (OW.empty (T := 77) (size := 3) (Nat.le_refl _) (Bl.new' rfl)) (Nat.le_refl _) hgr; clear hgr)
    go_ret
    rw [Nat.zero_add, List.nil_append] at hown
    exact ⟨_, rfl, hown, hB⟩
def aV (a : A3) : Value := .agg #[.int .i64 a.1, .int .u64 a.2.1, .bool a.2.2]
def GoesRes (w : World) (b : Nat) (r bu le : Int) (vO : Value) (row' : Int) (a : A3) (U' : List A3) (e : Ending) (w' : World) : Prop :=
  ∃ v', e = .returned (aV a) ∧ OW w' w.heap.size 3 v' U'.length (fl U') ∧ Lm w' b r bu le v' vO row' ∧ Fr (fun k => k = b) w w'
theorem results_ask {fn : Func} {p : Tmp} (h : fn.results = #[.cell p 77]) (tmps : Array Value) (w : World) (b : Nat) (x0 x1 x2 : Value) (T : TypeId) (hp : tmps.getD p undef = .pointer (some ⟨b, 0, none⟩))
    (hb : Bl w b (.cells #[x0, x1, x2] T (0, 0))) : (results fn tmps).run Try.prog w = .ok (.agg #[x0, x1, x2]) w := by
  have c0 : w.cell? ⟨b, 0, none⟩ = some x0 := hb.cell 0
  have c1 : w.cell? ⟨b, 1, none⟩ = some x1 := hb.cell 1
  have c2 : w.cell? ⟨b, 2, none⟩ = some x2 := hb.cell 2
  simp only [results, h]
  have hp' : tmps[p]?.getD undef = .pointer (some ⟨b, 0, none⟩) := by simpa using hp
  simp [Sem.run_bind, Result.andThen, hp', go_sem, c0, c1, c2]
theorem goes_fin {w w4 : World} {b n : Nat} {r bu le row row' : Int} {AA : Option Addr} {c3 : Nat} {vU vO : Value} {l : List A3} {a1 a2 : Int} {a3 : Bool} (hbl : b < w.heap.size) (hn : l.length = n)
    (g1 : Lm w4 b r bu le vU vO row) (g2 : Bl w4 w.heap.size (.cells #[.int .i64 0, .int .u64 0, .bool false] 77 (0, 0)))
    (g4 : OW w4 (w.heap.size + 2) 3 (.slice AA n c3) n (fl l)) (g5 : Fr (fun k => k = b) w w4) (tmps : Array Value) (ht : tmps.getD 4 undef = .pointer (some ⟨w.heap.size, 0, none⟩))
    (R : Value → Value → Ending → World → Prop) (hR : ∀ w', OW w' w.heap.size 3 (.slice AA n c3) l.length (fl l) → Lm w' b r bu le vU vO row' → Fr (fun k => k = b) w w' → R vU vO (.returned (aV (a1, a2, a3))) w') :
    bodyPost Try.prog Try.f29 (R vU vO) Exit.ret { tmps := tmps, defers := [] } ((((w4.setCell ⟨b, 5, none⟩ (.int .i64 row')).setCell ⟨w.heap.size, 0, none⟩ (.int .i64 a1)).setCell ⟨w.heap.size, 1, none⟩ (.int .u64 a2)).setCell ⟨w.heap.size, 2, none⟩ (.bool a3)) := by
  have hw : ∀ k, (Value.slice AA n c3).ownBlock = some k → w.heap.size + 2 ≤ k := fun k e => (g4.lt k e).1
  refine bodyPost_ret (results_ask rfl _ _ w.heap.size (.int .i64 a1) (.int .u64 a2) (.bool a3) _ ht ((((g2.set _ (by omega)).setSame 0 _).setSame 1 _).setSame 2 _)) rfl (hR _ ?_ ?_ ?_)
  · rw [hn]
    refine OW.more (base := w.heap.size + 2) ?_ (by omega)
    refine OW.set (OW.set (OW.set (OW.set g4 _ ?_) _ ?_) _ ?_) _ ?_ <;> (intro e; have := hw _ e; omega)
  · exact (((Bl.setSame g1 5 _).set _ (by omega)).set _ (by omega)).set _ (by omega)
  · exact (((g5.set _ (fun _ => rfl)).set _ (fun h => by omega)).set _ (fun h => by omega)).set _ (fun h => by omega)
theorem goesU (b : Nat) (r bu le : Int) (vU vO : Value) (row row' : Int) (a : A3) (U' O : List A3) (w : World) (hb : Lm w b r bu le vU vO row) (hU : SL w b vU (a :: U')) (hO : SL w b vO O) (hn : U'.length ≤ 4096)
    (hrow : (O.length = 0 ∧ row' = 0) ∨ (0 < O.length ∧ row' = wrap64 (row + 1))) :
    Calls Try.prog 29 #[.pointer (some ⟨b, 0, none⟩), .int .i64 0] w (GoesRes w b r bu le vO row' a U') := by
  obtain ⟨A1, c1, rfl, hr1, hc1, hm1, hA1⟩ := hU
  obtain ⟨A2, c2, rfl, -⟩ := hO
  obtain ⟨p, o, rfl, -⟩ := hr1.2 (by simp)
  obtain ⟨a1, a2, a3⟩ := a
  have e0 : w.cell? ⟨p, o, none⟩ = some (.int .i64 a1) := hr1.cellAt (j := 0) rfl
  have e1 : w.cell? ⟨p, o + 1, none⟩ = some (.int .u64 a2) := hr1.cellAt (j := 1) rfl
  have e2 : w.cell? ⟨p, o + 2, none⟩ = some (.bool a3) := hr1.cellAt (j := 2) rfl
  have hp : p < w.heap.size := (hA1 _ rfl).1
  have hpb : p ≠ b := (hA1 _ rfl).2
  have hbl : b < w.heap.size := hb.lt
  have hr2 := Rd.tail (x := [.int .i64 a1, .int .u64 a2, .bool a3]) (n := U'.length) (xs := fl U') hr1 rfl
  clear hr1 hA1
  have k3 : w.cell? ⟨b, 3, none⟩ = some (.slice (some ⟨p, o, none⟩) (U'.length + 1) c1) := hb.cell 3
  obtain ⟨n, hn1⟩ : ∃ n, U'.length = n := ⟨_, rfl⟩
  simp only [List.length_cons] at hb hc1
  rw [hn1] at hr2 k3 hb hc1 hn
  replace hr2 := Lib.hid hr2
  obtain ⟨m, hmO⟩ : ∃ m, O.length = m := ⟨_, rfl⟩
  rw [hmO] at hb hrow
  have hrw := Lib.hid hrow
  have hw1 : (1 : Int) ≤ (n : Int) + 1 := by omega
  have hne : ¬ c1 = 1 ∨ (c1 = 1 ∧ n = 0) := by omega
  clear hrow
  go_enter Try.func29, Try.ntmps29
  go_wp2_with fail
  have hB2 : Below w.heap.size w ((w.alloc (.cells #[.int .i64 0, .int .u64 0, .bool false] 77)).alloc (.cells #[.int .i64 a1, .int .u64 a2, .bool a3] 77)) := ((Below.refl _ _).alloc (Nat.le_refl _) _).alloc (by simp) _
  have x4 : Bl ((w.alloc (.cells #[.int .i64 0, .int .u64 0, .bool false] 77)).alloc (.cells #[.int .i64 a1, .int .u64 a2, .bool a3] 77)) w.heap.size (.cells #[.int .i64 0, .int .u64 0, .bool false] 77 (0, 0)) := (Bl.new' rfl).alloc _
  have x5 : Bl ((w.alloc (.cells #[.int .i64 0, .int .u64 0, .bool false] 77)).alloc (.cells #[.int .i64 a1, .int .u64 a2, .bool a3] 77)) (w.heap.size + 1) (.cells #[.int .i64 a1, .int .u64 a2, .bool a3] 77 (0, 0)) := Bl.new' (by simp)
  obtain ⟨w2, hw2⟩ : ∃ w2, (w.alloc (.cells #[.int .i64 0, .int .u64 0, .bool false] 77)).alloc (.cells #[.int .i64 a1, .int .u64 a2, .bool a3] 77) = w2 := ⟨_, rfl⟩
  rw [hw2] at hB2 x4 x5 ⊢
  clear hw2 e0 e1 e2
  replace hb : Lm w2 b r bu le _ _ row := Bl.keep hb hB2
  clear k3
  have k3 : w2.cell? ⟨b, 3, none⟩ = some (.slice (some ⟨p, o, none⟩) (n + 1) c1) := hb.cell 3
  have hbl0 := hbl
  replace hbl : b < w2.heap.size := hb.lt
  have hR : ∀ A, A = some ⟨p, o + 3, none⟩ ∨ n = 0 → Rd w2.drew 3 A n (fl U') := by
    rintro A (rfl | h)
    · exact (hr2.out.keep hB2).keep (Below.refl _ _).drew
    · subst h
      obtain rfl : U' = [] := List.eq_nil_of_length_eq_zero hn1
      exact ⟨rfl, fun h => absurd h (by omega)⟩
  replace hR := Lib.hid hR
  have arm : ∀ (A3 : Option Addr) (c3 : Nat) (w3 : World), OW w3 w2.drew.heap.size 3 (.slice A3 n c3) n (fl U') → Below w2.drew.heap.size w2.drew w3 →
      Lm (w3.setCell ⟨b, 3, none⟩ (.slice A3 n c3)) b r bu le (.slice A3 n c3) (.slice A2 m c2) row ∧ Bl (w3.setCell ⟨b, 3, none⟩ (.slice A3 n c3)) w.heap.size (.cells #[.int .i64 0, .int .u64 0, .bool false] 77 (0, 0)) ∧
      Bl (w3.setCell ⟨b, 3, none⟩ (.slice A3 n c3)) (w.heap.size + 1) (.cells #[.int .i64 a1, .int .u64 a2, .bool a3] 77 (0, 0)) ∧ OW (w3.setCell ⟨b, 3, none⟩ (.slice A3 n c3)) (w.heap.size + 2) 3 (.slice A3 n c3) n (fl U') ∧ Fr (fun k => k = b) w (w3.setCell ⟨b, 3, none⟩ (.slice A3 n c3)) := by
    intro A3 c3 w3 ho3 hB3
    have hb3 : Lm w3 b r bu le _ _ row := Bl.keep (Bl.drew hb) hB3
    refine ⟨Bl.setSame hb3 3 _, (x4.drew.keep hB3).set _ (by omega), (x5.drew.keep hB3).set _ (by omega), ?_, ?_⟩
    · refine (ho3.more (base' := w.heap.size + 2) (by have := x5.lt; simp; omega)).set _ ?_
      intro e
      have := (ho3.lt _ e).1
      simp at this
      omega
    · exact ((Fr.of_below hB2).thenB ((Below.refl w2.heap.size w2).drew.trans hB3)).set _ (fun _ => rfl)
  replace arm := Lib.hid arm
  rcases hne with hc | ⟨rfl, rfl⟩
  · go_region_with (go_at_call 33; refine (clone_any _ _ _ _ _ (hR.out _ (by first | (left; rfl) | (right; rfl))) (fl_one _) hn).mono ?_; rintro e w3 ⟨v3, rfl, ho3, hB3⟩; obtain ⟨A3, c3, rfl, -⟩ := ho3.shape; have hb3 : Lm w3 b r bu le _ _ row := Bl.keep (Bl.drew hb) hB3; have j3 : w3.cell? ⟨b, 3, none⟩ = some (.slice (some ⟨p, o, none⟩) _ _) := hb3.cell 3; have f3 := hb3.frozen 3)
    obtain ⟨g1, g2, g3, g4, g5⟩ := arm.out A3 c3 w3 ho3 hB3
    obtain ⟨w4, hw4⟩ : ∃ w4, w3.setCell ⟨b, 3, none⟩ (.slice A3 n c3) = w4 := ⟨_, rfl⟩
    rw [hw4] at g1 g2 g3 g4 g5 ⊢
    clear hw4 arm hR hb3 j3 f3 ho3 hB3 x4 x5 hB2 hb k3
    have k4 : w4.cell? ⟨b, 4, none⟩ = some (.slice A2 m c2) := g1.cell 4
    have k5 : w4.cell? ⟨b, 5, none⟩ = some (.int .i64 row) := g1.cell 5
    have f5 := g1.frozen 5
    have y0 : w4.cell? ⟨w.heap.size, 0, none⟩ = some (.int .i64 0) := g2.cell 0
    have y1 : w4.cell? ⟨w.heap.size, 1, none⟩ = some (.int .u64 0) := g2.cell 1
    have y2 : w4.cell? ⟨w.heap.size, 2, none⟩ = some (.bool false) := g2.cell 2
    have h0 := g2.frozen 0
    have h1 := g2.frozen 1
    have h2 := g2.frozen 2
    have z0 : w4.cell? ⟨w.heap.size + 1, 0, none⟩ = some (.int .i64 a1) := g3.cell 0
    have z1 : w4.cell? ⟨w.heap.size + 1, 1, none⟩ = some (.int .u64 a2) := g3.cell 1
    have z2 : w4.cell? ⟨w.heap.size + 1, 2, none⟩ = some (.bool a3) := g3.cell 2
    rcases hrw.out with ⟨hm0, hr0⟩ | ⟨hm0, hr0⟩
    · subst hm0
      subst hr0
      go_wp2_with fail
      exact goes_fin (R := fun vU vO => GoesRes w b r bu le vO 0 (a1, a2, a3) U') hbl0 hn1 g1 g2 g4 g5 _ rfl (fun w' q1 q2 q3 => ⟨_, rfl, q1, q2, q3⟩)
    · have hm2 : ((m : Int) == 0) = false := by rw [beq_eq_false_iff_ne]; omega
      subst hr0
      go_wp2_with fail
      exact goes_fin (R := fun vU vO => GoesRes w b r bu le vO (wrap64 (row + 1)) (a1, a2, a3) U') hbl0 hn1 g1 g2 g4 g5 _ rfl (fun w' q1 q2 q3 => ⟨_, rfl, q1, q2, q3⟩)
  · go_region_with (go_at_call 33; refine (clone_any _ _ _ _ _ (hR.out _ (by first | (left; rfl) | (right; rfl))) (fl_one _) hn).mono ?_; rintro e w3 ⟨v3, rfl, ho3, hB3⟩; obtain ⟨A3, c3, rfl, -⟩ := ho3.shape; have hb3 : Lm w3 b r bu le _ _ row := Bl.keep (Bl.drew hb) hB3; have j3 : w3.cell? ⟨b, 3, none⟩ = some (.slice (some ⟨p, o, none⟩) _ _) := hb3.cell 3; have f3 := hb3.frozen 3)
    obtain ⟨g1, g2, g3, g4, g5⟩ := arm.out A3 c3 w3 ho3 hB3
    obtain ⟨w4, hw4⟩ : ∃ w4, w3.setCell ⟨b, 3, none⟩ (.slice A3 0 c3) = w4 := ⟨_, rfl⟩
    rw [hw4] at g1 g2 g3 g4 g5 ⊢
    clear hw4 arm hR hb3 j3 f3 ho3 hB3 x4 x5 hB2 hb k3
    have k4 : w4.cell? ⟨b, 4, none⟩ = some (.slice A2 m c2) := g1.cell 4
    have k5 : w4.cell? ⟨b, 5, none⟩ = some (.int .i64 row) := g1.cell 5
    have f5 := g1.frozen 5
    have y0 : w4.cell? ⟨w.heap.size, 0, none⟩ = some (.int .i64 0) := g2.cell 0
    have y1 : w4.cell? ⟨w.heap.size, 1, none⟩ = some (.int .u64 0) := g2.cell 1
    have y2 : w4.cell? ⟨w.heap.size, 2, none⟩ = some (.bool false) := g2.cell 2
    have h0 := g2.frozen 0
    have h1 := g2.frozen 1
    have h2 := g2.frozen 2
    have z0 : w4.cell? ⟨w.heap.size + 1, 0, none⟩ = some (.int .i64 a1) := g3.cell 0
    have z1 : w4.cell? ⟨w.heap.size + 1, 1, none⟩ = some (.int .u64 a2) := g3.cell 1
    have z2 : w4.cell? ⟨w.heap.size + 1, 2, none⟩ = some (.bool a3) := g3.cell 2
    rcases hrw.out with ⟨hm0, hr0⟩ | ⟨hm0, hr0⟩
    · subst hm0
      subst hr0
      go_wp2_with fail
      exact goes_fin (R := fun vU vO => GoesRes w b r bu le vO 0 (a1, a2, a3) U') hbl0 hn1 g1 g2 g4 g5 _ rfl (fun w' q1 q2 q3 => ⟨_, rfl, q1, q2, q3⟩)
    · have hm2 : ((m : Int) == 0) = false := by rw [beq_eq_false_iff_ne]; omega
      subst hr0
      go_wp2_with fail
      exact goes_fin (R := fun vU vO => GoesRes w b r bu le vO (wrap64 (row + 1)) (a1, a2, a3) U') hbl0 hn1 g1 g2 g4 g5 _ rfl (fun w' q1 q2 q3 => ⟨_, rfl, q1, q2, q3⟩)
def GoesResO (w : World) (b : Nat) (r bu le : Int) (vU : Value) (row' : Int) (a : A3) (O' : List A3) (e : Ending) (w' : World) : Prop :=
  ∃ v', e = .returned (aV a) ∧ OW w' w.heap.size 3 v' O'.length (fl O') ∧ Lm w' b r bu le vU v' row' ∧ Fr (fun k => k = b) w w'
theorem goesO (b : Nat) (r bu le : Int) (vU vO : Value) (row : Int) (a : A3) (U' O : List A3) (w : World) (hb : Lm w b r bu le vO vU row) (hU : SL w b vU (a :: U')) (hO : SL w b vO O) (hn : U'.length ≤ 4096) :
    Calls Try.prog 29 #[.pointer (some ⟨b, 0, none⟩), .int .i64 1] w (GoesResO w b r bu le vO 0 a U') := by
  obtain ⟨A1, c1, rfl, hr1, hc1, hm1, hA1⟩ := hU
  obtain ⟨A2, c2, rfl, -⟩ := hO
  obtain ⟨p, o, rfl, -⟩ := hr1.2 (by simp)
  obtain ⟨a1, a2, a3⟩ := a
  have e0 : w.cell? ⟨p, o, none⟩ = some (.int .i64 a1) := hr1.cellAt (j := 0) rfl
  have e1 : w.cell? ⟨p, o + 1, none⟩ = some (.int .u64 a2) := hr1.cellAt (j := 1) rfl
  have e2 : w.cell? ⟨p, o + 2, none⟩ = some (.bool a3) := hr1.cellAt (j := 2) rfl
  have hp : p < w.heap.size := (hA1 _ rfl).1
  have hpb : p ≠ b := (hA1 _ rfl).2
  have hbl : b < w.heap.size := hb.lt
  have hr2 := Rd.tail (x := [.int .i64 a1, .int .u64 a2, .bool a3]) (n := U'.length) (xs := fl U') hr1 rfl
  clear hr1 hA1
  have k3 : w.cell? ⟨b, 4, none⟩ = some (.slice (some ⟨p, o, none⟩) (U'.length + 1) c1) := hb.cell 4
  obtain ⟨n, hn1⟩ : ∃ n, U'.length = n := ⟨_, rfl⟩
  simp only [List.length_cons] at hb hc1
  rw [hn1] at hr2 k3 hb hc1 hn
  replace hr2 := Lib.hid hr2
  obtain ⟨m, hmO⟩ : ∃ m, O.length = m := ⟨_, rfl⟩
  rw [hmO] at hb
  have hw1 : (1 : Int) ≤ (n : Int) + 1 := by omega
  have hne : ¬ c1 = 1 ∨ (c1 = 1 ∧ n = 0) := by omega
  go_enter Try.func29, Try.ntmps29
  go_wp2_with fail
  have hB2 : Below w.heap.size w ((w.alloc (.cells #[.int .i64 0, .int .u64 0, .bool false] 77)).alloc (.cells #[.int .i64 a1, .int .u64 a2, .bool a3] 77)) := ((Below.refl _ _).alloc (Nat.le_refl _) _).alloc (by simp) _
  have x4 : Bl ((w.alloc (.cells #[.int .i64 0, .int .u64 0, .bool false] 77)).alloc (.cells #[.int .i64 a1, .int .u64 a2, .bool a3] 77)) w.heap.size (.cells #[.int .i64 0, .int .u64 0, .bool false] 77 (0, 0)) := (Bl.new' rfl).alloc _
  have x5 : Bl ((w.alloc (.cells #[.int .i64 0, .int .u64 0, .bool false] 77)).alloc (.cells #[.int .i64 a1, .int .u64 a2, .bool a3] 77)) (w.heap.size + 1) (.cells #[.int .i64 a1, .int .u64 a2, .bool a3] 77 (0, 0)) := Bl.new' (by simp)
  obtain ⟨w2, hw2⟩ : ∃ w2, (w.alloc (.cells #[.int .i64 0, .int .u64 0, .bool false] 77)).alloc (.cells #[.int .i64 a1, .int .u64 a2, .bool a3] 77) = w2 := ⟨_, rfl⟩
  rw [hw2] at hB2 x4 x5 ⊢
  clear hw2 e0 e1 e2
  replace hb : Lm w2 b r bu le _ _ row := Bl.keep hb hB2
  clear k3
  have k3 : w2.cell? ⟨b, 4, none⟩ = some (.slice (some ⟨p, o, none⟩) (n + 1) c1) := hb.cell 4
  have hbl0 := hbl
  replace hbl : b < w2.heap.size := hb.lt
  have hR : ∀ A, A = some ⟨p, o + 3, none⟩ ∨ n = 0 → Rd w2.drew 3 A n (fl U') := by
    rintro A (rfl | h)
    · exact (hr2.out.keep hB2).keep (Below.refl _ _).drew
    · subst h
      obtain rfl : U' = [] := List.eq_nil_of_length_eq_zero hn1
      exact ⟨rfl, fun h => absurd h (by omega)⟩
  replace hR := Lib.hid hR
  have arm : ∀ (A3 : Option Addr) (c3 : Nat) (w3 : World), OW w3 w2.drew.heap.size 3 (.slice A3 n c3) n (fl U') → Below w2.drew.heap.size w2.drew w3 →
      Lm (w3.setCell ⟨b, 4, none⟩ (.slice A3 n c3)) b r bu le (.slice A2 m c2) (.slice A3 n c3) row ∧ Bl (w3.setCell ⟨b, 4, none⟩ (.slice A3 n c3)) w.heap.size (.cells #[.int .i64 0, .int .u64 0, .bool false] 77 (0, 0)) ∧
      Bl (w3.setCell ⟨b, 4, none⟩ (.slice A3 n c3)) (w.heap.size + 1) (.cells #[.int .i64 a1, .int .u64 a2, .bool a3] 77 (0, 0)) ∧ OW (w3.setCell ⟨b, 4, none⟩ (.slice A3 n c3)) (w.heap.size + 2) 3 (.slice A3 n c3) n (fl U') ∧ Fr (fun k => k = b) w (w3.setCell ⟨b, 4, none⟩ (.slice A3 n c3)) := by
    intro A3 c3 w3 ho3 hB3
    have hb3 : Lm w3 b r bu le _ _ row := Bl.keep (Bl.drew hb) hB3
    refine ⟨Bl.setSame hb3 4 _, (x4.drew.keep hB3).set _ (by omega), (x5.drew.keep hB3).set _ (by omega), ?_, ?_⟩
    · refine (ho3.more (base' := w.heap.size + 2) (by have := x5.lt; simp; omega)).set _ ?_
      intro e
      have := (ho3.lt _ e).1
      simp at this
      omega
    · exact ((Fr.of_below hB2).thenB ((Below.refl w2.heap.size w2).drew.trans hB3)).set _ (fun _ => rfl)
  replace arm := Lib.hid arm
  rcases hne with hc | ⟨rfl, rfl⟩
  · go_region_with (go_at_call 33; refine (clone_any _ _ _ _ _ (hR.out _ (by first | (left; rfl) | (right; rfl))) (fl_one _) hn).mono ?_; rintro e w3 ⟨v3, rfl, ho3, hB3⟩; obtain ⟨A3, c3, rfl, -⟩ := ho3.shape; have hb3 : Lm w3 b r bu le _ _ row := Bl.keep (Bl.drew hb) hB3; have j3 : w3.cell? ⟨b, 4, none⟩ = some (.slice (some ⟨p, o, none⟩) _ _) := hb3.cell 4; have f3 := hb3.frozen 4)
    obtain ⟨g1, g2, g3, g4, g5⟩ := arm.out A3 c3 w3 ho3 hB3
    obtain ⟨w4, hw4⟩ : ∃ w4, w3.setCell ⟨b, 4, none⟩ (.slice A3 n c3) = w4 := ⟨_, rfl⟩
    rw [hw4] at g1 g2 g3 g4 g5 ⊢
    clear hw4 arm hR hb3 j3 f3 ho3 hB3 x4 x5 hB2 hb k3
    have k4 : w4.cell? ⟨b, 3, none⟩ = some (.slice A2 m c2) := g1.cell 3
    have k5 : w4.cell? ⟨b, 5, none⟩ = some (.int .i64 row) := g1.cell 5
    have f5 := g1.frozen 5
    have y0 : w4.cell? ⟨w.heap.size, 0, none⟩ = some (.int .i64 0) := g2.cell 0
    have y1 : w4.cell? ⟨w.heap.size, 1, none⟩ = some (.int .u64 0) := g2.cell 1
    have y2 : w4.cell? ⟨w.heap.size, 2, none⟩ = some (.bool false) := g2.cell 2
    have h0 := g2.frozen 0
    have h1 := g2.frozen 1
    have h2 := g2.frozen 2
    have z0 : w4.cell? ⟨w.heap.size + 1, 0, none⟩ = some (.int .i64 a1) := g3.cell 0
    have z1 : w4.cell? ⟨w.heap.size + 1, 1, none⟩ = some (.int .u64 a2) := g3.cell 1
    have z2 : w4.cell? ⟨w.heap.size + 1, 2, none⟩ = some (.bool a3) := g3.cell 2
    go_wp2_with fail
    rw [hmO]
    exact goes_fin (R := fun vO vU => GoesResO w b r bu le vO 0 (a1, a2, a3) U') hbl0 hn1 g1 g2 g4 g5 _ rfl (fun w' q1 q2 q3 => ⟨_, rfl, q1, q2, q3⟩)
  · go_region_with (go_at_call 33; refine (clone_any _ _ _ _ _ (hR.out _ (by first | (left; rfl) | (right; rfl))) (fl_one _) hn).mono ?_; rintro e w3 ⟨v3, rfl, ho3, hB3⟩; obtain ⟨A3, c3, rfl, -⟩ := ho3.shape; have hb3 : Lm w3 b r bu le _ _ row := Bl.keep (Bl.drew hb) hB3; have j3 : w3.cell? ⟨b, 4, none⟩ = some (.slice (some ⟨p, o, none⟩) _ _) := hb3.cell 4; have f3 := hb3.frozen 4)
    obtain ⟨g1, g2, g3, g4, g5⟩ := arm.out A3 c3 w3 ho3 hB3
    obtain ⟨w4, hw4⟩ : ∃ w4, w3.setCell ⟨b, 4, none⟩ (.slice A3 0 c3) = w4 := ⟨_, rfl⟩
    rw [hw4] at g1 g2 g3 g4 g5 ⊢
    clear hw4 arm hR hb3 j3 f3 ho3 hB3 x4 x5 hB2 hb k3
    have k4 : w4.cell? ⟨b, 3, none⟩ = some (.slice A2 m c2) := g1.cell 3
    have k5 : w4.cell? ⟨b, 5, none⟩ = some (.int .i64 row) := g1.cell 5
    have f5 := g1.frozen 5
    have y0 : w4.cell? ⟨w.heap.size, 0, none⟩ = some (.int .i64 0) := g2.cell 0
    have y1 : w4.cell? ⟨w.heap.size, 1, none⟩ = some (.int .u64 0) := g2.cell 1
    have y2 : w4.cell? ⟨w.heap.size, 2, none⟩ = some (.bool false) := g2.cell 2
    have h0 := g2.frozen 0
    have h1 := g2.frozen 1
    have h2 := g2.frozen 2
    have z0 : w4.cell? ⟨w.heap.size + 1, 0, none⟩ = some (.int .i64 a1) := g3.cell 0
    have z1 : w4.cell? ⟨w.heap.size + 1, 1, none⟩ = some (.int .u64 a2) := g3.cell 1
    have z2 : w4.cell? ⟨w.heap.size + 1, 2, none⟩ = some (.bool a3) := g3.cell 2
    go_wp2_with fail
    rw [hmO]
    exact goes_fin (R := fun vO vU => GoesResO w b r bu le vO 0 (a1, a2, a3) U') hbl0 hn1 g1 g2 g4 g5 _ rfl (fun w' q1 q2 q3 => ⟨_, rfl, q1, q2, q3⟩)
end Go.Proofs.Ytefeompdhalgcaa
