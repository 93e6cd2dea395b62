/- Contracts of the document's limiter (sedimentref20): made, who is next, who goes. -/
import Derived.Test.YtefeompdhalgcaaProg
import Derived.RangeFuncNested
import Derived.RangeFuncBound
import Derived.RangeFuncCalls
import Derived.RangeFuncLeaves
import Derived.Shelf.Abstract
import Derived.Shelf.RegionOpen
import Derived.WalkKit
import Derived.OwnWalkIn
import Derived.TacticsInMore
import Derived.LoopNIn
import Derived.LoopIn
import Derived.Lib.Hide
import Derived.Outline
import Derived.RegionTactic
import Derived.BigRegion
import Derived.WalkLawsBesides
import Derived.WalkSpells
import Derived.Deep.QuietTactic
import Derived.BigQuiet
import Derived.Deep.RegionHeld3
import Derived.Lib.Bytealg
import Derived.Lib.ConvBytes
import Derived.Laws.BytesArg
import Derived.Test.YtefeompdhalgcaaSed
import Derived.Test.YtefeompdhalgcaaOwn
import Derived.Deep.DeepCutAuto
import Derived.Deep.CutBlock
import Derived.StillTailTactics
import Derived.WalkSmall
import Derived.Test.YtefeompdhalgcaaStallE
import Derived.Test.YtefeompdhalgcaaStallT
namespace Go.Proofs.Ytefeompdhalgcaa
open Go.RowKit Go.Sed
set_option maxHeartbeats 1000000
def Ld (W : World) (b : Nat) (r bu le : Int) (vU vO : Value) (row : Int) : Prop :=
  Bl W b (.cells #[.int .u64 r, .int .u64 bu, .int .u64 le, vU, vO, .int .i64 row] 51 (0, 0))
/-- the document's limiter. -/
structure LD (w : World) (b : Nat) (r bu le : Int) (vU : Value) (U : List A3) (vO : Value) (O : List A3) (row : Int) : Prop where
  ld : Ld w b r bu le vU vO row
  u : SL w b vU U
  o : SL w b vO O
theorem LD.keep {w w' : World} {b : Nat} {r bu le row : Int} {vU vO : Value} {U O : List A3} (h : LD w b r bu le vU U vO O row) (hB : Below w.heap.size w w') : LD w' b r bu le vU U vO O row :=
  ⟨Bl.keep h.ld hB, h.u.below hB, h.o.below hB⟩
theorem LD.fr {F : Nat → Prop} {w w' : World} {b : Nat} {r bu le row : Int} {vU vO : Value} {U O : List A3} (h : LD w b r bu le vU U vO O row) (hf : Fr F w w') (hF : ∀ k, F k → ¬ foot b vU vO k) : LD w' b r bu le vU U vO O row :=
  ⟨Bl.fr h.ld hf (fun e => hF b e (.inl rfl)), h.u.fr hf (fun a e e' => hF a e' (.inr (.inl e))), h.o.fr hf (fun a e e' => hF a e' (.inr (.inr e)))⟩
theorem dnew_no (r b : Int) (w : World) (h : r = 0 ∨ b = 0 ∨ b < r) :
    Calls Try.prog 13 #[.int .u64 r, .int .u64 b] w fun e w' => e = .returned (.tuple #[.pointer none, .int .i64 1]) ∧ w = w' := by
  have h1 : (r == 0) = true ∨ ((r == 0) = false ∧ (b == 0) = true) ∨ ((r == 0) = false ∧ (b == 0) = false ∧ b < r) := by
    by_cases e1 : r = 0
    · left; simp [e1]
    · right
      by_cases e2 : b = 0
      · left; simp [e1, e2]
      · right; simp [e1, e2]; omega
  clear h
  rcases h1 with h1 | ⟨h1, h2⟩ | ⟨h1, h2, h3⟩
  all_goals
    go_enter Try.func13, Try.ntmps13
    go_wp2
    go_ret2
    exact ⟨rfl, rfl⟩
theorem dnew_yes (r b : Int) (w : World) (h1 : (r == 0) = false) (h2 : (b == 0) = false) (h3 : r ≤ b) :
    Calls Try.prog 13 #[.int .u64 r, .int .u64 b] w fun e w' => e = .returned (.tuple #[.pointer (some ⟨w.heap.size, 0, none⟩), .int .i64 0]) ∧ LD w' w.heap.size r b b (.slice none 0 0) [] (.slice none 0 0) [] 0 ∧ Below w.heap.size w w' := by
  have h4 : ¬ b < r := by omega
  go_enter Try.func13, Try.ntmps13
  go_wp2
  go_ret2
  exact ⟨rfl, ⟨Bl.new' rfl, ⟨none, 0, rfl, Rd.nil _ _ _, Nat.le_refl _, by unfold maxLen; omega, fun a e => by cases e⟩, ⟨none, 0, rfl, Rd.nil _ _ _, Nat.le_refl _, by unfold maxLen; omega, fun a e => by cases e⟩⟩, (Below.refl _ _).alloc (Nat.le_refl _) _⟩
theorem results_askd {fn : Func} {p : Tmp} (h : fn.results = #[.cell p 82]) (tmps : Array Value) (w : World) (b : Nat) (x0 x1 x2 : Value) (T : TypeId) (hp : tmps.getD p undef = .pointer (some ⟨b, 0, none⟩))
    (hb : Bl w b (.cells #[x0, x1, x2] T (0, 0))) : (results fn tmps).run Try.prog w = .ok (.agg #[x0, x1, x2]) w := by
  have c0 : w.cell? ⟨b, 0, none⟩ = some x0 := hb.cell 0
  have c1 : w.cell? ⟨b, 1, none⟩ = some x1 := hb.cell 1
  have c2 : w.cell? ⟨b, 2, none⟩ = some x2 := hb.cell 2
  simp only [results, h]
  have hp' : tmps[p]?.getD undef = .pointer (some ⟨b, 0, none⟩) := by simpa using hp
  simp [Sem.run_bind, Result.andThen, hp', go_sem, c0, c1, c2]
theorem results_ask2 {fn : Func} {p q : Tmp} (h : fn.results = #[.cell p 82, .tmp q]) (tmps : Array Value) (w : World) (b : Nat) (x0 x1 x2 v : Value) (T : TypeId) (hp : tmps.getD p undef = .pointer (some ⟨b, 0, none⟩)) (hq : tmps.getD q undef = v)
    (hb : Bl w b (.cells #[x0, x1, x2] T (0, 0))) : (results fn tmps).run Try.prog w = .ok (.tuple #[.agg #[x0, x1, x2], v]) w := by
  have c0 : w.cell? ⟨b, 0, none⟩ = some x0 := hb.cell 0
  have c1 : w.cell? ⟨b, 1, none⟩ = some x1 := hb.cell 1
  have c2 : w.cell? ⟨b, 2, none⟩ = some x2 := hb.cell 2
  simp only [results, h]
  have hp' : tmps[p]?.getD undef = .pointer (some ⟨b, 0, none⟩) := by simpa using hp
  have hq' : tmps[q]?.getD undef = v := by simpa using hq
  simp [Sem.run_bind, Result.andThen, hp', hq', go_sem, c0, c1, c2]
/-- who is ahead of all. -/
def hd (U O : List A3) (row : Int) : A3 := if ahI U O row = 1 then O.headD (0, 0, false) else if ahI U O row = 0 then U.headD (0, 0, false) else (0, 0, false)
theorem next_any (b : Nat) (r bu le : Int) (vU vO : Value) (U O : List A3) (row : Int) (w : World) (h : LD w b r bu le vU U vO O row) (hn : U.length + O.length ≤ 4096) :
    Calls Try.prog 30 #[.pointer (some ⟨b, 0, none⟩)] w fun e w' => e = .returned (.tuple #[aV (hd U O row), .bool (decide (0 < U.length + O.length))]) ∧ Below w.heap.size w w' := by
  obtain ⟨hb, ⟨A1, c1, rfl, hr1, hc1, -⟩, ⟨A2, c2, rfl, hr2, hc2, -⟩⟩ := h
  have k3 : w.cell? ⟨b, 3, none⟩ = some (.slice A1 U.length c1) := hb.cell 3
  have k4 : w.cell? ⟨b, 4, none⟩ = some (.slice A2 O.length c2) := hb.cell 4
  have k5 : w.cell? ⟨b, 5, none⟩ = some (.int .i64 row) := hb.cell 5
  have hbl : b < w.heap.size := hb.lt
  clear hb
  rcases ah_cases U O row with ⟨hah, rfl, rfl⟩ | ⟨hah, a, O', rfl⟩ | ⟨hah, a, U', rfl⟩
  · have hd0 : hd [] [] row = (0, 0, false) := by unfold hd; rw [hah]; rfl
    rw [hd0]
    clear hr1 hr2 hah hd0
    go_enter Try.func30, Try.ntmps30
    go_wp2_with fail
    refine bodyPost_ret (results_ask2 rfl _ _ w.heap.size (.int .i64 0) (.int .u64 0) (.bool false) (.bool false) 82 rfl rfl ?_) rfl ⟨rfl, ?_⟩
    · exact Bl.new' rfl
    · exact (Below.refl _ _).alloc (Nat.le_refl _) _
  · have hd0 : hd U (a :: O') row = a := by unfold hd; rw [if_pos hah]; rfl
    rw [hd0]
    obtain ⟨p, o, rfl, -⟩ := hr2.2 (by simp)
    obtain ⟨a1, a2, a3⟩ := a
    have e0 : w.cell? ⟨p, o, none⟩ = some (.int .i64 a1) := hr2.cellAt (j := 0) rfl
    have e1 : w.cell? ⟨p, o + 1, none⟩ = some (.int .u64 a2) := hr2.cellAt (j := 1) rfl
    have e2 : w.cell? ⟨p, o + 2, none⟩ = some (.bool a3) := hr2.cellAt (j := 2) rfl
    have hpl : p < w.heap.size := cell_lt e0
    have hz1 : (0 : Int) < (O'.length : Int) + 1 := by omega
    have hz2 : ((O'.length : Int) + 1 == 0) = false := by rw [beq_eq_false_iff_ne]; omega
    have hz3 : (1 : Int) ≤ (O'.length : Int) + 1 := by omega
    have hdc : decide (0 < U.length + ((a1, a2, a3) :: O').length) = true := decide_eq_true (by simp only [List.length_cons]; omega)
    rw [hdc]
    have hcs : U.length = 0 ∨ (((U.length : Int) == 0) = false ∧ 10 ≤ row) := by
      by_cases h0 : U.length = 0
      · exact .inl h0
      · refine .inr ⟨by rw [beq_eq_false_iff_ne]; omega, ?_⟩
        unfold ahI ahN at hah
        rw [if_neg (by simp), if_neg h0] at hah
        by_cases h10 : 10 ≤ row
        · exact h10
        · rw [if_neg (fun h => h10 h.2)] at hah; omega
    obtain ⟨n1, hn1⟩ : ∃ n1, U.length = n1 := ⟨_, rfl⟩
    rw [hn1] at hcs k3 hn
    clear hr1 hr2 hah hd0 hdc hc1 hc2 hn1 hn
    rcases hcs with rfl | ⟨hc1, hc2⟩
    all_goals
      go_enter Try.func30, Try.ntmps30
      go_wp2_with fail
      refine bodyPost_ret (results_ask2 rfl _ _ w.heap.size (.int .i64 a1) (.int .u64 a2) (.bool a3) (.bool true) 82 rfl rfl ?_) rfl ⟨rfl, ?_⟩
      · first | exact Bl.new' rfl | exact (((Bl.new' rfl).setSame 0 _).setSame 1 _).setSame 2 _
      · first | exact (Below.refl _ _).alloc (Nat.le_refl _) _ | exact ((((Below.refl _ _).alloc (Nat.le_refl _) _).setCell (Nat.le_refl _) _).setCell (Nat.le_refl _) _).setCell (Nat.le_refl _) _
  · have hd0 : hd (a :: U') O row = a := by unfold hd; rw [if_neg (by rw [hah]; decide), if_pos hah]; rfl
    rw [hd0]
    obtain ⟨p, o, rfl, -⟩ := hr1.2 (by simp)
    obtain ⟨a1, a2, a3⟩ := a
    have e0 : w.cell? ⟨p, o, none⟩ = some (.int .i64 a1) := hr1.cellAt (j := 0) rfl
    have e1 : w.cell? ⟨p, o + 1, none⟩ = some (.int .u64 a2) := hr1.cellAt (j := 1) rfl
    have e2 : w.cell? ⟨p, o + 2, none⟩ = some (.bool a3) := hr1.cellAt (j := 2) rfl
    have hpl : p < w.heap.size := cell_lt e0
    have hz1 : (0 : Int) < (U'.length : Int) + 1 := by omega
    have hz2 : ((U'.length : Int) + 1 == 0) = false := by rw [beq_eq_false_iff_ne]; omega
    have hz3 : (1 : Int) ≤ (U'.length : Int) + 1 := by omega
    have hdc : decide (0 < ((a1, a2, a3) :: U').length + O.length) = true := decide_eq_true (by simp only [List.length_cons]; omega)
    rw [hdc]
    have hcs : O.length = 0 ∨ (0 < (O.length : Int) ∧ ¬ 10 ≤ row) := by
      by_cases h0 : O.length = 0
      · exact .inl h0
      · exact .inr ⟨by omega, by have := ah0_row hah h0; omega⟩
    obtain ⟨n1, hn1⟩ : ∃ n1, O.length = n1 := ⟨_, rfl⟩
    rw [hn1] at hcs k4 hn
    clear hr1 hr2 hah hd0 hdc hc1 hc2 hn1 hn
    rcases hcs with rfl | ⟨hc1, hc2⟩
    all_goals
      go_enter Try.func30, Try.ntmps30
      go_wp2_with fail
      refine bodyPost_ret (results_ask2 rfl _ _ w.heap.size (.int .i64 a1) (.int .u64 a2) (.bool a3) (.bool true) 82 rfl rfl ?_) rfl ⟨rfl, ?_⟩
      · first | exact Bl.new' rfl | exact (((Bl.new' rfl).setSame 0 _).setSame 1 _).setSame 2 _
      · first | exact (Below.refl _ _).alloc (Nat.le_refl _) _ | exact ((((Below.refl _ _).alloc (Nat.le_refl _) _).setCell (Nat.le_refl _) _).setCell (Nat.le_refl _) _).setCell (Nat.le_refl _) _
/-- the state behind one that goes. -/
def ns (U O : List A3) (row : Int) : List A3 × List A3 × Int := if ahI U O row = 1 then (U, O.tail, 0) else (U.tail, O, if O.length = 0 then 0 else row + 1)
def DGoes (w : World) (b : Nat) (r bu le : Int) (vU vO : Value) (a : A3) (U' O' : List A3) (row' : Int) (e : Ending) (w' : World) : Prop :=
  ∃ vU' vO', e = .returned (aV a) ∧ LD w' b r bu le vU' U' vO' O' row' ∧ Fr (fun k => k = b) w w' ∧ ∀ k, foot b vU' vO' k → foot b vU vO k
theorem SL.tail {w : World} {b p o n c : Nat} {x : A3} {l : List A3} (h : SL w b (.slice (some ⟨p, o, none⟩) n c) (x :: l)) {A : Option Addr} {c' : Nat} (hA : A = some ⟨p, o + 3, none⟩ ∨ (A = some ⟨p, o, none⟩ ∧ l = [])) (hc : l.length ≤ c' ∧ c' ≤ maxLen) : SL w b (.slice A l.length c') l := by
  obtain ⟨A0, c0, e, h1, h2, h3, h4⟩ := h
  simp only [Value.slice.injEq] at e
  obtain ⟨rfl, -, -⟩ := e
  have h5 := h4 _ rfl
  rcases hA with rfl | ⟨rfl, rfl⟩
  · refine ⟨_, c', rfl, ?_, hc.1, hc.2, fun a e => by cases e; exact h5⟩
    exact Rd.tail (x := [.int .i64 x.1, .int .u64 x.2.1, .bool x.2.2]) (n := l.length) (xs := fl l) h1 rfl
  · exact ⟨_, c', rfl, ⟨rfl, fun h => absurd h (by simp)⟩, hc.1, hc.2, fun a e => by cases e; exact h5⟩
set_option maxRecDepth 100000 in
theorem dgoesO (b : Nat) (r bu le : Int) (vU vO : Value) (U O : List A3) (a : A3) (row : Int) (w : World) (h : LD w b r bu le vU U vO (a :: O) row) (hn : U.length + O.length < 4096) (hah : ahI U (a :: O) row = 1) (hfl : a.2.2 = false) :
    Calls Try.prog 31 #[.pointer (some ⟨b, 0, none⟩)] w (DGoes w b r bu le vU vO a U O 0) := by
  have hd0 : hd U (a :: O) row = a := by unfold hd; rw [if_pos hah]; rfl
  obtain ⟨A1, c1, rfl, -⟩ := h.u
  obtain ⟨A2, c2, rfl, hr2, hc2, hm2, -⟩ := h.o
  obtain ⟨p, o, rfl, -⟩ := hr2.2 (by simp)
  clear hr2
  obtain ⟨a1, a2, a3⟩ := a
  simp only at hfl
  subst hfl
  have hdn : decide (0 < U.length + ((a1, a2, false) :: O).length) = true := decide_eq_true (by simp only [List.length_cons]; omega)
  have hz3 : (1 : Int) ≤ (O.length : Int) + 1 := by omega
  have hbl : b < w.heap.size := h.ld.lt
  have hne : ¬ c2 = 1 ∨ (c2 = 1 ∧ O = []) := by
    by_cases h1 : c2 = 1
    · right; refine ⟨h1, List.eq_nil_of_length_eq_zero (by simp at hc2; omega)⟩
    · exact .inl h1
  have hB0 : Below w.heap.size w (w.alloc (.cells #[.int .i64 0, .int .u64 0, .bool false] 82)) := (Below.refl _ _).alloc (Nat.le_refl _) _
  have hN := next_any b r bu le _ _ U ((a1, a2, false) :: O) row _ (h.keep hB0) (by simp; omega)
  rw [hd0, hdn] at hN
  have hres : Bl (w.alloc (.cells #[.int .i64 0, .int .u64 0, .bool false] 82)) w.heap.size (.cells #[.int .i64 0, .int .u64 0, .bool false] 82 (0, 0)) := Bl.new' rfl
  replace hN := Lib.hid hN
  replace h := Lib.hid h
  replace hc2 := Lib.hid hc2
  replace hm2 := Lib.hid hm2
  clear hah hd0 hdn
  go_enter Try.func31, Try.ntmps31
  go_wp2_with fail
  refine hN.out.mono ?_
  rintro e w1 ⟨rfl, hB1⟩
  have h1 := (h.out.keep hB0).keep hB1
  replace hres := hres.keep hB1
  have hB01 : Below w.heap.size w w1 := hB0.trans (hB1.mono (by simp))
  have hsz : w.heap.size < w1.heap.size := hres.lt
  unfold aV
  have hcc : O.length + 1 ≤ c2 := hc2.out
  replace h1 := Lib.hid h1
  clear hN
  go_upto_region 3 with (fail)
  have hB2 : Below w1.heap.size w1 (w1.alloc (.cells #[.int .i64 a1, .int .u64 a2, .bool false] 82)) := (Below.refl _ _).alloc (Nat.le_refl _) _
  have hloc : Bl (w1.alloc (.cells #[.int .i64 a1, .int .u64 a2, .bool false] 82)) w1.heap.size (.cells #[.int .i64 a1, .int .u64 a2, .bool false] 82 (0, 0)) := Bl.new' rfl
  have hx1 : ¬ b = w1.heap.size := by have := h1.out.ld.lt; omega
  have hx3 : ¬ w.heap.size = w1.heap.size := by omega
  obtain ⟨w2, hw2⟩ : ∃ w2, w1.alloc (.cells #[.int .i64 a1, .int .u64 a2, .bool false] 82) = w2 := ⟨_, rfl⟩
  obtain ⟨l, hl⟩ : ∃ l, w1.heap.size = l := ⟨_, rfl⟩
  rw [hw2] at hB2 hloc ⊢
  have h2 := h1.out.keep hB2
  replace hres := hres.keep hB2
  have hB02 := hB01.trans (hB2.mono (Nat.le_of_lt hsz))
  rw [hl] at hloc hx1 hx3 ⊢
  clear hw2 hl hB2 h1 hsz hB1
  have k4 : w2.cell? ⟨b, 4, none⟩ = some (.slice (some ⟨p, o, none⟩) (O.length + 1) c2) := h2.ld.cell 4
  have k5 : w2.cell? ⟨b, 5, none⟩ = some (.int .i64 row) := h2.ld.cell 5
  have f4 := h2.ld.frozen 4
  have f5 := h2.ld.frozen 5
  have x0 : w2.cell? ⟨l, 0, none⟩ = some (.int .i64 a1) := hloc.cell 0
  have x1 : w2.cell? ⟨l, 1, none⟩ = some (.int .u64 a2) := hloc.cell 1
  have x2 : w2.cell? ⟨l, 2, none⟩ = some (.bool false) := hloc.cell 2
  have y0 : w2.cell? ⟨w.heap.size, 0, none⟩ = some (.int .i64 0) := hres.cell 0
  have y1 : w2.cell? ⟨w.heap.size, 1, none⟩ = some (.int .u64 0) := hres.cell 1
  have y2 : w2.cell? ⟨w.heap.size, 2, none⟩ = some (.bool false) := hres.cell 2
  have g0 := hres.frozen 0
  have g1 := hres.frozen 1
  have g2 := hres.frozen 2
  have hbne : b ≠ w.heap.size := by omega
  have hx0 : ¬ w.heap.size = b := by omega
  have hx2 : ¬ l = b := fun e => hx1 e.symm
  have hx4 : ¬ l = w.heap.size := fun e => hx3 e.symm
  replace h2 := Lib.hid h2
  replace hB02 := Lib.hid hB02
  replace hB01 := Lib.hid hB01
  replace hres := Lib.hid hres
  have hfin : ∀ (A : Option Addr) (c' : Nat) (w4 : World), (A = some ⟨p, o + 3, none⟩ ∨ (A = some ⟨p, o, none⟩ ∧ O = [])) → O.length ≤ c' ∧ c' ≤ maxLen →
      Ld w4 b r bu le (.slice A1 U.length c1) (.slice A O.length c') 0 → Fr (fun k => k = b ∨ k = w.heap.size) w2 w4 →
      DGoes w b r bu le (.slice A1 U.length c1) (.slice (some ⟨p, o, none⟩) (O.length + 1) c2) (a1, a2, false) U O 0 (.returned (.agg #[.int .i64 a1, .int .u64 a2, .bool false])) w4 := by
    intro A c' w4 hA hc' hl4 hf4
    have hu4 : SL w4 b (.slice A1 U.length c1) U := h2.out.u.fr hf4 (fun k e e' => by
      have h2 := h.out.u.own_lt e
      omega)
    have ho4 := h2.out.o.fr hf4 (fun k e e' => by
      have h2 := h.out.o.own_lt e
      omega)
    refine ⟨_, _, rfl, ⟨hl4, hu4, ho4.tail hA hc'⟩, ((Fr.of_below hB02.out).then hf4 (fun i hi e => by omega)), ?_⟩
    rintro k (e | e | e)
    · exact .inl e
    · exact .inr (.inl e)
    · rcases hA with rfl | ⟨rfl, -⟩ <;> exact .inr (.inr e)
  replace hfin := Lib.hid hfin
  rcases hne with hne | ⟨rfl, rfl⟩
  · go_wp2_with fail
    refine bodyPost_ret (results_askd rfl _ _ w.heap.size (.int .i64 a1) (.int .u64 a2) (.bool false) 82 rfl ?q1) rfl (hfin.out (some ⟨p, o + 3, none⟩) (c2 - 1) _ (.inl rfl) (by have := hm2.out; omega) ?q2 ?q3)
    case q1 => exact ((((hres.out.set _ (Ne.symm hbne)).set _ (Ne.symm hbne)).setSame 0 _).setSame 1 _).setSame 2 _
    case q2 => exact (((Bl.setSame (Bl.setSame h2.out.ld 4 _) 5 _).set _ hbne).set _ hbne).set _ hbne
    case q3 => exact (((((Fr.refl _ _).set _ (fun _ => .inl rfl)).set _ (fun _ => .inl rfl)).set _ (fun _ => .inr rfl)).set _ (fun _ => .inr rfl)).set _ (fun _ => .inr rfl)
  · go_wp2_with fail
    refine bodyPost_ret (results_askd rfl _ _ w.heap.size (.int .i64 a1) (.int .u64 a2) (.bool false) 82 rfl ?q1) rfl (hfin.out (some ⟨p, o, none⟩) 0 _ (by simp) (by unfold maxLen; simp) ?q2 ?q3)
    case q1 => exact ((((hres.out.set _ (Ne.symm hbne)).set _ (Ne.symm hbne)).setSame 0 _).setSame 1 _).setSame 2 _
    case q2 => exact (((Bl.setSame (Bl.setSame h2.out.ld 4 _) 5 _).set _ hbne).set _ hbne).set _ hbne
    case q3 => exact (((((Fr.refl _ _).set _ (fun _ => .inl rfl)).set _ (fun _ => .inl rfl)).set _ (fun _ => .inr rfl)).set _ (fun _ => .inr rfl)).set _ (fun _ => .inr rfl)
set_option maxRecDepth 100000 in
theorem dgoesU (b : Nat) (r bu le : Int) (vU vO : Value) (U O : List A3) (a : A3) (row : Int) (w : World) (h : LD w b r bu le vU (a :: U) vO O row) (hn : U.length + O.length < 4096) (hah : ahI (a :: U) O row = 0) (hfl : a.2.2 = true) (hrow : 0 ≤ row ∧ row ≤ 10) :
    Calls Try.prog 31 #[.pointer (some ⟨b, 0, none⟩)] w (DGoes w b r bu le vU vO a U O (if O.length = 0 then 0 else row + 1)) := by
  have hr1 := hrow.1
  have hr2' := hrow.2
  have hd0 : hd (a :: U) O row = a := by unfold hd; rw [if_neg (by rw [hah]; decide), if_pos hah]; rfl
  obtain ⟨A1, c1, rfl, -⟩ := h.o
  obtain ⟨A2, c2, rfl, hr2, hc2, hm2, -⟩ := h.u
  obtain ⟨row2, hrow2⟩ : ∃ row2, (if O.length = 0 then 0 else row + 1) = row2 := ⟨_, rfl⟩
  rw [hrow2]
  have hrw : (O.length = 0 ∧ row2 = 0) ∨ (0 < (O.length : Int) ∧ row2 = row + 1) := by
    by_cases h0 : O.length = 0
    · rw [if_pos h0] at hrow2; exact .inl ⟨h0, hrow2.symm⟩
    · rw [if_neg h0] at hrow2; exact .inr ⟨by omega, hrow2.symm⟩
  clear hrow2
  obtain ⟨p, o, rfl, -⟩ := hr2.2 (by simp)
  clear hr2
  obtain ⟨a1, a2, a3⟩ := a
  simp only at hfl
  subst hfl
  have hdn : decide (0 < ((a1, a2, true) :: U).length + O.length) = true := decide_eq_true (by simp only [List.length_cons]; omega)
  have hz3 : (1 : Int) ≤ (U.length : Int) + 1 := by omega
  have hbl : b < w.heap.size := h.ld.lt
  have hne : ¬ c2 = 1 ∨ (c2 = 1 ∧ U = []) := by
    by_cases h1 : c2 = 1
    · right; refine ⟨h1, List.eq_nil_of_length_eq_zero (by simp at hc2; omega)⟩
    · exact .inl h1
  have hB0 : Below w.heap.size w (w.alloc (.cells #[.int .i64 0, .int .u64 0, .bool false] 82)) := (Below.refl _ _).alloc (Nat.le_refl _) _
  have hN := next_any b r bu le _ _ ((a1, a2, true) :: U) O row _ (h.keep hB0) (by simp; omega)
  rw [hd0, hdn] at hN
  have hres : Bl (w.alloc (.cells #[.int .i64 0, .int .u64 0, .bool false] 82)) w.heap.size (.cells #[.int .i64 0, .int .u64 0, .bool false] 82 (0, 0)) := Bl.new' rfl
  replace hN := Lib.hid hN
  replace h := Lib.hid h
  replace hc2 := Lib.hid hc2
  replace hm2 := Lib.hid hm2
  clear hah hd0 hdn
  go_enter Try.func31, Try.ntmps31
  go_wp2_with fail
  refine hN.out.mono ?_
  rintro e w1 ⟨rfl, hB1⟩
  have h1 := (h.out.keep hB0).keep hB1
  replace hres := hres.keep hB1
  have hB01 : Below w.heap.size w w1 := hB0.trans (hB1.mono (by simp))
  have hsz : w.heap.size < w1.heap.size := hres.lt
  unfold aV
  have hcc : U.length + 1 ≤ c2 := hc2.out
  replace h1 := Lib.hid h1
  clear hN
  go_upto_region 5 with (fail)
  have hB2 : Below w1.heap.size w1 (w1.alloc (.cells #[.int .i64 a1, .int .u64 a2, .bool true] 82)) := (Below.refl _ _).alloc (Nat.le_refl _) _
  have hloc : Bl (w1.alloc (.cells #[.int .i64 a1, .int .u64 a2, .bool true] 82)) w1.heap.size (.cells #[.int .i64 a1, .int .u64 a2, .bool true] 82 (0, 0)) := Bl.new' rfl
  have hx1 : ¬ b = w1.heap.size := by have := h1.out.ld.lt; omega
  have hx3 : ¬ w.heap.size = w1.heap.size := by omega
  obtain ⟨w2, hw2⟩ : ∃ w2, w1.alloc (.cells #[.int .i64 a1, .int .u64 a2, .bool true] 82) = w2 := ⟨_, rfl⟩
  obtain ⟨l, hl⟩ : ∃ l, w1.heap.size = l := ⟨_, rfl⟩
  rw [hw2] at hB2 hloc ⊢
  have h2 := h1.out.keep hB2
  replace hres := hres.keep hB2
  have hB02 := hB01.trans (hB2.mono (Nat.le_of_lt hsz))
  rw [hl] at hloc hx1 hx3 ⊢
  clear hw2 hl hB2 h1 hsz hB1
  have k4 : w2.cell? ⟨b, 3, none⟩ = some (.slice (some ⟨p, o, none⟩) (U.length + 1) c2) := h2.ld.cell 3
  have k4' : w2.cell? ⟨b, 4, none⟩ = some (.slice A1 O.length c1) := h2.ld.cell 4
  have k5 : w2.cell? ⟨b, 5, none⟩ = some (.int .i64 row) := h2.ld.cell 5
  have f4 := h2.ld.frozen 3
  have f5 := h2.ld.frozen 5
  have x0 : w2.cell? ⟨l, 0, none⟩ = some (.int .i64 a1) := hloc.cell 0
  have x1 : w2.cell? ⟨l, 1, none⟩ = some (.int .u64 a2) := hloc.cell 1
  have x2 : w2.cell? ⟨l, 2, none⟩ = some (.bool true) := hloc.cell 2
  have y0 : w2.cell? ⟨w.heap.size, 0, none⟩ = some (.int .i64 0) := hres.cell 0
  have y1 : w2.cell? ⟨w.heap.size, 1, none⟩ = some (.int .u64 0) := hres.cell 1
  have y2 : w2.cell? ⟨w.heap.size, 2, none⟩ = some (.bool false) := hres.cell 2
  have g0 := hres.frozen 0
  have g1 := hres.frozen 1
  have g2 := hres.frozen 2
  have hbne : b ≠ w.heap.size := by omega
  have hx0 : ¬ w.heap.size = b := by omega
  have hx2 : ¬ l = b := fun e => hx1 e.symm
  have hx4 : ¬ l = w.heap.size := fun e => hx3 e.symm
  replace h2 := Lib.hid h2
  replace hB02 := Lib.hid hB02
  replace hB01 := Lib.hid hB01
  replace hres := Lib.hid hres
  have hfin : ∀ (A : Option Addr) (c' : Nat) (w4 : World), (A = some ⟨p, o + 3, none⟩ ∨ (A = some ⟨p, o, none⟩ ∧ U = [])) → U.length ≤ c' ∧ c' ≤ maxLen →
      Ld w4 b r bu le (.slice A U.length c') (.slice A1 O.length c1) row2 → Fr (fun k => k = b ∨ k = w.heap.size) w2 w4 →
      DGoes w b r bu le (.slice (some ⟨p, o, none⟩) (U.length + 1) c2) (.slice A1 O.length c1) (a1, a2, true) U O row2 (.returned (.agg #[.int .i64 a1, .int .u64 a2, .bool true])) w4 := by
    intro A c' w4 hA hc' hl4 hf4
    have hu4 := h2.out.u.fr hf4 (fun k e e' => by
      have h2 := h.out.u.own_lt e
      omega)
    have ho4 : SL w4 b (.slice A1 O.length c1) O := h2.out.o.fr hf4 (fun k e e' => by
      have h2 := h.out.o.own_lt e
      omega)
    refine ⟨_, _, rfl, ⟨hl4, hu4.tail hA hc', ho4⟩, ((Fr.of_below hB02.out).then hf4 (fun i hi e => by omega)), ?_⟩
    rintro k (e | e | e)
    · exact .inl e
    · rcases hA with rfl | ⟨rfl, -⟩ <;> exact .inr (.inl e)
    · exact .inr (.inr e)
  replace hfin := Lib.hid hfin
  obtain ⟨no, hno⟩ : ∃ no, O.length = no := ⟨_, rfl⟩
  rw [hno] at hrw k4'
  clear hno
  rcases hrw with ⟨rfl, rfl⟩ | ⟨hro, rfl⟩
  · rcases hne with hne | ⟨rfl, rfl⟩
    · go_wp2_with fail
      refine bodyPost_ret (results_askd rfl _ _ w.heap.size (.int .i64 a1) (.int .u64 a2) (.bool true) 82 rfl ?q1) rfl (hfin.out (some ⟨p, o + 3, none⟩) (c2 - 1) _ (.inl rfl) (by have := hm2.out; omega) ?q2 ?q3)
      case q1 => exact ((((hres.out.set _ (Ne.symm hbne)).set _ (Ne.symm hbne)).setSame 0 _).setSame 1 _).setSame 2 _
      case q2 => exact (((Bl.setSame (Bl.setSame h2.out.ld 3 _) 5 _).set _ hbne).set _ hbne).set _ hbne
      case q3 => exact (((((Fr.refl _ _).set _ (fun _ => .inl rfl)).set _ (fun _ => .inl rfl)).set _ (fun _ => .inr rfl)).set _ (fun _ => .inr rfl)).set _ (fun _ => .inr rfl)
    · go_wp2_with fail
      refine bodyPost_ret (results_askd rfl _ _ w.heap.size (.int .i64 a1) (.int .u64 a2) (.bool true) 82 rfl ?q1) rfl (hfin.out (some ⟨p, o, none⟩) 0 _ (by simp) (by unfold maxLen; simp) ?q2 ?q3)
      case q1 => exact ((((hres.out.set _ (Ne.symm hbne)).set _ (Ne.symm hbne)).setSame 0 _).setSame 1 _).setSame 2 _
      case q2 => exact (((Bl.setSame (Bl.setSame h2.out.ld 3 _) 5 _).set _ hbne).set _ hbne).set _ hbne
      case q3 => exact (((((Fr.refl _ _).set _ (fun _ => .inl rfl)).set _ (fun _ => .inl rfl)).set _ (fun _ => .inr rfl)).set _ (fun _ => .inr rfl)).set _ (fun _ => .inr rfl)
  · rcases hne with hne | ⟨rfl, rfl⟩
    · go_wp2_with fail
      refine bodyPost_ret (results_askd rfl _ _ w.heap.size (.int .i64 a1) (.int .u64 a2) (.bool true) 82 rfl ?s1) rfl (hfin.out (some ⟨p, o + 3, none⟩) (c2 - 1) _ (.inl rfl) (by have := hm2.out; omega) ?s2 ?s3)
      case s1 => exact ((((hres.out.set _ (Ne.symm hbne)).set _ (Ne.symm hbne)).setSame 0 _).setSame 1 _).setSame 2 _
      case s2 => exact (((Bl.setSame (Bl.setSame h2.out.ld 3 _) 5 _).set _ hbne).set _ hbne).set _ hbne
      case s3 => exact (((((Fr.refl _ _).set _ (fun _ => .inl rfl)).set _ (fun _ => .inl rfl)).set _ (fun _ => .inr rfl)).set _ (fun _ => .inr rfl)).set _ (fun _ => .inr rfl)
    · go_wp2_with fail
      refine bodyPost_ret (results_askd rfl _ _ w.heap.size (.int .i64 a1) (.int .u64 a2) (.bool true) 82 rfl ?s1) rfl (hfin.out (some ⟨p, o, none⟩) 0 _ (by simp) (by unfold maxLen; simp) ?s2 ?s3)
      case s1 => exact ((((hres.out.set _ (Ne.symm hbne)).set _ (Ne.symm hbne)).setSame 0 _).setSame 1 _).setSame 2 _
      case s2 => exact (((Bl.setSame (Bl.setSame h2.out.ld 3 _) 5 _).set _ hbne).set _ hbne).set _ hbne
      case s3 => exact (((((Fr.refl _ _).set _ (fun _ => .inl rfl)).set _ (fun _ => .inl rfl)).set _ (fun _ => .inr rfl)).set _ (fun _ => .inr rfl)).set _ (fun _ => .inr rfl)
end Go.Proofs.Ytefeompdhalgcaa
