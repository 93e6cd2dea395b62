/- Contracts of the document's limiter (sedimentref20): an ask. -/
import Derived.Test.YtefeompdhalgcaaProg
import Derived.RangeFuncNested
import Derived.RangeFuncBound
import Derived.RangeFuncCalls
import Derived.RangeFuncLeaves
import Derived.Shelf.Abstract
import Derived.Shelf.RegionOpen
import Derived.WalkKit
import Derived.OwnWalkIn
import Derived.TacticsInMore
import Derived.LoopNIn
import Derived.LoopIn
import Derived.Lib.Hide
import Derived.Outline
import Derived.RegionTactic
import Derived.BigRegion
import Derived.WalkLawsBesides
import Derived.WalkSpells
import Derived.Deep.QuietTactic
import Derived.BigQuiet
import Derived.Deep.RegionHeld3
import Derived.Lib.Bytealg
import Derived.Lib.ConvBytes
import Derived.Laws.BytesArg
import Derived.Test.YtefeompdhalgcaaSed
import Derived.Test.YtefeompdhalgcaaOwn
import Derived.Deep.DeepCutAuto
import Derived.Deep.CutBlock
import Derived.StillTailTactics
import Derived.WalkSmall
import Derived.Test.YtefeompdhalgcaaStallS
namespace Go.Proofs.Ytefeompdhalgcaa
open Go.RowKit Go.Sed
set_option maxHeartbeats 1000000
theorem dask_long (b : Nat) (r bu le : Int) (vU vO : Value) (U O : List A3) (row who n : Int) (ur : Bool) (w : World) (h : LD w b r bu le vU U vO O row) (hn : U.length + O.length ≤ 4096) (hl : bu < n ∨ U.length + O.length = 4096) :
    Calls Try.prog 14 #[.pointer (some ⟨b, 0, none⟩), .int .i64 who, .int .u64 n, .bool ur] w fun e w' => e = .returned (.int .i64 2) ∧ Below w.heap.size w w' := by
  obtain ⟨A1, c1, rfl, -⟩ := h.u
  obtain ⟨A2, c2, rfl, -⟩ := h.o
  obtain ⟨n1, hn1⟩ : ∃ n1, U.length = n1 := ⟨_, rfl⟩
  obtain ⟨n2, hn2⟩ : ∃ n2, O.length = n2 := ⟨_, rfl⟩
  have hb := h.ld
  clear h
  rw [hn1] at hb hn hl
  rw [hn2] at hb hn hl
  clear hn1 hn2
  have k1 : w.cell? ⟨b, 1, none⟩ = some (.int .u64 bu) := hb.cell 1
  have k3 : w.cell? ⟨b, 3, none⟩ = some (.slice A1 n1 c1) := hb.cell 3
  have k4 : w.cell? ⟨b, 4, none⟩ = some (.slice A2 n2 c2) := hb.cell 4
  have hw : wrap64 ((n1 : Int) + n2) = (n1 : Int) + n2 := by unfold wrap64; omega
  clear hb
  by_cases hl1 : bu < n
  · go_enter Try.func14, Try.ntmps14
    go_wp2_with fail
    go_region
    go_wp2_with fail
    go_ret
    exact ⟨rfl, (Below.refl _ _).drew⟩
  · have hl2 : (4096 : Int) ≤ (n1 : Int) + n2 := by omega
    have hd : decide (bu < n) = false := decide_eq_false hl1
    have hd' : (bu < n) = False := eq_false hl1
    clear hl hn
    go_enter Try.func14, Try.ntmps14
    go_wp2_with fail
    go_region
    go_wp2_with fail
    go_ret
    exact ⟨rfl, (Below.refl _ _).drew⟩
theorem ask2_fin {w1 w3 W w5 : World} {l b n c3 : Nat} {r bu le row : Int} {vU vO v5 : Value} {p : Option Addr} {U O L : List A3} {x : A3} {o : Obj} (h1 : LD w1 b r bu le vU U vO O row) (hloc : Bl w1 l o) (hwl : w1.heap.size = l + 1) (hB3 : Below w1.heap.size w1 w3) (hW : W = w3 ∨ ∃ o, W = w3.alloc o)
    (hown : OW w3 (l + 1) 3 (.slice p n c3) n (fl L)) (hown5 : OW w5 (l + 1) 3 v5 (n + 1) (fl L ++ fl [x])) (hgr : W.grownBy w5 (Value.slice p n c3).ownBlock) :
    LD w5 b r bu le vU U vO O row ∧ Bl w5 l o ∧ Below w1.heap.size w1 w5 ∧ OW w5 (l + 1) 3 v5 (n + 1) (fl (L ++ [x])) := by
  have hB5 : Below w1.heap.size w1 w5 := by
    rcases hW with rfl | ⟨o, rfl⟩
    · exact below_grow hB3 hB3.size hown (Nat.le_of_eq hwl) hgr
    · exact below_grow (hB3.alloc hB3.size o) (by have := hB3.size; simp; omega) (hown.alloc o) (Nat.le_of_eq hwl) hgr
  exact ⟨h1.keep hB5, hloc.keep hB5, hB5, by rw [fl_append]; exact hown5⟩
theorem ask3_u {w w5 : World} {l b : Nat} {r bu le row : Int} {vU vO v5 : Value} {U O : List A3} {x : A3} (h5 : LD w5 b r bu le vU U vO O row) (hbl : b < l) (hl : w.heap.size = l) (hB : Below w.heap.size w w5) (hown : OW w5 (l + 1) 3 v5 (U.length + 1) (fl (U ++ [x]))) :
    LD (w5.setCell ⟨b, 3, none⟩ v5) b r bu le v5 (U ++ [x]) vO O row ∧ Fr (fun k => k = b) w (w5.setCell ⟨b, 3, none⟩ v5) ∧ ∀ k, foot b v5 vO k → foot b vU vO k ∨ w.heap.size ≤ k := by
  have hF : Fr (fun k => k = b) w5 (w5.setCell ⟨b, 3, none⟩ v5) := (Fr.refl _ _).set _ (fun _ => rfl)
  have ho : OW (w5.setCell ⟨b, 3, none⟩ v5) (l + 1) 3 v5 (U ++ [x]).length (fl (U ++ [x])) := by
    rw [List.length_append]; exact hown.set _ (fun e => by have := (hown.lt _ e).1; omega)
  refine ⟨⟨Bl.setSame h5.ld 3 _, SL.of_own ho (by omega), h5.o.fr hF (fun k e => (h5.o.own_lt e).2)⟩, (Fr.of_below hB).set _ (fun _ => rfl), ?_⟩
  rintro k (e | e | e)
  · exact .inl (.inl e)
  · exact .inr (by have := (hown.lt _ e).1; omega)
  · exact .inl (.inr (.inr e))
theorem ask3_o {w w5 : World} {l b : Nat} {r bu le row : Int} {vU vO v5 : Value} {U O : List A3} {x : A3} (h5 : LD w5 b r bu le vU U vO O row) (hbl : b < l) (hl : w.heap.size = l) (hB : Below w.heap.size w w5) (hown : OW w5 (l + 1) 3 v5 (O.length + 1) (fl (O ++ [x]))) :
    LD (w5.setCell ⟨b, 4, none⟩ v5) b r bu le vU U v5 (O ++ [x]) row ∧ Fr (fun k => k = b) w (w5.setCell ⟨b, 4, none⟩ v5) ∧ ∀ k, foot b vU v5 k → foot b vU vO k ∨ w.heap.size ≤ k := by
  have hF : Fr (fun k => k = b) w5 (w5.setCell ⟨b, 4, none⟩ v5) := (Fr.refl _ _).set _ (fun _ => rfl)
  have ho : OW (w5.setCell ⟨b, 4, none⟩ v5) (l + 1) 3 v5 (O ++ [x]).length (fl (O ++ [x])) := by
    rw [List.length_append]; exact hown.set _ (fun e => by have := (hown.lt _ e).1; omega)
  refine ⟨⟨Bl.setSame h5.ld 4 _, h5.u.fr hF (fun k e => (h5.u.own_lt e).2), SL.of_own ho (by omega)⟩, (Fr.of_below hB).set _ (fun _ => rfl), ?_⟩
  rintro k (e | e | e)
  · exact .inl (.inl e)
  · exact .inl (.inr (.inl e))
  · exact .inr (by have := (hown.lt _ e).1; omega)
set_option maxRecDepth 100000 in
theorem dask_u (b : Nat) (r bu le : Int) (vU vO : Value) (U O : List A3) (row who n : Int) (w : World) (h : LD w b r bu le vU U vO O row) (hn : U.length + O.length < 4096) (hl : n ≤ bu) :
    Calls Try.prog 14 #[.pointer (some ⟨b, 0, none⟩), .int .i64 who, .int .u64 n, .bool true] w fun e w' => e = .returned (.int .i64 0) ∧ ∃ vU' vO', LD w' b r bu le vU' (U ++ [(who, n, true)]) vO' O row ∧ Fr (fun k => k = b) w w' ∧ ∀ k, foot b vU' vO' k → foot b vU vO k ∨ w.heap.size ≤ k := by
  obtain ⟨A1, c1, rfl, hr1, hc1, -, hA1⟩ := h.u
  obtain ⟨A2, c2, rfl, -⟩ := h.o
  have k1 : w.cell? ⟨b, 1, none⟩ = some (.int .u64 bu) := h.ld.cell 1
  have k3 : w.cell? ⟨b, 3, none⟩ = some (.slice A1 U.length c1) := h.ld.cell 3
  have k4 : w.cell? ⟨b, 4, none⟩ = some (.slice A2 O.length c2) := h.ld.cell 4
  have hw : wrap64 ((U.length : Int) + O.length) = (U.length : Int) + O.length := by unfold wrap64; omega
  have hl1 : ¬ bu < n := by omega
  have hd : decide (bu < n) = false := decide_eq_false hl1
  have hd' : (bu < n) = False := eq_false hl1
  have hl2 : ¬ (4096 : Int) ≤ (U.length : Int) + O.length := by omega
  have hbl : b < w.heap.size := h.ld.lt
  replace h := Lib.hid h
  replace hr1 := Lib.hid hr1
  replace hn := Lib.hid hn
  go_enter Try.func14, Try.ntmps14
  go_wp2_with fail
  go_region
  go_upto_region 5 with (fail)
  go_outline
  have hloc : Bl ((w.alloc (.cells #[.int .i64 who, .int .u64 n, .bool true] 82)).drew) w.heap.size (.cells #[.int .i64 who, .int .u64 n, .bool true] 82 (0, 0)) := Bl.new' rfl
  have hB1 : Below w.heap.size w ((w.alloc (.cells #[.int .i64 who, .int .u64 n, .bool true] 82)).drew) := ((Below.refl _ _).alloc (Nat.le_refl _) _).drew
  obtain ⟨w1, hw1⟩ : ∃ w1, (w.alloc (.cells #[.int .i64 who, .int .u64 n, .bool true] 82)).drew = w1 := ⟨_, rfl⟩
  obtain ⟨l, hlz⟩ : ∃ l, w.heap.size = l := ⟨_, rfl⟩
  rw [hw1] at hloc hB1 ⊢
  rw [hlz] at hloc hbl ⊢
  have h1 := Lib.hid (h.out.keep hB1)
  have hr1' := Lib.hid (hr1.out.keep hB1)
  have hlb : l ≠ b := by omega
  have hwl : w1.heap.size = l + 1 := by rw [← hw1]; simp [← hlz]
  clear hw1 k1 k3 k4
  have k3 : w1.drew.cell? ⟨b, 3, none⟩ = some (.slice A1 U.length c1) := h1.out.ld.cell 3
  have k3' : w1.cell? ⟨b, 3, none⟩ = some (.slice A1 U.length c1) := h1.out.ld.cell 3
  have x0 : w1.cell? ⟨l, 0, none⟩ = some (.int .i64 who) := hloc.cell 0
  have x1 : w1.cell? ⟨l, 1, none⟩ = some (.int .u64 n) := hloc.cell 1
  have x2 : w1.cell? ⟨l, 2, none⟩ = some (.bool true) := hloc.cell 2
  have hb1 : b < w1.heap.size := by omega
  have hl1' : l < w1.heap.size := by omega
  have hge : l + 1 ≤ w1.heap.size := by omega
  replace hwl := Lib.hid hwl
  replace hlz := Lib.hid hlz
  rw [show Op.load 49 (Operand.tmp 39) = id (Op.load 49 (Operand.tmp 39)) from rfl]
  have hS : ∀ W, Bl W l (.cells #[.int .i64 who, .int .u64 n, .bool true] 82 (0, 0)) → W.cell? ⟨l, 0, none⟩ = some (.int .i64 who) ∧ W.cell? ⟨l, 1, none⟩ = some (.int .u64 n) ∧ W.cell? ⟨l, 2, none⟩ = some (.bool true) := fun W hb => ⟨hb.cell 0, hb.cell 1, hb.cell 2⟩
  replace hS := Lib.hid hS
  go_region_held3 (fun W => W.cell? ⟨l, 0, none⟩ = some (.int .i64 who) ∧ W.cell? ⟨l, 1, none⟩ = some (.int .u64 n) ∧ W.cell? ⟨l, 2, none⟩ = some (.bool true)) ((refine hS.out _ ?_; first | exact hloc | exact Bl.alloc hloc _ | exact Bl.alloc (Bl.alloc hloc _) _ | exact hloc3 | exact Bl.alloc hloc3 _ | exact hloc5 | exact Bl.set hloc5 _ hlb)) ((first
    | (have _t := hown; (refine step_append_ow rfl _ _ 49 rfl (l + 1) 82 Try.underlying49 infoAskd rfl (by decide) _ _ _ rfl (by first | exact hown.out | exact hown.out.alloc _) _ 1 1 (fl [(who, n, true)]) rfl (by first | exact hnw.out | exact rd_new rfl (fl [(who, n, true)]) _ _ _ rfl) (fl_one _) (by have := hn.out; unfold maxLen; omega) (by have := hn.out; omega) (by have := hsz3.out; first | exact this | exact Nat.le_succ_of_le this | (simp; done) | (simp; omega)) ?_; intro v5 w5 hown5 hgr5 hcase5; obtain ⟨A5, c5, rfl, -⟩ := hown5.shape; obtain ⟨h5, hloc5, hB5, hown5'⟩ := ask2_fin h1.out hloc hwl.out hB3.out (by first | exact .inl rfl | exact .inr ⟨_, rfl⟩) hown.out hown5 hgr5; have i3 : w5.cell? ⟨b, 3, none⟩ = some (.slice A1 U.length c1) := h5.ld.cell 3; have f3 := h5.ld.frozen 3; replace h5 := Lib.hid h5; clear hown5; have hown5 := Lib.hid hown5'; clear hown5'; replace hB5 := Lib.hid hB5; clear hgr5 hcase5))
    | (refine step_append_ow rfl _ _ 49 rfl (l + 1) 82 Try.underlying49 infoAskd rfl (by decide) _ 0 [] rfl (by first | exact (OW.empty hge (Bl.new' rfl)).drew | exact (OW.empty hge (Bl.alloc (Bl.new' rfl) _)).drew | exact (OW.empty (Nat.le_succ_of_le hge) (Bl.new' (by simp))).drew) _ U.length c1 (fl U) rfl (by first | exact (hr1'.out.alloc _).drew | exact ((hr1'.out.alloc _).alloc _).drew) (fl_one _) (by have := hn.out; unfold maxLen; omega) (by have := hn.out; omega) (by have := hge; simp; omega) ?_; intro v' w3 hown hgr hcase; rw [Nat.zero_add, List.nil_append] at hown; obtain ⟨A3, c3, rfl, -⟩ := hown.shape; have hB3 : Below w1.heap.size w1 w3 := Below.grown (by first | exact ((Below.refl _ _).alloc (Nat.le_refl _) _).drew | exact (((Below.refl _ _).alloc (Nat.le_refl _) _).alloc (by first | (simp; done) | (simp; omega)) _).drew) hgr (by first | (simp; done) | (simp; omega)) (fun k hk => by first | (have h' : (some w1.heap.size : Option Nat) = some k := hk; simp only [Option.some.injEq] at h'; omega) | (have h' : (some (w1.heap.size + 1) : Option Nat) = some k := hk; simp only [Option.some.injEq] at h'; omega)); (first | (have hnw := Lib.hid (show Rd w3 3 (some ⟨w1.heap.size + 1, 0, none⟩) 1 (fl [(who, n, true)]) from (rd_new (w := w1.alloc (.cells #[] 82)) (k := w1.heap.size + 1) (by simp) (fl [(who, n, true)]) 82 1 3 rfl).drew.fr ((Fr.refl (fun k => k = w1.heap.size) _).grown hgr (fun k e _ => by have h' : (some w1.heap.size : Option Nat) = some k := e; simp only [Option.some.injEq] at h'; exact h'.symm)) (fun a e => by simp only [Option.some.injEq] at e; subst e; simp))) | (have hnw := Lib.hid (show Rd w3 3 (some ⟨w1.heap.size, 0, none⟩) 1 (fl [(who, n, true)]) from (((rd_new (w := w1) (k := w1.heap.size) rfl (fl [(who, n, true)]) 82 1 3 rfl).alloc _).drew).fr ((Fr.refl (fun k => k = w1.heap.size + 1) _).grown hgr (fun k e _ => by have h' : (some (w1.heap.size + 1) : Option Nat) = some k := e; simp only [Option.some.injEq] at h'; exact h'.symm)) (fun a e => by simp only [Option.some.injEq] at e; subst e; simp))) | skip); have hloc3 := hloc.keep hB3; have h3 := Lib.hid (h1.out.keep hB3); have j3 : w3.cell? ⟨b, 3, none⟩ = some (.slice A1 U.length c1) := h3.out.ld.cell 3; have hsz3 := Lib.hid (Nat.le_trans hge hB3.size); replace hown := Lib.hid hown; replace hB3 := Lib.hid hB3; clear hgr hcase)))
  all_goals go_wp2_with fail
  all_goals go_ret
  all_goals
    obtain ⟨q1, q2, q3⟩ := ask3_u h5.out hbl hlz.out (hB1.trans (hB5.out.mono hB1.size)) hown5.out
    exact ⟨rfl, _, _, q1, q2, q3⟩
set_option maxRecDepth 100000 in
theorem dask_o (b : Nat) (r bu le : Int) (vU vO : Value) (U O : List A3) (row who n : Int) (w : World) (h : LD w b r bu le vU U vO O row) (hn : U.length + O.length < 4096) (hl : n ≤ bu) :
    Calls Try.prog 14 #[.pointer (some ⟨b, 0, none⟩), .int .i64 who, .int .u64 n, .bool false] w fun e w' => e = .returned (.int .i64 0) ∧ ∃ vU' vO', LD w' b r bu le vU' U vO' (O ++ [(who, n, false)]) row ∧ Fr (fun k => k = b) w w' ∧ ∀ k, foot b vU' vO' k → foot b vU vO k ∨ w.heap.size ≤ k := by
  obtain ⟨A1, c1, rfl, hr1, hc1, -, hA1⟩ := h.o
  obtain ⟨A2, c2, rfl, -⟩ := h.u
  have k1 : w.cell? ⟨b, 1, none⟩ = some (.int .u64 bu) := h.ld.cell 1
  have k3 : w.cell? ⟨b, 3, none⟩ = some (.slice A2 U.length c2) := h.ld.cell 3
  have k4 : w.cell? ⟨b, 4, none⟩ = some (.slice A1 O.length c1) := h.ld.cell 4
  have hw : wrap64 ((U.length : Int) + O.length) = (U.length : Int) + O.length := by unfold wrap64; omega
  have hl1 : ¬ bu < n := by omega
  have hd : decide (bu < n) = false := decide_eq_false hl1
  have hd' : (bu < n) = False := eq_false hl1
  have hl2 : ¬ (4096 : Int) ≤ (U.length : Int) + O.length := by omega
  have hbl : b < w.heap.size := h.ld.lt
  replace h := Lib.hid h
  replace hr1 := Lib.hid hr1
  replace hn := Lib.hid hn
  go_enter Try.func14, Try.ntmps14
  go_wp2_with fail
  go_region
  go_upto_region 6 with (fail)
  go_outline
  have hloc : Bl ((w.alloc (.cells #[.int .i64 who, .int .u64 n, .bool false] 82)).drew) w.heap.size (.cells #[.int .i64 who, .int .u64 n, .bool false] 82 (0, 0)) := Bl.new' rfl
  have hB1 : Below w.heap.size w ((w.alloc (.cells #[.int .i64 who, .int .u64 n, .bool false] 82)).drew) := ((Below.refl _ _).alloc (Nat.le_refl _) _).drew
  obtain ⟨w1, hw1⟩ : ∃ w1, (w.alloc (.cells #[.int .i64 who, .int .u64 n, .bool false] 82)).drew = w1 := ⟨_, rfl⟩
  obtain ⟨l, hlz⟩ : ∃ l, w.heap.size = l := ⟨_, rfl⟩
  rw [hw1] at hloc hB1 ⊢
  rw [hlz] at hloc hbl ⊢
  have h1 := Lib.hid (h.out.keep hB1)
  have hr1' := Lib.hid (hr1.out.keep hB1)
  have hlb : l ≠ b := by omega
  have hwl : w1.heap.size = l + 1 := by rw [← hw1]; simp [← hlz]
  clear hw1 k1 k3 k4
  have k3 : w1.drew.cell? ⟨b, 4, none⟩ = some (.slice A1 O.length c1) := h1.out.ld.cell 4
  have k3' : w1.cell? ⟨b, 4, none⟩ = some (.slice A1 O.length c1) := h1.out.ld.cell 4
  have x0 : w1.cell? ⟨l, 0, none⟩ = some (.int .i64 who) := hloc.cell 0
  have x1 : w1.cell? ⟨l, 1, none⟩ = some (.int .u64 n) := hloc.cell 1
  have x2 : w1.cell? ⟨l, 2, none⟩ = some (.bool false) := hloc.cell 2
  have hb1 : b < w1.heap.size := by omega
  have hl1' : l < w1.heap.size := by omega
  have hge : l + 1 ≤ w1.heap.size := by omega
  replace hwl := Lib.hid hwl
  replace hlz := Lib.hid hlz
  rw [show Op.load 49 (Operand.tmp 51) = id (Op.load 49 (Operand.tmp 51)) from rfl]
  have hS : ∀ W, Bl W l (.cells #[.int .i64 who, .int .u64 n, .bool false] 82 (0, 0)) → W.cell? ⟨l, 0, none⟩ = some (.int .i64 who) ∧ W.cell? ⟨l, 1, none⟩ = some (.int .u64 n) ∧ W.cell? ⟨l, 2, none⟩ = some (.bool false) := fun W hb => ⟨hb.cell 0, hb.cell 1, hb.cell 2⟩
  replace hS := Lib.hid hS
  go_region_held3 (fun W => W.cell? ⟨l, 0, none⟩ = some (.int .i64 who) ∧ W.cell? ⟨l, 1, none⟩ = some (.int .u64 n) ∧ W.cell? ⟨l, 2, none⟩ = some (.bool false)) ((refine hS.out _ ?_; first | exact hloc | exact Bl.alloc hloc _ | exact Bl.alloc (Bl.alloc hloc _) _ | exact hloc3 | exact Bl.alloc hloc3 _ | exact hloc5 | exact Bl.set hloc5 _ hlb)) ((first
    | (have _t := hown; (refine step_append_ow rfl _ _ 49 rfl (l + 1) 82 Try.underlying49 infoAskd rfl (by decide) _ _ _ rfl (by first | exact hown.out | exact hown.out.alloc _) _ 1 1 (fl [(who, n, false)]) rfl (by first | exact hnw.out | exact rd_new rfl (fl [(who, n, false)]) _ _ _ rfl) (fl_one _) (by have := hn.out; unfold maxLen; omega) (by have := hn.out; omega) (by have := hsz3.out; first | exact this | exact Nat.le_succ_of_le this | (simp; done) | (simp; omega)) ?_; intro v5 w5 hown5 hgr5 hcase5; obtain ⟨A5, c5, rfl, -⟩ := hown5.shape; obtain ⟨h5, hloc5, hB5, hown5'⟩ := ask2_fin h1.out hloc hwl.out hB3.out (by first | exact .inl rfl | exact .inr ⟨_, rfl⟩) hown.out hown5 hgr5; have i3 : w5.cell? ⟨b, 4, none⟩ = some (.slice A1 O.length c1) := h5.ld.cell 4; have f3 := h5.ld.frozen 4; replace h5 := Lib.hid h5; clear hown5; have hown5 := Lib.hid hown5'; clear hown5'; replace hB5 := Lib.hid hB5; clear hgr5 hcase5))
    | (refine step_append_ow rfl _ _ 49 rfl (l + 1) 82 Try.underlying49 infoAskd rfl (by decide) _ 0 [] rfl (by first | exact (OW.empty hge (Bl.new' rfl)).drew | exact (OW.empty hge (Bl.alloc (Bl.new' rfl) _)).drew | exact (OW.empty (Nat.le_succ_of_le hge) (Bl.new' (by simp))).drew) _ O.length c1 (fl O) rfl (by first | exact (hr1'.out.alloc _).drew | exact ((hr1'.out.alloc _).alloc _).drew) (fl_one _) (by have := hn.out; unfold maxLen; omega) (by have := hn.out; omega) (by have := hge; simp; omega) ?_; intro v' w3 hown hgr hcase; rw [Nat.zero_add, List.nil_append] at hown; obtain ⟨A3, c3, rfl, -⟩ := hown.shape; have hB3 : Below w1.heap.size w1 w3 := Below.grown (by first | exact ((Below.refl _ _).alloc (Nat.le_refl _) _).drew | exact (((Below.refl _ _).alloc (Nat.le_refl _) _).alloc (by first | (simp; done) | (simp; omega)) _).drew) hgr (by first | (simp; done) | (simp; omega)) (fun k hk => by first | (have h' : (some w1.heap.size : Option Nat) = some k := hk; simp only [Option.some.injEq] at h'; omega) | (have h' : (some (w1.heap.size + 1) : Option Nat) = some k := hk; simp only [Option.some.injEq] at h'; omega)); (first | (have hnw := Lib.hid (show Rd w3 3 (some ⟨w1.heap.size + 1, 0, none⟩) 1 (fl [(who, n, false)]) from (rd_new (w := w1.alloc (.cells #[] 82)) (k := w1.heap.size + 1) (by simp) (fl [(who, n, false)]) 82 1 3 rfl).drew.fr ((Fr.refl (fun k => k = w1.heap.size) _).grown hgr (fun k e _ => by have h' : (some w1.heap.size : Option Nat) = some k := e; simp only [Option.some.injEq] at h'; exact h'.symm)) (fun a e => by simp only [Option.some.injEq] at e; subst e; simp))) | (have hnw := Lib.hid (show Rd w3 3 (some ⟨w1.heap.size, 0, none⟩) 1 (fl [(who, n, false)]) from (((rd_new (w := w1) (k := w1.heap.size) rfl (fl [(who, n, false)]) 82 1 3 rfl).alloc _).drew).fr ((Fr.refl (fun k => k = w1.heap.size + 1) _).grown hgr (fun k e _ => by have h' : (some (w1.heap.size + 1) : Option Nat) = some k := e; simp only [Option.some.injEq] at h'; exact h'.symm)) (fun a e => by simp only [Option.some.injEq] at e; subst e; simp))) | skip); have hloc3 := hloc.keep hB3; have h3 := Lib.hid (h1.out.keep hB3); have j3 : w3.cell? ⟨b, 4, none⟩ = some (.slice A1 O.length c1) := h3.out.ld.cell 4; have hsz3 := Lib.hid (Nat.le_trans hge hB3.size); replace hown := Lib.hid hown; replace hB3 := Lib.hid hB3; clear hgr hcase)))
  all_goals go_wp2_with fail
  all_goals go_ret
  all_goals
    obtain ⟨q1, q2, q3⟩ := ask3_o h5.out hbl hlz.out (hB1.trans (hB5.out.mono hB1.size)) hown5.out
    exact ⟨rfl, _, _, q1, q2, q3⟩
end Go.Proofs.Ytefeompdhalgcaa
