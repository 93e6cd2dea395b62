/- Contracts of layer 20 (stall): a step. -/
import Derived.Test.YtefeompdhalgcaaProg
import Derived.RangeFuncNested
import Derived.RangeFuncBound
import Derived.RangeFuncCalls
import Derived.RangeFuncLeaves
import Derived.Shelf.Abstract
import Derived.Shelf.RegionOpen
import Derived.WalkKit
import Derived.OwnWalkIn
import Derived.TacticsInMore
import Derived.LoopNIn
import Derived.LoopIn
import Derived.Lib.Hide
import Derived.Outline
import Derived.RegionTactic
import Derived.BigRegion
import Derived.WalkLawsBesides
import Derived.WalkSpells
import Derived.Deep.QuietTactic
import Derived.BigQuiet
import Derived.Deep.RegionHeld3
import Derived.Lib.Bytealg
import Derived.Lib.ConvBytes
import Derived.Laws.BytesArg
import Derived.Test.YtefeompdhalgcaaSed
import Derived.Test.YtefeompdhalgcaaOwn
import Derived.Deep.DeepCutAuto
import Derived.Deep.CutBlock
import Derived.Laws.Externs
import Derived.Test.YtefeompdhalgcaaStallB
namespace Go.Proofs.Ytefeompdhalgcaa
open Go.RowKit Go.Sed
set_option maxHeartbeats 1000000
theorem add64_any (x y : Nat) (w : World) (hx : x < 18446744073709551616) (hy : y < 18446744073709551616) :
    (callFunc 43 #[.int .u64 x, .int .u64 y, .int .u64 0]).run Try.prog w =
      .ok (.value (.tuple #[.int .u64 (((x + y) % 18446744073709551616 : Nat) : Int), .int .u64 (((x + y) / 18446744073709551616 : Nat) : Int)])) w := by
  rw [run_callFunc_extern (f := 43) Try.func43 (by kernel_rfl) (by kernel_rfl) (by kernel_rfl) (e := add64Entry) (by kernel_rfl), run_add64 x y 0 (by omega) (by omega) (by omega) (by omega)]
  simp only [Result.andThen]
  congr 5 <;> omega
theorem plus_any (a b : Int) (w : World) (ha : 0 ≤ a ∧ a < 18446744073709551616) (hb : 0 ≤ b ∧ b < 18446744073709551616) :
    Calls Try.prog 27 #[.int .u64 a, .int .u64 b] w fun e w' => e = .returned (.int .u64 (plusI a b)) ∧ w = w' := by
  obtain ⟨x, rfl⟩ := Int.eq_ofNat_of_zero_le ha.1
  obtain ⟨y, rfl⟩ := Int.eq_ofNat_of_zero_le hb.1
  have hx : x < 18446744073709551616 := by omega
  have hy : y < 18446744073709551616 := by omega
  have hadd := add64_any x y w hx hy
  unfold plusI
  clear ha hb
  by_cases hc : (18446744073709551615 : Int) < (x : Int) + y
  · rw [if_pos hc]
    have h1 : (x + y) / 18446744073709551616 = 1 := by omega
    rw [h1] at hadd
    clear hc h1 hx hy
    go_enter Try.func27, Try.ntmps27
    go_wp2
    go_ret
    exact ⟨rfl, rfl⟩
  · rw [if_neg hc]
    have h1 : (x + y) / 18446744073709551616 = 0 := by omega
    have h2 : (x + y) % 18446744073709551616 = x + y := by omega
    rw [h1, h2] at hadd
    clear hc h1 h2 hx hy
    go_enter Try.func27, Try.ntmps27
    go_wp2
    go_ret
    exact ⟨rfl, rfl⟩
/-- who goes next, and what is left. -/
def nx (le : Int) (U O : List A3) (row : Int) : Option (A3 × Int × List A3 × List A3 × Int) :=
  if ahI U O row = 1 then match O with
    | a :: O' => if le < a.2.1 then none else some (a, le - a.2.1, U, O', 0)
    | [] => none
  else if ahI U O row = 0 then match U with
    | a :: U' => if le < a.2.1 then none else some (a, le - a.2.1, U', O, if O.length = 0 then 0 else row + 1)
    | [] => none
  else none
def runS : Nat → Int → List A3 → List A3 → Int → List Int × Int × List A3 × List A3 × Int
  | 0, le, U, O, row => ([], le, U, O, row)
  | f + 1, le, U, O, row => match nx le U O row with
    | none => ([], le, U, O, row)
    | some (a, le', U', O', row') => (a.1 :: (runS f le' U' O' row').1, (runS f le' U' O' row').2)
def StepRes (w : World) (b : Nat) (r bu le : Int) (vU : Value) (U : List A3) (vO : Value) (O : List A3) (row : Int) (e : Ending) (w' : World) : Prop :=
  ∃ v vU' vO', e = .returned v ∧ OW w' w.heap.size 1 v (runS (U.length + O.length) (minI (plusI le r) bu) U O row).1.length ((runS (U.length + O.length) (minI (plusI le r) bu) U O row).1.map (Value.int .i64)) ∧
    LO w' b r bu (runS (U.length + O.length) (minI (plusI le r) bu) U O row).2.1 vU' (runS (U.length + O.length) (minI (plusI le r) bu) U O row).2.2.1 vO' (runS (U.length + O.length) (minI (plusI le r) bu) U O row).2.2.2.1 (runS (U.length + O.length) (minI (plusI le r) bu) U O row).2.2.2.2 ∧
    Fr (foot b vU vO) w w' ∧ (∀ k, foot b vU' vO' k → foot b vU vO k ∨ w.heap.size ≤ k) ∧ ∀ k, v.ownBlock = some k → ¬ foot b vU' vO' k
theorem ah_cases (U O : List A3) (row : Int) : (ahI U O row = -1 ∧ U = [] ∧ O = []) ∨ (ahI U O row = 1 ∧ ∃ a O', O = a :: O') ∨ (ahI U O row = 0 ∧ ∃ a U', U = a :: U') := by
  unfold ahI ahN
  rcases U with _ | ⟨a, U'⟩ <;> rcases O with _ | ⟨c, O'⟩
  · exact .inl ⟨by simp, rfl, rfl⟩
  · exact .inr (.inl ⟨by simp, _, _, rfl⟩)
  · exact .inr (.inr ⟨by simp, _, _, rfl⟩)
  · by_cases h : 10 ≤ row
    · exact .inr (.inl ⟨by simp [h], _, _, rfl⟩)
    · exact .inr (.inr ⟨by simp [h], _, _, rfl⟩)
structure SJ (w0 : World) (b : Nat) (r bu : Int) (vU vO : Value) (total : Nat) (fin : List Int × Int × List A3 × List A3 × Int) (vw : Value) (done : List Int) (le : Int) (U O : List A3) (row : Int) (vU1 vO1 : Value) (W : World) : Prop where
  who : OW W w0.heap.size 1 vw done.length (done.map (Value.int .i64))
  lo : LO W b r bu le vU1 U vO1 O row
  fr : Fr (foot b vU vO) w0 W
  inn : ∀ k, foot b vU1 vO1 k → foot b vU vO k ∨ w0.heap.size ≤ k
  out : ∀ k, vw.ownBlock = some k → ¬ foot b vU1 vO1 k
  fin : fin = (done ++ (runS (U.length + O.length) le U O row).1, (runS (U.length + O.length) le U O row).2)
  tot : done.length + U.length + O.length = total
  row : 0 ≤ row ∧ row ≤ 10
  le : 0 ≤ le ∧ le < 18446744073709551616
  all : ∀ a, a ∈ U ∨ a ∈ O → 0 ≤ a.2.1 ∧ a.2.1 < 18446744073709551616
theorem infoInt : (Try.prog.info? 3).map (fun i => (i.zero, i.size, i.bytes)) = some (some (.int .i64 0), 1, 8) := by kernel_rfl
def lenV : Value → Nat
  | .slice _ n _ => n
  | _ => 0
theorem LO.keep {w w' : World} {b : Nat} {r bu le row : Int} {vU vO : Value} {U O : List A3} (h : LO w b r bu le vU U vO O row) (hB : Below w.heap.size w w') : LO w' b r bu le vU U vO O row :=
  ⟨Bl.keep h.lm hB, h.u.keep hB, h.o.keep hB, h.apart⟩
theorem runS_none {le : Int} {U O : List A3} {row : Int} (h : nx le U O row = none) : ∀ f, runS f le U O row = ([], le, U, O, row)
  | 0 => rfl
  | f + 1 => by unfold runS; rw [h]
theorem step_done {w0 : World} {b : Nat} {r bu : Int} {vU vO : Value} {total : Nat} {fin : List Int × Int × List A3 × List A3 × Int} {vw : Value} {done : List Int} {le : Int} {U O : List A3} {row : Int} {vU1 vO1 : Value} {W W' : World}
    (hj : SJ w0 b r bu vU vO total fin vw done le U O row vU1 vO1 W) (hx : nx le U O row = none) (hB : Below W.heap.size W W') :
    ∃ v vU' vO', Ending.returned vw = .returned v ∧ OW W' w0.heap.size 1 v fin.1.length (fin.1.map (Value.int .i64)) ∧ LO W' b r bu fin.2.1 vU' fin.2.2.1 vO' fin.2.2.2.1 fin.2.2.2.2 ∧ Fr (foot b vU vO) w0 W' ∧ (∀ k, foot b vU' vO' k → foot b vU vO k ∨ w0.heap.size ≤ k) ∧ ∀ k, v.ownBlock = some k → ¬ foot b vU' vO' k := by
  have hf := hj.fin
  rw [runS_none hx] at hf
  simp only [List.append_nil] at hf
  subst hf
  exact ⟨vw, vU1, vO1, rfl, hj.who.keep hB, hj.lo.keep hB, hj.fr.thenB hB, hj.inn, hj.out⟩
theorem nx_end (le row : Int) : nx le [] [] row = none := by unfold nx ahI ahN; simp
/-- a step's state, without what is still to come. -/
structure SK (w0 : World) (b : Nat) (r bu : Int) (vU vO : Value) (vw : Value) (done : List Int) (le : Int) (U O : List A3) (row : Int) (vU1 vO1 : Value) (W : World) : Prop where
  who : OW W w0.heap.size 1 vw done.length (done.map (Value.int .i64))
  lo : LO W b r bu le vU1 U vO1 O row
  fr : Fr (foot b vU vO) w0 W
  inn : ∀ k, foot b vU1 vO1 k → foot b vU vO k ∨ w0.heap.size ≤ k
  out : ∀ k, vw.ownBlock = some k → ¬ foot b vU1 vO1 k
theorem SK.below {w0 W W' : World} {b : Nat} {r bu le row : Int} {vU vO vw vU1 vO1 : Value} {done : List Int} {U O : List A3} (h : SK w0 b r bu vU vO vw done le U O row vU1 vO1 W) (hB : Below W.heap.size W W') :
    SK w0 b r bu vU vO vw done le U O row vU1 vO1 W' := ⟨h.who.keep hB, h.lo.keep hB, h.fr.thenB hB, h.inn, h.out⟩
theorem SK.left {w0 W : World} {b : Nat} {r bu le row : Int} {vU vO vw vU1 vO1 : Value} {done : List Int} {U O : List A3} (h : SK w0 b r bu vU vO vw done le U O row vU1 vO1 W) (x : Int) :
    SK w0 b r bu vU vO vw done x U O row vU1 vO1 (W.setCell ⟨b, 2, none⟩ (.int .u64 x)) := by
  have hnb : ∀ v n xs, OW W (b + 1) 3 v n xs → v.ownBlock ≠ some b := fun v n xs hv e => by have := (hv.lt _ e).1; omega
  refine ⟨h.who.set _ (fun e => h.out _ e (.inl rfl)), ⟨Bl.setSame h.lo.lm 2 _, h.lo.u.set _ (hnb _ _ _ h.lo.u), h.lo.o.set _ (hnb _ _ _ h.lo.o), h.lo.apart⟩, h.fr.set _ (fun _ => .inl rfl), h.inn, h.out⟩
theorem SK.goesO {w0 W W' : World} {b : Nat} {r bu le row row' : Int} {vU vO vw vU1 vO1 v' : Value} {done : List Int} {U O O' : List A3} (h : SK w0 b r bu vU vO vw done le U O row vU1 vO1 W)
    (ho : OW W' W.heap.size 3 v' O'.length (fl O')) (hl : Lm W' b r bu le vU1 v' row') (hf : Fr (fun k => k = b) W W') : SK w0 b r bu vU vO vw done le U O' row' vU1 v' W' := by
  have hbl : b < W.heap.size := h.lo.lm.lt
  have hnew : ∀ k, v'.ownBlock = some k → W.heap.size ≤ k := fun k e => (ho.lt k e).1
  refine ⟨h.who.fr hf (fun k e e' => h.out k e (.inl e')), ⟨hl, h.lo.u.fr hf (fun k e e' => by have := (h.lo.u.lt _ e).1; omega), ho.more (by omega), fun k e e' => by have := (h.lo.u.lt _ e).2; have := hnew _ e'; omega⟩, ?_, ?_, ?_⟩
  · exact h.fr.then hf (fun i _ e => .inl e)
  · rintro k (e | e | e)
    · exact h.inn k (.inl e)
    · exact h.inn k (.inr (.inl e))
    · exact .inr (Nat.le_trans h.fr.size (hnew _ e))
  · rintro k e (e' | e' | e')
    · exact h.out k e (.inl e')
    · exact h.out k e (.inr (.inl e'))
    · have := (h.who.lt _ e).2; have := hnew _ e'; omega
theorem SK.goesU {w0 W W' : World} {b : Nat} {r bu le row row' : Int} {vU vO vw vU1 vO1 v' : Value} {done : List Int} {U U' O : List A3} (h : SK w0 b r bu vU vO vw done le U O row vU1 vO1 W)
    (ho : OW W' W.heap.size 3 v' U'.length (fl U')) (hl : Lm W' b r bu le v' vO1 row') (hf : Fr (fun k => k = b) W W') : SK w0 b r bu vU vO vw done le U' O row' v' vO1 W' := by
  have hbl : b < W.heap.size := h.lo.lm.lt
  have hnew : ∀ k, v'.ownBlock = some k → W.heap.size ≤ k := fun k e => (ho.lt k e).1
  refine ⟨h.who.fr hf (fun k e e' => h.out k e (.inl e')), ⟨hl, ho.more (by omega), h.lo.o.fr hf (fun k e e' => by have := (h.lo.o.lt _ e).1; omega), fun k e e' => by have := (h.lo.o.lt _ e').2; have := hnew _ e; omega⟩, ?_, ?_, ?_⟩
  · exact h.fr.then hf (fun i _ e => .inl e)
  · rintro k (e | e | e)
    · exact h.inn k (.inl e)
    · exact .inr (Nat.le_trans h.fr.size (hnew _ e))
    · exact h.inn k (.inr (.inr e))
  · rintro k e (e' | e' | e')
    · exact h.out k e (.inl e')
    · have := (h.who.lt _ e).2; have := hnew _ e'; omega
    · exact h.out k e (.inr (.inr e'))
theorem SK.append {w0 W W' : World} {b : Nat} {r bu le row : Int} {vU vO vw vw' vU1 vO1 : Value} {done : List Int} {U O : List A3} {x : Int} (h : SK w0 b r bu vU vO vw done le U O row vU1 vO1 W)
    (hown : OW W' w0.heap.size 1 vw' (done.length + 1) (done.map (Value.int .i64) ++ [.int .i64 x])) (hg : W.grownBy W' vw.ownBlock) (hc : vw'.ownBlock = vw.ownBlock ∨ vw'.ownBlock = some W.heap.size) :
    SK w0 b r bu vU vO vw' (done ++ [x]) le U O row vU1 vO1 W' := by
  have hf : Fr (fun k => vw.ownBlock = some k) W W' := (Fr.refl _ _).grown hg (fun k e _ => e)
  have hfl : ∀ k, foot b vU1 vO1 k → k < W.heap.size := by
    rintro k (e | e | e)
    · rw [e]; exact h.lo.lm.lt
    · exact (h.lo.u.lt _ e).2
    · exact (h.lo.o.lt _ e).2
  refine ⟨by simpa using hown, ⟨Bl.fr h.lo.lm hf (fun e => h.out _ e (.inl rfl)), h.lo.u.fr hf (fun k e e' => h.out _ e' (.inr (.inl e))), h.lo.o.fr hf (fun k e e' => h.out _ e' (.inr (.inr e))), h.lo.apart⟩, ?_, h.inn, ?_⟩
  · exact h.fr.grown hg (fun k e hk => by have := (h.who.lt _ e).1; omega)
  · intro k e hk
    rcases hc with hc | hc
    · exact h.out k (hc ▸ e) hk
    · rw [hc] at e
      simp only [Option.some.injEq] at e
      have := hfl k hk
      omega
theorem SJ.sk {w0 W : World} {b total : Nat} {r bu le row : Int} {vU vO vw vU1 vO1 : Value} {fin : List Int × Int × List A3 × List A3 × Int} {done : List Int} {U O : List A3} (h : SJ w0 b r bu vU vO total fin vw done le U O row vU1 vO1 W) :
    SK w0 b r bu vU vO vw done le U O row vU1 vO1 W := ⟨h.who, h.lo, h.fr, h.inn, h.out⟩
theorem runS_some {le le' : Int} {U O U' O' : List A3} {row row' : Int} {a : A3} (h : nx le U O row = some (a, le', U', O', row')) (hl : U.length + O.length = U'.length + O'.length + 1) :
    runS (U.length + O.length) le U O row = (a.1 :: (runS (U'.length + O'.length) le' U' O' row').1, (runS (U'.length + O'.length) le' U' O' row').2) := by
  rw [hl]; conv => lhs; unfold runS
  rw [h]
theorem SJ.next {w0 W W' : World} {b total : Nat} {r bu le le' row row' : Int} {vU vO vw vw' vU1 vO1 vU2 vO2 : Value} {fin : List Int × Int × List A3 × List A3 × Int} {done : List Int} {U O U' O' : List A3} {a : A3} (h : SJ w0 b r bu vU vO total fin vw done le U O row vU1 vO1 W)
    (hx : nx le U O row = some (a, le', U', O', row')) (hk : SK w0 b r bu vU vO vw' (done ++ [a.1]) le' U' O' row' vU2 vO2 W') (hl : U.length + O.length = U'.length + O'.length + 1) (hr : 0 ≤ row' ∧ row' ≤ 10) (hle : 0 ≤ le' ∧ le' < 18446744073709551616)
    (hall : ∀ a, a ∈ U' ∨ a ∈ O' → 0 ≤ a.2.1 ∧ a.2.1 < 18446744073709551616) : SJ w0 b r bu vU vO total fin vw' (done ++ [a.1]) le' U' O' row' vU2 vO2 W' := by
  refine ⟨hk.who, hk.lo, hk.fr, hk.inn, hk.out, ?_, ?_, hr, hle, hall⟩
  · rw [h.fin, runS_some hx hl]; simp
  · have := h.tot; simp; omega
theorem step_left {b : Nat} {r bu le row x : Int} {vU vO : Value} {U O : List A3} {w : World} (h : LO w b r bu le vU U vO O row) :
    (w.setCell ⟨b, 2, none⟩ (.int .u64 x)).drew.heap.size = w.heap.size ∧ LO (w.setCell ⟨b, 2, none⟩ (.int .u64 x)).drew b r bu x vU U vO O row ∧ Fr (fun k => k = b) w (w.setCell ⟨b, 2, none⟩ (.int .u64 x)).drew := by
  have hnb : ∀ v n xs, OW w (b + 1) 3 v n xs → v.ownBlock ≠ some b := fun v n xs hv e => by have := (hv.lt _ e).1; omega
  exact ⟨by simp, ⟨Bl.drew (Bl.setSame h.lm 2 _), (h.u.set _ (hnb _ _ _ h.u)).drew, (h.o.set _ (hnb _ _ _ h.o)).drew, h.apart⟩, ((Fr.refl (fun k => k = b) w).set _ (fun _ => rfl)).drew⟩
theorem step_any (b : Nat) (r bu le : Int) (vU vO : Value) (U O : List A3) (row : Int) (w : World) (hLO : LO w b r bu le vU U vO O row) (hn : U.length + O.length ≤ 4096)
    (hr : 0 ≤ r ∧ r < 18446744073709551616) (hbu : 0 ≤ bu ∧ bu < 18446744073709551616) (hle : 0 ≤ le ∧ le < 18446744073709551616) (hrow : 0 ≤ row ∧ row ≤ 10) (ha : ∀ a, a ∈ U ∨ a ∈ O → 0 ≤ a.2.1 ∧ a.2.1 < 18446744073709551616) :
    Calls Try.prog 11 #[.pointer (some ⟨b, 0, none⟩)] w (StepRes w b r bu le vU U vO O row) := by
  obtain ⟨L, hL⟩ : ∃ L, minI (plusI le r) bu = L := ⟨_, rfl⟩
  have hLb : 0 ≤ L ∧ L < 18446744073709551616 := by rw [← hL]; unfold minI plusI; (repeat' split) <;> omega
  obtain ⟨fin, hfin⟩ : ∃ fin, runS (U.length + O.length) L U O row = fin := ⟨_, rfl⟩
  have hres : StepRes w b r bu le vU U vO O row = fun e w' => ∃ v vU' vO', e = .returned v ∧ OW w' w.heap.size 1 v fin.1.length (fin.1.map (Value.int .i64)) ∧ LO w' b r bu fin.2.1 vU' fin.2.2.1 vO' fin.2.2.2.1 fin.2.2.2.2 ∧ Fr (foot b vU vO) w w' ∧ (∀ k, foot b vU' vO' k → foot b vU vO k ∨ w.heap.size ≤ k) ∧ ∀ k, v.ownBlock = some k → ¬ foot b vU' vO' k := by
    funext e w'; unfold StepRes; rw [hL, hfin]
  rw [hres]
  clear hres
  replace hL := Lib.hid hL
  replace hfin := Lib.hid hfin
  replace hLb := Lib.hid hLb
  have hb := hLO.lm
  replace hLO := Lib.hid hLO
  have k0 : w.drew.cell? ⟨b, 0, none⟩ = some (.int .u64 r) := hb.cell 0
  have k1 : w.drew.cell? ⟨b, 1, none⟩ = some (.int .u64 bu) := hb.cell 1
  have k2 : w.drew.cell? ⟨b, 2, none⟩ = some (.int .u64 le) := hb.cell 2
  have k2' : w.cell? ⟨b, 2, none⟩ = some (.int .u64 le) := hb.cell 2
  have f2 : w.drew.frozen? ⟨b, 2, none⟩ = false := hb.frozen 2
  have f2' : w.frozen? ⟨b, 2, none⟩ = false := hb.frozen 2
  replace hn := Lib.hid hn
  replace ha := Lib.hid ha
  replace hrow := Lib.hid hrow
  go_enter Try.func11, Try.ntmps11
  go_wp2_with fail
  go_cut [20] (fun _ wx => wx.heap.size = w.heap.size ∧ LO wx b r bu L vU U vO O row ∧ Fr (fun k => k = b) w wx)
  case first =>
    have k0' : w.cell? ⟨b, 0, none⟩ = some (.int .u64 r) := k0
    have k1' : w.cell? ⟨b, 1, none⟩ = some (.int .u64 bu) := k1
    rw [show Op.load 29 (Operand.tmp 9) = id (Op.load 29 (Operand.tmp 9)) from rfl]
    go_region_held3 (fun W => W.cell? ⟨b, 0, none⟩ = some (.int .u64 r) ∧ W.cell? ⟨b, 1, none⟩ = some (.int .u64 bu)) (first | exact ⟨k0, k1⟩ | exact ⟨(step_left hLO.out).2.1.lm.cell 0, (step_left hLO.out).2.1.lm.cell 1⟩)
      ((go_at_call 27; refine (plus_any _ _ _ hle hr).mono ?_; rintro e w' ⟨rfl, rfl⟩))
    all_goals go_wp2_with fail
    all_goals go_meet
    all_goals first
    | (rw [← hL.out, show minI (plusI le r) bu = bu from by unfold minI; exact if_pos (by first | assumption | omega)]; exact step_left hLO.out)
    | (rw [← hL.out, show minI (plusI le r) bu = plusI le r from by unfold minI; exact if_neg (by first | assumption | omega)]; exact step_left hLO.out)
  case rest =>
    obtain ⟨hsz, hL1, hF1⟩ := hcut
    have hst : SJ w b r bu vU vO (U.length + O.length) fin (.slice none 0 0) [] L U O row vU vO wc :=
      ⟨OW.nil _ _ _, hL1, hF1.mono (fun _ _ e => .inl e), fun k e => .inl e, fun k e => by simp [Value.ownBlock] at e, by rw [hfin.out]; rfl, by simp, hrow.out, hLb.out, ha.out⟩
    clear hL1 hF1 hL hfin k0 k1 k2 k2' f2 f2' hle
    obtain ⟨tot, htot⟩ : ∃ tot, U.length + O.length = tot := ⟨_, rfl⟩
    rw [htot] at hst hn
    replace hst := Lib.hid hst
    go_wp2_with fail
    go_loopw [3, 4, 5] (fun vw _ _ wr => ∃ done le1 U1 O1 row1 vU1 vO1, SJ w b r bu vU vO tot fin vw done le1 U1 O1 row1 vU1 vO1 wr) (fun vw _ _ _ => tot - lenV vw)
    case atStart => exact ⟨_, _, _, _, _, _, _, hst.out⟩
    case round =>
      clear hst
      obtain ⟨done, le1, U1, O1, row1, vU1, vO1, hj⟩ := hrel
      have hsu := SL.of_own hj.lo.u (Nat.lt_succ_self b)
      have hso := SL.of_own hj.lo.o (Nat.lt_succ_self b)
      have hlm := hj.lo.lm
      obtain ⟨Aw, cw, rfl, -⟩ := hj.who.shape
      have htl : U1.length + O1.length ≤ 4096 := by have := hj.tot; have := hn.out; omega
      replace hj := Lib.hid hj
      replace hsu := Lib.hid hsu
      replace hso := Lib.hid hso
      replace hlm := Lib.hid hlm
      replace htl := Lib.hid htl
      rcases ah_cases U1 O1 row1 with ⟨hah, rfl, rfl⟩ | ⟨hah, a, O', rfl⟩ | ⟨hah, a, U', rfl⟩
      · replace hah := Lib.hid hah
        go_wp2_with (go_at_call 28; refine (ahead_any b r bu le1 _ _ row1 _ _ _ hlm.out hsu.out hso.out htl.out).mono ?_; rintro e w3 ⟨rfl, hB3⟩; rw [hah.out])
        go_region
        go_wp2_with fail
        go_ret
        exact step_done hj.out (nx_end _ _) hB3.drew
      · obtain ⟨AO, cO, rfl, hrO, hlO, -, hAO⟩ := hso.out
        obtain ⟨p, o, rfl, -⟩ := hrO.2 (by simp)
        obtain ⟨a1, a2, a3⟩ := a
        have e1 : wr.cell? ⟨p, o + 1, none⟩ = some (.int .u64 a2) := hrO.cellAt (j := 1) rfl
        have k4 : wr.cell? ⟨b, 4, none⟩ = some (.slice (some ⟨p, o, none⟩) (O'.length + 1) cO) := Bl.cell hlm.out 4
        have k2 : wr.cell? ⟨b, 2, none⟩ = some (.int .u64 le1) := Bl.cell hlm.out 2
        have hlz : (1 : Int) ≤ (O'.length : Int) + 1 := by omega
        by_cases hby : le1 < a2
        · have hnx : nx le1 U1 ((a1, a2, a3) :: O') row1 = none := by unfold nx; rw [if_pos hah]; exact if_pos hby
          replace hah := Lib.hid hah
          replace hrO := Lib.hid hrO
          go_wp2_with (go_at_call 28; refine (ahead_any b r bu le1 _ _ row1 _ _ _ hlm.out hsu.out hso.out htl.out).mono ?_; rintro e w3 ⟨rfl, hB3⟩; rw [hah.out]; replace e1 := cell_keep hB3 e1; replace k4 := cell_keep hB3 k4; replace k2 := cell_keep hB3 k2)
          go_region
          go_wp2_with fail
          go_ret
          exact step_done hj.out hnx hB3.drew
        · have hnx : nx le1 U1 ((a1, a2, a3) :: O') row1 = some ((a1, a2, a3), le1 - a2, U1, O', 0) := by unfold nx; rw [if_pos hah]; exact if_neg hby
          replace hah := Lib.hid hah
          replace hrO := Lib.hid hrO
          replace hnx := Lib.hid hnx
          go_wp2_with (go_at_call 28; refine (ahead_any b r bu le1 _ _ row1 _ _ _ hlm.out hsu.out hso.out htl.out).mono ?_; rintro e w3 ⟨rfl, hB3⟩; rw [hah.out]; replace e1 := cell_keep hB3 e1; replace k4 := cell_keep hB3 k4; replace k2 := cell_keep hB3 k2)
          go_region
          replace hB3 := hB3.drew
          have sk := hj.out.sk.below hB3
          have sko := SL.of_own sk.lo.o (Nat.lt_succ_self b)
          have sku := SL.of_own sk.lo.u (Nat.lt_succ_self b)
          have skl := sk.lo.lm
          obtain ⟨w4, hw4⟩ : ∃ w4, w3.drew = w4 := ⟨_, rfl⟩
          rw [hw4] at sk sko sku skl hB3 ⊢
          clear hw4 e1 k4 k2
          replace sk := Lib.hid sk
          replace sko := Lib.hid sko
          replace sku := Lib.hid sku
          go_wp2_with (go_at_call 29; refine (goesO b r bu le1 _ _ row1 (a1, a2, a3) O' U1 _ skl sko.out sku.out (by have := htl.out; simp at this; omega)).mono ?_; rintro e w5 ⟨v5, rfl, ho5, hl5, hf5⟩; obtain ⟨A5, c5, rfl, -⟩ := ho5.shape; have sk5 := Lib.hid (sk.out.goesO ho5 hl5 hf5); have k2 : w5.cell? ⟨b, 2, none⟩ = some (.int .u64 le1) := Bl.cell hl5 2; have f2 : w5.frozen? ⟨b, 2, none⟩ = false := Bl.frozen hl5 2; have hbl : b < w5.heap.size := Bl.lt hl5; clear hl5 ho5 hf5; unfold aV)
          have sk6 := Lib.hid (sk5.out.below ((Below.refl _ _).alloc (Nat.le_refl _) (.cells #[.int .i64 a1, .int .u64 a2, .bool a3] 77 (0, 0))))
          have yb : Bl (w5.alloc (.cells #[.int .i64 a1, .int .u64 a2, .bool a3] 77 (0, 0))) w5.heap.size (.cells #[.int .i64 a1, .int .u64 a2, .bool a3] 77 (0, 0)) := Bl.new' rfl
          replace k2 := cell_keep ((Below.refl _ _).alloc (Nat.le_refl _) (.cells #[.int .i64 a1, .int .u64 a2, .bool a3] 77 (0, 0))) k2
          have f2 : (w5.alloc (.cells #[.int .i64 a1, .int .u64 a2, .bool a3] 77 (0, 0))).frozen? ⟨b, 2, none⟩ = false := Bl.frozen sk6.out.lo.lm 2
          obtain ⟨w6, hw6⟩ : ∃ w6, w5.alloc (.cells #[.int .i64 a1, .int .u64 a2, .bool a3] 77 (0, 0)) = w6 := ⟨_, rfl⟩
          obtain ⟨g, hg⟩ : ∃ g, w5.heap.size = g := ⟨_, rfl⟩
          rw [hw6] at sk6 yb k2 f2 ⊢
          rw [hg] at yb hbl ⊢
          clear hw6 hg sk5 sk sko sku skl
          have y0 : w6.cell? ⟨g, 0, none⟩ = some (.int .i64 a1) := yb.cell 0
          have y1 : w6.cell? ⟨g, 1, none⟩ = some (.int .u64 a2) := yb.cell 1
          have hgb : g ≠ b := by omega
          have hle1 := hj.out.le
          have ha2 := hj.out.all (a1, a2, a3) (.inr (by simp))
          have hsub : IntKind.u64.wrap (le1 - a2) = le1 - a2 := by simp [IntKind.wrap, IntKind.bits, IntKind.signed]; simp at ha2; omega
          have hnew : 0 ≤ le1 - a2 ∧ le1 - a2 < 18446744073709551616 := by simp at ha2; omega
          clear hle1 ha2
          replace hnew := Lib.hid hnew
          go_region
          have sk7 := Lib.hid ((sk6.out.left (le1 - a2)).below (Below.refl _ _).drew)
          replace yb := (yb.set (b := b) (i := 2) (.int .u64 (le1 - a2)) hgb).drew
          obtain ⟨w7, hw7⟩ : ∃ w7, (w6.setCell ⟨b, 2, none⟩ (.int .u64 (le1 - a2))).drew = w7 := ⟨_, rfl⟩
          rw [hw7] at sk7 yb ⊢
          clear hw7 sk6 y0 y1 k2 f2
          have y0 : w7.cell? ⟨g, 0, none⟩ = some (.int .i64 a1) := yb.cell 0
          have sk8 := Lib.hid (sk7.out.below ((Below.refl _ _).alloc (Nat.le_refl _) (.cells #[.int .i64 a1] 3)))
          have hdl : done.length ≤ 4096 := by have := hj.out.tot; have := hn.out; omega
          replace hdl := Lib.hid hdl
          go_wp2_with (at_builtin; refine wpList_append_ow rfl _ _ 35 rfl w.heap.size 3 Try.underlying35 infoInt rfl (by decide) _ done.length _ rfl sk8.out.who _ 1 1 [.int .i64 a1] rfl (rd_one rfl _ _) (by intro u hu; simp at hu; subst hu; rfl) (by have := hdl.out; unfold maxLen; omega) (by have := hdl.out; omega) (by have := sk8.out.fr.size; exact this) ?_; intro v' w8 hown hgr hc; have sk9 := Lib.hid (sk8.out.append hown hgr hc); obtain ⟨A9, c9, rfl, -⟩ := hown.shape; clear hown hgr hc)
          go_roundw
          case rel => exact ⟨_, _, _, _, _, _, _, hj.out.next hnx.out sk9.out (by simp; omega) (by omega) hnew.out (fun a h => hj.out.all a (by rcases h with h | h; exact .inl h; exact .inr (List.mem_cons_of_mem _ h)))⟩
          case measure => have := hj.out.tot; simp [lenV] at *; omega
      · obtain ⟨AO, cO, rfl, hrO, hlO, -, hAO⟩ := hsu.out
        obtain ⟨p, o, rfl, -⟩ := hrO.2 (by simp)
        obtain ⟨a1, a2, a3⟩ := a
        have e1 : wr.cell? ⟨p, o + 1, none⟩ = some (.int .u64 a2) := hrO.cellAt (j := 1) rfl
        have k4 : wr.cell? ⟨b, 3, none⟩ = some (.slice (some ⟨p, o, none⟩) (U'.length + 1) cO) := Bl.cell hlm.out 3
        have k2 : wr.cell? ⟨b, 2, none⟩ = some (.int .u64 le1) := Bl.cell hlm.out 2
        have hlz : (1 : Int) ≤ (U'.length : Int) + 1 := by omega
        by_cases hby : le1 < a2
        · have hnx : nx le1 ((a1, a2, a3) :: U') O1 row1 = none := by unfold nx; rw [if_neg (by rw [hah]; decide), if_pos hah]; exact if_pos hby
          replace hah := Lib.hid hah
          replace hrO := Lib.hid hrO
          go_wp2_with (go_at_call 28; refine (ahead_any b r bu le1 _ _ row1 _ _ _ hlm.out hsu.out hso.out htl.out).mono ?_; rintro e w3 ⟨rfl, hB3⟩; rw [hah.out]; replace e1 := cell_keep hB3 e1; replace k4 := cell_keep hB3 k4; replace k2 := cell_keep hB3 k2)
          go_region
          go_wp2_with fail
          go_ret
          exact step_done hj.out hnx hB3.drew
        · have hnx : nx le1 ((a1, a2, a3) :: U') O1 row1 = some ((a1, a2, a3), le1 - a2, U', O1, if O1.length = 0 then 0 else row1 + 1) := by unfold nx; rw [if_neg (by rw [hah]; decide), if_pos hah]; exact if_neg hby
          have hr10 : 0 < O1.length → row1 < 10 := fun h0 => by
            unfold ahI ahN at hah
            rw [if_neg (by simp), if_neg (by simp)] at hah
            by_cases h10 : 10 ≤ row1
            · rw [if_pos ⟨h0, h10⟩] at hah; omega
            · omega
          obtain ⟨row2, hrow2⟩ : ∃ row2, (if O1.length = 0 then 0 else row1 + 1) = row2 := ⟨_, rfl⟩
          have hrw : (O1.length = 0 ∧ row2 = 0) ∨ (0 < O1.length ∧ row2 = wrap64 (row1 + 1)) := by
            have hrb := hj.out.row
            by_cases h0 : O1.length = 0
            · left; rw [if_pos h0] at hrow2; exact ⟨h0, hrow2.symm⟩
            · right; rw [if_neg h0] at hrow2
              have := hr10 (by omega)
              refine ⟨by omega, ?_⟩
              rw [← hrow2]; unfold wrap64; omega
          have hr2 : 0 ≤ row2 ∧ row2 ≤ 10 := by
            have hrb := hj.out.row
            by_cases h0 : O1.length = 0
            · rw [if_pos h0] at hrow2; omega
            · rw [if_neg h0] at hrow2
              have := hr10 (by omega)
              omega
          rw [hrow2] at hnx
          clear hrow2 hr10
          replace hrw := Lib.hid hrw
          replace hr2 := Lib.hid hr2
          replace hah := Lib.hid hah
          replace hrO := Lib.hid hrO
          replace hnx := Lib.hid hnx
          go_wp2_with (go_at_call 28; refine (ahead_any b r bu le1 _ _ row1 _ _ _ hlm.out hsu.out hso.out htl.out).mono ?_; rintro e w3 ⟨rfl, hB3⟩; rw [hah.out]; replace e1 := cell_keep hB3 e1; replace k4 := cell_keep hB3 k4; replace k2 := cell_keep hB3 k2)
          go_region
          replace hB3 := hB3.drew
          have sk := hj.out.sk.below hB3
          have sko := SL.of_own sk.lo.o (Nat.lt_succ_self b)
          have sku := SL.of_own sk.lo.u (Nat.lt_succ_self b)
          have skl := sk.lo.lm
          obtain ⟨w4, hw4⟩ : ∃ w4, w3.drew = w4 := ⟨_, rfl⟩
          rw [hw4] at sk sko sku skl hB3 ⊢
          clear hw4 e1 k4 k2
          replace sk := Lib.hid sk
          replace sko := Lib.hid sko
          replace sku := Lib.hid sku
          go_wp2_with (go_at_call 29; refine (goesU b r bu le1 _ _ row1 row2 (a1, a2, a3) U' O1 _ skl sku.out sko.out (by have := htl.out; simp at this; omega) hrw.out).mono ?_; rintro e w5 ⟨v5, rfl, ho5, hl5, hf5⟩; obtain ⟨A5, c5, rfl, -⟩ := ho5.shape; have sk5 := Lib.hid (sk.out.goesU ho5 hl5 hf5); have k2 : w5.cell? ⟨b, 2, none⟩ = some (.int .u64 le1) := Bl.cell hl5 2; have f2 : w5.frozen? ⟨b, 2, none⟩ = false := Bl.frozen hl5 2; have hbl : b < w5.heap.size := Bl.lt hl5; clear hl5 ho5 hf5; unfold aV)
          have sk6 := Lib.hid (sk5.out.below ((Below.refl _ _).alloc (Nat.le_refl _) (.cells #[.int .i64 a1, .int .u64 a2, .bool a3] 77 (0, 0))))
          have yb : Bl (w5.alloc (.cells #[.int .i64 a1, .int .u64 a2, .bool a3] 77 (0, 0))) w5.heap.size (.cells #[.int .i64 a1, .int .u64 a2, .bool a3] 77 (0, 0)) := Bl.new' rfl
          replace k2 := cell_keep ((Below.refl _ _).alloc (Nat.le_refl _) (.cells #[.int .i64 a1, .int .u64 a2, .bool a3] 77 (0, 0))) k2
          have f2 : (w5.alloc (.cells #[.int .i64 a1, .int .u64 a2, .bool a3] 77 (0, 0))).frozen? ⟨b, 2, none⟩ = false := Bl.frozen sk6.out.lo.lm 2
          obtain ⟨w6, hw6⟩ : ∃ w6, w5.alloc (.cells #[.int .i64 a1, .int .u64 a2, .bool a3] 77 (0, 0)) = w6 := ⟨_, rfl⟩
          obtain ⟨g, hg⟩ : ∃ g, w5.heap.size = g := ⟨_, rfl⟩
          rw [hw6] at sk6 yb k2 f2 ⊢
          rw [hg] at yb hbl ⊢
          clear hw6 hg sk5 sk sko sku skl
          have y0 : w6.cell? ⟨g, 0, none⟩ = some (.int .i64 a1) := yb.cell 0
          have y1 : w6.cell? ⟨g, 1, none⟩ = some (.int .u64 a2) := yb.cell 1
          have hgb : g ≠ b := by omega
          have hle1 := hj.out.le
          have ha2 := hj.out.all (a1, a2, a3) (.inl (by simp))
          have hsub : IntKind.u64.wrap (le1 - a2) = le1 - a2 := by simp [IntKind.wrap, IntKind.bits, IntKind.signed]; simp at ha2; omega
          have hnew : 0 ≤ le1 - a2 ∧ le1 - a2 < 18446744073709551616 := by simp at ha2; omega
          clear hle1 ha2
          replace hnew := Lib.hid hnew
          go_region
          have sk7 := Lib.hid ((sk6.out.left (le1 - a2)).below (Below.refl _ _).drew)
          replace yb := (yb.set (b := b) (i := 2) (.int .u64 (le1 - a2)) hgb).drew
          obtain ⟨w7, hw7⟩ : ∃ w7, (w6.setCell ⟨b, 2, none⟩ (.int .u64 (le1 - a2))).drew = w7 := ⟨_, rfl⟩
          rw [hw7] at sk7 yb ⊢
          clear hw7 sk6 y0 y1 k2 f2
          have y0 : w7.cell? ⟨g, 0, none⟩ = some (.int .i64 a1) := yb.cell 0
          have sk8 := Lib.hid (sk7.out.below ((Below.refl _ _).alloc (Nat.le_refl _) (.cells #[.int .i64 a1] 3)))
          have hdl : done.length ≤ 4096 := by have := hj.out.tot; have := hn.out; omega
          replace hdl := Lib.hid hdl
          go_wp2_with (at_builtin; refine wpList_append_ow rfl _ _ 35 rfl w.heap.size 3 Try.underlying35 infoInt rfl (by decide) _ done.length _ rfl sk8.out.who _ 1 1 [.int .i64 a1] rfl (rd_one rfl _ _) (by intro u hu; simp at hu; subst hu; rfl) (by have := hdl.out; unfold maxLen; omega) (by have := hdl.out; omega) (by have := sk8.out.fr.size; exact this) ?_; intro v' w8 hown hgr hc; have sk9 := Lib.hid (sk8.out.append hown hgr hc); obtain ⟨A9, c9, rfl, -⟩ := hown.shape; clear hown hgr hc)
          go_roundw
          case rel => exact ⟨_, _, _, _, _, _, _, hj.out.next hnx.out sk9.out (by simp; omega) hr2.out hnew.out (fun a h => hj.out.all a (by rcases h with h | h; exact .inl (List.mem_cons_of_mem _ h); exact .inr h))⟩
          case measure => have := hj.out.tot; simp [lenV] at *; omega
end Go.Proofs.Ytefeompdhalgcaa
