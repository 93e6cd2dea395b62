/- A step on the way to the laws of layer 6 (bloom): contracts of Go functions over the translation; no condition but those that each theorem names. -/
import Derived.Test.YtakgmkgipjfolaaProg
import Derived.RangeFuncNested
import Derived.RangeFuncBound
import Derived.RangeFuncCalls
import Derived.RangeFuncLeaves
import Derived.Shelf.Abstract
import Derived.Shelf.RegionOpen
import Derived.WalkKit
import Derived.OwnWalkIn
import Derived.TacticsInMore
import Derived.LoopNIn
import Derived.LoopIn
import Derived.Lib.Hide
import Derived.Outline
import Derived.Test.YtakgmkgipjfolaaSed
namespace Go.Proofs.Ytakgmkgipjfolaa
open Go.RowKit Go.Sed
set_option maxHeartbeats 1000000
attribute [local go_sem] Oper.semAt_some
/-- a block of one cell. -/
def one (W : World) (b : Nat) (v : Value) (T : TypeId) : Prop := Bl W b (.cells #[v] T (0, 0))
theorem one.cell {W : World} {b : Nat} {v : Value} {T : TypeId} (h : one W b v T) : W.cell? ⟨b, 0, none⟩ = some v := Bl.cell1 h
theorem one.frozen {W : World} {b : Nat} {v : Value} {T : TypeId} (h : one W b v T) : W.frozen? ⟨b, 0, none⟩ = false := Bl.frozen h 0
theorem one.set {W : World} {k : Nat} {u : Value} {T : TypeId} (h : one W k u T) {b i : Nat} (v : Value) (hne : k ≠ b) : one (W.setCell ⟨b, i, none⟩ v) k u T := Bl.set h v hne
theorem one.setSame {W : World} {k : Nat} {u : Value} {T : TypeId} (h : one W k u T) (v : Value) : one (W.setCell ⟨k, 0, none⟩ v) k v T := Bl.setSame1 h v
theorem one.put {W : World} {k : Nat} {u : Value} {T : TypeId} (h : one W k u T) {r : Nat} (o : Obj) (hne : k ≠ r) : one (W.putObj r o) k u T := Bl.put h o hne
def pA (h : Int) : Nat → Int
  | 0 => h % 4294967296
  | n + 1 => IntKind.u32.wrap (pA h n + Go.bits .or .u32 (h / 4294967296 % 4294967296) 1)
theorem pA_bd (h : Int) (i : Nat) : 0 ≤ pA h i ∧ pA h i < 4294967296 := by
  cases i with
  | zero => unfold pA; omega
  | succ n => unfold pA; simp only [IntKind.wrap, IntKind.bits, IntKind.signed]; simp; omega
/-- the closure's own cells, i rounds on. -/
def PC (bm ba bb bc : Nat) (many : Nat) (bits h : Int) (i : Nat) (W : World) : Prop :=
  one W bm (.int .i64 many) 3 ∧ one W ba (.int .u32 (pA h i)) 41 ∧ one W bb (.int .u64 bits) 38 ∧ one W bc (.int .u32 (Go.bits .or .u32 (h / 4294967296 % 4294967296) 1)) 41
theorem PC.put {bm ba bb bc many : Nat} {bits h : Int} {i : Nat} {W : World} (p : PC bm ba bb bc many bits h i W) {r : Nat} (o : Obj) (h1 : bm ≠ r) (h2 : ba ≠ r) (h3 : bb ≠ r) (h4 : bc ≠ r) :
    PC bm ba bb bc many bits h i (W.putObj r o) := ⟨p.1.put _ h1, p.2.1.put _ h2, p.2.2.1.put _ h3, p.2.2.2.put _ h4⟩
theorem PC.set {bm ba bb bc many : Nat} {bits h : Int} {i : Nat} {W : World} (p : PC bm ba bb bc many bits h i W) {b j : Nat} (v : Value) (h1 : bm ≠ b) (h2 : ba ≠ b) (h3 : bb ≠ b) (h4 : bc ≠ b) :
    PC bm ba bb bc many bits h i (W.setCell ⟨b, j, none⟩ v) := ⟨p.1.set _ h1, p.2.1.set _ h2, p.2.2.1.set _ h3, p.2.2.2.set _ h4⟩
set_option maxHeartbeats 400000 in
theorem probes1_in (l n : Nat) (bm ba bb bc : Nat) (many : Nat) (bits h : Int) (hm : many ≤ 1000) (hb : 0 < bits) (hb2 : bits < 18446744073709551616) (J J' : Nat → World → Prop) (Jx : World → Prop)
    (hJ : ∀ i W, J i W → PC bm ba bb bc many bits h i W)
    (hR : ∀ i W, i < many → J i W → YieldAt Fence.wide (n - 1) Try.prog l #[.int .u64 (pA h i % bits)] W fun e W' =>
      (e = .returned (.bool true) ∧ J' i W') ∨ (e = .returned (.bool false) ∧ Jx W'))
    (hS : ∀ i W, J' i W → PC bm ba bb bc many bits h i W ∧ J (i + 1) (W.setCell ⟨ba, 0, none⟩ (.int .u32 (pA h (i + 1)))))
    (W : World) (h0 : J 0 W) :
    CallsIn Fence.wide n Try.prog 13 #[.func (.yield l) #[] #[], .pointer (some ⟨bm, 0, none⟩), .pointer (some ⟨ba, 0, none⟩), .pointer (some ⟨bb, 0, none⟩), .pointer (some ⟨bc, 0, none⟩)] W
      fun e W' => (∃ v, e = .returned v) ∧ (J many W' ∨ Jx W') := by
  obtain ⟨c1, -, -, -⟩ := hJ 0 W h0
  have c1 := c1.cell
  refine callsIn_of_wp Try.func13 rfl trivial ?_ rfl
  simp only [Try.ntmps13, List.size_toArray, List.length_cons, List.length_nil, Nat.reduceAdd, Nat.reduceSub, Array.replicate_succ, Array.replicate_zero, List.push_toArray, List.append_toArray, List.nil_append, List.cons_append]
  gi_wp2
  gi_loopw [7] (fun p wr => ∃ i : Nat, i ≤ many ∧ p = .int .i64 i ∧ J i wr) (fun p _ => many - (intOf p).toNat)
  case atStart => exact ⟨0, Nat.zero_le _, rfl, h0⟩
  case round =>
    clear c1
    obtain ⟨i, hi, rfl, hj⟩ := hrel
    by_cases hlt : i < many
    · obtain ⟨fn, tmps, assign, body, hy, hR'⟩ := hR i wr hlt hj
      obtain ⟨c1, c2, c3, c4⟩ := hJ i wr hj
      have c2 := c2.cell
      have c3 := c3.cell
      have hp := pA_bd h i
      gi_wp2
      refine ⟨fun h => by simp [Fence.wide] at h, hR'.mono ?_⟩
      clear hy hR' c1 c2 c3 c4
      rintro e W' (⟨rfl, hj'⟩ | ⟨rfl, hx⟩)
      · obtain ⟨⟨d1, d2, d3, d4⟩, hj1⟩ := hS i W' hj'
        have f2 := d2.frozen
        have d2 := d2.cell
        have d4 := d4.cell
        dsimp only
        gi_wp2
        go_roundw
        case rel => exact ⟨i + 1, by omega, by go_num, hj1⟩
        case measure => simp [intOf]; omega
      · dsimp only
        gi_wp2
        refine bodyPost_ret (results_none rfl _ _ _) rfl ?_
        exact ⟨⟨_, rfl⟩, .inr hx⟩
    · obtain rfl : i = many := by omega
      gi_wp2
      go_end0
      exact ⟨⟨_, rfl⟩, .inl hj⟩
end Go.Proofs.Ytakgmkgipjfolaa
