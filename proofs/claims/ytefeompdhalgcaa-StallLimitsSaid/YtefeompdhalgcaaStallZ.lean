/- The law of limits: both limiters side by side. -/
import Derived.Test.YtefeompdhalgcaaProg
import Derived.RangeFuncNested
import Derived.RangeFuncBound
import Derived.RangeFuncCalls
import Derived.RangeFuncLeaves
import Derived.Shelf.Abstract
import Derived.Shelf.RegionOpen
import Derived.WalkKit
import Derived.OwnWalkIn
import Derived.TacticsInMore
import Derived.LoopNIn
import Derived.LoopIn
import Derived.Lib.Hide
import Derived.Outline
import Derived.RegionTactic
import Derived.BigRegion
import Derived.WalkLawsBesides
import Derived.WalkSpells
import Derived.Deep.QuietTactic
import Derived.BigQuiet
import Derived.Deep.RegionHeld3
import Derived.Lib.Bytealg
import Derived.Lib.ConvBytes
import Derived.Laws.BytesArg
import Derived.Test.YtefeompdhalgcaaSed
import Derived.Test.YtefeompdhalgcaaOwn
import Derived.Deep.DeepCutAuto
import Derived.Deep.CutBlock
import Derived.StillTailTactics
import Derived.WalkSmall
import Derived.Test.YtefeompdhalgcaaStallY
namespace Go.Proofs.Ytefeompdhalgcaa
open Go.RowKit Go.Sed
set_option maxHeartbeats 1000000
/-- both limiters: the program's at b, the document's at d, each in a state of its own; they touch nothing of X. -/
def ZK (w0 : World) (b d : Nat) (r bu : Int) (X : Nat → Prop) (leP : Int) (UP OP : List A3) (rowP leD : Int) (UD OD : List A3) (rowD : Int) (W : World) : Prop :=
  ∃ vU vO dU dO, LO W b r bu leP vU UP vO OP rowP ∧ LD W d r bu leD dU UD dO OD rowD ∧ (∀ k, foot b vU vO k → ¬ foot d dU dO k ∧ ¬ X k ∧ w0.heap.size ≤ k) ∧ (∀ k, foot d dU dO k → ¬ X k ∧ w0.heap.size ≤ k) ∧ (∀ k, X k → k < W.heap.size) ∧ Below w0.heap.size w0 W
section
variable {w0 W W' : World} {b d : Nat} {r bu leP rowP leD rowD leP' rowP' leD' rowD' : Int} {X Y : Nat → Prop} {UP OP UD OD UP' OP' UD' OD' : List A3}
theorem ZK.bel (h : ZK w0 b d r bu X leP UP OP rowP leD UD OD rowD W) : Below w0.heap.size w0 W := by obtain ⟨_, _, _, _, _, _, _, _, _, hB⟩ := h; exact hB
theorem ZK.xlt (h : ZK w0 b d r bu X leP UP OP rowP leD UD OD rowD W) : ∀ k, X k → k < W.heap.size := by obtain ⟨_, _, _, _, _, _, _, _, hx, _⟩ := h; exact hx
theorem ZK.dcell (h : ZK w0 b d r bu X leP UP OP rowP leD UD OD rowD W) : W.cell? ⟨d, 2, none⟩ = some (.int .u64 leD) := by obtain ⟨_, _, _, _, _, hl, _⟩ := h; exact hl.ld.cell 2
theorem ZK.dlt (h : ZK w0 b d r bu X leP UP OP rowP leD UD OD rowD W) : d < W.heap.size := by obtain ⟨_, _, _, _, _, hl, _⟩ := h; exact hl.ld.lt
theorem ZK.keep (h : ZK w0 b d r bu X leP UP OP rowP leD UD OD rowD W) (hB : Below W.heap.size W W') : ZK w0 b d r bu X leP UP OP rowP leD UD OD rowD W' := by
  obtain ⟨vU, vO, dU, dO, h1, h2, h3, h4, h5, h6⟩ := h
  exact ⟨vU, vO, dU, dO, h1.keep hB, h2.keep hB, h3, h4, fun k hk => Nat.lt_of_lt_of_le (h5 k hk) hB.size, h6.trans (hB.mono h6.size)⟩
theorem ZK.less (h : ZK w0 b d r bu X leP UP OP rowP leD UD OD rowD W) (hY : ∀ k, Y k → X k) : ZK w0 b d r bu Y leP UP OP rowP leD UD OD rowD W := by
  obtain ⟨vU, vO, dU, dO, h1, h2, h3, h4, h5, h6⟩ := h
  exact ⟨vU, vO, dU, dO, h1, h2, fun k hk => ⟨(h3 k hk).1, fun e => (h3 k hk).2.1 (hY k e), (h3 k hk).2.2⟩, fun k hk => ⟨fun e => (h4 k hk).1 (hY k e), (h4 k hk).2⟩, fun k hk => h5 k (hY k hk), h6⟩
/-- what is new lies apart. -/
theorem ZK.grow (h : ZK w0 b d r bu X leP UP OP rowP leD UD OD rowD W) (hB : Below W.heap.size W W') : ZK w0 b d r bu (fun k => X k ∨ (W.heap.size ≤ k ∧ k < W'.heap.size)) leP UP OP rowP leD UD OD rowD W' := by
  obtain ⟨vU, vO, dU, dO, h1, h2, h3, h4, h5, h6⟩ := h
  refine ⟨vU, vO, dU, dO, h1.keep hB, h2.keep hB, fun k hk => ⟨(h3 k hk).1, ?_, (h3 k hk).2.2⟩, fun k hk => ⟨?_, (h4 k hk).2⟩, ?_, h6.trans (hB.mono h6.size)⟩
  · rintro (e | e)
    · exact (h3 k hk).2.1 e
    · have := foot_lt h1 hk; omega
  · rintro (e | e)
    · exact (h4 k hk).1 e
    · have := lfoot_lt h2 hk; omega
  · rintro k (hk | hk)
    · exact Nat.lt_of_lt_of_le (h5 k hk) hB.size
    · exact hk.2
/-- something of X is written. -/
theorem ZK.fr {F : Nat → Prop} (h : ZK w0 b d r bu X leP UP OP rowP leD UD OD rowD W) (hf : Fr F W W') (hF : ∀ k, F k → X k ∧ w0.heap.size ≤ k) : ZK w0 b d r bu X leP UP OP rowP leD UD OD rowD W' := by
  obtain ⟨vU, vO, dU, dO, h1, h2, h3, h4, h5, h6⟩ := h
  have hl : ∀ k, F k → ¬ foot b vU vO k := fun k e e' => (h3 k e').2.1 (hF k e).1
  refine ⟨vU, vO, dU, dO, ⟨Bl.fr h1.lm hf (fun e => hl _ e (.inl rfl)), h1.u.fr hf (fun k e e' => hl k e' (.inr (.inl e))), h1.o.fr hf (fun k e e' => hl k e' (.inr (.inr e))), h1.apart⟩, h2.fr hf (fun k e e' => (h4 k e').1 (hF k e).1), h3, h4, fun k hk => Nat.lt_of_lt_of_le (h5 k hk) hf.size, h6.trans (hf.below h6.size (fun i hi e => by have := (hF i e).2; omega))⟩
theorem zk_prog {vU vO dU dO vU' vO' : Value} (h1 : LO W b r bu leP vU UP vO OP rowP) (h2 : LD W d r bu leD dU UD dO OD rowD) (h3 : ∀ k, foot b vU vO k → ¬ foot d dU dO k ∧ ¬ X k ∧ w0.heap.size ≤ k) (h4 : ∀ k, foot d dU dO k → ¬ X k ∧ w0.heap.size ≤ k) (h5 : ∀ k, X k → k < W.heap.size) (h6 : Below w0.heap.size w0 W)
    (hl : LO W' b r bu leP' vU' UP' vO' OP' rowP') (hf : Fr (foot b vU vO) W W') (hi : ∀ k, foot b vU' vO' k → foot b vU vO k ∨ W.heap.size ≤ k) : ZK w0 b d r bu X leP' UP' OP' rowP' leD UD OD rowD W' ∧ Fr (fun k => ¬ X k ∧ w0.heap.size ≤ k) W W' := by
  refine ⟨⟨vU', vO', dU, dO, hl, h2.fr hf (fun k e => (h3 k e).1), ?_, h4, fun k hk => Nat.lt_of_lt_of_le (h5 k hk) hf.size, h6.trans (hf.below h6.size (fun i hi e => by have := (h3 i e).2.2; omega))⟩, hf.mono (fun i _ e => (h3 i e).2)⟩
  intro k hk
  rcases hi k hk with e | e
  · exact h3 k e
  · have hs := h6.size
    exact ⟨fun e' => by have := lfoot_lt h2 e'; omega, fun e' => by have := h5 k e'; omega, by omega⟩
theorem zk_ref {vU vO dU dO dU' dO' : Value} (h1 : LO W b r bu leP vU UP vO OP rowP) (h2 : LD W d r bu leD dU UD dO OD rowD) (h3 : ∀ k, foot b vU vO k → ¬ foot d dU dO k ∧ ¬ X k ∧ w0.heap.size ≤ k) (h4 : ∀ k, foot d dU dO k → ¬ X k ∧ w0.heap.size ≤ k) (h5 : ∀ k, X k → k < W.heap.size) (h6 : Below w0.heap.size w0 W)
    (hl : LD W' d r bu leD' dU' UD' dO' OD' rowD') (hf : Fr (fun k => k = d) W W') (hi : ∀ k, foot d dU' dO' k → foot d dU dO k ∨ W.heap.size ≤ k) : ZK w0 b d r bu X leP UP OP rowP leD' UD' OD' rowD' W' ∧ Fr (fun k => ¬ X k ∧ w0.heap.size ≤ k) W W' := by
  have hd : foot d dU dO d := .inl rfl
  have hl1 : ∀ k, k = d → ¬ foot b vU vO k := fun k e e' => (h3 k e').1 (e ▸ hd)
  have hs := h6.size
  refine ⟨⟨vU, vO, dU', dO', ⟨Bl.fr h1.lm hf (fun e => hl1 _ e (.inl rfl)), h1.u.fr hf (fun k e e' => hl1 k e' (.inr (.inl e))), h1.o.fr hf (fun k e e' => hl1 k e' (.inr (.inr e))), h1.apart⟩, hl, ?_, ?_, fun k hk => Nat.lt_of_lt_of_le (h5 k hk) hf.size, h6.trans (hf.below hs (fun i hi e => by have := (h4 d hd).2; omega))⟩, hf.mono (fun i _ e => e ▸ h4 d hd)⟩
  · intro k hk
    refine ⟨fun e => ?_, (h3 k hk).2⟩
    rcases hi k e with e | e
    · exact (h3 k hk).1 e
    · have := foot_lt h1 hk; omega
  · intro k hk
    rcases hi k hk with e | e
    · exact h4 k e
    · exact ⟨fun e' => by have := h5 k e'; omega, by omega⟩
theorem zk_ask (who n : Int) (ur : Bool) (h : ZK w0 b d r bu X leP UP OP rowP leD UD OD rowD W) (hn : UP.length + OP.length < 4096) (hl : n ≤ bu) :
    Calls Try.prog 10 #[.pointer (some ⟨b, 0, none⟩), .int .i64 who, .int .u64 n, .bool ur] W fun e w' => e = .returned (.int .i64 0) ∧
      ZK w0 b d r bu X leP (if ur then UP ++ [(who, n, ur)] else UP) (if ur then OP else OP ++ [(who, n, ur)]) rowP leD UD OD rowD w' ∧ Fr (fun k => ¬ X k ∧ w0.heap.size ≤ k) W w' := by
  obtain ⟨vU, vO, dU, dO, h1, h2, h3, h4, h5, h6⟩ := h
  have key : Calls Try.prog 10 #[.pointer (some ⟨b, 0, none⟩), .int .i64 who, .int .u64 n, .bool ur] W (AskRes W b r bu leP vU UP vO OP rowP (who, n, ur)) := by
    cases ur
    · exact ask_o b r bu leP vU vO UP OP rowP who n W h1 hn hl
    · exact ask_u b r bu leP vU vO UP OP rowP who n W h1 hn hl
  refine key.mono ?_
  rintro e w' ⟨vU', vO', rfl, h', hf, hi⟩
  exact ⟨rfl, zk_prog h1 h2 h3 h4 h5 h6 h' hf hi⟩
theorem zk_long (who n : Int) (ur : Bool) (h : ZK w0 b d r bu X leP UP OP rowP leD UD OD rowD W) (hn : UP.length + OP.length ≤ 4096) (hl : bu < n ∨ UP.length + OP.length = 4096) :
    Calls Try.prog 10 #[.pointer (some ⟨b, 0, none⟩), .int .i64 who, .int .u64 n, .bool ur] W fun e w' => e = .returned (.int .i64 2) ∧ ZK w0 b d r bu X leP UP OP rowP leD UD OD rowD w' ∧ Fr (fun k => ¬ X k ∧ w0.heap.size ≤ k) W w' := by
  obtain ⟨vU, vO, dU, dO, h1, h2, h3, h4, h5, h6⟩ := h
  refine (ask_long b r bu leP vU vO UP OP rowP who n ur W h1 hn hl).mono ?_
  rintro e w' ⟨rfl, hB⟩
  exact ⟨rfl, ZK.keep ⟨vU, vO, dU, dO, h1, h2, h3, h4, h5, h6⟩ hB, Fr.of_below hB⟩
theorem zk_dask (who n : Int) (ur : Bool) (h : ZK w0 b d r bu X leP UP OP rowP leD UD OD rowD W) (hn : UD.length + OD.length < 4096) (hl : n ≤ bu) :
    Calls Try.prog 14 #[.pointer (some ⟨d, 0, none⟩), .int .i64 who, .int .u64 n, .bool ur] W fun e w' => e = .returned (.int .i64 0) ∧
      ZK w0 b d r bu X leP UP OP rowP leD (if ur then UD ++ [(who, n, ur)] else UD) (if ur then OD else OD ++ [(who, n, ur)]) rowD w' ∧ Fr (fun k => ¬ X k ∧ w0.heap.size ≤ k) W w' := by
  obtain ⟨vU, vO, dU, dO, h1, h2, h3, h4, h5, h6⟩ := h
  cases ur
  · refine (dask_o d r bu leD dU dO UD OD rowD who n W h2 hn hl).mono ?_
    rintro e w' ⟨rfl, vU', vO', h', hf, hi⟩
    exact ⟨rfl, zk_ref h1 h2 h3 h4 h5 h6 h' hf hi⟩
  · refine (dask_u d r bu leD dU dO UD OD rowD who n W h2 hn hl).mono ?_
    rintro e w' ⟨rfl, vU', vO', h', hf, hi⟩
    exact ⟨rfl, zk_ref h1 h2 h3 h4 h5 h6 h' hf hi⟩
theorem zk_dlong (who n : Int) (ur : Bool) (h : ZK w0 b d r bu X leP UP OP rowP leD UD OD rowD W) (hn : UD.length + OD.length ≤ 4096) (hl : bu < n ∨ UD.length + OD.length = 4096) :
    Calls Try.prog 14 #[.pointer (some ⟨d, 0, none⟩), .int .i64 who, .int .u64 n, .bool ur] W fun e w' => e = .returned (.int .i64 2) ∧ ZK w0 b d r bu X leP UP OP rowP leD UD OD rowD w' ∧ Fr (fun k => ¬ X k ∧ w0.heap.size ≤ k) W w' := by
  obtain ⟨vU, vO, dU, dO, h1, h2, h3, h4, h5, h6⟩ := h
  refine (dask_long d r bu leD dU dO UD OD rowD who n ur W h2 hn hl).mono ?_
  rintro e w' ⟨rfl, hB⟩
  exact ⟨rfl, ZK.keep ⟨vU, vO, dU, dO, h1, h2, h3, h4, h5, h6⟩ hB, Fr.of_below hB⟩
theorem zk_drop (who : Int) (h : ZK w0 b d r bu X leP UP OP rowP leD UD OD rowD W) (hn : UP.length + OP.length ≤ 4096) :
    Calls Try.prog 17 #[.pointer (some ⟨b, 0, none⟩), .int .i64 who] W fun e w' => e = .returned (.int .i64 ((UP.length + OP.length : Nat) - (fw who UP).length - (fw who OP).length : Int)) ∧
      ZK w0 b d r bu X leP (fw who UP) (fw who OP) rowP leD UD OD rowD w' ∧ Fr (fun k => ¬ X k ∧ w0.heap.size ≤ k) W w' := by
  obtain ⟨vU, vO, dU, dO, h1, h2, h3, h4, h5, h6⟩ := h
  refine (drop_any b r bu leP vU vO UP OP rowP who W h1 hn).mono ?_
  rintro e w' ⟨rfl, vU', vO', h', hf, hi⟩
  exact ⟨rfl, zk_prog h1 h2 h3 h4 h5 h6 h' hf hi⟩
theorem zk_ddrop (who : Int) (h : ZK w0 b d r bu X leP UP OP rowP leD UD OD rowD W) (hn : UD.length + OD.length ≤ 4096) :
    Calls Try.prog 18 #[.pointer (some ⟨d, 0, none⟩), .int .i64 who] W fun e w' => e = .returned (.int .i64 ((UD.length + OD.length : Nat) - (fw who UD).length - (fw who OD).length : Int)) ∧
      ZK w0 b d r bu X leP UP OP rowP leD (fw who UD) (fw who OD) rowD w' ∧ Fr (fun k => ¬ X k ∧ w0.heap.size ≤ k) W w' := by
  obtain ⟨vU, vO, dU, dO, h1, h2, h3, h4, h5, h6⟩ := h
  refine (ddrop_any d r bu leD dU dO UD OD rowD who W h2 hn).mono ?_
  rintro e w' ⟨rfl, vU', vO', h', hf, hi⟩
  refine ⟨rfl, zk_ref h1 h2 h3 h4 h5 h6 h' hf (fun k e => ?_)⟩
  rcases hi k e with e | e
  · exact .inl (.inl e)
  · exact .inr e
theorem zk_step {g : List Int} (hrun : runS (UP.length + OP.length) (minI (plusI leP r) bu) UP OP rowP = (g, leP', UP', OP', rowP')) (h : ZK w0 b d r bu X leP UP OP rowP leD UD OD rowD W) (hn : UP.length + OP.length ≤ 4096)
    (hr : 0 ≤ r ∧ r < 18446744073709551616) (hbu : 0 ≤ bu ∧ bu < 18446744073709551616) (hle : 0 ≤ leP ∧ leP < 18446744073709551616) (hrow : 0 ≤ rowP ∧ rowP ≤ 10) (ha : ∀ a, a ∈ UP ∨ a ∈ OP → 0 ≤ a.2.1 ∧ a.2.1 < 18446744073709551616) :
    Calls Try.prog 11 #[.pointer (some ⟨b, 0, none⟩)] W fun e w' => ∃ p c, e = .returned (.slice p g.length c) ∧ OW w' W.heap.size 1 (.slice p g.length c) g.length (g.map (Value.int .i64)) ∧
      ZK w0 b d r bu (fun k => X k ∨ (Value.slice p g.length c).ownBlock = some k) leP' UP' OP' rowP' leD UD OD rowD w' ∧ Fr (fun k => ¬ X k ∧ w0.heap.size ≤ k) W w' := by
  obtain ⟨vU, vO, dU, dO, h1, h2, h3, h4, h5, h6⟩ := h
  have key := step_any b r bu leP vU vO UP OP rowP W h1 hn hr hbu hle hrow ha
  unfold StepRes at key
  rw [hrun] at key
  refine key.mono ?_
  rintro e w' ⟨v, vU', vO', rfl, ho, h', hf, hi, hout⟩
  obtain ⟨p, c, rfl, -⟩ := ho.shape
  obtain ⟨⟨vU2, vO2, dU2, dO2, q1, q2, q3, q4, q5, q6⟩, hF⟩ := zk_prog h1 h2 h3 h4 h5 h6 h' hf hi
  refine ⟨p, c, rfl, ho, ⟨vU', vO', dU, dO, h', h2.fr hf (fun k e => (h3 k e).1), ?_, ?_, ?_, q6⟩, hF⟩
  · intro k hk
    have hs := h6.size
    refine ⟨?_, ?_, ?_⟩
    · rcases hi k hk with e | e
      · exact (h3 k e).1
      · intro e'; have := lfoot_lt h2 e'; omega
    · rintro (e | e)
      · rcases hi k hk with e' | e'
        · exact (h3 k e').2.1 e
        · have := h5 k e; omega
      · exact hout k e hk
    · rcases hi k hk with e | e
      · exact (h3 k e).2.2
      · omega
  · intro k hk
    refine ⟨?_, (h4 k hk).2⟩
    rintro (e | e)
    · exact (h4 k hk).1 e
    · have := (ho.lt k e).1; have := lfoot_lt h2 hk; omega
  · rintro k (e | e)
    · exact Nat.lt_of_lt_of_le (h5 k e) hf.size
    · exact (ho.lt k e).2
theorem zk_dstep {g : List Int} (hrun : runS (UD.length + OD.length) (minI (plusI leD r) bu) UD OD rowD = (g, leD', UD', OD', rowD')) (h : ZK w0 b d r bu X leP UP OP rowP leD UD OD rowD W) (hn : UD.length + OD.length ≤ 4096) (hfl : Flg UD OD)
    (hr : 0 ≤ r ∧ r ≤ bu) (hbu : 0 ≤ bu ∧ bu < 18446744073709551616) (hle : 0 ≤ leD ∧ leD ≤ bu) (hrow : 0 ≤ rowD ∧ rowD ≤ 10) (ha : ∀ a, a ∈ UD ∨ a ∈ OD → 0 ≤ a.2.1 ∧ a.2.1 < 18446744073709551616) :
    Calls Try.prog 16 #[.pointer (some ⟨d, 0, none⟩)] W fun e w' => ∃ p c, e = .returned (.slice p g.length c) ∧ OW w' W.heap.size 1 (.slice p g.length c) g.length (g.map (Value.int .i64)) ∧
      ZK w0 b d r bu X leP UP OP rowP leD' UD' OD' rowD' w' ∧ Fr (fun k => ¬ X k ∧ w0.heap.size ≤ k) W w' := by
  obtain ⟨vU, vO, dU, dO, h1, h2, h3, h4, h5, h6⟩ := h
  have key := dstep_any d r bu leD dU dO UD OD rowD W h2 hn hfl hr hbu hle hrow ha
  rw [hrun] at key
  refine key.mono ?_
  rintro e w' ⟨v, vU', vO', rfl, ho, h', hf, hi⟩
  obtain ⟨p, c, rfl, -⟩ := ho.shape
  exact ⟨p, c, rfl, ho, zk_ref h1 h2 h3 h4 h5 h6 h' hf (fun k e => .inl (hi k e))⟩
theorem zk_wait (h : ZK w0 b d r bu X leP UP OP rowP leD UD OD rowD W) (hn : UP.length + OP.length ≤ 4096) (hrow : 0 ≤ rowP ∧ rowP ≤ 10) :
    Calls Try.prog 12 #[.pointer (some ⟨b, 0, none⟩)] W fun e w' => ∃ p c, e = .returned (.slice p (wtS (UP.length + OP.length) UP OP rowP).length c) ∧ OW w' W.heap.size 1 (.slice p (wtS (UP.length + OP.length) UP OP rowP).length c) (wtS (UP.length + OP.length) UP OP rowP).length ((wtS (UP.length + OP.length) UP OP rowP).map (Value.int .i64)) ∧ Below W.heap.size W w' := by
  obtain ⟨vU, vO, dU, dO, h1, -⟩ := h
  refine (waiting_any b r bu leP vU vO UP OP rowP W h1 hn hrow).mono ?_
  rintro e w' ⟨v, rfl, ho, hB⟩
  obtain ⟨p, c, rfl, -⟩ := ho.shape
  exact ⟨p, c, rfl, ho, hB⟩
theorem zk_dwait (h : ZK w0 b d r bu X leP UP OP rowP leD UD OD rowD W) (hn : UD.length + OD.length ≤ 4096) (hrow : 0 ≤ rowD ∧ rowD ≤ 10) (hfl : Flg UD OD) :
    Calls Try.prog 19 #[.pointer (some ⟨d, 0, none⟩)] W fun e w' => ∃ p c, e = .returned (.slice p (wtS (UD.length + OD.length) UD OD rowD).length c) ∧ OW w' W.heap.size 1 (.slice p (wtS (UD.length + OD.length) UD OD rowD).length c) (wtS (UD.length + OD.length) UD OD rowD).length ((wtS (UD.length + OD.length) UD OD rowD).map (Value.int .i64)) ∧ Below W.heap.size W w' := by
  obtain ⟨vU, vO, dU, dO, -, h2, -⟩ := h
  refine (dwaiting_any d r bu leD dU dO UD OD rowD W h2 hn hrow hfl).mono ?_
  rintro e w' ⟨v, rfl, ho, hB⟩
  obtain ⟨p, c, rfl, -⟩ := ho.shape
  exact ⟨p, c, rfl, ho, hB⟩
theorem zk_left (h : ZK w0 b d r bu X leP UP OP rowP leD UD OD rowD W) : Calls Try.prog 20 #[.pointer (some ⟨b, 0, none⟩)] W fun e w' => e = .returned (.int .u64 leP) ∧ W = w' := by
  obtain ⟨vU, vO, dU, dO, h1, -⟩ := h
  exact left_any b r bu leP rowP vU vO W h1.lm
end
/-- the law's state, in plain numbers. -/
structure ZP (r bu le : Int) (U O : List A3) (row : Int) : Prop where
  len : U.length + O.length ≤ 4096
  leb : 0 ≤ le ∧ le ≤ bu
  rowb : 0 ≤ row ∧ row ≤ 10
  all : ∀ a, a ∈ U ∨ a ∈ O → 0 ≤ a.2.1 ∧ a.2.1 < 18446744073709551616
  flg : Flg U O
theorem ZP.ask {r bu le : Int} {U O : List A3} {row who n : Int} {ur : Bool} (h : ZP r bu le U O row) (hn : 0 ≤ n ∧ n < 18446744073709551616) (hl : U.length + O.length < 4096) : ZP r bu le (if ur then U ++ [(who, n, ur)] else U) (if ur then O else O ++ [(who, n, ur)]) row := by
  have hm : ∀ a, a ∈ (if ur then U ++ [(who, n, ur)] else U) ∨ a ∈ (if ur then O else O ++ [(who, n, ur)]) → (a ∈ U ∨ a ∈ O) ∨ a = (who, n, ur) := by
    intro a ha; cases ur <;> simp at ha <;> grind
  refine ⟨by cases ur <;> simp <;> omega, h.leb, h.rowb, fun a ha => ?_, ?_⟩
  · rcases hm a ha with ha | rfl
    · exact h.all a ha
    · exact hn
  · cases ur
    · exact ⟨h.flg.1, fun a ha => by simp at ha; rcases ha with ha | rfl; exact h.flg.2 a ha; rfl⟩
    · exact ⟨fun a ha => by simp at ha; rcases ha with ha | rfl; exact h.flg.1 a ha; rfl, h.flg.2⟩
theorem ZP.drop {r bu le : Int} {U O : List A3} {row who : Int} (h : ZP r bu le U O row) : ZP r bu le (fw who U) (fw who O) row := by
  have h1 : (fw who U).length ≤ U.length := List.length_filter_le _ _
  have h2 : (fw who O).length ≤ O.length := List.length_filter_le _ _
  have hm : ∀ (l : List A3) a, a ∈ fw who l → a ∈ l := fun l a ha => (List.mem_filter.1 ha).1
  exact ⟨by have := h.len; omega, h.leb, h.rowb, fun a ha => h.all a (by rcases ha with ha | ha; exact .inl (hm _ a ha); exact .inr (hm _ a ha)), fun a ha => h.flg.1 a (hm _ a ha), fun a ha => h.flg.2 a (hm _ a ha)⟩
theorem RunTo.sub : ∀ (g : List A3) {U O : List A3} {row : Int} {U' O' : List A3} {row' : Int}, RunTo g U O row U' O' row' → (∀ a, a ∈ U' → a ∈ U) ∧ (∀ a, a ∈ O' → a ∈ O) ∧ g.length + U'.length + O'.length = U.length + O.length
  | [], _, _, _, _, _, _, h => by obtain ⟨rfl, rfl, _⟩ := h; exact ⟨fun a h => h, fun a h => h, by simp⟩
  | a :: g, _, _, _, _, _, _, h => by
    rcases h with ⟨_, O1, rfl, h⟩ | ⟨_, U1, rfl, h⟩
    · obtain ⟨h1, h2, h3⟩ := RunTo.sub g h
      exact ⟨h1, fun c hc => by simp [h2 c hc], by simp; omega⟩
    · obtain ⟨h1, h2, h3⟩ := RunTo.sub g h
      exact ⟨fun c hc => by simp [h1 c hc], h2, by simp; omega⟩
theorem ZP.step {r bu le : Int} {U O : List A3} {row : Int} (h : ZP r bu le U O row) (hr : 0 ≤ r ∧ r ≤ bu) (hb : bu < 18446744073709551616) :
    ∃ g le' U' O' row', runS (U.length + O.length) (minI (plusI le r) bu) U O row = (g, le', U', O', row') ∧ ZP r bu le' U' O' row' ∧ g.length ≤ 4096 := by
  obtain ⟨g, h1, h2, h4, h3, -⟩ := runS_to (U.length + O.length) (minI (plusI le r) bu) U O row
  obtain ⟨g2, -, -, -, -, h5⟩ := runS_gone (U.length + O.length) (minI (plusI le r) bu) U O row
  have hL : 0 ≤ minI (plusI le r) bu ∧ minI (plusI le r) bu ≤ bu := by
    have := h.leb
    unfold minI plusI; (repeat' split) <;> omega
  obtain ⟨res, hrun⟩ : ∃ res, runS (U.length + O.length) (minI (plusI le r) bu) U O row = res := ⟨_, rfl⟩
  rw [hrun] at h1 h2 h3 h4 h5 ⊢
  obtain ⟨x, le', U', O', row'⟩ := res
  simp only at h1 h2 h3 h4 h5
  obtain ⟨s1, s2, s3⟩ := RunTo.sub g h2
  have hg0 : 0 ≤ gs g := gs_nonneg (fun a ha => by
    have hm : a ∈ U ++ O := (RunTo.perm g h2).mem_iff.2 (by simp [ha])
    exact (h.all a (by simpa using hm)).1)
  have hle := h4 hL.1
  have hlen := h.len
  refine ⟨x, le', U', O', row', rfl, ⟨by omega, ⟨hle, by omega⟩, h5 h.rowb, fun a ha => h.all a (by rcases ha with ha | ha; exact .inl (s1 a ha); exact .inr (s2 a ha)), fun a ha => h.flg.1 a (s1 a ha), fun a ha => h.flg.2 a (s2 a ha)⟩, ?_⟩
  rw [h1, List.length_map]; omega
end Go.Proofs.Ytefeompdhalgcaa
