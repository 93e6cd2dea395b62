/- Contracts of layer 20 (stall), as a law meets them; the first example. -/
import Derived.Test.YtefeompdhalgcaaProg
import Derived.RangeFuncNested
import Derived.RangeFuncBound
import Derived.RangeFuncCalls
import Derived.RangeFuncLeaves
import Derived.Shelf.Abstract
import Derived.Shelf.RegionOpen
import Derived.WalkKit
import Derived.OwnWalkIn
import Derived.TacticsInMore
import Derived.LoopNIn
import Derived.LoopIn
import Derived.Lib.Hide
import Derived.Outline
import Derived.RegionTactic
import Derived.BigRegion
import Derived.WalkLawsBesides
import Derived.WalkSpells
import Derived.Deep.QuietTactic
import Derived.BigQuiet
import Derived.Deep.RegionHeld3
import Derived.Lib.Bytealg
import Derived.Lib.ConvBytes
import Derived.Laws.BytesArg
import Derived.Test.YtefeompdhalgcaaSed
import Derived.Test.YtefeompdhalgcaaOwn
import Derived.Deep.DeepCutAuto
import Derived.Deep.CutBlock
import Derived.Test.YtefeompdhalgcaaStallD
import Derived.Test.YtefeompdhalgcaaMp
namespace Go.Proofs.Ytefeompdhalgcaa
open Go.RowKit Go.Sed
set_option maxHeartbeats 1000000
/-- a limiter that touches nothing of A. -/
def LX (w : World) (b : Nat) (r bu le : Int) (U O : List A3) (row : Int) (A : Nat → Prop) : Prop := ∃ vU vO, LO w b r bu le vU U vO O row ∧ ∀ k, A k → ¬ foot b vU vO k
theorem LX.lt {w : World} {b : Nat} {r bu le row : Int} {U O : List A3} {A : Nat → Prop} (h : LX w b r bu le U O row A) : b < w.heap.size := by obtain ⟨_, _, h, _⟩ := h; exact h.lm.lt
theorem LX.mono {w : World} {b : Nat} {r bu le row : Int} {U O : List A3} {A A' : Nat → Prop} (h : LX w b r bu le U O row A) (hA : ∀ k, k < w.heap.size → A' k → A k) : LX w b r bu le U O row A' := by
  obtain ⟨vU, vO, h, ho⟩ := h
  refine ⟨vU, vO, h, fun k hk hf => ?_⟩
  have hlt : k < w.heap.size := by
    rcases hf with e | e | e
    · rw [e]; exact h.lm.lt
    · exact (h.u.lt _ e).2
    · exact (h.o.lt _ e).2
  exact ho k (hA k hlt hk) hf
theorem LX.fr {w w' : World} {b : Nat} {r bu le row : Int} {U O : List A3} {A F : Nat → Prop} (h : LX w b r bu le U O row A) (hf : Fr F w w') (hF : ∀ k, k < w.heap.size → F k → A k) : LX w' b r bu le U O row A := by
  obtain ⟨vU, vO, h, ho⟩ := h
  have hb := h.lm.lt
  exact ⟨vU, vO, ⟨Bl.fr h.lm hf (fun e => ho b (hF b hb e) (.inl rfl)), h.u.fr hf (fun k e e' => ho k (hF k (h.u.lt _ e).2 e') (.inr (.inl e))), h.o.fr hf (fun k e e' => ho k (hF k (h.o.lt _ e).2 e') (.inr (.inr e))), h.apart⟩, ho⟩
theorem LX.keep {w w' : World} {b : Nat} {r bu le row : Int} {U O : List A3} {A : Nat → Prop} (h : LX w b r bu le U O row A) (hB : Below w.heap.size w w') : LX w' b r bu le U O row A :=
  h.fr (F := fun _ => False) (Fr.of_below hB) (fun _ _ e => e.elim)
theorem lx_new (r bu : Int) (w : World) (h1 : (r == 0) = false) (h2 : (bu == 0) = false) (h3 : r ≤ bu) :
    Calls Try.prog 9 #[.int .u64 r, .int .u64 bu] w fun e w' => e = .returned (.tuple #[.pointer (some ⟨w.heap.size, 0, none⟩), .int .i64 0]) ∧ LX w' w.heap.size r bu bu [] [] 0 (fun k => k < w.heap.size) ∧ Below w.heap.size w w' := by
  refine (new_yes r bu w h1 h2 h3).mono ?_
  rintro e w' ⟨rfl, hl, hB⟩
  refine ⟨rfl, ⟨_, _, ⟨hl, OW.nil _ _ _, OW.nil _ _ _, fun k e => by simp [Value.ownBlock] at e⟩, ?_⟩, hB⟩
  rintro k hk (e | e | e)
  · omega
  · simp [Value.ownBlock] at e
  · simp [Value.ownBlock] at e
theorem foot_lt {w : World} {b : Nat} {r bu le row : Int} {vU vO : Value} {U O : List A3} (h : LO w b r bu le vU U vO O row) {k : Nat} (hk : foot b vU vO k) : k < w.heap.size := by
  rcases hk with e | e | e
  · rw [e]; exact h.lm.lt
  · exact (h.u.lt _ e).2
  · exact (h.o.lt _ e).2
theorem lx_ask (b : Nat) (r bu le : Int) (U O : List A3) (row who n : Int) (ur : Bool) (A : Nat → Prop) (w : World) (h : LX w b r bu le U O row A) (hA : ∀ k, A k → k < w.heap.size) (hn : U.length + O.length < 4096) (hl : n ≤ bu) :
    Calls Try.prog 10 #[.pointer (some ⟨b, 0, none⟩), .int .i64 who, .int .u64 n, .bool ur] w fun e w' => e = .returned (.int .i64 0) ∧
      LX w' b r bu le (if ur then U ++ [(who, n, ur)] else U) (if ur then O else O ++ [(who, n, ur)]) row A ∧ Fr (fun k => ¬ A k) w w' := by
  obtain ⟨vU, vO, h, ho⟩ := h
  have key : Calls Try.prog 10 #[.pointer (some ⟨b, 0, none⟩), .int .i64 who, .int .u64 n, .bool ur] w (AskRes w b r bu le vU U vO O row (who, n, ur)) := by
    cases ur
    · exact ask_o b r bu le vU vO U O row who n w h hn hl
    · exact ask_u b r bu le vU vO U O row who n w h hn hl
  refine key.mono ?_
  rintro e w' ⟨vU', vO', rfl, h', hf, hi⟩
  refine ⟨rfl, ⟨vU', vO', h', fun k hk hk' => ?_⟩, hf.mono (fun i _ hi hA => ho i hA hi)⟩
  rcases hi k hk' with e | e
  · exact ho k hk e
  · have := hA k hk; omega
theorem lx_long (b : Nat) (r bu le : Int) (U O : List A3) (row who n : Int) (ur : Bool) (A : Nat → Prop) (w : World) (h : LX w b r bu le U O row A) (hn : U.length + O.length ≤ 4096) (hl : bu < n ∨ U.length + O.length = 4096) :
    Calls Try.prog 10 #[.pointer (some ⟨b, 0, none⟩), .int .i64 who, .int .u64 n, .bool ur] w fun e w' => e = .returned (.int .i64 2) ∧ LX w' b r bu le U O row A ∧ Below w.heap.size w w' := by
  obtain ⟨vU, vO, h', ho⟩ := h
  refine (ask_long b r bu le vU vO U O row who n ur w h' hn hl).mono ?_
  rintro e w' ⟨rfl, hB⟩
  exact ⟨rfl, LX.keep ⟨vU, vO, h', ho⟩ hB, hB⟩
def LXStep (w : World) (b : Nat) (r bu le : Int) (U O : List A3) (row : Int) (A : Nat → Prop) (e : Ending) (w' : World) : Prop :=
  ∃ v, e = .returned v ∧ OW w' w.heap.size 1 v (runS (U.length + O.length) (minI (plusI le r) bu) U O row).1.length ((runS (U.length + O.length) (minI (plusI le r) bu) U O row).1.map (Value.int .i64)) ∧
    LX w' b r bu (runS (U.length + O.length) (minI (plusI le r) bu) U O row).2.1 (runS (U.length + O.length) (minI (plusI le r) bu) U O row).2.2.1 (runS (U.length + O.length) (minI (plusI le r) bu) U O row).2.2.2.1 (runS (U.length + O.length) (minI (plusI le r) bu) U O row).2.2.2.2 (fun k => A k ∨ v.ownBlock = some k) ∧
    Fr (fun k => ¬ A k) w w'
theorem lx_step (b : Nat) (r bu le : Int) (U O : List A3) (row : Int) (A : Nat → Prop) (w : World) (h : LX w b r bu le U O row A) (hA : ∀ k, A k → k < w.heap.size) (hn : U.length + O.length ≤ 4096)
    (hr : 0 ≤ r ∧ r < 18446744073709551616) (hbu : 0 ≤ bu ∧ bu < 18446744073709551616) (hle : 0 ≤ le ∧ le < 18446744073709551616) (hrow : 0 ≤ row ∧ row ≤ 10) (ha : ∀ a, a ∈ U ∨ a ∈ O → 0 ≤ a.2.1 ∧ a.2.1 < 18446744073709551616) :
    Calls Try.prog 11 #[.pointer (some ⟨b, 0, none⟩)] w (LXStep w b r bu le U O row A) := by
  obtain ⟨vU, vO, h, ho⟩ := h
  refine (step_any b r bu le vU vO U O row w h hn hr hbu hle hrow ha).mono ?_
  rintro e w' ⟨v, vU', vO', rfl, hown, hlo, hf, hi, hout⟩
  refine ⟨v, rfl, hown, ⟨vU', vO', hlo, ?_⟩, hf.mono (fun i _ hi hA => ho i hA hi)⟩
  rintro k (hk | hk) hk'
  · rcases hi k hk' with e | e
    · exact ho k hk e
    · have := hA k hk; omega
  · exact hout k hk hk'
theorem lx_waiting (b : Nat) (r bu le : Int) (U O : List A3) (row : Int) (A : Nat → Prop) (w : World) (h : LX w b r bu le U O row A) (hn : U.length + O.length ≤ 4096) (hrow : 0 ≤ row ∧ row ≤ 10) :
    Calls Try.prog 12 #[.pointer (some ⟨b, 0, none⟩)] w fun e w' => ∃ v, e = .returned v ∧ OW w' w.heap.size 1 v (U.length + O.length) ((wtS (U.length + O.length) U O row).map (Value.int .i64)) ∧ Below w.heap.size w w' := by
  obtain ⟨vU, vO, h, ho⟩ := h
  refine (waiting_any b r bu le vU vO U O row w h hn hrow).mono ?_
  rintro e w' ⟨v, rfl, hown, hB⟩
  rw [wtS_len _ _ _ _ rfl] at hown
  exact ⟨v, rfl, hown, hB⟩
theorem lx_stepTo {b : Nat} {r bu le : Int} {U O : List A3} {row : Int} {A : Nat → Prop} {w : World} {g : List Int} {le' : Int} {U' O' : List A3} {row' : Int} (hrun : runS (U.length + O.length) (minI (plusI le r) bu) U O row = (g, le', U', O', row')) (h : LX w b r bu le U O row A) (hA : ∀ k, A k → k < w.heap.size) (hn : U.length + O.length ≤ 4096)
    (hr : 0 ≤ r ∧ r < 18446744073709551616) (hbu : 0 ≤ bu ∧ bu < 18446744073709551616) (hle : 0 ≤ le ∧ le < 18446744073709551616) (hrow : 0 ≤ row ∧ row ≤ 10) (ha : ∀ a, a ∈ U ∨ a ∈ O → 0 ≤ a.2.1 ∧ a.2.1 < 18446744073709551616) :
    Calls Try.prog 11 #[.pointer (some ⟨b, 0, none⟩)] w fun e w' => ∃ p c, e = .returned (.slice p g.length c) ∧ OW w' w.heap.size 1 (.slice p g.length c) g.length (g.map (Value.int .i64)) ∧
      LX w' b r bu le' U' O' row' (fun k => A k ∨ (Value.slice p g.length c).ownBlock = some k) ∧ Fr (fun k => ¬ A k) w w' := by
  have key := lx_step b r bu le U O row A w h hA hn hr hbu hle hrow ha
  unfold LXStep at key
  rw [hrun] at key
  refine key.mono ?_
  rintro e w' ⟨v, rfl, h1, h2, h3⟩
  obtain ⟨p, c, rfl, -⟩ := h1.shape
  exact ⟨p, c, rfl, h1, h2, h3⟩
theorem run1 : runS (([] : List A3).length + [((1 : Int), (20 : Int), false), (2, 15, false)].length) (minI (plusI 20 10) 20) [] [(1, 20, false), (2, 15, false)] 0 = ([1], 0, [], [(2, 15, false)], 0) := by kernel_rfl
theorem run2 : runS (([] : List A3).length + [((2 : Int), (15 : Int), false)].length) (minI (plusI 0 10) 20) [] [(2, 15, false)] 0 = ([], 10, [], [(2, 15, false)], 0) := by kernel_rfl
theorem run3 : runS (([] : List A3).length + [((2 : Int), (15 : Int), false)].length) (minI (plusI 10 10) 20) [] [(2, 15, false)] 0 = ([2], 5, [], [], 0) := by kernel_rfl
theorem asks_in {l : List A3} (h : l.all (fun a => decide (0 ≤ a.2.1 ∧ a.2.1 < 18446744073709551616)) = true) : ∀ a, a ∈ ([] : List A3) ∨ a ∈ l → 0 ≤ a.2.1 ∧ a.2.1 < 18446744073709551616 := by
  rintro a (h' | h')
  · cases h'
  · exact of_decide_eq_true (List.all_eq_true.1 h a h')
theorem lives_any (w : World) : Calls Try.prog 8 #[] w fun e w' => e = .returned (.bool true) ∧ Below w.heap.size w w' := by
  go_enter Try.func8, Try.ntmps8
  go_wp2_with fail
  refine (lx_new 10 20 w rfl rfl (by decide)).mono ?_
  rintro e w1 ⟨rfl, hl1, hB1⟩
  go_wp2_with fail
  refine (lx_ask _ 10 20 20 [] [] 0 1 20 false (fun k => k < w.heap.size) _ hl1 (fun k hk => Nat.lt_of_lt_of_le hk hB1.size) (by decide) (by decide)).mono ?_
  rintro e w2 ⟨rfl, hl2, hf2⟩
  have hB2 : Below w.heap.size w w2 := hB1.trans (hf2.below hB1.size (fun i hi h => h hi))
  go_wp2_with fail
  refine (lx_ask _ 10 20 20 [] [(1, 20, false)] 0 2 15 false (fun k => k < w.heap.size) _ hl2 (fun k hk => Nat.lt_of_lt_of_le hk hB2.size) (by decide) (by decide)).mono ?_
  rintro e w3 ⟨rfl, hl3, hf3⟩
  have hB3 : Below w.heap.size w w3 := hB2.trans (hf3.below hB2.size (fun i hi h => h hi))
  clear hl1 hl2 hf2 hf3 hB1 hB2
  go_wp2_with fail
  refine (lx_stepTo (A := fun k => k < w.heap.size) run1 hl3 (fun k hk => Nat.lt_of_lt_of_le hk hB3.size) (by decide) (by decide) (by decide) (by decide) (by decide) (asks_in rfl)).mono ?_
  rintro e w4 ⟨p4, c4, rfl, ho4, hl4, hf4⟩
  have hB4 : Below w.heap.size w w4 := hB3.trans (hf4.below hB3.size (fun i hi h => h hi))
  have hlt4 := ho4.lt
  go_wp2_with fail
  refine (lx_stepTo run2 hl4 (fun k hk => by rcases hk with hk | hk; exact Nat.lt_of_lt_of_le hk hB4.size; exact (hlt4 k hk).2) (by decide) (by decide) (by decide) (by decide) (by decide) (asks_in rfl)).mono ?_
  rintro e w5 ⟨p5, c5, rfl, ho5, hl5, hf5⟩
  have hB5 : Below w.heap.size w w5 := hB4.trans (hf5.below hB4.size (fun i hi h => h (.inl hi)))
  have ho45 := ho4.fr hf5 (fun k e h => h (.inr e))
  have hlt5 := ho5.lt
  have hlt45 := ho45.lt
  go_wp2_with fail
  refine (lx_stepTo run3 hl5 (fun k hk => by rcases hk with (hk | hk) | hk; exact Nat.lt_of_lt_of_le hk hB5.size; exact (hlt45 k hk).2; exact (hlt5 k hk).2) (by decide) (by decide) (by decide) (by decide) (by decide) (asks_in rfl)).mono ?_
  rintro e w6 ⟨p6, c6, rfl, ho6, hl6, hf6⟩
  have hB6 : Below w.heap.size w w6 := hB5.trans (hf6.below hB5.size (fun i hi h => h (.inl (.inl hi))))
  have ho46 := ho45.fr hf6 (fun k e h => h (.inl (.inr e)))
  obtain ⟨b4, o4, rfl, hc4⟩ := ho46.rd.2 (by decide)
  obtain ⟨b6, o6, rfl, hc6⟩ := ho6.rd.2 (by decide)
  have j4 : w6.cell? ⟨b4, o4, none⟩ = some (.int .i64 1) := hc4 0 _ rfl
  have j6 : w6.cell? ⟨b6, o6, none⟩ = some (.int .i64 2) := hc6 0 _ rfl
  clear hc4 hc6 ho46 ho45 hlt4 hlt5 hlt45 ho4 ho5 ho6 hl3 hl4 hl5 hl6 hf4 hf5 hf6 hB3 hB4 hB5
  go_wp2_with fail
  go_ret
  exact ⟨rfl, hB6⟩
end Go.Proofs.Ytefeompdhalgcaa
