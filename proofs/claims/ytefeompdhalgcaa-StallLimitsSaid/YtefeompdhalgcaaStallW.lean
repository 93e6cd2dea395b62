/- Contracts of layer 20 (stall): a drop. -/
import Derived.Test.YtefeompdhalgcaaProg
import Derived.RangeFuncNested
import Derived.RangeFuncBound
import Derived.RangeFuncCalls
import Derived.RangeFuncLeaves
import Derived.Shelf.Abstract
import Derived.Shelf.RegionOpen
import Derived.WalkKit
import Derived.OwnWalkIn
import Derived.TacticsInMore
import Derived.LoopNIn
import Derived.LoopIn
import Derived.Lib.Hide
import Derived.Outline
import Derived.RegionTactic
import Derived.BigRegion
import Derived.WalkLawsBesides
import Derived.WalkSpells
import Derived.Deep.QuietTactic
import Derived.BigQuiet
import Derived.Deep.RegionHeld3
import Derived.Lib.Bytealg
import Derived.Lib.ConvBytes
import Derived.Laws.BytesArg
import Derived.Test.YtefeompdhalgcaaSed
import Derived.Test.YtefeompdhalgcaaOwn
import Derived.Deep.DeepCutAuto
import Derived.Deep.CutBlock
import Derived.StillTailTactics
import Derived.WalkSmall
import Derived.Test.YtefeompdhalgcaaStallU
namespace Go.Proofs.Ytefeompdhalgcaa
open Go.RowKit Go.Sed
set_option maxHeartbeats 1000000
/-- amid a drop. -/
structure PD (w0 : World) (b bw bn : Nat) (r bu le : Int) (vU0 vO0 vU : Value) (U : List A3) (vO : Value) (O : List A3) (row who n : Int) (W : World) : Prop where
  lo : LO W b r bu le vU U vO O row
  nn : Bl W bn (.cells #[.int .i64 n] 3 (0, 0))
  ww : W.cell? ⟨bw, 0, none⟩ = some (.int .i64 who)
  fn : ¬ foot b vU vO bn
  fw : ¬ foot b vU vO bw
  ne : bw ≠ bn
  new : w0.heap.size ≤ bn ∧ w0.heap.size ≤ bw
  fr : Fr (foot b vU0 vO0) w0 W
  inn : ∀ k, foot b vU vO k → foot b vU0 vO0 k ∨ w0.heap.size ≤ k
theorem PD.below {w0 W W' : World} {b bw bn : Nat} {r bu le row who n : Int} {vU0 vO0 vU vO : Value} {U O : List A3} (h : PD w0 b bw bn r bu le vU0 vO0 vU U vO O row who n W) (hB : Below W.heap.size W W') : PD w0 b bw bn r bu le vU0 vO0 vU U vO O row who n W' :=
  ⟨h.lo.keep hB, h.nn.keep hB, cell_keep hB h.ww, h.fn, h.fw, h.ne, h.new, h.fr.thenB hB, h.inn⟩
theorem PD.amid {w0 W w3 w5 : World} {b bw bn : Nat} {r bu le row who n : Int} {vU0 vO0 vU vO v3 : Value} {U O xs : List A3} (h : PD w0 b bw bn r bu le vU0 vO0 vU U vO O row who n W) (hB : Below W.heap.size W w3)
    (h3 : OW w3 W.heap.size 3 v3 xs.length (fl xs)) (hf : Fr (fun k => k = bn ∨ v3.ownBlock = some k) w3 w5) : Lm w5 b r bu le vU vO row := by
  have hbl := h.lo.lm.lt
  exact Bl.fr (h.below hB).lo.lm hf (by
    rintro (e | e)
    · exact h.fn (.inl e.symm)
    · have := (h3.lt b e).1; omega)
theorem PD.apart {w0 W w3 : World} {b bw bn : Nat} {r bu le row who n : Int} {vU0 vO0 vU vO v3 : Value} {U O xs : List A3} (h : PD w0 b bw bn r bu le vU0 vO0 vU U vO O row who n W) (h3 : OW w3 W.heap.size 3 v3 xs.length (fl xs)) : v3.ownBlock ≠ some bn ∧ v3.ownBlock ≠ some bw := by
  have hn1 := h.nn.lt
  have hn2 := cell_lt h.ww
  exact ⟨fun e => by have := (h3.lt _ e).1; omega, fun e => by have := (h3.lt _ e).1; omega⟩
theorem PD.stepU {w0 W w3 w5 : World} {b bw bn : Nat} {r bu le row who n n' : Int} {vU0 vO0 vU vO v3 v5 : Value} {U U' O : List A3} (h : PD w0 b bw bn r bu le vU0 vO0 vU U vO O row who n W) (hB : Below W.heap.size W w3)
    (h3 : OW w3 W.heap.size 3 v3 U.length (fl U)) (ho : OW w5 W.heap.size 3 v5 U'.length (fl U')) (he : v5.ownBlock = v3.ownBlock) (hb : Bl w5 bn (.cells #[.int .i64 n'] 3 (0, 0))) (hf : Fr (fun k => k = bn ∨ v3.ownBlock = some k) w3 w5) :
    PD w0 b bw bn r bu le vU0 vO0 v5 U' vO O row who n' (w5.setCell ⟨b, 3, none⟩ v5) := by
  have hn1 := h.nn.lt
  have hn2 := cell_lt h.ww
  have hbl := h.lo.lm.lt
  have h' := h.below hB
  have hg : ∀ k, v3.ownBlock = some k → W.heap.size ≤ k := fun k e => (h3.lt k e).1
  have hF : ∀ k, foot b vU vO k → ¬ (k = bn ∨ v3.ownBlock = some k) := by
    rintro k hk (e | e)
    · exact h.fn (e ▸ hk)
    · have := hg k e
      have : k < W.heap.size := foot_lt h.lo hk
      omega
  have hbn : b ≠ bn := fun e => h.fn (.inl e.symm)
  have hl5 : Lm w5 b r bu le vU vO row := Bl.fr h'.lo.lm hf (hF b (.inl rfl))
  have hv5 : ∀ k, v5.ownBlock = some k → W.heap.size ≤ k := fun k e => hg k (he ▸ e)
  refine ⟨⟨Bl.setSame hl5 3 _, (ho.more (by omega)).set _ (fun e => by have := hv5 b e; omega), (h'.lo.o.fr hf (fun k e => hF k (.inr (.inr e)))).set _ (fun e => by have := (h.lo.o.lt _ e).1; omega), ?_⟩, ?_, ?_, ?_, ?_, h.ne, h.new, ?_, ?_⟩
  · intro k e e'
    have := hv5 k e
    have := (h.lo.o.lt k e').2
    omega
  · exact hb.set _ (Ne.symm hbn)
  · rw [World.cell?_of_block (a := ⟨bw, 0, none⟩) (Below.heap_setCell _ _ _ _ (fun e => h.fw (.inl e))), World.cell?_of_block (a := ⟨bw, 0, none⟩) (hf.block bw (Nat.lt_of_lt_of_le hn2 hB.size) (fun e => by
      rcases e with e | e
      · exact h.ne e
      · have := hg bw e; omega))]
    exact h'.ww
  · rintro (e | e | e)
    · exact hbn e.symm
    · have := hv5 bn e; omega
    · exact h.fn (.inr (.inr e))
  · rintro (e | e | e)
    · exact h.fw (.inl e)
    · have := hv5 bw e; omega
    · exact h.fw (.inr (.inr e))
  · have h5 : Fr (foot b vU0 vO0) w0 w5 := h'.fr.then hf (fun i hi e => by
      rcases e with e | e
      · have := h.new.1; omega
      · have := hg i e; have := h.fr.size; omega)
    exact h5.set _ (fun hk => .inl rfl)
  · rintro k (e | e | e)
    · exact h.inn k (.inl e)
    · exact .inr (Nat.le_trans h.fr.size (hv5 k e))
    · exact h.inn k (.inr (.inr e))
theorem PD.stepO {w0 W w3 w5 : World} {b bw bn : Nat} {r bu le row who n n' : Int} {vU0 vO0 vU vO v3 v5 : Value} {U U' O : List A3} (h : PD w0 b bw bn r bu le vU0 vO0 vU O vO U row who n W) (hB : Below W.heap.size W w3)
    (h3 : OW w3 W.heap.size 3 v3 U.length (fl U)) (ho : OW w5 W.heap.size 3 v5 U'.length (fl U')) (he : v5.ownBlock = v3.ownBlock) (hb : Bl w5 bn (.cells #[.int .i64 n'] 3 (0, 0))) (hf : Fr (fun k => k = bn ∨ v3.ownBlock = some k) w3 w5) :
    PD w0 b bw bn r bu le vU0 vO0 vU O v5 U' row who n' (w5.setCell ⟨b, 4, none⟩ v5) := by
  have hn1 := h.nn.lt
  have hn2 := cell_lt h.ww
  have hbl := h.lo.lm.lt
  have h' := h.below hB
  have hg : ∀ k, v3.ownBlock = some k → W.heap.size ≤ k := fun k e => (h3.lt k e).1
  have hF : ∀ k, foot b vU vO k → ¬ (k = bn ∨ v3.ownBlock = some k) := by
    rintro k hk (e | e)
    · exact h.fn (e ▸ hk)
    · have := hg k e
      have : k < W.heap.size := foot_lt h.lo hk
      omega
  have hbn : b ≠ bn := fun e => h.fn (.inl e.symm)
  have hl5 : Lm w5 b r bu le vU vO row := Bl.fr h'.lo.lm hf (hF b (.inl rfl))
  have hv5 : ∀ k, v5.ownBlock = some k → W.heap.size ≤ k := fun k e => hg k (he ▸ e)
  refine ⟨⟨Bl.setSame hl5 4 _, (h'.lo.u.fr hf (fun k e => hF k (.inr (.inl e)))).set _ (fun e => by have := (h.lo.u.lt _ e).1; omega), (ho.more (by omega)).set _ (fun e => by have := hv5 b e; omega), ?_⟩, ?_, ?_, ?_, ?_, h.ne, h.new, ?_, ?_⟩
  · intro k e e'
    have := hv5 k e'
    have := (h.lo.u.lt k e).2
    omega
  · exact hb.set _ (Ne.symm hbn)
  · rw [World.cell?_of_block (a := ⟨bw, 0, none⟩) (Below.heap_setCell _ _ _ _ (fun e => h.fw (.inl e))), World.cell?_of_block (a := ⟨bw, 0, none⟩) (hf.block bw (Nat.lt_of_lt_of_le hn2 hB.size) (fun e => by
      rcases e with e | e
      · exact h.ne e
      · have := hg bw e; omega))]
    exact h'.ww
  · rintro (e | e | e)
    · exact hbn e.symm
    · exact h.fn (.inr (.inl e))
    · have := hv5 bn e; omega
  · rintro (e | e | e)
    · exact h.fw (.inl e)
    · exact h.fw (.inr (.inl e))
    · have := hv5 bw e; omega
  · have h5 : Fr (foot b vU0 vO0) w0 w5 := h'.fr.then hf (fun i hi e => by
      rcases e with e | e
      · have := h.new.1; omega
      · have := hg i e; have := h.fr.size; omega)
    exact h5.set _ (fun hk => .inl rfl)
  · rintro k (e | e | e)
    · exact h.inn k (.inl e)
    · exact h.inn k (.inr (.inl e))
    · exact .inr (Nat.le_trans h.fr.size (hv5 k e))
theorem cnt_fw (who : Int) (l : List A3) : cnt who l = (l.length : Int) - (fw who l).length := by
  unfold cnt fw
  induction l with
  | nil => rfl
  | cons a l ih =>
    by_cases e : a.1 = who
    · simp [e]; omega
    · simp [e]; omega
theorem ret_i {a b : Int} (h : a = b) : Ending.returned (.int .i64 a) = .returned (.int .i64 b) := by rw [h]
def PDrop (w : World) (b : Nat) (r bu le : Int) (vU : Value) (U : List A3) (vO : Value) (O : List A3) (row who : Int) (e : Ending) (w' : World) : Prop :=
  e = .returned (.int .i64 ((U.length + O.length : Nat) - (fw who U).length - (fw who O).length : Int)) ∧ ∃ vU' vO', LO w' b r bu le vU' (fw who U) vO' (fw who O) row ∧ Fr (foot b vU vO) w w' ∧ ∀ k, foot b vU' vO' k → foot b vU vO k ∨ w.heap.size ≤ k
set_option maxRecDepth 100000 in
theorem drop_any (b : Nat) (r bu le : Int) (vU vO : Value) (U O : List A3) (row who : Int) (w : World) (h : LO w b r bu le vU U vO O row) (hn : U.length + O.length ≤ 4096) :
    Calls Try.prog 17 #[.pointer (some ⟨b, 0, none⟩), .int .i64 who] w (PDrop w b r bu le vU U vO O row who) := by
  have hbl : b < w.heap.size := h.lm.lt
  have hB0 : Below w.heap.size w ((w.alloc (.cells #[.int .i64 who] 3 (0, 0))).alloc (.cells #[.int .i64 0] 3 (0, 0))) := ((Below.refl _ _).alloc (Nat.le_refl _) _).alloc (by simp) _
  have hp0 : PD w b w.heap.size (w.heap.size + 1) r bu le vU vO vU U vO O row who 0 ((w.alloc (.cells #[.int .i64 who] 3 (0, 0))).alloc (.cells #[.int .i64 0] 3 (0, 0))) := by
    have hft : ∀ k, foot b vU vO k → k < w.heap.size := fun k hk => foot_lt h hk
    have hw1 : Bl ((w.alloc (.cells #[.int .i64 who] 3 (0, 0))).alloc (.cells #[.int .i64 0] 3 (0, 0))) w.heap.size (.cells #[.int .i64 who] 3 (0, 0)) := (Bl.new' rfl).alloc _
    exact ⟨h.keep hB0, Bl.new' (by simp), hw1.cell 0, fun e => by have := hft _ e; omega, fun e => by have := hft _ e; omega, by omega, by omega, Fr.of_below hB0, fun k e => .inl e⟩
  have hn1 : U.length ≤ 4096 := by omega
  have hn2 : O.length ≤ 4096 := by omega
  replace hp0 := Lib.hid hp0
  clear h
  go_enter Try.func17, Try.ntmps17
  go_wp2_with fail
  obtain ⟨wl, hwl⟩ : ∃ wl, (w.alloc (.cells #[.int .i64 who] 3 (0, 0))).alloc (.cells #[.int .i64 0] 3 (0, 0)) = wl := ⟨_, rfl⟩
  obtain ⟨bw, hbw⟩ : ∃ bw, w.heap.size = bw := ⟨_, rfl⟩
  obtain ⟨bn, hbn⟩ : ∃ bn, w.heap.size + 1 = bn := ⟨_, rfl⟩
  rw [hbn] at hp0 ⊢
  rw [hwl] at hp0 ⊢
  have hp1 := hp0.out
  rw [hbw] at hp1 ⊢
  clear hp0 hB0 hwl hbn
  replace hbw := Lib.hid hbw
  obtain ⟨A1, c1, rfl, -⟩ := hp1.lo.u.shape
  obtain ⟨A2, c2, rfl, -⟩ := hp1.lo.o.shape
  have k3 : wl.drew.cell? ⟨b, 3, none⟩ = some (.slice A1 U.length c1) := hp1.lo.lm.cell 3
  have k3' : wl.cell? ⟨b, 3, none⟩ = some (.slice A1 U.length c1) := hp1.lo.lm.cell 3
  have hp2 := Lib.hid (hp1.below (Below.refl _ _).drew)
  replace hp1 := Lib.hid hp1
  refine wp_loop_rounds 3 ?_
  rw [rounds_succ]
  go_upto_region 5 with (fail)
  rw [show Op.load 71 (Operand.tmp 16) = id (Op.load 71 (Operand.tmp 16)) from rfl]
  go_region_held3 (fun _ => True) (trivial) ((first
    | (go_at_call 33; ((with_reducible refine (clone_any A1 U.length c1 (fl U) _ hp2.out.lo.u.rd (fl_one _) hn1).mono ?_); rintro e w3 ⟨v3, rfl, ho3, hB3⟩; obtain ⟨A3, c3, rfl, -⟩ := ho3.shape; have hp3 := Lib.hid (hp2.out.below hB3); replace ho3 := Lib.hid ho3; replace hB3 := Lib.hid hB3))
    | (go_at_call 32; refine (delfunc_any (.slice A3 U.length c3) U who 0 bw bn _ _ ho3.out (hp2.out.apart ho3.out) hn1 hp3.out.ww hp3.out.nn hp3.out.ne (by omega)).mono ?_; rintro e w5 ⟨v5, rfl, ho5, he5, hb5, hf5⟩; obtain ⟨A5, c5, rfl, -⟩ := ho5.shape; have hl5 := hp2.out.amid hB3.out ho3.out hf5; have j3 : w5.cell? ⟨b, 3, none⟩ = some (.slice A1 U.length c1) := hl5.cell 3; have g3 := hl5.frozen 3; have hp5 := Lib.hid (hp2.out.stepU hB3.out ho3.out ho5 he5 hb5 hf5); clear ho5 he5 hb5 hf5 hl5)))
  all_goals
    rw [Int.zero_add] at hp5
    obtain ⟨w6, hw6⟩ : ∃ w6, w5.setCell ⟨b, 3, none⟩ (.slice A5 (fw who U).length c5) = w6 := ⟨_, rfl⟩
    rw [hw6] at hp5 ⊢
    clear hw6 j3 g3 hp3 hp2 ho3 hB3 k3 k3' hp1
    have hcb : 0 ≤ cnt who U ∧ cnt who U ≤ 4096 := by have := cnt_bd who U U.length; rw [List.take_length] at this; omega
    have k4 : w6.drew.cell? ⟨b, 4, none⟩ = some (.slice A2 O.length c2) := hp5.out.lo.lm.cell 4
    have k4' : w6.cell? ⟨b, 4, none⟩ = some (.slice A2 O.length c2) := hp5.out.lo.lm.cell 4
    have hp6 := Lib.hid (hp5.out.below (Below.refl _ _).drew)
    go_wp2_with fail
    rw [rounds_succ]
    go_upto_region 5 with (fail)
    rw [show Op.load 71 (Operand.tmp 16) = id (Op.load 71 (Operand.tmp 16)) from rfl]
    go_region_held3 (fun _ => True) (trivial) ((first
      | (go_at_call 33; ((with_reducible refine (clone_any A2 O.length c2 (fl O) _ hp6.out.lo.o.rd (fl_one _) hn2).mono ?_); rintro e w3 ⟨v3, rfl, ho3, hB3⟩; obtain ⟨A3, c3, rfl, -⟩ := ho3.shape; have hp3 := Lib.hid (hp6.out.below hB3); replace ho3 := Lib.hid ho3; replace hB3 := Lib.hid hB3))
      | (go_at_call 32; refine (delfunc_any (.slice A3 O.length c3) O who (cnt who U) bw bn _ _ ho3.out (hp6.out.apart ho3.out) hn2 hp3.out.ww hp3.out.nn hp3.out.ne (by omega)).mono ?_; rintro e w7 ⟨v7, rfl, ho5, he5, hb5, hf5⟩; obtain ⟨A7, c7, rfl, -⟩ := ho5.shape; have hl5 := hp6.out.amid hB3.out ho3.out hf5; have j3 : w7.cell? ⟨b, 4, none⟩ = some (.slice A2 O.length c2) := hl5.cell 4; have g3 := hl5.frozen 4; have hp7 := Lib.hid (hp6.out.stepO hB3.out ho3.out ho5 he5 hb5 hf5); clear ho5 he5 hb5 hf5 hl5)))
    all_goals
      obtain ⟨w8, hw8⟩ : ∃ w8, w7.setCell ⟨b, 4, none⟩ (.slice A7 (fw who O).length c7) = w8 := ⟨_, rfl⟩
      rw [hw8] at hp7 ⊢
      clear hw8 j3 g3 hp3 hp6 ho3 hB3 k4 k4' hp5
      have k5 : w8.cell? ⟨bn, 0, none⟩ = some (.int .i64 (cnt who U + cnt who O)) := hp7.out.nn.cell 0
      go_wp2_with fail
      rw [rounds_succ]
      go_wp2_with fail
      go_ret
      refine ⟨?_, _, _, hp7.out.lo, hp7.out.fr, hp7.out.inn⟩
      rw [cnt_fw, cnt_fw]
      exact ret_i (by omega)
end Go.Proofs.Ytefeompdhalgcaa
