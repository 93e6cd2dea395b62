/- The law of limits: its walk. -/
import Derived.Test.YtefeompdhalgcaaProg
import Derived.RangeFuncNested
import Derived.RangeFuncBound
import Derived.RangeFuncCalls
import Derived.RangeFuncLeaves
import Derived.Shelf.Abstract
import Derived.Shelf.RegionOpen
import Derived.WalkKit
import Derived.OwnWalkIn
import Derived.TacticsInMore
import Derived.LoopNIn
import Derived.LoopIn
import Derived.Lib.Hide
import Derived.Outline
import Derived.RegionTactic
import Derived.BigRegion
import Derived.WalkLawsBesides
import Derived.WalkSpells
import Derived.Deep.QuietTactic
import Derived.BigQuiet
import Derived.Deep.RegionHeld3
import Derived.Lib.Bytealg
import Derived.Lib.ConvBytes
import Derived.Laws.BytesArg
import Derived.Test.YtefeompdhalgcaaSed
import Derived.Test.YtefeompdhalgcaaOwn
import Derived.Deep.DeepCutAuto
import Derived.Deep.CutBlock
import Derived.StillTailTactics
import Derived.WalkSmall
import Derived.Test.YtefeompdhalgcaaStallZ
namespace Go.Proofs.Ytefeompdhalgcaa
open Go.RowKit Go.Sed
set_option maxHeartbeats 2000000
set_option maxRecDepth 100000 in
theorem limits_walk (r bu : Int) (p : Option Addr) (c : Nat) (acts : List A4) (w : World) (hr : 0 ≤ r ∧ r < 18446744073709551616) (hb : 0 ≤ bu ∧ bu < 18446744073709551616) (ha : Rd w 4 p acts.length (fa acts)) (hc : acts.length ≤ c) (hn : acts.length ≤ 9223372036854775807)
    (hby : ∀ a, a ∈ acts → 0 ≤ a.2.2.1 ∧ a.2.2.1 < 18446744073709551616) :
    Calls Try.prog 5 #[.int .u64 r, .int .u64 bu, .slice p acts.length c] w fun e w' => e = .returned (.bool true) ∧ Below w.heap.size w w' := by
  by_cases hok : r = 0 ∨ bu = 0 ∨ bu < r
  · go_enter Try.func5, Try.ntmps5
    go_wp2_with fail
    refine (new_no r bu _ hok).mono ?_
    rintro e wo ⟨rfl, rfl⟩
    go_wp2_with fail
    refine (dnew_no r bu _ hok).mono ?_
    rintro e wo ⟨rfl, rfl⟩
    go_wp2_with fail
    refine (new_yes 1 1 _ rfl rfl (by decide)).mono ?_
    rintro e wo ⟨rfl, hl, hB⟩
    go_wp2_with fail
    go_ret
    exact ⟨rfl, hB⟩
  · have h1 : (r == 0) = false := by rw [beq_eq_false_iff_ne]; omega
    have h2 : (bu == 0) = false := by rw [beq_eq_false_iff_ne]; omega
    have h3 : r ≤ bu := by omega
    clear hok
    replace hby := Lib.hid hby
    replace ha := Lib.hid ha
    go_enter Try.func5, Try.ntmps5
    go_wp2_with fail
    refine (new_yes r bu _ h1 h2 h3).mono ?_
    rintro e wl ⟨rfl, hl1, hB1⟩
    replace hl1 := Lib.hid hl1
    go_wp2_with fail
    refine (dnew_yes r bu _ h1 h2 h3).mono ?_
    rintro e ws ⟨rfl, hl2, hB2⟩
    go_wp2_with fail
    have hz0 : ZK w w.heap.size wl.heap.size r bu (fun _ => False) bu [] [] 0 bu [] [] 0 ws := by
      have e1 := hl1.out.lt
      refine ⟨.slice none 0 0, .slice none 0 0, .slice none 0 0, .slice none 0 0, ⟨Bl.keep hl1.out hB2, OW.nil _ _ _, OW.nil _ _ _, fun k e => by simp [Value.ownBlock] at e⟩, hl2, ?_, ?_, fun k e => e.elim, hB1.trans (hB2.mono hB1.size)⟩
      · rintro k (rfl | e | e)
        · refine ⟨?_, fun e => e, Nat.le_refl _⟩
          rintro (e | e | e)
          · omega
          · simp [Value.ownBlock] at e
          · simp [Value.ownBlock] at e
        · simp [Value.ownBlock] at e
        · simp [Value.ownBlock] at e
      · rintro k (rfl | e | e)
        · exact ⟨fun e => e, hB1.size⟩
        · simp [Value.ownBlock] at e
        · simp [Value.ownBlock] at e
    replace hz0 := Lib.hid hz0
    have hrb := Lib.hid (And.intro hr hb)
    clear hl1 hB1 hl2 hB2
    go_loopw [13, 14] (fun vi _ wr => ∃ (k : Nat) (le : Int) (U O : List A3) (row : Int), vi = .int .i64 (k : Nat) ∧ k ≤ acts.length ∧ ZP r bu le U O row ∧ ZK w w.heap.size wl.heap.size r bu (fun _ => False) le U O row le U O row wr) (fun vi _ _ => acts.length - (intOf vi).toNat)
    case atStart => exact ⟨0, bu, [], [], 0, rfl, Nat.zero_le _, ⟨by simp, by omega, by omega, by simp, ⟨by simp, by simp⟩⟩, hz0.out⟩
    case round =>
      clear hz0
      obtain ⟨k, le, U, O, row, rfl, hk, hp, hz⟩ := hrel
      by_cases hlt : k < acts.length
      · obtain ⟨⟨a1, a2, a3, a4⟩, hak⟩ : ∃ a, acts[k]? = some a := ⟨acts[k], List.getElem?_eq_getElem hlt⟩
        obtain ⟨pb, po, rfl, q0, q1, q2, q3⟩ := fa_cells (ha.out.keep hz.bel) hak
        have hkz : (0 : Int) ≤ (k : Int) := by omega
        have hb3 : 0 ≤ a3 ∧ a3 < 18446744073709551616 := hby.out _ (List.mem_of_getElem? hak)
        have hBa : Below wr.heap.size wr (wr.alloc (.cells #[.int .i64 a1, .int .i64 a2, .int .u64 a3, .bool a4] 33 (0, 0))) := (Below.refl _ _).alloc (Nat.le_refl _) _
        have hz1 := Lib.hid (hz.grow hBa)
        have hla : Bl (wr.alloc (.cells #[.int .i64 a1, .int .i64 a2, .int .u64 a3, .bool a4] 33 (0, 0))) wr.heap.size (.cells #[.int .i64 a1, .int .i64 a2, .int .u64 a3, .bool a4] 33 (0, 0)) := Bl.new' rfl
        have hxla : wr.heap.size < (wr.alloc (.cells #[.int .i64 a1, .int .i64 a2, .int .u64 a3, .bool a4] 33 (0, 0))).heap.size := hla.lt
        replace hz := Lib.hid hz
        replace hb3 := Lib.hid hb3
        clear hBa hak
        go_upto_region 12 with (fail)
        obtain ⟨w1, hw1⟩ : ∃ w1, wr.alloc (.cells #[.int .i64 a1, .int .i64 a2, .int .u64 a3, .bool a4] 33 (0, 0)) = w1 := ⟨_, rfl⟩
        obtain ⟨la, hlae⟩ : ∃ la, wr.heap.size = la := ⟨_, rfl⟩
        rw [hw1] at hz1 hla hxla ⊢
        rw [hlae] at hz1 hla hxla ⊢
        have hwl : w.heap.size ≤ la := by rw [← hlae]; exact hz.out.bel.size
        clear hw1 hlae q0 q1 q2 q3 hz
        have q0 : w1.cell? ⟨la, 0, none⟩ = some (.int .i64 a1) := hla.cell 0
        have q1 : w1.cell? ⟨la, 1, none⟩ = some (.int .i64 a2) := hla.cell 1
        have q2 : w1.cell? ⟨la, 2, none⟩ = some (.int .u64 a3) := hla.cell 2
        have q3 : w1.cell? ⟨la, 3, none⟩ = some (.bool a4) := hla.cell 3
        replace hwl := Lib.hid hwl
        by_cases hk0 : a1 = 0
        · subst hk0
          have hz2 := Lib.hid (hz1.out.keep (Below.refl _ _).drew)
          have hS : ∀ W, Bl W la (.cells #[.int .i64 0, .int .i64 a2, .int .u64 a3, .bool a4] 33 (0, 0)) → W.cell? ⟨la, 1, none⟩ = some (.int .i64 a2) ∧ W.cell? ⟨la, 2, none⟩ = some (.int .u64 a3) ∧ W.cell? ⟨la, 3, none⟩ = some (.bool a4) := fun W hb => ⟨hb.cell 1, hb.cell 2, hb.cell 3⟩
          have hFr : ∀ W W' : World, Bl W la (.cells #[.int .i64 0, .int .i64 a2, .int .u64 a3, .bool a4] 33 (0, 0)) → Fr (fun k => ¬ (False ∨ (la ≤ k ∧ k < w1.heap.size)) ∧ w.heap.size ≤ k) W W' → Bl W' la (.cells #[.int .i64 0, .int .i64 a2, .int .u64 a3, .bool a4] 33 (0, 0)) := fun W W' hb hf => Bl.fr hb hf (fun e => e.1 (.inr ⟨Nat.le_refl _, hxla⟩))
          by_cases hok : a3 ≤ bu ∧ U.length + O.length < 4096
          · obtain ⟨U2, hU2⟩ : ∃ U2, (if a4 = true then U ++ [(a2, a3, a4)] else U) = U2 := ⟨_, rfl⟩
            obtain ⟨O2, hO2⟩ : ∃ O2, (if a4 = true then O else O ++ [(a2, a3, a4)]) = O2 := ⟨_, rfl⟩
            have hA := zk_ask a2 a3 a4 hz2.out hok.2 hok.1
            rw [hU2, hO2] at hA
            have hD := fun (UP OP : List A3) (w' : World) (h : ZK w w.heap.size wl.heap.size r bu (fun k => False ∨ (la ≤ k ∧ k < w1.heap.size)) le UP OP row le U O row w') => zk_dask a2 a3 a4 h hok.2 hok.1
            simp only [hU2, hO2] at hD
            have hp2 := hp.ask (who := a2) (ur := a4) hb3.out hok.2
            rw [hU2, hO2] at hp2
            replace hA := Lib.hid hA
            replace hD := Lib.hid hD
            replace hS := Lib.hid hS
            replace hFr := Lib.hid hFr
            clear hU2 hO2 hz1
            replace hp2 := Lib.hid hp2
            go_wp2_with fail
            go_region_held3 (fun W => W.cell? ⟨la, 1, none⟩ = some (.int .i64 a2) ∧ W.cell? ⟨la, 2, none⟩ = some (.int .u64 a3) ∧ W.cell? ⟨la, 3, none⟩ = some (.bool a4)) ((refine hS.out _ ?_; first | exact hla | exact hla3 | exact hla4)) ((first
              | (go_at_call 10; refine hA.out.mono ?_; rintro e w3 ⟨rfl, hz3, hf3⟩; have hla3 := hFr.out _ _ (Bl.drew hla) hf3; replace hz3 := Lib.hid hz3; clear hf3)
              | (go_at_call 14; refine (hD.out _ _ _ hz3.out).mono ?_; rintro e w4 ⟨rfl, hz4, hf4⟩; have hla4 := hFr.out _ _ hla3 hf4; replace hz4 := Lib.hid hz4; clear hf4)))
            all_goals
              go_wp2_with fail
              have hzt := Lib.hid (hz4.out.keep (Below.refl _ _).drew)
              have hpt := Lib.hid hp2.out
              obtain ⟨xs, hxs⟩ : ∃ xs, wtS (U2.length + O2.length) U2 O2 row = xs := ⟨_, rfl⟩
              have hxl : xs.length ≤ 4096 := by rw [← hxs, wtS_len _ _ _ _ rfl]; exact hp2.out.len
              have hW := zk_wait hzt.out hp2.out.len hp2.out.rowb
              have hDW := fun (X' : Nat → Prop) (w' : World) (h : ZK w w.heap.size wl.heap.size r bu X' le U2 O2 row le U2 O2 row w') => zk_dwait h hp2.out.len hp2.out.rowb hp2.out.flg
              rw [hxs] at hW
              simp only [hxs] at hDW
              have hdc := hz4.out.dcell
              have hlle : (le != le) = false := by simp
              replace hW := Lib.hid hW
              replace hDW := Lib.hid hDW
              clear hxs
              go_region_held3 (fun W => W.cell? ⟨wl.heap.size, 2, none⟩ = some (.int .u64 le)) (first | exact hdc | exact hz5.out.dcell | exact hz7.out.dcell | exact hz8.out.dcell) ((first
                | (go_at_call 12; refine hW.out.mono ?_; rintro e w5 ⟨p5, c5, rfl, ho5, hB5⟩; have hz5 := Lib.hid (hzt.out.grow hB5); replace ho5 := Lib.hid ho5; replace hB5 := Lib.hid hB5)
                | (go_at_call 19; refine (hDW.out _ _ hz5.out).mono ?_; rintro e w7 ⟨p7, c7, rfl, ho7, hB7⟩; have hz7 := Lib.hid (hz5.out.keep hB7); have ho57 := Lib.hid (ho5.out.keep hB7); replace ho7 := Lib.hid ho7; replace hB7 := Lib.hid hB7)
                | (go_at_call 15; refine (ints_any _ p7 c7 _ xs _ ho57.out ho7.out.rd (fun a ha e => by subst ha; have h1 := (ho7.out.lt a.block rfl).1; have h2 := (ho5.out.lt a.block e).2; omega) hxl).mono ?_; rintro e w8 ⟨rfl, hf8⟩; have hz8 := Lib.hid (hz7.out.fr hf8 (fun k e => ⟨.inr (ho5.out.lt k e), Nat.le_trans hzt.out.bel.size (ho5.out.lt k e).1⟩)); clear hf8)
                | (go_at_call 20; refine (zk_left hz8.out).mono ?_; rintro e w9 ⟨rfl, rfl⟩)))
              all_goals go_wp2_with fail
              all_goals go_roundw
              all_goals first
                | exact ⟨k + 1, _, _, _, _, by go_num, by omega, hpt.out, hz8.out.less (fun k e => e.elim)⟩
                | (simp [intOf]; omega)
          · have hlong : bu < a3 ∨ U.length + O.length = 4096 := by have := hp.len; omega
            have hA := zk_long a2 a3 a4 hz2.out hp.len hlong
            have hD := fun (UP OP : List A3) (w' : World) (h : ZK w w.heap.size wl.heap.size r bu (fun k => False ∨ (la ≤ k ∧ k < w1.heap.size)) le UP OP row le U O row w') => zk_dlong a2 a3 a4 h hp.len hlong
            replace hA := Lib.hid hA
            replace hD := Lib.hid hD
            replace hS := Lib.hid hS
            replace hFr := Lib.hid hFr
            clear hz1 hok hlong
            replace hp := Lib.hid hp
            go_wp2_with fail
            go_region_held3 (fun W => W.cell? ⟨la, 1, none⟩ = some (.int .i64 a2) ∧ W.cell? ⟨la, 2, none⟩ = some (.int .u64 a3) ∧ W.cell? ⟨la, 3, none⟩ = some (.bool a4)) ((refine hS.out _ ?_; first | exact hla | exact hla3 | exact hla4)) ((first
              | (go_at_call 10; refine hA.out.mono ?_; rintro e w3 ⟨rfl, hz3, hf3⟩; have hla3 := hFr.out _ _ (Bl.drew hla) hf3; replace hz3 := Lib.hid hz3; clear hf3)
              | (go_at_call 14; refine (hD.out _ _ _ hz3.out).mono ?_; rintro e w4 ⟨rfl, hz4, hf4⟩; have hla4 := hFr.out _ _ hla3 hf4; replace hz4 := Lib.hid hz4; clear hf4)))
            all_goals
              go_wp2_with fail
              have hzt := Lib.hid (hz4.out.keep (Below.refl _ _).drew)
              have hpt := Lib.hid hp.out
              obtain ⟨xs, hxs⟩ : ∃ xs, wtS (U.length + O.length) U O row = xs := ⟨_, rfl⟩
              have hxl : xs.length ≤ 4096 := by rw [← hxs, wtS_len _ _ _ _ rfl]; exact hp.out.len
              have hW := zk_wait hzt.out hp.out.len hp.out.rowb
              have hDW := fun (X' : Nat → Prop) (w' : World) (h : ZK w w.heap.size wl.heap.size r bu X' le U O row le U O row w') => zk_dwait h hp.out.len hp.out.rowb hp.out.flg
              rw [hxs] at hW
              simp only [hxs] at hDW
              have hdc := hz4.out.dcell
              have hlle : (le != le) = false := by simp
              replace hW := Lib.hid hW
              replace hDW := Lib.hid hDW
              clear hxs
              go_region_held3 (fun W => W.cell? ⟨wl.heap.size, 2, none⟩ = some (.int .u64 le)) (first | exact hdc | exact hz5.out.dcell | exact hz7.out.dcell | exact hz8.out.dcell) ((first
                | (go_at_call 12; refine hW.out.mono ?_; rintro e w5 ⟨p5, c5, rfl, ho5, hB5⟩; have hz5 := Lib.hid (hzt.out.grow hB5); replace ho5 := Lib.hid ho5; replace hB5 := Lib.hid hB5)
                | (go_at_call 19; refine (hDW.out _ _ hz5.out).mono ?_; rintro e w7 ⟨p7, c7, rfl, ho7, hB7⟩; have hz7 := Lib.hid (hz5.out.keep hB7); have ho57 := Lib.hid (ho5.out.keep hB7); replace ho7 := Lib.hid ho7; replace hB7 := Lib.hid hB7)
                | (go_at_call 15; refine (ints_any _ p7 c7 _ xs _ ho57.out ho7.out.rd (fun a ha e => by subst ha; have h1 := (ho7.out.lt a.block rfl).1; have h2 := (ho5.out.lt a.block e).2; omega) hxl).mono ?_; rintro e w8 ⟨rfl, hf8⟩; have hz8 := Lib.hid (hz7.out.fr hf8 (fun k e => ⟨.inr (ho5.out.lt k e), Nat.le_trans hzt.out.bel.size (ho5.out.lt k e).1⟩)); clear hf8)
                | (go_at_call 20; refine (zk_left hz8.out).mono ?_; rintro e w9 ⟨rfl, rfl⟩)))
              all_goals go_wp2_with fail
              all_goals go_roundw
              all_goals first
                | exact ⟨k + 1, _, _, _, _, by go_num, by omega, hpt.out, hz8.out.less (fun k e => e.elim)⟩
                | (simp [intOf]; omega)
        · have hk0' : (a1 == 0) = false := beq_eq_false_iff_ne.2 hk0
          by_cases hk1 : a1 = 1
          · subst hk1
            obtain ⟨g, le', U', O', row', hrun, hp', hgl⟩ := hp.step ⟨hr.1, h3⟩ hb.2
            have hA := zk_step hrun hz1.out hp.len (by omega) (by omega) (by have := hp.leb; omega) hp.rowb hp.all
            have hD := fun (X' : Nat → Prop) (UP OP : List A3) (leP rowP : Int) (w' : World) (h : ZK w w.heap.size wl.heap.size r bu X' leP UP OP rowP le U O row w') => zk_dstep hrun h hp.len hp.flg ⟨hr.1, h3⟩ hb hp.leb hp.rowb hp.all
            replace hA := Lib.hid hA
            replace hD := Lib.hid hD
            replace hp' := Lib.hid hp'
            clear hrun hp q0 q1 q2 q3
            have q0 : w1.cell? ⟨la, 0, none⟩ = some (.int .i64 1) := hla.cell 0
            go_wp2_with (first
              | (go_at_call 11; refine hA.out.mono ?_; rintro e w3 ⟨p3, c3, rfl, ho3, hz3, hf3⟩; replace ho3 := Lib.hid ho3; replace hz3 := Lib.hid hz3; clear hf3)
              | (go_at_call 16; refine (hD.out _ _ _ _ _ _ hz3.out).mono ?_; rintro e w4 ⟨p4, c4, rfl, ho4, hz4, hf4⟩; have ho34 := Lib.hid (ho3.out.fr hf4 (fun k e e' => e'.1 (.inr e))); replace ho4 := Lib.hid ho4; replace hz4 := Lib.hid hz4; clear hf4)
              | (go_at_call 15; refine (ints_any _ p4 c4 _ g _ ho34.out ho4.out.rd (fun a ha e => by subst ha; have h1 := (ho4.out.lt a.block rfl).1; have h2 := (ho3.out.lt a.block e).2; omega) hgl).mono ?_; rintro e w5 ⟨rfl, hf5⟩; have hzs := Lib.hid ((hz4.out.fr hf5 (fun k e => ⟨.inr e, Nat.le_trans hz1.out.bel.size (ho3.out.lt k e).1⟩)).less (Y := fun k => False ∨ (la ≤ k ∧ k < w1.heap.size)) (fun k e => .inl e)); clear hf5))
            have hzt := Lib.hid (hzs.out.keep (Below.refl _ _).drew)
            have hpt := Lib.hid hp'.out
            obtain ⟨xs, hxs⟩ : ∃ xs, wtS (U'.length + O'.length) U' O' row' = xs := ⟨_, rfl⟩
            have hxl : xs.length ≤ 4096 := by rw [← hxs, wtS_len _ _ _ _ rfl]; exact hp'.out.len
            have hW := zk_wait hzt.out hp'.out.len hp'.out.rowb
            have hDW := fun (X' : Nat → Prop) (w' : World) (h : ZK w w.heap.size wl.heap.size r bu X' le' U' O' row' le' U' O' row' w') => zk_dwait h hp'.out.len hp'.out.rowb hp'.out.flg
            rw [hxs] at hW
            simp only [hxs] at hDW
            have hdc := hzs.out.dcell
            have hlle : (le' != le') = false := by simp
            replace hW := Lib.hid hW
            replace hDW := Lib.hid hDW
            clear hxs
            go_region_held3 (fun W => W.cell? ⟨wl.heap.size, 2, none⟩ = some (.int .u64 le')) (first | exact hdc | exact hz5.out.dcell | exact hz7.out.dcell | exact hz8.out.dcell) ((first
              | (go_at_call 12; refine hW.out.mono ?_; rintro e w5 ⟨p5, c5, rfl, ho5, hB5⟩; have hz5 := Lib.hid (hzt.out.grow hB5); replace ho5 := Lib.hid ho5; replace hB5 := Lib.hid hB5)
              | (go_at_call 19; refine (hDW.out _ _ hz5.out).mono ?_; rintro e w7 ⟨p7, c7, rfl, ho7, hB7⟩; have hz7 := Lib.hid (hz5.out.keep hB7); have ho57 := Lib.hid (ho5.out.keep hB7); replace ho7 := Lib.hid ho7; replace hB7 := Lib.hid hB7)
              | (go_at_call 15; refine (ints_any _ p7 c7 _ xs _ ho57.out ho7.out.rd (fun a ha e => by subst ha; have h1 := (ho7.out.lt a.block rfl).1; have h2 := (ho5.out.lt a.block e).2; omega) hxl).mono ?_; rintro e w8 ⟨rfl, hf8⟩; have hz8 := Lib.hid (hz7.out.fr hf8 (fun k e => ⟨.inr (ho5.out.lt k e), Nat.le_trans hzt.out.bel.size (ho5.out.lt k e).1⟩)); clear hf8)
              | (go_at_call 20; refine (zk_left hz8.out).mono ?_; rintro e w9 ⟨rfl, rfl⟩)))
            all_goals go_wp2_with fail
            all_goals go_roundw
            all_goals first
              | exact ⟨k + 1, _, _, _, _, by go_num, by omega, hpt.out, hz8.out.less (fun k e => e.elim)⟩
              | (simp [intOf]; omega)
          · have hk1' : (a1 == 1) = false := beq_eq_false_iff_ne.2 hk1
            by_cases hk2 : a1 = 2
            · subst hk2
              have hz2 := Lib.hid (hz1.out.keep (Below.refl _ _).drew)
              obtain ⟨nd, hnd⟩ : ∃ nd : Int, ((U.length + O.length : Nat) - (fw a2 U).length - (fw a2 O).length : Int) = nd := ⟨_, rfl⟩
              have hA := zk_drop a2 hz2.out hp.len
              have hD := fun (UP OP : List A3) (w' : World) (h : ZK w w.heap.size wl.heap.size r bu (fun k => False ∨ (la ≤ k ∧ k < w1.heap.size)) le UP OP row le U O row w') => zk_ddrop a2 h hp.len
              rw [hnd] at hA
              simp only [hnd] at hD
              have hp2 := hp.drop (who := a2)
              have hnn : (nd != nd) = false := by simp
              have hS : ∀ W, Bl W la (.cells #[.int .i64 2, .int .i64 a2, .int .u64 a3, .bool a4] 33 (0, 0)) → W.cell? ⟨la, 1, none⟩ = some (.int .i64 a2) := fun W hb => hb.cell 1
              have hFr : ∀ W W' : World, Bl W la (.cells #[.int .i64 2, .int .i64 a2, .int .u64 a3, .bool a4] 33 (0, 0)) → Fr (fun k => ¬ (False ∨ (la ≤ k ∧ k < w1.heap.size)) ∧ w.heap.size ≤ k) W W' → Bl W' la (.cells #[.int .i64 2, .int .i64 a2, .int .u64 a3, .bool a4] 33 (0, 0)) := fun W W' hb hf => Bl.fr hb hf (fun e => e.1 (.inr ⟨Nat.le_refl _, hxla⟩))
              replace hA := Lib.hid hA
              replace hD := Lib.hid hD
              replace hS := Lib.hid hS
              replace hFr := Lib.hid hFr
              replace hp2 := Lib.hid hp2
              clear hnd hz1
              go_wp2_with fail
              go_region_held3 (fun W => W.cell? ⟨la, 1, none⟩ = some (.int .i64 a2)) ((refine hS.out _ ?_; first | exact hla | exact hla3 | exact hla4)) ((first
                | (go_at_call 17; refine hA.out.mono ?_; rintro e w3 ⟨rfl, hz3, hf3⟩; have hla3 := hFr.out _ _ (Bl.drew hla) hf3; replace hz3 := Lib.hid hz3; clear hf3)
                | (go_at_call 18; refine (hD.out _ _ _ hz3.out).mono ?_; rintro e w4 ⟨rfl, hz4, hf4⟩; have hla4 := hFr.out _ _ hla3 hf4; replace hz4 := Lib.hid hz4; clear hf4)))
              all_goals
                go_wp2_with fail
                have hzt := Lib.hid (hz4.out.keep (Below.refl _ _).drew)
                have hpt := Lib.hid hp2.out
                obtain ⟨xs, hxs⟩ : ∃ xs, wtS ((fw a2 U).length + (fw a2 O).length) (fw a2 U) (fw a2 O) row = xs := ⟨_, rfl⟩
                have hxl : xs.length ≤ 4096 := by rw [← hxs, wtS_len _ _ _ _ rfl]; exact hp2.out.len
                have hW := zk_wait hzt.out hp2.out.len hp2.out.rowb
                have hDW := fun (X' : Nat → Prop) (w' : World) (h : ZK w w.heap.size wl.heap.size r bu X' le (fw a2 U) (fw a2 O) row le (fw a2 U) (fw a2 O) row w') => zk_dwait h hp2.out.len hp2.out.rowb hp2.out.flg
                rw [hxs] at hW
                simp only [hxs] at hDW
                have hdc := hz4.out.dcell
                have hlle : (le != le) = false := by simp
                replace hW := Lib.hid hW
                replace hDW := Lib.hid hDW
                clear hxs
                go_region_held3 (fun W => W.cell? ⟨wl.heap.size, 2, none⟩ = some (.int .u64 le)) (first | exact hdc | exact hz5.out.dcell | exact hz7.out.dcell | exact hz8.out.dcell) ((first
                  | (go_at_call 12; refine hW.out.mono ?_; rintro e w5 ⟨p5, c5, rfl, ho5, hB5⟩; have hz5 := Lib.hid (hzt.out.grow hB5); replace ho5 := Lib.hid ho5; replace hB5 := Lib.hid hB5)
                  | (go_at_call 19; refine (hDW.out _ _ hz5.out).mono ?_; rintro e w7 ⟨p7, c7, rfl, ho7, hB7⟩; have hz7 := Lib.hid (hz5.out.keep hB7); have ho57 := Lib.hid (ho5.out.keep hB7); replace ho7 := Lib.hid ho7; replace hB7 := Lib.hid hB7)
                  | (go_at_call 15; refine (ints_any _ p7 c7 _ xs _ ho57.out ho7.out.rd (fun a ha e => by subst ha; have h1 := (ho7.out.lt a.block rfl).1; have h2 := (ho5.out.lt a.block e).2; omega) hxl).mono ?_; rintro e w8 ⟨rfl, hf8⟩; have hz8 := Lib.hid (hz7.out.fr hf8 (fun k e => ⟨.inr (ho5.out.lt k e), Nat.le_trans hzt.out.bel.size (ho5.out.lt k e).1⟩)); clear hf8)
                  | (go_at_call 20; refine (zk_left hz8.out).mono ?_; rintro e w9 ⟨rfl, rfl⟩)))
                all_goals go_wp2_with fail
                all_goals go_roundw
                all_goals first
                  | exact ⟨k + 1, _, _, _, _, by go_num, by omega, hpt.out, hz8.out.less (fun k e => e.elim)⟩
                  | (simp [intOf]; omega)
            · have hk2' : (a1 == 2) = false := beq_eq_false_iff_ne.2 hk2
              replace hp := Lib.hid hp
              go_wp2_with fail
              have hzt := Lib.hid (hz1.out.keep (Below.refl _ _).drew)
              have hpt := Lib.hid hp.out
              obtain ⟨xs, hxs⟩ : ∃ xs, wtS (U.length + O.length) U O row = xs := ⟨_, rfl⟩
              have hxl : xs.length ≤ 4096 := by rw [← hxs, wtS_len _ _ _ _ rfl]; exact hp.out.len
              have hW := zk_wait hzt.out hp.out.len hp.out.rowb
              have hDW := fun (X' : Nat → Prop) (w' : World) (h : ZK w w.heap.size wl.heap.size r bu X' le U O row le U O row w') => zk_dwait h hp.out.len hp.out.rowb hp.out.flg
              rw [hxs] at hW
              simp only [hxs] at hDW
              have hdc := hz1.out.dcell
              have hlle : (le != le) = false := by simp
              replace hW := Lib.hid hW
              replace hDW := Lib.hid hDW
              clear hxs
              go_region_held3 (fun W => W.cell? ⟨wl.heap.size, 2, none⟩ = some (.int .u64 le)) (first | exact hdc | exact hz5.out.dcell | exact hz7.out.dcell | exact hz8.out.dcell) ((first
                | (go_at_call 12; refine hW.out.mono ?_; rintro e w5 ⟨p5, c5, rfl, ho5, hB5⟩; have hz5 := Lib.hid (hzt.out.grow hB5); replace ho5 := Lib.hid ho5; replace hB5 := Lib.hid hB5)
                | (go_at_call 19; refine (hDW.out _ _ hz5.out).mono ?_; rintro e w7 ⟨p7, c7, rfl, ho7, hB7⟩; have hz7 := Lib.hid (hz5.out.keep hB7); have ho57 := Lib.hid (ho5.out.keep hB7); replace ho7 := Lib.hid ho7; replace hB7 := Lib.hid hB7)
                | (go_at_call 15; refine (ints_any _ p7 c7 _ xs _ ho57.out ho7.out.rd (fun a ha e => by subst ha; have h1 := (ho7.out.lt a.block rfl).1; have h2 := (ho5.out.lt a.block e).2; omega) hxl).mono ?_; rintro e w8 ⟨rfl, hf8⟩; have hz8 := Lib.hid (hz7.out.fr hf8 (fun k e => ⟨.inr (ho5.out.lt k e), Nat.le_trans hzt.out.bel.size (ho5.out.lt k e).1⟩)); clear hf8)
                | (go_at_call 20; refine (zk_left hz8.out).mono ?_; rintro e w9 ⟨rfl, rfl⟩)))
              all_goals go_wp2_with fail
              all_goals go_roundw
              all_goals first
                | exact ⟨k + 1, _, _, _, _, by go_num, by omega, hpt.out, hz8.out.less (fun k e => e.elim)⟩
                | (simp [intOf]; omega)
      · have hBw := hz.bel
        have hz2 := Lib.hid (hz.keep (Below.refl _ _).drew)
        have hlle : (le == le) = true := beq_self_eq_true _
        have hdc := hz.dcell
        replace hz := Lib.hid hz
        replace hp := Lib.hid hp
        go_wp2_with fail
        go_region_held3 (fun W => W.cell? ⟨wl.heap.size, 2, none⟩ = some (.int .u64 le)) (exact hdc) ((go_at_call 20; refine (zk_left hz2.out).mono ?_; rintro e w9 ⟨rfl, rfl⟩))
        all_goals go_wp2_with fail
        all_goals go_ret
        all_goals exact ⟨rfl, hBw.drew⟩
end Go.Proofs.Ytefeompdhalgcaa
