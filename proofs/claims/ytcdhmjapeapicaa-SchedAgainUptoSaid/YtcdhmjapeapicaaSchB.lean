/- A scheduler: who may go, who is alive; a task's step. Conditions: what each theorem names. -/
import Derived.RangeFuncNested
import Derived.RangeFuncBound
import Derived.RangeFuncCalls
import Derived.RangeFuncLeaves
import Derived.Shelf.Abstract
import Derived.Shelf.RegionOpen
import Derived.WalkKit
import Derived.OwnWalkIn
import Derived.TacticsInMore
import Derived.LoopNIn
import Derived.LoopIn
import Derived.Lib.Hide
import Derived.Outline
import Derived.RegionTactic
import Derived.BigRegion
import Derived.WalkLawsBesides
import Derived.WalkSpells
import Derived.Deep.QuietTactic
import Derived.BigQuiet
import Derived.Deep.RegionHeld3
import Derived.Deep.DeepCutAuto
import Derived.Deep.CutBlock
import Derived.StillTailTactics
import Derived.WalkSmall
import Derived.Test.YtcdhmjapeapicaaProg
import Derived.Test.YtcdhmjapeapicaaFr
import Derived.Test.YtcdhmjapeapicaaMp
import Derived.Defers
import Derived.Recover
import Derived.Test.YtcdhmjapeapicaaSchA
namespace Go.Proofs.Ytcdhmjapeapicaa
open Go.RowKit Go.Sed Go.Maps
set_option maxHeartbeats 1000000
set_option maxRecDepth 100000
def aliveB (t : Tk) : Bool := t.kd != 4
theorem those_alive (base b mb : Nat) (v : Value) (s : SS) (w : World) (h : SH w base b mb v s) (hn : s.bs.length ≤ 64) :
    Calls Try.prog 33 #[ptr b, .func (.func 55) #[] #[]] w fun e w' => ∃ r, e = .returned r ∧ OW w' w.heap.size 1 r (thoseI aliveB s.ts).length ((thoseI aliveB s.ts).map (Value.int .i64)) ∧ Below w.heap.size w w' := by
  obtain ⟨A1, c1, rfl, -⟩ := h.row.shape
  have d0 : w.cell? ⟨b, 0, none⟩ = some (.slice A1 s.bs.length c1) := h.ld.cell 0
  replace h := Lib.hid h
  unfold ptr
  go_enter Try.func33, Try.ntmps33
  go_wp2_with fail
  go_loopw [5, 13] (fun l i wr => ∃ k : Nat, k ≤ s.bs.length ∧ i = .int .i64 k ∧ OW wr w.heap.size 1 l (thoseK aliveB s.ts k).length ((thoseK aliveB s.ts k).map (Value.int .i64)) ∧ Below w.heap.size w wr) (fun _ i _ => s.bs.length - (intOf i).toNat)
  case atStart => exact ⟨0, Nat.zero_le _, rfl, OW.nil _ _ _, Below.refl _ _⟩
  case round =>
    obtain ⟨k, hk, rfl, ho, hB⟩ := hrel
    obtain ⟨Al, cl, rfl, -⟩ := ho.shape
    have hKl := thoseK_len aliveB s.ts k
    by_cases hlt : k < s.bs.length
    · have hr := (h.out.row.keep hB).rd
      obtain ⟨g1, o1, u1, rfl, hu1, r1⟩ := hr.at1 hlt
      obtain ⟨x, hx, rfl⟩ : ∃ x, s.bs[k]? = some x ∧ u1 = ptr x := by
        rw [List.getElem?_map, List.getElem?_eq_getElem hlt] at hu1
        exact ⟨_, List.getElem?_eq_getElem hlt, (Option.some.inj hu1).symm⟩
      obtain ⟨t, ht⟩ : ∃ t, s.ts[k]? = some t := ⟨_, List.getElem?_eq_getElem (by rw [h.out.len]; exact hlt)⟩
      have hs := thoseK_succ aliveB s.ts k t ht
      clear hr hu1
      unfold ptr at r1
      have hsz := hB.size
      cases hm : aliveB t
      · rw [hm, if_neg (by simp)] at hs
        replace hs := Lib.hid hs
        replace hm := Lib.hid hm
        go_wp2_with (go_at_call 55; refine (alive_any base b mb x k _ s t _ (h.out.keep hB) hx ht).mono ?_; rintro e w1 ⟨rfl, hB1⟩; rw [show (t.kd != 4) = aliveB t from rfl, hm.out])
        go_roundw
        case rel => exact ⟨k + 1, by omega, by go_num, by rw [hs.out]; exact ho.keep hB1, below_then hB hB1⟩
        case measure => simp only [intOf]; omega
      · rw [hm, if_pos rfl] at hs
        replace hs := Lib.hid hs
        replace hm := Lib.hid hm
        go_wp2_with (first
          | (go_at_call 55; refine (alive_any base b mb x k _ s t _ (h.out.keep hB) hx ht).mono ?_; rintro e w1 ⟨rfl, hB1⟩; rw [show (t.kd != 4) = aliveB t from rfl, hm.out])
          | (at_builtin; refine wpList_append_ow rfl _ _ 26 rfl w.heap.size 3 Try.underlying26 infoInt rfl (by decide) _ (thoseK aliveB s.ts k).length _ rfl ((ho.keep hB1).alloc _) _ 1 1 [.int .i64 k] rfl (rd_one rfl _ _) (by intro u hu; simp at hu; subst hu; rfl) (by unfold maxLen; omega) (by omega) (by have := hB1.size; simp; omega) ?_; intro v5 w5 hown5 hgr5 hcase5; have hB5 : Below w.heap.size w w5 := below_grow ((below_then hB hB1).alloc (below_then hB hB1).size _) (by have := hB1.size; simp; omega) ((ho.keep hB1).alloc _) (Nat.le_refl _) hgr5; clear hgr5 hcase5))
        go_roundw
        case rel => exact ⟨k + 1, by omega, by go_num, by rw [hs.out, List.length_append, List.map_append]; exact hown5, hB5⟩
        case measure => simp only [intOf]; omega
    · obtain rfl : k = s.bs.length := by omega
      go_wp2_with fail
      go_ret
      refine ⟨_, rfl, ?_, hB⟩
      have e : thoseK aliveB s.ts s.bs.length = thoseI aliveB s.ts := by unfold thoseK thoseI; rw [h.out.len]
      rw [← e]; exact ho
theorem enabled_any (base b mb : Nat) (v : Value) (s : SS) (w : World) (h : SH w base b mb v s) (hst : Steady s) (hn : s.bs.length ≤ 64) :
    Calls Try.prog 28 #[ptr b] w fun e w' => ∃ r, e = .returned r ∧ OW w' w.heap.size 1 r (thoseI (mayB s) s.ts).length ((thoseI (mayB s) s.ts).map (Value.int .i64)) ∧ Below w.heap.size w w' := by
  have hmf : ∀ (fn : Fn) (first cap : Array Value) (w : World), (Instr.makeFunc fn first cap).run Try.prog w = .ok (.func fn first cap) w := fun _ _ _ _ => rfl
  have hc := those_may base b mb v s w h hst hn
  unfold ptr at hc ⊢
  go_enter Try.func28, Try.ntmps28
  go_wp2_with (go_at_call 33; refine hc.mono ?_; rintro e w1 ⟨r, rfl, ho, hB⟩)
  go_ret
  exact ⟨_, rfl, ho, hB⟩
theorem Enabled_any (base b mb : Nat) (v : Value) (s : SS) (w : World) (h : SH w base b mb v s) (hst : Steady s) (hn : s.bs.length ≤ 64) :
    Calls Try.prog 12 #[ptr b] w fun e w' => ∃ r, e = .returned r ∧ OW w' w.heap.size 1 r (thoseI (mayB s) s.ts).length ((thoseI (mayB s) s.ts).map (Value.int .i64)) ∧ Below w.heap.size w w' := by
  have hc := enabled_any base b mb v s w h hst hn
  unfold ptr at hc ⊢
  go_enter Try.func12, Try.ntmps12
  go_wp2_with (go_at_call 28; refine hc.mono ?_; rintro e w1 ⟨r, rfl, ho, hB⟩)
  go_ret
  exact ⟨_, rfl, ho, hB⟩
theorem alives_any (base b mb : Nat) (v : Value) (s : SS) (w : World) (h : SH w base b mb v s) (hn : s.bs.length ≤ 64) :
    Calls Try.prog 30 #[ptr b] w fun e w' => ∃ r, e = .returned r ∧ OW w' w.heap.size 1 r (thoseI aliveB s.ts).length ((thoseI aliveB s.ts).map (Value.int .i64)) ∧ Below w.heap.size w w' := by
  have hmf : ∀ (fn : Fn) (first cap : Array Value) (w : World), (Instr.makeFunc fn first cap).run Try.prog w = .ok (.func fn first cap) w := fun _ _ _ _ => rfl
  have hc := those_alive base b mb v s w h hn
  unfold ptr at hc ⊢
  go_enter Try.func30, Try.ntmps30
  go_wp2_with (go_at_call 33; refine hc.mono ?_; rintro e w1 ⟨r, rfl, ho, hB⟩)
  go_ret
  exact ⟨_, rfl, ho, hB⟩
theorem Alive_any (base b mb : Nat) (v : Value) (s : SS) (w : World) (h : SH w base b mb v s) (hn : s.bs.length ≤ 64) :
    Calls Try.prog 14 #[ptr b] w fun e w' => ∃ r, e = .returned r ∧ OW w' w.heap.size 1 r (thoseI aliveB s.ts).length ((thoseI aliveB s.ts).map (Value.int .i64)) ∧ Below w.heap.size w w' := by
  have hc := alives_any base b mb v s w h hn
  unfold ptr at hc ⊢
  go_enter Try.func14, Try.ntmps14
  go_wp2_with (go_at_call 30; refine hc.mono ?_; rintro e w1 ⟨r, rfl, ho, hB⟩)
  go_ret
  exact ⟨_, rfl, ho, hB⟩
/-- what is done behind a step that went. -/
theorem does1_ok (b bb ob wb : Nat) (w : World) (h0 : w.cell? ⟨bb, 0, none⟩ = some (ptr b)) (h1 : w.cell? ⟨ob, 0, none⟩ = some (.bool true)) (hz : w.frozen? ⟨b, 4, none⟩ = false) (hb : ∃ u, w.cell? ⟨b, 4, none⟩ = some u) (hne : ob ≠ b) :
    CallsD Try.prog 64 #[.pointer (some ⟨bb, 0, none⟩), .pointer (some ⟨ob, 0, none⟩), .pointer (some ⟨wb, 0, none⟩)] .returning w fun e u' w' =>
      e = .returned (.tuple #[]) ∧ u' = .returning ∧ w' = w.setCell ⟨b, 4, none⟩ (.bool false) := by
  obtain ⟨u0, hu0⟩ := hb
  have h2 : (w.setCell ⟨b, 4, none⟩ (.bool false)).cell? ⟨ob, 0, none⟩ = some (.bool true) := (World.cell?_of_block (a := ⟨ob, 0, none⟩) (Below.heap_setCell _ _ _ _ hne)).trans h1
  unfold ptr at h0
  refine callsD_of_wpS Try.func64 rfl fun c₀ cs hu => ?_
  apply wpS_seq
  apply wpS_region
  simp [wpOpsS, go_sem, hu, h0, hu0, hz, Try.ntmps64, Exit.thenS]
  apply wpS_seq
  apply wpS_region
  simp [wpOpsS, go_sem, h2, Exit.thenS]
  refine wpS_cond (t := false) (by simp [Act.eval, Array.replicate]) ?_
  simp only [Bool.false_eq_true, if_false]
  refine wpS_of_wp (wp_skip ?_)
  cases c₀
  simp_all [bodyPostS, results, Try.results64]
theorem does1_no (b bb ob wb : Nat) (u : TypeId) (pv : Value) (older : List PanicEntry) (w : World) (k0 k1 : Value) (h0 : w.cell? ⟨bb, 0, none⟩ = some (ptr b)) (h1 : w.cell? ⟨ob, 0, none⟩ = some (.bool false)) (hz : w.frozen? ⟨b, 4, none⟩ = false) (hb : ∃ u, w.cell? ⟨b, 4, none⟩ = some u) (hne : ob ≠ b)
    (hw0 : w.cell? ⟨wb, 0, none⟩ = some k0) (hw1 : w.cell? ⟨wb, 1, none⟩ = some k1) (hwz : w.frozen? ⟨wb, 0, none⟩ = false) (hwz1 : w.frozen? ⟨wb, 1, none⟩ = false) (hwb : wb ≠ b) :
    CallsD Try.prog 64 #[.pointer (some ⟨bb, 0, none⟩), .pointer (some ⟨ob, 0, none⟩), .pointer (some ⟨wb, 0, none⟩)] (.panicking ({ v := .iface u pv, recovered := false } :: older)) w fun e u' w' =>
      e = .returned (.tuple #[]) ∧ u' = .panicking ({ v := .iface u pv, recovered := true } :: older) ∧ w' = ((w.setCell ⟨b, 4, none⟩ (.bool false)).setCell ⟨wb, 0, none⟩ (.int .i64 0)).setCell ⟨wb, 1, none⟩ (.int .i64 0) := by
  obtain ⟨u0, hu0⟩ := hb
  have h2 : (w.setCell ⟨b, 4, none⟩ (.bool false)).cell? ⟨ob, 0, none⟩ = some (.bool false) := (World.cell?_of_block (a := ⟨ob, 0, none⟩) (Below.heap_setCell _ _ _ _ hne)).trans h1
  have h3 : (w.setCell ⟨b, 4, none⟩ (.bool false)).cell? ⟨wb, 0, none⟩ = some k0 := (World.cell?_of_block (a := ⟨wb, 0, none⟩) (Below.heap_setCell _ _ _ _ hwb)).trans hw0
  have h4 : (w.setCell ⟨b, 4, none⟩ (.bool false)).cell? ⟨wb, 1, none⟩ = some k1 := (World.cell?_of_block (a := ⟨wb, 1, none⟩) (Below.heap_setCell _ _ _ _ hwb)).trans hw1
  unfold ptr at h0
  refine callsD_of_wpS Try.func64 rfl fun c₀ cs hu => ?_
  apply wpS_seq
  apply wpS_region
  simp [wpOpsS, go_sem, hu, h0, hu0, hz, Try.ntmps64, Exit.thenS]
  apply wpS_seq
  apply wpS_region
  simp [wpOpsS, go_sem, h2, Exit.thenS]
  refine wpS_cond (t := true) (by simp [Act.eval, Array.replicate]) ?_
  simp only [if_true]
  apply wpS_seq
  apply wpS_region
  simp [wpOpsS, go_sem, recoverD, hu, Exit.thenS]
  apply wpS_region
  simp [wpOpsS, go_sem, h3, h4, hwz, hwz1, bodyPostS, results, Try.results64]
end Go.Proofs.Ytcdhmjapeapicaa
