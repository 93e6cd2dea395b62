/- A scheduler asked from within a step; a lock let go. Conditions: what each theorem names. -/
import Derived.RangeFuncNested
import Derived.RangeFuncBound
import Derived.RangeFuncCalls
import Derived.RangeFuncLeaves
import Derived.Shelf.Abstract
import Derived.Shelf.RegionOpen
import Derived.WalkKit
import Derived.OwnWalkIn
import Derived.TacticsInMore
import Derived.LoopNIn
import Derived.LoopIn
import Derived.Lib.Hide
import Derived.Outline
import Derived.RegionTactic
import Derived.BigRegion
import Derived.WalkLawsBesides
import Derived.WalkSpells
import Derived.Deep.QuietTactic
import Derived.BigQuiet
import Derived.Deep.RegionHeld3
import Derived.Deep.DeepCutAuto
import Derived.Deep.CutBlock
import Derived.StillTailTactics
import Derived.WalkSmall
import Derived.Test.YtcdhmjapeapicaaProg
import Derived.Test.YtcdhmjapeapicaaFr
import Derived.Test.YtcdhmjapeapicaaMp
import Derived.Defers
import Derived.Recover
import Derived.Test.YtcdhmjapeapicaaSchG
import Derived.Test.YtcdhmjapeapicaaSchE
import Derived.Lib.SliceRun
namespace Go.Proofs.Ytcdhmjapeapicaa
open Go.RowKit Go.Sed Go.Maps
set_option maxHeartbeats 1000000
set_option maxRecDepth 100000
theorem within_any (base b mb : Nat) (i : Int) (v : Value) (s : SS) (w : World) (h : SH w base b mb v s) (hst : Steady s) (hwi : s.within = true) (hn64 : s.bs.length ≤ 64) :
    Calls Try.prog 29 #[ptr b, .int .i64 i] w fun e w' => e = .returned (.tuple #[.int .i64 0, .int .i64 8]) ∧ Below w.heap.size w w' := by
  have hc := Lib.hid (enabled_any base b mb v s w h hst hn64)
  replace h := Lib.hid h
  replace hwi := Lib.hid hwi
  unfold ptr at hc ⊢
  go_enter Try.func29, Try.ntmps29
  go_wp2_with (go_at_call 28; refine hc.out.mono ?_; rintro e w1 ⟨r, rfl, ho, hB1⟩; obtain ⟨A1, c1, rfl, -⟩ := ho.shape; have d4 : w1.cell? ⟨b, 4, none⟩ = some (.bool true) := by { rw [← hwi.out]; exact (h.out.keep hB1).ld.cell 4 }; clear ho)
  go_ret2
  exact ⟨rfl, hB1⟩
theorem Within_any (base b mb : Nat) (i : Int) (v : Value) (s : SS) (w : World) (h : SH w base b mb v s) (hst : Steady s) (hwi : s.within = true) (hn64 : s.bs.length ≤ 64) :
    Calls Try.prog 13 #[ptr b, .int .i64 i] w fun e w' => e = .returned (.tuple #[.int .i64 0, .int .i64 8]) ∧ Below w.heap.size w w' := by
  have hc := Lib.hid (within_any base b mb i v s w h hst hwi hn64)
  clear h hst
  unfold ptr at hc ⊢
  go_enter Try.func13, Try.ntmps13
  go_wp2_with (go_at_call 29; refine hc.out.mono ?_; rintro e w1 ⟨rfl, hB1⟩)
  go_ret2
  exact ⟨rfl, hB1⟩
theorem Run_within (base b mb : Nat) (x : Value) (m : Int) (v : Value) (s : SS) (w : World) (h : SH w base b mb v s) (hwi : s.within = true) :
    Calls Try.prog 16 #[ptr b, x, .int .i64 m] w fun e w' => e = .returned (.tuple #[.int .i64 0, .int .i64 8]) ∧ w = w' := by
  have d4 : w.cell? ⟨b, 4, none⟩ = some (.bool true) := by rw [← hwi]; exact h.ld.cell 4
  clear h
  unfold ptr
  go_enter Try.func16, Try.ntmps16
  go_wp2_with fail
  go_ret2
  exact ⟨rfl, rfl⟩
theorem is_yes (base b mb n : Nat) (v : Value) (s : SS) (w : World) (h : SH w base b mb v s) (hn : n < s.bs.length) :
    Calls Try.prog 35 #[ptr b, .int .i64 n] w fun e w' => e = .returned (.bool true) ∧ w = w' := by
  obtain ⟨A0, c0, rfl, -⟩ := h.row.shape
  have d0 : w.cell? ⟨b, 0, none⟩ = some (.slice A0 s.bs.length c0) := h.ld.cell 0
  have hz : (0 : Int) ≤ (n : Int) := by omega
  have hd : decide ((n : Int) < s.bs.length) = true := decide_eq_true (by omega)
  clear h
  unfold ptr
  go_enter Try.func35, Try.ntmps35
  go_wp2_with fail
  go_ret
  exact ⟨rfl, rfl⟩
/-- the locks without one. -/
def lkD (l : List (Int × Int)) (o : Int) : List (Int × Int) := l.filter (fun p => p.1 != o)
theorem lk_perm {l : List (Int × Int)} {o y : Int} (hm : (o, y) ∈ l) (hn : (l.map (·.1)).Nodup) : l.Perm ((o, y) :: lkD l o) := by
  induction l with
  | nil => cases hm
  | cons a l ih =>
    simp only [List.map_cons, List.nodup_cons] at hn
    rcases List.mem_cons.1 hm with e | e
    · subst e
      have : lkD ((o, y) :: l) o = l := by
        unfold lkD
        rw [List.filter_cons]
        simp only [bne_self_eq_false, Bool.false_eq_true, if_false]
        rw [List.filter_eq_self]
        intro p hp
        have : p.1 ≠ o := fun e2 => hn.1 (List.mem_map.2 ⟨p, hp, e2⟩)
        simpa using this
      rw [this]
    · have hao : a.1 ≠ o := fun e2 => hn.1 (List.mem_map.2 ⟨(o, y), e, e2.symm⟩)
      have : lkD (a :: l) o = a :: lkD l o := by
        unfold lkD
        rw [List.filter_cons, if_pos (by simpa using hao)]
      rw [this]
      exact ((ih e hn.2).cons a).trans (List.Perm.swap _ _ _)
theorem unlock_yes (base b mb n : Nat) (o : Int) (v : Value) (s : SS) (w : World) (h : SH w base b mb v s) (hn : n < s.bs.length) (ho : InI o) (hl : lkOf s.lk o = some (n : Int)) :
    Calls Try.prog 40 #[ptr b, .int .i64 n, .int .i64 o] w fun e w' => e = .returned (.int .i64 0) ∧ SH w' base b mb v { s with lk := lkD s.lk o } ∧ Fr (fun k => k = mb) w w' := by
  have d1 : w.cell? ⟨b, 1, none⟩ = some (.map (some mb)) := h.ld.cell 1
  have hlk := mp_look h.mp o ho
  rw [hl] at hlk
  simp only [Option.getD_some, Option.isSome_some] at hlk
  have hi := is_yes base b mb n v s w h hn
  have hnd := h.mp.nodup
  have hp := lk_perm (lkOf_some hl) (by have := hnd; rw [List.map_map] at this; exact this)
  have hmp := h.mp.perm (hp.map lp)
  replace hp := Lib.hid hp
  replace hi := Lib.hid hi
  replace hmp := Lib.hid hmp
  replace h := Lib.hid h
  replace hl := Lib.hid hl
  clear hnd
  unfold ptr at hi ⊢
  go_enter Try.func40, Try.ntmps40
  go_wp2_with (first
    | (go_at_call 35; refine hi.out.mono ?_; rintro e w1 ⟨rfl, rfl⟩)
    | (at_delete; refine wpList_mp_del _ rfl _ _ 68 3 rfl 3 Try.underlying3 Try.underlying68 mb ((lkD s.lk o).map lp) o (.int .i64 n) rfl hmp.out ho rfl ?_; intro w2 hm2 hg2; have h2 := Lib.hid (h.out.setM (l := lkD s.lk o) hm2 hg2); have hf2 := Lib.hid ((Fr.refl (fun k => k = mb) w).grown hg2 (fun k e _ => (Option.some.inj e).symm)); clear hm2 hg2))
  go_ret
  exact ⟨rfl, h2.out, hf2.out⟩
theorem unlock_no (base b mb n : Nat) (o : Int) (v : Value) (s : SS) (w : World) (h : SH w base b mb v s) (hn : n < s.bs.length) (ho : InI o) (hl : lkOf s.lk o ≠ some (n : Int)) :
    Calls Try.prog 40 #[ptr b, .int .i64 n, .int .i64 o] w fun e w' => e = .returned (.int .i64 41) ∧ w = w' := by
  have d1 : w.cell? ⟨b, 1, none⟩ = some (.map (some mb)) := h.ld.cell 1
  have hlk := mp_look h.mp o ho
  have hi := Lib.hid (is_yes base b mb n v s w h hn)
  clear h
  unfold ptr at hi ⊢
  cases hq : lkOf s.lk o with
  | none =>
    rw [hq] at hlk
    simp only [Option.getD_none, Option.isSome_none] at hlk
    replace hl := Lib.hid hl
    replace hq := Lib.hid hq
    go_enter Try.func40, Try.ntmps40
    go_wp2_with (first
      | (go_at_call 35; refine hi.out.mono ?_; rintro e w1 ⟨rfl, rfl⟩))
    go_ret
    exact ⟨rfl, rfl⟩
  | some y =>
    have hy : (y != (n : Int)) = true := bne_iff_ne.2 (fun e => hl (by rw [hq, e]))
    rw [hq] at hlk
    simp only [Option.getD_some, Option.isSome_some] at hlk
    replace hl := Lib.hid hl
    replace hq := Lib.hid hq
    go_enter Try.func40, Try.ntmps40
    go_wp2_with (first
      | (go_at_call 35; refine hi.out.mono ?_; rintro e w1 ⟨rfl, rfl⟩))
    go_ret
    exact ⟨rfl, rfl⟩
end Go.Proofs.Ytcdhmjapeapicaa
