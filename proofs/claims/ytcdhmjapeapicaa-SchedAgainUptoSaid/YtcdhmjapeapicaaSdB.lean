/- Who waits, read off memory. Conditions: what each theorem names. -/
import Derived.RangeFuncNested
import Derived.RangeFuncBound
import Derived.RangeFuncCalls
import Derived.RangeFuncLeaves
import Derived.Shelf.Abstract
import Derived.Shelf.RegionOpen
import Derived.WalkKit
import Derived.OwnWalkIn
import Derived.TacticsInMore
import Derived.LoopNIn
import Derived.LoopIn
import Derived.Lib.Hide
import Derived.Outline
import Derived.RegionTactic
import Derived.BigRegion
import Derived.WalkLawsBesides
import Derived.WalkSpells
import Derived.Deep.QuietTactic
import Derived.BigQuiet
import Derived.Deep.RegionHeld3
import Derived.Deep.DeepCutAuto
import Derived.Deep.CutBlock
import Derived.StillTailTactics
import Derived.WalkSmall
import Derived.Test.YtcdhmjapeapicaaProg
import Derived.Test.YtcdhmjapeapicaaSdA
import Derived.Lib.SliceRun
import Derived.Laws.StructEq
namespace Go.Proofs.Ytcdhmjapeapicaa
open Go.RowKit Go.Sed Go.Maps
set_option maxHeartbeats 1000000
set_option maxRecDepth 100000
theorem eql_wish (a b c d : Int) (W : World) : (binOp BinOp.eql 31 (.agg #[.int .i64 a, .int .i64 b]) (.agg #[.int .i64 c, .int .i64 d])).run Try.prog W = .ok (.bool (a == c && b == d)) W := by
  have u3 := Try.underlying3
  have a3 := Try.isAgg3
  have z3 := Try.sizeOf3
  have hS : Try.prog.underlying 31 = some (.struct (Try.prog.fieldsOf 31)) := by kernel_rfl
  have hp : Try.prog.stoodInHeld 31 = false := by kernel_rfl
  rw [run_eql_struct, show (10000 : Nat) = 9999 + 1 from rfl, run_equalIn_agg W 9999 31 _ _ hS hp]
  simp only [Program.fieldsOf, Try.underlying31]
  go_simp
  by_cases h1 : a = c <;> by_cases h2 : b = d <;> simp [h1, h2]
theorem wait1_any (base b mb x n ob : Nat) (o : Int) (v : Value) (s : SS) (t : Tk) (w : World) (h : SH w base b mb v s) (hx : s.bs[n]? = some x) (ht : s.ts[n]? = some t) (hO : Bl w ob (.cells #[.int .i64 o] 3 (0, 0))) :
    Calls Try.prog 65 #[ptr x, .pointer (some ⟨ob, 0, none⟩)] w fun e w' => e = .returned (.bool (waitB o t)) ∧ Below w.heap.size w w' := by
  have hb := h.tk n x t hx ht
  have c2 : w.cell? ⟨x, 2, none⟩ = some (.int .i64 t.kd) := hb.cell 2
  have c3 : w.cell? ⟨x, 3, none⟩ = some (.int .i64 t.on) := hb.cell 3
  have c0 : w.cell? ⟨ob, 0, none⟩ = some (.int .i64 o) := hO.cell 0
  have hq := eql_wish t.kd t.on 2 o
  unfold ptr waitB
  clear hb h hx ht hO
  go_enter Try.func65, Try.ntmps65
  go_wp2_with fail
  go_quiet (fail)
  go_wp2_with fail
  go_ret
  exact ⟨rfl, below_drewN (Below.refl _ _) _⟩
theorem those_wait (base b mb ob : Nat) (o : Int) (v : Value) (s : SS) (w : World) (h : SH w base b mb v s) (hO : Bl w ob (.cells #[.int .i64 o] 3 (0, 0))) (hn : s.bs.length ≤ 64) :
    Calls Try.prog 33 #[ptr b, .func (.func 65) #[] #[.pointer (some ⟨ob, 0, none⟩)]] w fun e w' => ∃ r, e = .returned r ∧ OW w' w.heap.size 1 r (thoseI (waitB o) s.ts).length ((thoseI (waitB o) s.ts).map (Value.int .i64)) ∧ Below w.heap.size w w' := by
  obtain ⟨A1, c1, rfl, -⟩ := h.row.shape
  have d0 : w.cell? ⟨b, 0, none⟩ = some (.slice A1 s.bs.length c1) := h.ld.cell 0
  replace h := Lib.hid h
  replace hO := Lib.hid hO
  unfold ptr
  go_enter Try.func33, Try.ntmps33
  go_wp2_with fail
  go_loopw [5, 13] (fun l i wr => ∃ k : Nat, k ≤ s.bs.length ∧ i = .int .i64 k ∧ OW wr w.heap.size 1 l (thoseK (waitB o) s.ts k).length ((thoseK (waitB o) s.ts k).map (Value.int .i64)) ∧ Below w.heap.size w wr) (fun _ i _ => s.bs.length - (intOf i).toNat)
  case atStart => exact ⟨0, Nat.zero_le _, rfl, OW.nil _ _ _, Below.refl _ _⟩
  case round =>
    obtain ⟨k, hk, rfl, ho, hB⟩ := hrel
    obtain ⟨Al, cl, rfl, -⟩ := ho.shape
    have hKl := thoseK_len (waitB o) s.ts k
    by_cases hlt : k < s.bs.length
    · have hr := (h.out.row.keep hB).rd
      obtain ⟨g1, o1, u1, rfl, hu1, r1⟩ := hr.at1 hlt
      obtain ⟨x, hx, rfl⟩ : ∃ x, s.bs[k]? = some x ∧ u1 = ptr x := by
        rw [List.getElem?_map, List.getElem?_eq_getElem hlt] at hu1
        exact ⟨_, List.getElem?_eq_getElem hlt, (Option.some.inj hu1).symm⟩
      obtain ⟨t, ht⟩ : ∃ t, s.ts[k]? = some t := ⟨_, List.getElem?_eq_getElem (by rw [h.out.len]; exact hlt)⟩
      have hs := thoseK_succ (waitB o) s.ts k t ht
      clear hr hu1
      unfold ptr at r1
      have hsz := hB.size
      cases hm : (waitB o) t
      · rw [hm, if_neg (by simp)] at hs
        replace hs := Lib.hid hs
        replace hm := Lib.hid hm
        go_wp2_with (go_at_call 65; refine (wait1_any base b mb x k ob o _ s t _ (h.out.keep hB) hx ht (hO.out.keep hB)).mono ?_; rintro e w1 ⟨rfl, hB1⟩; rw [hm.out])
        go_roundw
        case rel => exact ⟨k + 1, by omega, by go_num, by rw [hs.out]; exact ho.keep hB1, below_then hB hB1⟩
        case measure => simp only [intOf]; omega
      · rw [hm, if_pos rfl] at hs
        replace hs := Lib.hid hs
        replace hm := Lib.hid hm
        go_wp2_with (first
          | (go_at_call 65; refine (wait1_any base b mb x k ob o _ s t _ (h.out.keep hB) hx ht (hO.out.keep hB)).mono ?_; rintro e w1 ⟨rfl, hB1⟩; rw [hm.out])
          | (at_builtin; refine wpList_append_ow rfl _ _ 26 rfl w.heap.size 3 Try.underlying26 infoInt rfl (by decide) _ (thoseK (waitB o) s.ts k).length _ rfl ((ho.keep hB1).alloc _) _ 1 1 [.int .i64 k] rfl (rd_one rfl _ _) (by intro u hu; simp at hu; subst hu; rfl) (by unfold maxLen; omega) (by omega) (by have := hB1.size; simp; omega) ?_; intro v5 w5 hown5 hgr5 hcase5; have hB5 : Below w.heap.size w w5 := below_grow ((below_then hB hB1).alloc (below_then hB hB1).size _) (by have := hB1.size; simp; omega) ((ho.keep hB1).alloc _) (Nat.le_refl _) hgr5; clear hgr5 hcase5))
        go_roundw
        case rel => exact ⟨k + 1, by omega, by go_num, by rw [hs.out, List.length_append, List.map_append]; exact hown5, hB5⟩
        case measure => simp only [intOf]; omega
    · obtain rfl : k = s.bs.length := by omega
      go_wp2_with fail
      go_ret
      refine ⟨_, rfl, ?_, hB⟩
      have e : thoseK (waitB o) s.ts s.bs.length = thoseI (waitB o) s.ts := by unfold thoseK thoseI; rw [h.out.len]
      rw [← e]; exact ho

/-- how two that wait are ordered. -/
theorem wait2_any (base b mb sb i j : Nat) (ti tj : Tk) (v : Value) (s : SS) (w : World) (h : SH w base b mb v s) (hsb : Bl w sb (.cells #[ptr b] 24 (0, 0))) (hi : s.ts[i]? = some ti) (hj : s.ts[j]? = some tj) (hn : s.bs.length ≤ 64)
    (h1 : 0 ≤ ti.od ∧ ti.od ≤ 4611686018427387904) (h2 : 0 ≤ tj.od ∧ tj.od ≤ 4611686018427387904) :
    Calls Try.prog 67 #[.int .i64 i, .int .i64 j, .pointer (some ⟨sb, 0, none⟩)] w fun e w' => e = .returned (.int .i64 (ti.od - tj.od)) ∧ ∃ q, w' = w.drewN q := by
  have hil := (List.getElem?_eq_some_iff.1 hi).1
  have hjl := (List.getElem?_eq_some_iff.1 hj).1
  rw [h.len] at hil hjl
  obtain ⟨x, hx⟩ : ∃ x, s.bs[i]? = some x := ⟨_, List.getElem?_eq_getElem hil⟩
  obtain ⟨y, hy⟩ : ∃ y, s.bs[j]? = some y := ⟨_, List.getElem?_eq_getElem hjl⟩
  have cx : w.cell? ⟨x, 5, none⟩ = some (.int .i64 ti.od) := (h.tk i x ti hx hi).cell 5
  have cy : w.cell? ⟨y, 5, none⟩ = some (.int .i64 tj.od) := (h.tk j y tj hy hj).cell 5
  have c0 : w.cell? ⟨sb, 0, none⟩ = some (.pointer (some ⟨b, 0, none⟩)) := hsb.cell 0
  obtain ⟨A0, c, rfl, hrd, -⟩ := h.row.shape
  have d0 : w.cell? ⟨b, 0, none⟩ = some (.slice A0 s.bs.length c) := h.ld.cell 0
  obtain ⟨g, o, u1, rfl, hu1, r1⟩ := hrd.at1 hil
  obtain rfl : u1 = .pointer (some ⟨x, 0, none⟩) := by
    rw [List.getElem?_map, hx] at hu1
    exact (Option.some.inj hu1).symm
  obtain ⟨g', o', u2, e2, hu2, r2⟩ := hrd.at1 hjl
  injection e2 with e2
  injection e2 with e3 e4
  subst e3 e4
  obtain rfl : u2 = .pointer (some ⟨y, 0, none⟩) := by
    rw [List.getElem?_map, hy] at hu2
    exact (Option.some.inj hu2).symm
  have hz : IntKind.i64.wrap (ti.od - tj.od) = ti.od - tj.od := by simp [IntKind.wrap, IntKind.bits, IntKind.signed]; omega
  clear h hsb hi hj hx hy hrd hu1 hu2 h1 h2
  go_enter Try.func67, Try.ntmps67
  go_wp2_with fail
  go_quiet (fail)
  go_wp2_with fail
  go_ret
  exact ⟨rfl, _, rfl⟩
end Go.Proofs.Ytcdhmjapeapicaa
