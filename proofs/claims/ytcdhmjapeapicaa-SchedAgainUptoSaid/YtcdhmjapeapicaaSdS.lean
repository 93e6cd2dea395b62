/- Who waits, in order: the library's sort is called. Conditions: what each theorem names. -/
import Derived.RangeFuncNested
import Derived.RangeFuncBound
import Derived.RangeFuncCalls
import Derived.RangeFuncLeaves
import Derived.Shelf.Abstract
import Derived.Shelf.RegionOpen
import Derived.WalkKit
import Derived.OwnWalkIn
import Derived.TacticsInMore
import Derived.LoopNIn
import Derived.LoopIn
import Derived.Lib.Hide
import Derived.Outline
import Derived.RegionTactic
import Derived.BigRegion
import Derived.WalkLawsBesides
import Derived.WalkSpells
import Derived.Deep.QuietTactic
import Derived.BigQuiet
import Derived.Deep.RegionHeld3
import Derived.Deep.DeepCutAuto
import Derived.Deep.CutBlock
import Derived.StillTailTactics
import Derived.WalkSmall
import Derived.Test.YtcdhmjapeapicaaProg
import Derived.Test.YtcdhmjapeapicaaSdB
import Derived.Test.YtcdhmjapeapicaaSdL
import Derived.Test.YtcdhmjapeapicaaSrt
namespace Go.Proofs.Ytcdhmjapeapicaa
open Go.RowKit Go.Sed Go.Maps Go.Sort
set_option maxHeartbeats 1000000
set_option maxRecDepth 100000
/-- one of those who wait. -/
abbrev WaitT (o : Int) (ts : List Tk) : Type := { i : Nat // i ∈ waitN o ts }
def encW (o : Int) (ts : List Tk) (i : WaitT o ts) : Value := .int .i64 i.1
def cfW (o : Int) (ts : List Tk) (i j : WaitT o ts) : Int := odAt ts i.1 - odAt ts j.1
theorem swoW (o : Int) (ts : List Tk) : SWO (ltOf (cfW o ts)) where
  irrefl x := by unfold ltOf cfW; simp
  trans x y z h1 h2 := by unfold ltOf cfW at *; simp at *; omega
  ntrans x y z h1 h2 := by unfold ltOf cfW at *; simp at *; omega
theorem totW {st wi : Int} {o : Int} {ts : List Tk} (h : TI st wi ts) (x y : WaitT o ts) (h1 : ltOf (cfW o ts) x y = false) (h2 : ltOf (cfW o ts) y x = false) : x = y := by
  obtain ⟨i, hi⟩ := x
  obtain ⟨j, hj⟩ := y
  obtain ⟨t, ht, hw⟩ := waitN_mem.1 hi
  obtain ⟨u, hu, hw2⟩ := waitN_mem.1 hj
  unfold ltOf cfW odAt at h1 h2
  simp only [ht, hu, Option.map_some, Option.getD_some, decide_eq_false_iff_not] at h1 h2
  unfold waitB at hw hw2
  simp only [Bool.and_eq_true, beq_iff_eq] at hw hw2
  have := h.un i j t u ht hu hw.1 hw2.1 (by omega)
  subst this; rfl
def arrW (o : Int) (ts : List Tk) : Array (WaitT o ts) := (waitN o ts).attach.toArray
theorem arrW_map (o : Int) (ts : List Tk) : (arrW o ts).toList.map (encW o ts) = (waitN o ts).map (fun i => Value.int .i64 (i : Nat)) := by
  unfold arrW encW
  rw [List.toList_toArray]
  conv => rhs; rw [← List.attach_map_subtype_val (waitN o ts)]
  rw [List.map_map]
  rfl
theorem arrW_sorted (o : Int) (ts : List Tk) : (((arrW o ts).toList.mergeSort fun x y => !(ltOf (cfW o ts)) y x).toArray).toList.map (encW o ts) = (waitI o ts).map (fun i => Value.int .i64 (i : Nat)) := by
  unfold arrW encW waitI
  rw [List.toList_toArray, List.toList_toArray]
  have h : ((waitN o ts).attach.mergeSort fun x y => !(ltOf (cfW o ts)) y x).map (·.1) = (waitN o ts).mergeSort (fun x y => !decide (odAt ts y - odAt ts x < 0)) := by
    rw [List.map_mergeSort (r := fun x y => !ltOf (cfW o ts) y x) (s := fun x y => !decide (odAt ts y - odAt ts x < 0)) (f := Subtype.val) (fun a _ b _ => rfl), List.attach_map_subtype_val]
  rw [← h, List.map_map]
  rfl
theorem sortw_any (base b mb sb base2 n c : Nat) (o : Int) (v : Value) (s : SS) (A : Option Addr) (w : World) (h : SH w base b mb v s) (hsb : Bl w sb (.cells #[ptr b] 24 (0, 0))) (hti : TI s.steps s.wishes s.ts) (hw : s.wishes ≤ 4611686018427387904) (hn64 : s.bs.length ≤ 64)
    (hlo : ∀ k, foot b mb v s k → k < base2) (hsl : sb < base2) (hb2 : base2 ≤ w.heap.size) (hn : (waitN o s.ts).length = n) (ho : OW w base2 1 (.slice A n c) n ((waitN o s.ts).map (fun i => Value.int .i64 (i : Nat)))) :
    Calls Try.prog 66 #[.slice A n c, .func (.func 67) #[] #[.pointer (some ⟨sb, 0, none⟩)]] w fun e w' => e = .returned (.tuple #[]) ∧ OW w' base2 1 (.slice A n c) n ((waitI o s.ts).map (fun i => Value.int .i64 (i : Nat))) ∧ Below base2 w w' := by
  by_cases h0 : waitN o s.ts = []
  · have hn0 : n = 0 := by rw [← hn, h0]; rfl
    subst hn0
    have hw0 : waitI o s.ts = [] := by
      have := waitI_perm o s.ts
      rw [h0] at this
      exact this.eq_nil
    have hS := AnyF.slices_SortFunc_none (P := Try.prog) (ρ := Try.sortL_ren) { Try.sortL with } A c (.func (.func 67) #[] #[.pointer (some ⟨sb, 0, none⟩)]) w
    refine hS.mono fun e w' ⟨he, hw'⟩ => ?_
    subst hw'
    rw [hw0]
    rw [h0] at ho
    exact ⟨he, ho, RowKit.Below.refl _ _⟩
  · obtain ⟨i0, hi0⟩ := List.exists_mem_of_ne_nil _ h0
    haveI : Inhabited (WaitT o s.ts) := ⟨⟨i0, hi0⟩⟩
    have hnp : 0 < n := by rw [← hn]; exact List.length_pos_of_mem hi0
    obtain ⟨g, of, hA, -⟩ := ho.rd.2 hnp
    subst hA
    have hsz : (arrW o s.ts).size = n := by unfold arrW; simp [hn]
    rw [← arrW_map] at ho
    have hH := ho.holds.2
    have hgl := ho.lt g rfl
    have hnl : n ≤ 64 := by
      rw [← hn]
      exact Nat.le_trans (waitN_len _ _) (by rw [h.len]; exact hn64)
    have hcmp : CmpReads Try.prog 67 #[.pointer (some ⟨sb, 0, none⟩)] (encW o s.ts) (cfW o s.ts) g of (arrW o s.ts).size w := by
      intro m os dk hdk x y
      obtain ⟨i, hi⟩ := x
      obtain ⟨j, hj⟩ := y
      obtain ⟨t, ht, _⟩ := waitN_mem.1 hi
      obtain ⟨u, hu, _⟩ := waitN_mem.1 hj
      have hfr := (ho.sorted (m := m) (d' := dk) (os := os) hdk).2
      have h1 := h.fr hfr (fun k hk e => by have := hlo k hk; omega)
      have h2 := hsb.fr hfr (fun e => by omega)
      have t1 := (hti.ok t (List.mem_of_getElem? ht)).2.2
      have t2 := (hti.ok u (List.mem_of_getElem? hu)).2.2
      have hc := wait2_any base b mb sb i j t u v s _ h1 h2 ht hu hn64 ⟨t1.1, by omega⟩ ⟨t2.1, by omega⟩
      have hcf : cfW o s.ts ⟨i, hi⟩ ⟨j, hj⟩ = t.od - u.od := by unfold cfW odAt; simp only [ht, hu, Option.map_some, Option.getD_some]
      rw [hcf]
      exact hc
    have hS := Any.slices_SortFunc_total (P := Try.prog) (ρ := Try.sortL_ren) Try.sortL (encW o s.ts) (fun _ => rfl) (cfW o s.ts) (swoW o s.ts) 67 #[.pointer (some ⟨sb, 0, none⟩)] g of c (arrW o s.ts) w (enters_of Try.func67 (by kernel_rfl) rfl) hcmp.lays hH hgl.2 (by omega) (totW hti)
    rw [hsz] at hS
    refine Calls.mono hS fun e w' ⟨he, m, os, hw'⟩ => ?_
    subst hw'
    have hso := ho.sorted (m := m) (d' := ((arrW o s.ts).toList.mergeSort fun x y => !(ltOf (cfW o s.ts)) y x).toArray) (os := os) (by simp)
    rw [arrW_sorted] at hso
    exact ⟨he, hso.1, hso.2.below hb2 (fun k hk e => by omega)⟩
theorem waiting_any (base b mb : Nat) (o : Int) (v : Value) (s : SS) (w : World) (h : SH w base b mb v s) (hti : TI s.steps s.wishes s.ts) (hw : s.wishes ≤ 4611686018427387904) (hn64 : s.bs.length ≤ 64) :
    Calls Try.prog 61 #[ptr b, .int .i64 o] w fun e w' => ∃ r, e = .returned r ∧ OW w' w.heap.size 1 r (waitI o s.ts).length ((waitI o s.ts).map (fun i => Value.int .i64 (i : Nat))) ∧ RowKit.Below w.heap.size w w' := by
  have hmf : ∀ (fn : Fn) (first cap : Array Value) (w : World), (Instr.makeFunc fn first cap).run Try.prog w = .ok (.func fn first cap) w := fun _ _ _ _ => rfl
  obtain ⟨W1, hW1⟩ : ∃ W1, (w.alloc (.cells #[.pointer (some ⟨b, 0, none⟩)] 24)).alloc (.cells #[.int .i64 o] 3) = W1 := ⟨_, rfl⟩
  have hB1 : RowKit.Below w.heap.size w W1 := by rw [← hW1]; exact ((RowKit.Below.refl _ _).alloc (Nat.le_refl _) _).alloc (by simp) _
  have g1 : Bl W1 w.heap.size (.cells #[.pointer (some ⟨b, 0, none⟩)] 24 (0, 0)) := by rw [← hW1]; exact (Bl.new' rfl).alloc _
  have g2 : Bl W1 (w.heap.size + 1) (.cells #[.int .i64 o] 3 (0, 0)) := by rw [← hW1]; exact Bl.new' (by simp)
  have hz1 : W1.heap.size = w.heap.size + 1 + 1 := by rw [← hW1]; simp
  have h1 := h.keep hB1
  have hth := those_wait base b mb (w.heap.size + 1) o v s W1 h1 g2 hn64
  have e0 : W1.cell? ⟨w.heap.size, 0, none⟩ = some (.pointer (some ⟨b, 0, none⟩)) := g1.cell 0
  obtain ⟨n, hn⟩ : ∃ n, (waitN o s.ts).length = n := ⟨_, rfl⟩
  have hwl : (waitI o s.ts).length = n := by rw [(waitI_perm o s.ts).length_eq]; exact hn
  have hlo := Lib.hid h.lo
  replace hth : Calls Try.prog 33 #[ptr b, .func (.func 65) #[] #[.pointer (some ⟨w.heap.size + 1, 0, none⟩)]] W1 fun e w' => ∃ r, e = .returned r ∧ OW w' W1.heap.size 1 r n ((waitN o s.ts).map (fun i => Value.int .i64 (i : Nat))) ∧ RowKit.Below W1.heap.size W1 w' := by
    refine hth.mono fun e w' ⟨r, he, ho, hB⟩ => ⟨r, he, ?_, hB⟩
    rw [thoseI_wait, List.length_map, hn, List.map_map] at ho
    exact ho
  have hsrt := fun (A : Option Addr) (c : Nat) (w2 : World) (hB2 : RowKit.Below W1.heap.size W1 w2) (ho : OW w2 W1.heap.size 1 (.slice A n c) n ((waitN o s.ts).map (fun i => Value.int .i64 (i : Nat)))) =>
    sortw_any base b mb w.heap.size W1.heap.size n c o v s A w2 (h1.keep hB2) (g1.keep hB2) hti hw hn64 (fun k hk => by have := (hlo.out k hk).2; omega) (by omega) hB2.size hn ho
  rw [hwl]
  replace hth := Lib.hid hth
  replace hsrt := Lib.hid hsrt
  replace hB1 := Lib.hid hB1
  have hz2 : w.heap.size ≤ W1.heap.size := by omega
  clear g1 g2 h1 h hti hn hwl hz1
  unfold ptr at hth ⊢
  go_enter Try.func61, Try.ntmps61
  go_upto_region 1 with (fail)
  clear hW1
  go_wp2_with (first
    | (go_at_call 33; refine hth.out.mono ?_; rintro e w2 ⟨r, rfl, ho, hB2⟩; obtain ⟨A, c, rfl, -⟩ := ho.shape; replace ho := Lib.hid ho; replace hB2 := Lib.hid hB2)
    | (go_at_call 66; refine (hsrt.out A c _ hB2.out ho.out).mono ?_; rintro e w3 ⟨rfl, ho3, hB3⟩; replace ho3 := Lib.hid ho3; replace hB3 := Lib.hid hB3))
  go_ret
  exact ⟨_, rfl, ho3.out.more hz2, (hB1.out.trans (hB2.out.mono hz2)).trans (hB3.out.mono hz2)⟩
end Go.Proofs.Ytcdhmjapeapicaa
