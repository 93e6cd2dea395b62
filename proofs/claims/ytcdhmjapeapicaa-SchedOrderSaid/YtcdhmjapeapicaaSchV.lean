/- The law of SchedOrder: its tasks are built. Conditions: what each theorem names. -/
import Derived.RangeFuncNested
import Derived.RangeFuncBound
import Derived.RangeFuncCalls
import Derived.RangeFuncLeaves
import Derived.Shelf.Abstract
import Derived.Shelf.RegionOpen
import Derived.WalkKit
import Derived.OwnWalkIn
import Derived.TacticsInMore
import Derived.LoopNIn
import Derived.LoopIn
import Derived.Lib.Hide
import Derived.Outline
import Derived.RegionTactic
import Derived.BigRegion
import Derived.WalkLawsBesides
import Derived.WalkSpells
import Derived.Deep.QuietTactic
import Derived.BigQuiet
import Derived.Deep.RegionHeld3
import Derived.Deep.DeepCutAuto
import Derived.Deep.CutBlock
import Derived.StillTailTactics
import Derived.WalkSmall
import Derived.Test.YtcdhmjapeapicaaProg
import Derived.Test.YtcdhmjapeapicaaFr
import Derived.Test.YtcdhmjapeapicaaMp
import Derived.Defers
import Derived.Recover
import Derived.Test.YtcdhmjapeapicaaSchU
import Derived.Deep.LoopGhost
import Derived.Test.YtcdhmjapeapicaaSchF
import Derived.Test.YtcdhmjapeapicaaArg
import Derived.Lib.SliceRun
namespace Go.Proofs.Ytcdhmjapeapicaa
open Go.RowKit Go.Sed Go.Maps
set_option maxHeartbeats 1000000
set_option maxRecDepth 100000
def hasB (l : List Int) (x : Nat) : Bool := l.any (fun y => y % 8 == (x : Int))
theorem hasB_take (l : List Int) (x k : Nat) (y : Int) (h : l[k]? = some y) : hasB (l.take (k + 1)) x = (hasB (l.take k) x || (y % 8 == (x : Int))) := by
  unfold hasB
  rw [List.take_add_one, h, List.any_append]
  simp
theorem has_any (A : Option Addr) (c : Nat) (l : List Int) (x : Nat) (w : World) (hr : Rd w 1 A l.length (l.map (Value.int .u8))) (hl : l.length ≤ maxLen) (hx : x < 8) (hb : ∀ y ∈ l, 0 ≤ y ∧ y ≤ 255) :
    Calls Try.prog 19 #[.slice A l.length c, .int .u8 x] w fun e w' => e = .returned (.bool (hasB l x)) ∧ w = w' := by
  unfold maxLen at hl
  replace hb := Lib.hid hb
  go_enter Try.func19, Try.ntmps19
  go_wp2_with fail
  go_loop [5] (fun i => ∃ k : Nat, i = .int .i64 k ∧ k ≤ l.length ∧ hasB (l.take k) x = false) (fun i => l.length - (intOf i).toNat)
  case atStart => exact ⟨0, rfl, Nat.zero_le _, rfl⟩
  case round =>
    obtain ⟨k, rfl, hk, hh⟩ := hrel
    by_cases hlt : k < l.length
    · obtain ⟨y, hy⟩ : ∃ y, l[k]? = some y := ⟨_, List.getElem?_eq_getElem hlt⟩
      have hyb := hb.out y (List.mem_of_getElem? hy)
      have hsn := hasB_take l x k y hy
      rw [hh, Bool.false_or] at hsn
      obtain ⟨g1, o1, u1, rfl, hu1, r1⟩ := hr.at1 hlt
      obtain rfl : u1 = .int .u8 y := by rw [List.getElem?_map, hy] at hu1; exact (Option.some.inj hu1).symm
      clear hu1
      replace hy := Lib.hid hy
      replace hh := Lib.hid hh
      by_cases he : y % 8 = (x : Int)
      · have hall : hasB l x = true := by
          unfold hasB
          rw [List.any_eq_true]
          exact ⟨y, List.mem_of_getElem? hy.out, by simpa using he⟩
        replace hsn := Lib.hid hsn
        replace hall := Lib.hid hall
        go_wp2_with fail
        go_ret
        exact ⟨by rw [hall.out]; rfl, rfl⟩
      · have he1 : (y % 8 == (x : Int)) = false := beq_eq_false_iff_ne.2 he
        rw [he1] at hsn
        replace hsn := Lib.hid hsn
        go_wp2_with fail
        go_round
        case rel => exact ⟨k + 1, by go_num, by omega, hsn.out⟩
        case measure => simp only [intOf]; omega
    · obtain rfl : k = l.length := by omega
      rw [List.take_length] at hh
      replace hh := Lib.hid hh
      go_wp2_with fail
      go_ret
      exact ⟨by rw [hh.out]; rfl, rfl⟩
/-- a task's locks. -/
def locksL (l : List Int) : List Nat := (List.range 8).filter (fun x => hasB l x)
def upsL (l : List Int) (j : Nat) : List (Int × Int) := ((List.range j).filter (fun x => hasB l x)).map (fun (x : Nat) => ((-2 : Int), (x : Int)))
def downsL (l : List Int) (j : Nat) : List (Int × Int) := (((List.range j).map (fun x => 7 - x)).filter (fun x => hasB l x)).flatMap (fun (x : Nat) => [((0 : Int), (x : Int)), (-1, 0)])
theorem upsL_succ (l : List Int) (j : Nat) : upsL l (j + 1) = if hasB l j then upsL l j ++ [(-2, (j : Int))] else upsL l j := by
  unfold upsL
  rw [List.range_succ, List.filter_append, List.map_append]
  cases h : hasB l j <;> simp [h]
theorem downsL_succ (l : List Int) (j : Nat) : downsL l (j + 1) = if hasB l (7 - j) then downsL l j ++ [(0, ((7 - j : Nat) : Int)), (-1, 0)] else downsL l j := by
  unfold downsL
  rw [List.range_succ, List.map_append, List.filter_append, List.flatMap_append]
  cases h : hasB l (7 - j) <;> simp [h]
theorem prog_ud (l : List Int) : upsL l 8 ++ downsL l 8 = progL (locksL l) := by
  unfold upsL downsL progL locksL
  rw [← List.filter_reverse]
  rfl
theorem locksL_asc (l : List Int) : (locksL l).Pairwise (· < ·) ∧ ∀ x ∈ locksL l, x < 8 := by
  unfold locksL
  exact ⟨List.Pairwise.filter _ List.pairwise_lt_range, fun x hx => List.mem_range.1 (List.mem_filter.1 hx).1⟩
theorem upsL_len (l : List Int) (j : Nat) : (upsL l j).length ≤ j := by
  unfold upsL
  rw [List.length_map]
  exact Nat.le_trans (List.length_filter_le _ _) (Nat.le_of_eq List.length_range)
theorem downsL_len (l : List Int) (j : Nat) : (downsL l j).length ≤ 2 * j := by
  unfold downsL
  rw [flat2_len _ (fun _ => rfl)]
  have := List.length_filter_le (fun x => hasB l x) ((List.range j).map (fun x => 7 - x))
  rw [List.length_map, List.length_range] at this
  omega
theorem infoDoes : (Try.prog.info? 50).map (fun i => (i.zero, i.size, i.bytes)) = some (some (.agg #[.int .i64 0, .int .i64 0]), 2, 16) := by kernel_rfl
theorem infoSl : (Try.prog.info? 47).map (fun i => (i.zero, i.size, i.bytes)) = some (some (.slice none 0 0), 1, 24) := by kernel_rfl
/-- lists of what is done that the call itself made, one behind the other. -/
structure BL (w wr : World) (lv : Value) (vs : List Value) (Ls : List (List Nat)) : Prop where
  row : OW wr w.heap.size 1 lv Ls.length vs
  len : vs.length = Ls.length
  at' : ∀ (i : Nat) (L : List Nat), Ls[i]? = some L → ∃ p c, vs[i]? = some (.slice p (progL L).length c) ∧ Rd wr 2 p (progL L).length ((progL L).flatMap dsC) ∧ ∀ q, p = some q → q.block < wr.heap.size ∧ lv.ownBlock ≠ some q.block
  asc : ∀ L ∈ Ls, L.Pairwise (· < ·) ∧ ∀ x ∈ L, x < 8
theorem BL.keep {w wr W' : World} {lv : Value} {vs : List Value} {Ls : List (List Nat)} (h : BL w wr lv vs Ls) (hB : Below wr.heap.size wr W') : BL w W' lv vs Ls :=
  ⟨h.row.keep hB, h.len, fun i L hL => by
    obtain ⟨p, c, h1, h2, h3⟩ := h.at' i L hL
    exact ⟨p, c, h1, h2.keep hB, fun q e => ⟨Nat.lt_of_lt_of_le (h3 q e).1 hB.size, (h3 q e).2⟩⟩, h.asc⟩
theorem BL.more {w wr W1 W2 : World} {lv lv' : Value} {vs : List Value} {Ls : List (List Nat)} {L : List Nat} {p : Option Addr} {c : Nat} (h : BL w wr lv vs Ls) (hB : Below wr.heap.size wr W1) (hrd : Rd W1 2 p (progL L).length ((progL L).flatMap dsC)) (hp : ∀ q, p = some q → wr.heap.size ≤ q.block ∧ q.block < W1.heap.size)
    (ho : OW W2 w.heap.size 1 lv' (Ls.length + 1) (vs ++ [.slice p (progL L).length c])) (hg : W1.grownBy W2 lv.ownBlock) (hc : lv'.ownBlock = lv.ownBlock ∨ lv'.ownBlock = some W1.heap.size) (hL : L.Pairwise (· < ·) ∧ ∀ x ∈ L, x < 8) :
    BL w W2 lv' (vs ++ [.slice p (progL L).length c]) (Ls ++ [L]) := by
  have h1 := h.keep hB
  have keep : ∀ {p' : Option Addr} {n : Nat} {xs : List Value}, Rd W1 2 p' n xs → (∀ q, p' = some q → lv.ownBlock ≠ some q.block) → Rd W2 2 p' n xs := by
    intro p' n xs hr hne
    exact hr.fr (F := fun k => lv.ownBlock = some k) ((Fr.refl _ _).grown hg (fun k e _ => e)) (fun a e => hne a e)
  have ne' : ∀ {k : Nat}, k < W1.heap.size → lv.ownBlock ≠ some k → lv'.ownBlock ≠ some k := by
    intro k hk hne e
    rcases hc with hc | hc
    · rw [hc] at e; exact hne e
    · rw [hc] at e; injection e with e; omega
  have nep : ∀ q, p = some q → lv.ownBlock ≠ some q.block := fun q e e2 => by
    have := (hp q e).1
    have := (h.row.lt _ e2).2
    omega
  refine ⟨by simpa using ho, by simp [h.len], ?_, ?_⟩
  · intro i L' hi
    by_cases hil : i < Ls.length
    · rw [List.getElem?_append_left hil] at hi
      obtain ⟨p', c', g1, g2, g3⟩ := h1.at' i L' hi
      exact ⟨p', c', by rw [List.getElem?_append_left (by rw [h.len]; exact hil)]; exact g1, keep g2 (fun q e => (g3 q e).2), fun q e => ⟨Nat.lt_of_lt_of_le (g3 q e).1 hg.size, ne' (g3 q e).1 (g3 q e).2⟩⟩
    · have hl := (List.getElem?_eq_some_iff.1 hi).1
      simp at hl
      obtain rfl : i = Ls.length := by omega
      rw [List.getElem?_append_right (Nat.le_refl _), Nat.sub_self] at hi
      simp only [List.getElem?_cons_zero, Option.some.injEq] at hi
      subst hi
      exact ⟨p, c, by rw [List.getElem?_append_right (Nat.le_of_eq h.len), h.len, Nat.sub_self]; rfl, keep hrd nep, fun q e => ⟨Nat.lt_of_lt_of_le (hp q e).2 hg.size, ne' (hp q e).2 (nep q e)⟩⟩
  · intro L' hm
    rcases List.mem_append.1 hm with hm | hm
    · exact h.asc L' hm
    · simp at hm; subst hm; exact hL
theorem BL.dl {w wr : World} {lv : Value} {vs : List Value} {Ls : List (List Nat)} (h : BL w wr lv vs Ls) : DL wr vs (Ls.map progL) := by
  refine ⟨by rw [h.len, List.length_map], fun i l hl => ?_⟩
  rw [List.getElem?_map] at hl
  obtain ⟨L, hL, rfl⟩ := Option.map_eq_some_iff.1 hl
  obtain ⟨p, c, h1, h2, h3⟩ := h.at' i L hL
  exact ⟨p, c, h1, h2, fun q e => (h3 q e).1⟩
end Go.Proofs.Ytcdhmjapeapicaa
