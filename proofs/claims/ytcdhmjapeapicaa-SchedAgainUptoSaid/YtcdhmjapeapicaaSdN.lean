/- Two pairs at work, each by itself. Conditions: what each theorem names. -/
import Derived.RangeFuncNested
import Derived.RangeFuncBound
import Derived.RangeFuncCalls
import Derived.RangeFuncLeaves
import Derived.Shelf.Abstract
import Derived.Shelf.RegionOpen
import Derived.WalkKit
import Derived.OwnWalkIn
import Derived.TacticsInMore
import Derived.LoopNIn
import Derived.LoopIn
import Derived.Lib.Hide
import Derived.Outline
import Derived.RegionTactic
import Derived.BigRegion
import Derived.WalkLawsBesides
import Derived.WalkSpells
import Derived.Deep.QuietTactic
import Derived.BigQuiet
import Derived.Deep.RegionHeld3
import Derived.Deep.DeepCutAuto
import Derived.Deep.CutBlock
import Derived.StillTailTactics
import Derived.WalkSmall
import Derived.Test.YtcdhmjapeapicaaProg
import Derived.Test.YtcdhmjapeapicaaSdJ
import Derived.Test.YtcdhmjapeapicaaSdM
namespace Go.Proofs.Ytcdhmjapeapicaa
open Go.RowKit Go.Sed Go.Maps
set_option maxHeartbeats 1000000
set_option maxRecDepth 100000
/-- two pairs have no block of their own in common. -/
def Sep (w : World) (tx ty : Nat → Nat) : Prop := ∀ k, k < w.heap.size → (ownT tx k → 100 ≤ ty k) ∧ (ownT ty k → 100 ≤ tx k)
theorem Sep.symm {w : World} {tx ty : Nat → Nat} (h : Sep w tx ty) : Sep w ty tx := fun k hk => ⟨(h k hk).2, (h k hk).1⟩
theorem Sep.turn {w w' : World} {tx tx' ty : Nat → Nat} (h : Sep w tx ty) (ha : ∀ j, j < w.heap.size → tx' j = tx j) : Sep w' tx' (newTag w ty) := by
  intro k _
  by_cases hk : k < w.heap.size
  · rw [newTag_old hk]
    have h1 := h k hk
    unfold ownT at h1 ⊢
    rw [newTag_old hk, ha k hk]
    exact h1
  · rw [newTag_new (by omega)]
    refine ⟨fun _ => by omega, fun e => ?_⟩
    have := (ownT_new e).1
    omega
/-- a pair at work: what counts of it is C. -/
def AP (w : World) (E base b mb xb : Nat) (dv v : Value) (ls : List (List (Int × Int))) (tag : Nat → Nat) (k : Nat) (C : CS) : Prop :=
  ∃ s tv told ats, PI w base b mb xb dv v s tv told ats ls tag k ∧ absC s told ats = C ∧ (∀ j, j < E → tag j = 3) ∧ E ≤ w.heap.size
theorem AP.keep {w w' : World} {E base b mb xb k : Nat} {dv v : Value} {ls : List (List (Int × Int))} {tag : Nat → Nat} {C : CS} (h : AP w E base b mb xb dv v ls tag k C) (hB : Below w.heap.size w w') : AP w' E base b mb xb dv v ls tag k C := by
  obtain ⟨s, tv, told, ats, h1, h2, h3, h4⟩ := h
  exact ⟨s, tv, told, ats, h1.keep hB, h2, h3, Nat.le_trans h4 hB.size⟩
theorem AP.retag {w : World} {E base b mb xb k : Nat} {dv v : Value} {ls : List (List (Int × Int))} {tag : Nat → Nat} {C : CS} (h : AP w E base b mb xb dv v ls tag k C) : AP w E base b mb xb dv v ls (newTag w tag) k C := by
  obtain ⟨s, tv, told, ats, h1, h2, h3, h4⟩ := h
  exact ⟨s, tv, told, ats, h1.retag (fun j hj => newTag_old hj), h2, fun j hj => by rw [newTag_old (by omega)]; exact h3 j hj, h4⟩
theorem AP.aside {w w' : World} {E base b mb xb k : Nat} {dv v : Value} {ls : List (List (Int × Int))} {tag tx : Nat → Nat} {C : CS} (h : AP w E base b mb xb dv v ls tag k C) (hs : Sep w tx tag) (hf : Fr (ownT tx) w w') : AP w' E base b mb xb dv v ls (newTag w tag) k C := by
  obtain ⟨s, tv, told, ats, h1, h2, h3, h4⟩ := h.retag
  exact ⟨s, tv, told, ats, h1.other hf (fun j hj hl => by rw [newTag_old hl]; exact (hs j hl).1 hj), h2, h3, Nat.le_trans h4 hf.size⟩
theorem AP.below {w w' : World} {E base b mb xb k B : Nat} {w0 : World} {dv v : Value} {ls : List (List (Int × Int))} {tag : Nat → Nat} {C : CS} (h : AP w E base b mb xb dv v ls tag k C) (hB : Below B w0 w) (hE : B ≤ E) (hf : Fr (ownT tag) w w') : Below B w0 w' := by
  obtain ⟨s, tv, told, ats, h1, h2, h3, h4⟩ := h
  refine hB.trans (hf.below (Nat.le_trans hE h4) (fun i hi e => ?_))
  have := h3 i (by omega)
  unfold ownT at e
  omega
theorem AP.pick {w : World} {E base b mb xb k : Nat} {dv v : Value} {ls : List (List (Int × Int))} {tag : Nat → Nat} {C : CS} (h : AP w E base b mb xb dv v ls tag k C) (hk : k < 1000000000000000) (p : Nat) :
    Calls Try.prog 13 #[ptr b, .int .i64 p] w fun e w' => e = .returned (.tuple #[.int .i64 (stepC ls C p).2.1, .int .i64 (stepC ls C p).2.2]) ∧
      ∃ tag', AP w' E base b mb xb dv v ls tag' (k + 1) (stepC ls C p).1 ∧ (∀ j, j < w.heap.size → tag' j = tag j) ∧ Fr (ownT tag) w w' := by
  obtain ⟨s, tv, told, ats, h1, h2, h3, h4⟩ := h
  subst h2
  refine (h1.pickP hk p).mono ?_
  rintro e w' ⟨rfl, s', tv', told', ats', tag', g1, g2, g3, g4⟩
  exact ⟨rfl, tag', ⟨s', tv', told', ats', g1, g2, fun j hj => by rw [g3 j (by omega)]; exact h3 j hj, Nat.le_trans h4 g4.size⟩, g3, g4⟩
theorem AP.run {w : World} {E base b mb xb k g o n c most : Nat} {dv v : Value} {ls : List (List (Int × Int))} {tag : Nat → Nat} {C : CS} (h : AP w E base b mb xb dv v ls tag k C) (ps : List Nat) (hr : Rd w 1 (some ⟨g, o, none⟩) n (bnI ps)) (hn0 : 0 < n) (hn : n ≤ 1000000000) (hmost : most ≤ n) (hk : k ≤ 1000000000) :
    Calls Try.prog 16 #[ptr b, .slice (some ⟨g, o, none⟩) n c, .int .i64 most] w fun e w' => ∃ j : Nat, e = .returned (.tuple #[.int .i64 j, .int .i64 0]) ∧
      ∃ tag', AP w' E base b mb xb dv v ls tag' (k + most) (runC ls C (ps.take most)) ∧ (∀ j, j < w.heap.size → tag' j = tag j) ∧ Fr (ownT tag) w w' := by
  obtain ⟨s, tv, told, ats, h1, h2, h3, h4⟩ := h
  subst h2
  refine (h1.run ps hr hn0 hn hmost hk).mono ?_
  rintro e w' ⟨j, rfl, s', tv', told', ats', tag', g1, g2, g3, g4⟩
  exact ⟨j, rfl, tag', ⟨s', tv', told', ats', g1, g2, fun j hj => by rw [g3 j (by omega)]; exact h3 j hj, Nat.le_trans h4 g4.size⟩, g3, g4⟩
def enC (C : CS) : List Int := thoseI (mayB (ssOf C)) C.ts
theorem AP.enabled {w : World} {E base b mb xb k : Nat} {dv v : Value} {ls : List (List (Int × Int))} {tag : Nat → Nat} {C : CS} (h : AP w E base b mb xb dv v ls tag k C) (hk : k < 1000000000000000) :
    Calls Try.prog 12 #[ptr b] w fun e w' => ∃ r, e = .returned r ∧ OW w' w.heap.size 1 r (enC C).length ((enC C).map (Value.int .i64)) ∧ Below w.heap.size w w' := by
  obtain ⟨s, tv, told, ats, h1, h2, h3, h4⟩ := h
  have := Enabled_any base b mb v s w h1.px.sh (h1.steady hk) h1.n64
  rw [← h2]
  unfold enC
  rw [may_abs]
  exact this
theorem AP.stepsC {w : World} {E base b mb xb k : Nat} {dv v : Value} {ls : List (List (Int × Int))} {tag : Nat → Nat} {C : CS} (h : AP w E base b mb xb dv v ls tag k C) :
    Calls Try.prog 18 #[ptr b] w fun e w' => e = .returned (.int .i64 C.steps) ∧ w = w' := by
  obtain ⟨s, tv, told, ats, h1, h2, h3, h4⟩ := h
  rw [← h2]
  exact steps_any base b mb v s w h1.px.sh
theorem AP.cells {w : World} {E base b mb xb k : Nat} {dv v : Value} {ls : List (List (Int × Int))} {tag : Nat → Nat} {C : CS} (h : AP w E base b mb xb dv v ls tag k C) :
    ∃ tv, w.cell? ⟨xb, 0, none⟩ = some (.pointer (some ⟨b, 0, none⟩)) ∧ w.cell? ⟨xb, 2, none⟩ = some tv ∧ OW w base 1 tv C.told.length (C.told.map (Value.int .i64)) ∧ (∀ q, tv.ownBlock = some q → tag q = 2) ∧ tag xb = 1 ∧ C.told.length ≤ 640000000 ∧ (enC C).length ≤ 64 := by
  obtain ⟨s, tv, told, ats, h1, h2, h3, h4⟩ := h
  have h5 := h1.told_le
  have h6 : (enC C).length ≤ 64 := by
    rw [← h2]
    unfold enC
    rw [may_abs]
    unfold thoseI
    rw [List.length_map]
    refine Nat.le_trans (List.length_filter_le _ _) ?_
    rw [List.length_range, h1.px.sh.len]
    exact h1.n64
  subst h2
  exact ⟨tv, h1.px.x.cell 0, h1.px.x.cell 2, h1.px.told, h1.px.tT, h1.px.xT, h5, h6⟩
theorem AP.ptr0 {w : World} {E base b mb xb k : Nat} {dv v : Value} {ls : List (List (Int × Int))} {tag : Nat → Nat} {C : CS} (h : AP w E base b mb xb dv v ls tag k C) : w.cell? ⟨xb, 0, none⟩ = some (.pointer (some ⟨b, 0, none⟩)) := by
  obtain ⟨_, h1, _⟩ := h.cells
  exact h1
/-- what counts of a pair as it begins. -/
def c0C (m : Nat) : CS := ⟨List.replicate m ⟨.bool false, .bool false, 0, 0, 0, 0, false⟩, [], 0, 0, [], List.replicate m 0⟩
theorem abs_begin {s : SS} {m : Nat} (hn : newT s.ts) (h1 : s.lk = []) (h2 : s.steps = 0) (h3 : s.wishes = 0) (hl : s.ts.length = m) : absC s [] (List.replicate m 0) = c0C m := by
  unfold absC c0C
  rw [h1, h2, h3]
  simp only [CS.mk.injEq, and_true]
  refine List.eq_replicate_iff.2 ⟨by rw [Cs_len]; exact hl, fun t ht => ?_⟩
  obtain ⟨u, hu, rfl⟩ := List.mem_map.1 ht
  obtain ⟨g1, g2, g3, g4, g5⟩ := hn u hu
  unfold core
  rw [g1, g2, g3, g4, g5]
theorem AP.begin {w : World} {E base b mb xb m : Nat} {dv v : Value} {s : SS} {tag : Nat → Nat} {ls : List (List (Int × Int))} (hP : PX w base b mb xb dv v s (.slice none 0 0) [] false (List.replicate m 0) ls tag) (hn : newT s.ts) (h1 : s.lk = []) (h2 : s.steps = 0) (h3 : s.wishes = 0) (h4 : s.within = false) (h5 : s.ts.length = m) (hm : m ≤ 64) (hls : ∀ l ∈ ls, l.length < 10000000 ∧ ∀ d ∈ l, InI d.1 ∧ InI d.2) (hE : ∀ j, j < E → tag j = 3) (hEw : E ≤ w.heap.size) :
    AP w E base b mb xb dv v ls tag 0 (c0C m) := ⟨s, _, _, _, PI.begin hP hn h1 h2 h3 h4 (by omega) hls, abs_begin hn h1 h2 h3 h5, hE, hEw⟩
end Go.Proofs.Ytcdhmjapeapicaa
