/- What a task does: a lock is let go. Conditions: what each theorem names. -/
import Derived.RangeFuncNested
import Derived.RangeFuncBound
import Derived.RangeFuncCalls
import Derived.RangeFuncLeaves
import Derived.Shelf.Abstract
import Derived.Shelf.RegionOpen
import Derived.WalkKit
import Derived.OwnWalkIn
import Derived.TacticsInMore
import Derived.LoopNIn
import Derived.LoopIn
import Derived.Lib.Hide
import Derived.Outline
import Derived.RegionTactic
import Derived.BigRegion
import Derived.WalkLawsBesides
import Derived.WalkSpells
import Derived.Deep.QuietTactic
import Derived.BigQuiet
import Derived.Deep.RegionHeld3
import Derived.Deep.DeepCutAuto
import Derived.Deep.CutBlock
import Derived.StillTailTactics
import Derived.WalkSmall
import Derived.Test.YtcdhmjapeapicaaProg
import Derived.Test.YtcdhmjapeapicaaFr
import Derived.Test.YtcdhmjapeapicaaMp
import Derived.Defers
import Derived.Recover
import Derived.Test.YtcdhmjapeapicaaSchM
import Derived.Lib.SliceRun
namespace Go.Proofs.Ytcdhmjapeapicaa
open Go.RowKit Go.Sed Go.Maps
set_option maxHeartbeats 1000000
set_option maxRecDepth 100000
def unR (l : List (Int × Int)) (n : Nat) (o : Int) : Int := if lkOf l o = some (n : Int) then 0 else 41
def unL (l : List (Int × Int)) (n : Nat) (o : Int) : List (Int × Int) := if lkOf l o = some (n : Int) then lkD l o else l
theorem unlock_any (base b mb n : Nat) (o : Int) (v : Value) (s : SS) (w : World) (h : SH w base b mb v s) (hn : n < s.bs.length) (ho : InI o) :
    Calls Try.prog 40 #[ptr b, .int .i64 n, .int .i64 o] w fun e w' => e = .returned (.int .i64 (unR s.lk n o)) ∧ SH w' base b mb v { s with lk := unL s.lk n o } ∧ Fr (fun k => k = mb) w w' := by
  unfold unR unL
  by_cases hl : lkOf s.lk o = some (n : Int)
  · rw [if_pos hl, if_pos hl]
    exact unlock_yes base b mb n o v s w h hn ho hl
  · rw [if_neg hl, if_neg hl]
    exact (unlock_no base b mb n o v s w h hn ho hl).mono fun e w' ⟨he, hw⟩ => ⟨he, hw ▸ h, hw ▸ Fr.refl _ _⟩
/-- what is grown lies where it lay, or is new. -/
def Own2 (W : World) (tv tv' : Value) : Prop := tv'.ownBlock = tv.ownBlock ∨ ∃ k, tv'.ownBlock = some k ∧ W.heap.size ≤ k
def PT (W W' : World) (base b mb xb : Nat) (dv v : Value) (s s' : SS) (tv : Value) (told : List Int) (bad : Bool) (ats : List Nat) (ls : List (List (Int × Int))) (tag : Nat → Nat) : Prop :=
  ∃ tv' tag', PX W' base b mb xb dv v s' tv' told bad ats ls tag' ∧ (∀ k, k < W.heap.size → tag' k = tag k) ∧ Fr (fun k => foot b mb v s k ∨ k = xb ∨ tv.ownBlock = some k) W W' ∧ Own2 W tv tv'
theorem acts0 (base b mb xb n : Nat) (o : Int) (dv v : Value) (s : SS) (tv : Value) (told : List Int) (bad : Bool) (ats : List Nat) (ls : List (List (Int × Int))) (tag : Nat → Nat) (W : World) (h : PX W base b mb xb dv v s tv told bad ats ls tag) (hn : n < s.bs.length) (hn64 : s.bs.length ≤ 64) (ho : InI o) (ht : told.length < 1000000000000) :
    Calls Try.prog 57 #[.pointer (some ⟨xb, 0, none⟩), .int .i64 n, .agg #[.int .i64 0, .int .i64 o]] W fun e W' => e = .returned (.tuple #[]) ∧ PT W W' base b mb xb dv v s { s with lk := unL s.lk n o } tv (told ++ [unR s.lk n o]) bad ats ls tag := by
  obtain ⟨W1, hW1⟩ : ∃ W1, W.alloc (.cells #[.int .i64 0, .int .i64 o] 50) = W1 := ⟨_, rfl⟩
  have hB1 : Below W.heap.size W W1 := by rw [← hW1]; exact (Below.refl _ _).alloc (Nat.le_refl _) _
  have g1 : Bl W1 W.heap.size (.cells #[.int .i64 0, .int .i64 o] 50 (0, 0)) := by rw [← hW1]; exact Bl.new' rfl
  have h1 := h.keep hB1
  obtain ⟨A0, c0, rfl, -⟩ := h.told.shape
  have a0 : W1.cell? ⟨W.heap.size, 0, none⟩ = some (.int .i64 0) := g1.cell 0
  have a1 : W1.cell? ⟨W.heap.size, 1, none⟩ = some (.int .i64 o) := g1.cell 1
  have a1' : W1.drew.cell? ⟨W.heap.size, 1, none⟩ = some (.int .i64 o) := a1
  have x0 : W1.cell? ⟨xb, 0, none⟩ = some (ptr b) := h1.x.cell 0
  have x2 : W1.cell? ⟨xb, 2, none⟩ = some (.slice A0 told.length c0) := h1.x.cell 2
  have x0' : W1.drew.cell? ⟨xb, 0, none⟩ = some (ptr b) := x0
  have x2' : W1.drew.cell? ⟨xb, 2, none⟩ = some (.slice A0 told.length c0) := x2
  have hul := Lib.hid (fun w hw => unlock_any base b mb n o v s w hw hn ho)
  obtain ⟨R, hR⟩ : ∃ R, unR s.lk n o = R := ⟨_, rfl⟩
  obtain ⟨LK, hLK⟩ : ∃ LK, unL s.lk n o = LK := ⟨_, rfl⟩
  rw [hR, hLK] at hul
  rw [hR, hLK]
  have hWz := h.sh.ld.lt
  replace hB1 := Lib.hid hB1
  replace h1 := Lib.hid h1
  replace h := Lib.hid h
  clear g1 hR hLK
  unfold ptr at x0 x0' hul
  go_enter Try.func57, Try.ntmps57
  go_upto_region 1 with (fail)
  clear hW1
  go_upto_region 3 with (fail)
  rw [show Op.load 26 (Operand.tmp 16) = id (Op.load 26 (Operand.tmp 16)) from rfl, show Op.load 24 (Operand.tmp 20) = id (Op.load 24 (Operand.tmp 20)) from rfl, show Op.load 3 (Operand.tmp 23) = id (Op.load 3 (Operand.tmp 23)) from rfl]
  go_region_held3 (fun _ => True) (exact trivial) ((first
    | (go_at_call 40; refine (hul.out _ (h1.out.keep (Below.refl _ _).drew).sh).mono ?_; rintro e w2 ⟨rfl, hS2, hf2⟩; have h2 := Lib.hid ((h1.out.keep (Below.refl _ _).drew).sched hS2 rfl rfl hf2 (fun k hk _ => by subst hk; exact .inl (h1.out.fT _ (.inr (.inl rfl)))) hn64); have y2 : w2.cell? ⟨xb, 2, none⟩ = some (.slice A0 told.length c0) := h2.out.x.cell 2; have hl2 := h2.out.x.lt; have hne2 : xb ≠ w2.heap.size := (by omega); have hf2' := Lib.hid (((Fr.of_below (F := fun k => k = mb) hB1.out).drew).then hf2 (fun _ _ e => e)); clear hS2 hf2)
    | (refine step_append_ow rfl _ _ 26 rfl base 3 Try.underlying26 infoInt rfl (by decide) _ told.length _ rfl (h2.out.told.alloc _) _ 1 1 [.int .i64 R] rfl (rd_one rfl _ _) (by intro u hu; simp at hu; subst hu; rfl) (by unfold maxLen; omega) (by omega) (by have := h2.out.xlo; have := h2.out.x.lt; simp; omega) ?_; intro v5 w5 hown5 hgr5 hcase5; obtain ⟨A5, c5, rfl, -⟩ := hown5.shape; obtain ⟨tag5, h5, ht5⟩ := (h2.out.keep ((Below.refl _ _).alloc (Nat.le_refl _) _)).tell hown5 hgr5 hcase5; have gx := (h2.out.keep ((Below.refl _ _).alloc (Nat.le_refl _) _)).xgrown hgr5; have i2 : w5.cell? ⟨xb, 2, none⟩ = some (.slice A0 told.length c0) := gx.cell 2; have f2 := gx.frozen 2; have hl5 := gx.lt; have hf5 := Lib.hid (((hf2'.out.mono (G := fun k => foot b mb v s k ∨ k = xb ∨ (Value.slice A0 told.length c0).ownBlock = some k) (fun _ _ e => .inl (.inr (.inl e)))).alloc _).grown hgr5 (fun k e _ => .inr (.inr e))); have hw2 : W.heap.size ≤ w2.heap.size := hf2'.out.size; have hc5 := Lib.hid hcase5; replace ht5 := Lib.hid ht5; replace h5 := Lib.hid h5; clear hown5 hgr5 hcase5 gx)))
  all_goals
    go_wp2_with fail
    go_end0
    exact ⟨rfl, _, tag5, h5.out, fun k hk => ht5.out k (by simp; omega), hf5.out.set _ (fun _ => .inr (.inl rfl)), hc5.out.imp id (fun e => ⟨_, e, by simp; omega⟩)⟩
end Go.Proofs.Ytcdhmjapeapicaa
