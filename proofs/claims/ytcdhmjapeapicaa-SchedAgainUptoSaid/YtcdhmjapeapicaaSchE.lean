/- A scheduler: made, tasks taken in, picked from outside. Conditions: what each theorem names. -/
import Derived.RangeFuncNested
import Derived.RangeFuncBound
import Derived.RangeFuncCalls
import Derived.RangeFuncLeaves
import Derived.Shelf.Abstract
import Derived.Shelf.RegionOpen
import Derived.WalkKit
import Derived.OwnWalkIn
import Derived.TacticsInMore
import Derived.LoopNIn
import Derived.LoopIn
import Derived.Lib.Hide
import Derived.Outline
import Derived.RegionTactic
import Derived.BigRegion
import Derived.WalkLawsBesides
import Derived.WalkSpells
import Derived.Deep.QuietTactic
import Derived.BigQuiet
import Derived.Deep.RegionHeld3
import Derived.Deep.DeepCutAuto
import Derived.Deep.CutBlock
import Derived.StillTailTactics
import Derived.WalkSmall
import Derived.Test.YtcdhmjapeapicaaProg
import Derived.Test.YtcdhmjapeapicaaFr
import Derived.Test.YtcdhmjapeapicaaMp
import Derived.Defers
import Derived.Recover
import Derived.Test.YtcdhmjapeapicaaSchD
namespace Go.Proofs.Ytcdhmjapeapicaa
open Go.RowKit Go.Sed Go.Maps
set_option maxHeartbeats 1000000
set_option maxRecDepth 100000
theorem infoPtr : (Try.prog.info? 72).map (fun i => (i.zero, i.size, i.bytes)) = some (some (.pointer none), 1, 8) := by kernel_rfl
def S0 : SS := { bs := [], ts := [], lk := [], steps := 0, wishes := 0, within := false }
theorem new_any (w : World) : Calls Try.prog 9 #[] w fun e w' => ∃ b mb, e = .returned (ptr b) ∧ SH w' w.heap.size b mb (.slice none 0 0) S0 ∧ Below w.heap.size w w' := by
  have hmm := @run_makeMap Try.prog
  go_enter Try.func9, Try.ntmps9
  go_wp2_with fail
  go_ret
  have hm : Mp Try.prog 3 3 (w.alloc (.map #[] 0)) w.heap.size [] := Mp.made _ _ _ _ rfl
  refine ⟨w.heap.size + 1, w.heap.size, rfl, ⟨?_, OW.nil _ _ _, rfl, fun i x t h => by simp [S0] at h, ?_, List.nodup_nil, by omega, by simp [S0], by simp [S0], fun k e => by simp [Value.ownBlock] at e, by omega, Nat.le_refl _, fun x h => by simp [S0] at h⟩, ((Below.refl _ _).alloc (Nat.le_refl _) _).alloc (by simp) _⟩
  · exact Bl.new' (by simp)
  · exact hm.keep ((Below.refl _ _).alloc (Nat.le_refl _) _)
theorem SH.spawn {W W1 W2 : World} {base b mb x : Nat} {v v' : Value} {s : SS} {t : Tk} (h : SH W base b mb v s) (hB : Below W.heap.size W W1) (hx : Bl W1 x (.cells (tkC t) 74 (0, 0))) (hxn : W.heap.size ≤ x)
    (ho : OW W2 base 1 v' (s.bs.length + 1) (s.bs.map ptr ++ [ptr x])) (hg : W1.grownBy W2 v.ownBlock) (hc : v'.ownBlock = v.ownBlock ∨ v'.ownBlock = some W1.heap.size) :
    SH (W2.setCell ⟨b, 0, none⟩ v') base b mb v' { s with bs := s.bs ++ [x], ts := s.ts ++ [t] } := by
  have h1 := h.keep hB
  have hxz := hx.lt
  have hxo : x ∉ s.bs := fun e => by have := (h.lo x (.inr (.inr (.inl e)))).2; omega
  have hxv : v.ownBlock ≠ some x := fun e => by have := (h.lo x (.inr (.inr (.inr e)))).2; omega
  have hxb : x ≠ b := fun e => by have := h.ld.lt; omega
  have hxm : x ≠ mb := fun e => by have := h.mp.lt; omega
  have hbW : b < W.heap.size := h.ld.lt
  have hmW : mb < W.heap.size := h.mp.lt
  have hkeep : ∀ {k : Nat} {o : Obj}, Bl W1 k o → v.ownBlock ≠ some k → Bl W2 k o := by
    intro k o hk he
    have h2 := hk.lt
    unfold Bl at hk ⊢
    rw [hg.block k h2 (fun e => he e.symm)]; exact hk
  have hvn : ∀ k, v'.ownBlock = some k → k ≠ b ∧ k ≠ mb ∧ k ∉ s.bs ++ [x] := by
    intro k e
    rcases hc with hc | hc
    · rw [hc] at e
      obtain ⟨e1, e2, e3⟩ := h.vb k e
      refine ⟨e1, e2, fun hm => ?_⟩
      rcases List.mem_append.1 hm with hm | hm
      · exact e3 hm
      · simp at hm; subst hm; exact hxv e
    · rw [hc] at e
      injection e with e
      have hz := hB.size
      refine ⟨by omega, by omega, fun hm => ?_⟩
      rcases List.mem_append.1 hm with hm | hm
      · have := (h.lo k (.inr (.inr (.inl hm)))).2; omega
      · simp at hm; omega
  refine ⟨?_, ?_, by simp [h.len], ?_, ?_, ?_, h.bmb, ?_, ?_, hvn, h.lob, h.lom, ?_⟩
  · have := (hkeep h1.ld (fun e => (h.vb b e).1 rfl)).setSame 0 v'
    exact this
  · simp only [List.length_append, List.length_singleton, List.map_append, List.map_cons, List.map_nil]
    exact ho.set _ (fun e => (hvn b e).1 rfl)
  · intro i y t' hy ht'
    simp only at hy ht'
    by_cases hi : i < s.bs.length
    · rw [List.getElem?_append_left hi] at hy
      rw [List.getElem?_append_left (by rw [h.len]; exact hi)] at ht'
      have hym := List.mem_of_getElem? hy
      exact (hkeep (h1.tk i y t' hy ht') (fun e => (h.vb y e).2.2 hym)).set _ (fun e => by subst e; exact h.bbs hym)
    · have hil := (List.getElem?_eq_some_iff.1 hy).1
      simp at hil
      obtain rfl : i = s.bs.length := by omega
      rw [List.getElem?_append_right (Nat.le_refl _), Nat.sub_self] at hy
      rw [List.getElem?_append_right (Nat.le_of_eq h.len), h.len, Nat.sub_self] at ht'
      simp only [List.getElem?_cons_zero, Option.some.injEq] at hy ht'
      subst hy ht'
      exact (hkeep hx hxv).set _ hxb
  · exact (h1.mp.block (hg.block mb h1.mp.lt (fun e => (h.vb mb e.symm).2.1 rfl))).block (Below.heap_setCell _ _ _ _ (fun e => h.bmb e.symm))
  · exact List.nodup_append.2 ⟨h.nd, by simp, fun a ha c hc => by simp at hc; subst hc; exact fun e => hxo (e ▸ ha)⟩
  · intro hm
    rcases List.mem_append.1 hm with hm | hm
    · exact h.bbs hm
    · simp at hm; omega
  · intro hm
    rcases List.mem_append.1 hm with hm | hm
    · exact h.mbs hm
    · simp at hm; omega
  · intro y hm
    rcases List.mem_append.1 hm with hm | hm
    · exact h.los y hm
    · simp at hm
      have := h.lob
      omega
theorem spawn_any (base b mb G : Nat) (nm : ByteArray) (cap : Array Value) (v : Value) (s : SS) (w : World) (h : SH w base b mb v s) (hn : s.bs.length < 64) :
    Calls Try.prog 10 #[ptr b, .string nm, .func (.func G) #[] cap] w fun e w' => ∃ v' x, e = .returned (.tuple #[.int .i64 s.bs.length, .int .i64 0]) ∧
      SH w' base b mb v' { s with bs := s.bs ++ [x], ts := s.ts ++ [{ nm := .string nm, st := .func (.func G) #[] cap, kd := 0, on := 0, si := 0, od := 0, fl := false }] } ∧ Fr (foot b mb v s) w w' ∧ w.heap.size ≤ x ∧ (v'.ownBlock = v.ownBlock ∨ ∃ k, v'.ownBlock = some k ∧ w.heap.size ≤ k) := by
  obtain ⟨A0, c0, rfl, -⟩ := h.row.shape
  have d0 : w.cell? ⟨b, 0, none⟩ = some (.slice A0 s.bs.length c0) := h.ld.cell 0
  have hbz := h.ld.lt
  have hbase : base ≤ w.heap.size := Nat.le_trans h.lob (Nat.le_of_lt hbz)
  obtain ⟨W1, hW1⟩ : ∃ W1, (w.alloc (.cells #[.string nm, .func (.func G) #[] cap, .int .i64 0, .int .i64 0, .int .i64 0, .int .i64 0, .bool false] 74)).alloc (.cells #[.pointer (some ⟨w.heap.size, 0, none⟩)] 72) = W1 := ⟨_, rfl⟩
  have hB1 : Below w.heap.size w W1 := by rw [← hW1]; exact ((Below.refl _ _).alloc (Nat.le_refl _) _).alloc (by simp) _
  have hx1 : Bl W1 w.heap.size (.cells #[.string nm, .func (.func G) #[] cap, .int .i64 0, .int .i64 0, .int .i64 0, .int .i64 0, .bool false] 74 (0, 0)) := by rw [← hW1]; exact (Bl.new' rfl).alloc _
  have hr1 : Rd W1 1 (some ⟨w.heap.size + 1, 0, none⟩) 1 [.pointer (some ⟨w.heap.size, 0, none⟩)] := by rw [← hW1]; exact rd_one (by simp) _ _
  have hnf : ∀ W, (binOp BinOp.eql 32 (.func (.func G) #[] cap) .nilFunc).run Try.prog W = .ok (.bool false) W := fun _ => by kernel_rfl
  replace hB1 := Lib.hid hB1
  replace hx1 := Lib.hid hx1
  replace hr1 := Lib.hid hr1
  replace h := Lib.hid h
  unfold ptr
  go_enter Try.func10, Try.ntmps10
  go_upto_region 5 with (fail)
  go_wp2_with (at_builtin; refine wpList_append_ow rfl _ _ 69 rfl base 72 Try.underlying69 infoPtr rfl (by decide) _ s.bs.length _ rfl (h.out.row.keep hB1.out) _ 1 1 [.pointer (some ⟨w.heap.size, 0, none⟩)] rfl hr1.out (by intro u hu; simp at hu; subst hu; rfl) (by unfold maxLen; omega) (by omega) (Nat.le_trans hbase hB1.out.size) ?_; intro v5 w5 ho5 hg5 hc5; have h5 := Lib.hid (h.out.spawn hB1.out (t := ⟨.string nm, .func (.func G) #[] cap, 0, 0, 0, 0, false⟩) hx1.out (Nat.le_refl _) ho5 hg5 hc5); have hf5 := Lib.hid ((Fr.of_below (F := foot b mb (.slice A0 s.bs.length c0) s) hB1.out).grown hg5 (fun k e _ => .inr (.inr (.inr e)))); have hv5 := Lib.hid (show v5.ownBlock = (Value.slice A0 s.bs.length c0).ownBlock ∨ ∃ k, v5.ownBlock = some k ∧ w.heap.size ≤ k from hc5.imp id (fun e => ⟨_, e, hB1.out.size⟩)); have e0 : w5.cell? ⟨b, 0, none⟩ = some (.slice A0 s.bs.length c0) := by { have e1 : W1.cell? ⟨b, 0, none⟩ = some (.slice A0 s.bs.length c0) := cell_keep hB1.out d0; rw [World.cell?_of_block (a := ⟨b, 0, none⟩) (hg5.block b (Nat.lt_of_lt_of_le hbz hB1.out.size) (fun e => (h.out.vb b e.symm).1 rfl))]; exact e1 }; have f0 : w5.frozen? ⟨b, 0, none⟩ = false := by { have e1 := (h.out.keep hB1.out).ld.frozen 0; have e2 := hg5.block b (Nat.lt_of_lt_of_le hbz hB1.out.size) (fun e => (h.out.vb b e.symm).1 rfl); unfold World.frozen? at e1 ⊢; simp only at e1 ⊢; rw [e2]; exact e1 }; obtain ⟨A5, c5, rfl, -⟩ := ho5.shape; clear hg5 hc5 ho5 hW1)
  go_ret2
  exact ⟨_, _, rfl, h5.out, hf5.out.set _ (fun _ => .inl rfl), Nat.le_refl _, hv5.out⟩
theorem Pick_ok (base b mb n x p G : Nat) (cap : Array Value) (v : Value) (s : SS) (t : Tk) (w : World) (h : SH w base b mb v s) (hst : Steady s) (hwi : s.within = false) (hw : 0 ≤ s.wishes) (hn64 : s.bs.length ≤ 64) (hlk : s.lk.length < 9223372036854775807)
    (hp : (thoseI (mayB s) s.ts)[p % (thoseI (mayB s) s.ts).length]? = some (n : Int)) (hx : s.bs[n]? = some x) (ht : s.ts[n]? = some t) (hste : t.st = .func (.func G) #[] cap) (eg : Enters Try.prog G)
    (F : Nat → Prop) (hF : ∀ k, F k → k < w.heap.size) (R : Int → Int → SS → World → World → Prop)
    (s2 : SS) (hs2 : s2 = { s with lk := lkN t n s.lk, ts := s.ts.set n { t with kd := 0, on := 0 }, within := true })
    (hcall : ∀ W, SH W base b mb v s2 → Fr (foot b mb v s) w W → Calls Try.prog G cap W fun e W' => ∃ k o s', e = .returned (.agg #[.int .i64 k, .int .i64 o]) ∧ SH W' base b mb v s' ∧ s'.bs = s.bs ∧ (R k o s' W W' ∧ 0 ≤ s'.steps ∧ s'.steps < 4611686018427387904 ∧ 0 ≤ s'.wishes ∧ s'.wishes < 4611686018427387904) ∧ Fr F W W') :
    Calls Try.prog 13 #[ptr b, .int .i64 p] w fun e w' => ∃ k o s' t' W W', e = .returned (.tuple #[.int .i64 n, .int .i64 0]) ∧ s'.ts[n]? = some t' ∧
      SH w' base b mb v { s' with ts := s'.ts.set n { t' with kd := kdF k, on := onF k o, si := s'.steps + 1, od := s'.wishes + 1 }, steps := s'.steps + 1, wishes := s'.wishes + 1, within := false } ∧
      R k o s' W W' ∧ Fr (fun k => foot b mb v s k ∨ w.heap.size ≤ k ∧ k < W.heap.size) W' w' ∧ Fr (fun k => foot b mb v s k ∨ F k) w w' := by
  have hc := pick_ok base b mb n x p G cap v s t w h hst hwi hw hn64 hlk hp hx ht hste eg F hF R s2 hs2 hcall
  replace hc := Lib.hid hc
  clear hcall hst hF hs2 hp h
  unfold ptr at hc ⊢
  go_enter Try.func13, Try.ntmps13
  go_wp2_with (go_at_call 29; refine hc.out.mono ?_; rintro e w1 ⟨k, o, s', t', W, W', rfl, h1, h2, h3, h4, h5⟩; replace h2 := Lib.hid h2; replace h3 := Lib.hid h3; replace h4 := Lib.hid h4; replace h5 := Lib.hid h5)
  go_ret2
  exact ⟨k, o, s', t', W, W', rfl, h1, h2.out, h3.out, h4.out, h5.out⟩
theorem steps_any (base b mb : Nat) (v : Value) (s : SS) (w : World) (h : SH w base b mb v s) :
    Calls Try.prog 18 #[ptr b] w fun e w' => e = .returned (.int .i64 s.steps) ∧ w = w' := by
  have d2 : w.cell? ⟨b, 2, none⟩ = some (.int .i64 s.steps) := h.ld.cell 2
  clear h
  unfold ptr
  go_enter Try.func18, Try.ntmps18
  go_wp2_with fail
  go_ret
  exact ⟨rfl, rfl⟩
end Go.Proofs.Ytcdhmjapeapicaa
