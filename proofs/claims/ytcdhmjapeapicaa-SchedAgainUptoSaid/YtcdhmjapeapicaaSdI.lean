/- What is asked of a scheduler; the pair at work. Conditions: what each theorem names. -/
import Derived.RangeFuncNested
import Derived.RangeFuncBound
import Derived.RangeFuncCalls
import Derived.RangeFuncLeaves
import Derived.Shelf.Abstract
import Derived.Shelf.RegionOpen
import Derived.WalkKit
import Derived.OwnWalkIn
import Derived.TacticsInMore
import Derived.LoopNIn
import Derived.LoopIn
import Derived.Lib.Hide
import Derived.Outline
import Derived.RegionTactic
import Derived.BigRegion
import Derived.WalkLawsBesides
import Derived.WalkSpells
import Derived.Deep.QuietTactic
import Derived.BigQuiet
import Derived.Deep.RegionHeld3
import Derived.Deep.DeepCutAuto
import Derived.Deep.CutBlock
import Derived.StillTailTactics
import Derived.WalkSmall
import Derived.Test.YtcdhmjapeapicaaProg
import Derived.Test.YtcdhmjapeapicaaSchG
import Derived.Test.YtcdhmjapeapicaaSdH
namespace Go.Proofs.Ytcdhmjapeapicaa
open Go.RowKit Go.Sed Go.Maps
set_option maxHeartbeats 1000000
set_option maxRecDepth 100000
theorem none_any (base b mb : Nat) (i : Int) (v : Value) (s : SS) (w : World) (h : SH w base b mb v s) (hst : Steady s) (hwi : s.within = false) (hn64 : s.bs.length ≤ 64) (he : thoseI (mayB s) s.ts = []) :
    Calls Try.prog 29 #[ptr b, .int .i64 i] w fun e w' => e = .returned (.tuple #[.int .i64 0, .int .i64 8]) ∧ Below w.heap.size w w' := by
  have hc := enabled_any base b mb v s w h hst hn64
  rw [he] at hc
  replace hc := Lib.hid hc
  replace he := Lib.hid he
  replace h := Lib.hid h
  replace hwi := Lib.hid hwi
  unfold ptr at hc ⊢
  go_enter Try.func29, Try.ntmps29
  go_wp2_with (go_at_call 28; refine hc.out.mono ?_; rintro e w1 ⟨r, rfl, ho, hB1⟩; obtain ⟨A1, c1, rfl, -⟩ := ho.shape; simp only [List.length_nil]; have d4 : w1.cell? ⟨b, 4, none⟩ = some (.bool false) := by { rw [← hwi.out]; exact (h.out.keep hB1).ld.cell 4 }; clear ho)
  go_ret2
  exact ⟨rfl, hB1⟩
theorem None_any (base b mb : Nat) (i : Int) (v : Value) (s : SS) (w : World) (h : SH w base b mb v s) (hst : Steady s) (hwi : s.within = false) (hn64 : s.bs.length ≤ 64) (he : thoseI (mayB s) s.ts = []) :
    Calls Try.prog 13 #[ptr b, .int .i64 i] w fun e w' => e = .returned (.tuple #[.int .i64 0, .int .i64 8]) ∧ Below w.heap.size w w' := by
  have hc := Lib.hid (none_any base b mb i v s w h hst hwi hn64 he)
  clear h hst he
  unfold ptr at hc ⊢
  go_enter Try.func13, Try.ntmps13
  go_wp2_with (go_at_call 29; refine hc.out.mono ?_; rintro e w1 ⟨rfl, hB1⟩)
  go_ret2
  exact ⟨rfl, hB1⟩
theorem Holder_any (base b mb : Nat) (o : Int) (v : Value) (s : SS) (w : World) (h : SH w base b mb v s) (ho : InI o) :
    Calls Try.prog 22 #[ptr b, .int .i64 o] w fun e w' => e = .returned (.tuple #[.int .i64 ((lkOf s.lk o).getD 0), .bool (lkOf s.lk o).isSome]) ∧ w = w' := by
  have d1 : w.cell? ⟨b, 1, none⟩ = some (.map (some mb)) := h.ld.cell 1
  have hlk := mp_look h.mp o ho
  obtain ⟨x, hx⟩ : ∃ x, (lkOf s.lk o).getD 0 = x := ⟨_, rfl⟩
  obtain ⟨q, hq⟩ : ∃ q, (lkOf s.lk o).isSome = q := ⟨_, rfl⟩
  rw [hx, hq] at hlk
  rw [hx, hq]
  clear h hx hq
  unfold ptr
  go_enter Try.func22, Try.ntmps22
  go_wp2_with fail
  go_ret2
  exact ⟨rfl, rfl⟩
theorem Wish_any (base b mb n : Nat) (v : Value) (s : SS) (t : Tk) (w : World) (h : SH w base b mb v s) (ht : s.ts[n]? = some t) :
    Calls Try.prog 21 #[ptr b, .int .i64 n] w fun e w' => e = .returned (.tuple #[.agg #[.int .i64 t.kd, .int .i64 t.on], .int .i64 0]) ∧ Below w.heap.size w w' := by
  have hnl := (List.getElem?_eq_some_iff.1 ht).1
  rw [h.len] at hnl
  obtain ⟨x, hx⟩ : ∃ x, s.bs[n]? = some x := ⟨_, List.getElem?_eq_getElem hnl⟩
  obtain ⟨W1, hW1⟩ : ∃ W1, w.alloc (.cells #[.int .i64 0, .int .i64 0] 31) = W1 := ⟨_, rfl⟩
  have hB1 : Below w.heap.size w W1 := by rw [← hW1]; exact (Below.refl _ _).alloc (Nat.le_refl _) _
  have g1 : Bl W1 w.heap.size (.cells #[.int .i64 0, .int .i64 0] 31 (0, 0)) := by rw [← hW1]; exact Bl.new' rfl
  have h1 := h.keep hB1
  have hi := Lib.hid (is_yes base b mb n v s W1 h1 hnl)
  have hb := h1.tk n x t hx ht
  have c2 : W1.cell? ⟨x, 2, none⟩ = some (.int .i64 t.kd) := hb.cell 2
  have c3 : W1.cell? ⟨x, 3, none⟩ = some (.int .i64 t.on) := hb.cell 3
  obtain ⟨A0, c, rfl, hrd, -⟩ := h1.row.shape
  have d0 : W1.cell? ⟨b, 0, none⟩ = some (.slice A0 s.bs.length c) := h1.ld.cell 0
  obtain ⟨g, o, u1, rfl, hu1, r1⟩ := hrd.at1 hnl
  obtain rfl : u1 = .pointer (some ⟨x, 0, none⟩) := by
    rw [List.getElem?_map, hx] at hu1
    exact (Option.some.inj hu1).symm
  have e0 : W1.cell? ⟨w.heap.size, 0, none⟩ = some (.int .i64 0) := g1.cell 0
  have e1 : W1.cell? ⟨w.heap.size, 1, none⟩ = some (.int .i64 0) := g1.cell 1
  have f0 := g1.frozen 0
  have f1 := g1.frozen 1
  have g2 := Lib.hid ((g1.setSame 0 (.int .i64 t.kd)).setSame 1 (.int .i64 t.on))
  have hB2 : Below w.heap.size w ((W1.setCell ⟨w.heap.size, 0, none⟩ (.int .i64 t.kd)).setCell ⟨w.heap.size, 1, none⟩ (.int .i64 t.on)) := (hB1.setCell (Nat.le_refl _) _).setCell (Nat.le_refl _) _
  replace hB2 := Lib.hid hB2
  clear h hb h1 hB1 g1 hrd hu1
  unfold ptr at hi ⊢
  go_enter Try.func21, Try.ntmps21
  go_upto_region 1 with (fail)
  clear hW1
  go_wp2_with (first
    | (go_at_call 35; refine hi.out.mono ?_; rintro e w1 ⟨rfl, rfl⟩))
  obtain ⟨W2, hW2⟩ : ∃ W2, (W1.setCell ⟨w.heap.size, 0, none⟩ (.int .i64 t.kd)).setCell ⟨w.heap.size, 1, none⟩ (.int .i64 t.on) = W2 := ⟨_, rfl⟩
  rw [hW2] at g2 hB2 ⊢
  have q0 : W2.cell? ⟨w.heap.size, 0, none⟩ = some (.int .i64 t.kd) := g2.out.cell 0
  have q1 : W2.cell? ⟨w.heap.size, 1, none⟩ = some (.int .i64 t.on) := g2.out.cell 1
  refine bodyPost_ret (v := .tuple #[.agg #[.int .i64 t.kd, .int .i64 t.on], .int .i64 0]) (by simp [results, Try.results21, go_sem, q0, q1]) rfl ⟨rfl, hB2.out⟩
/-- the pair at work, whatever the tasks do: at most so many picks are done. -/
structure PI (w : World) (base b mb xb : Nat) (dv v : Value) (s : SS) (tv : Value) (told : List Int) (ats : List Nat) (ls : List (List (Int × Int))) (tag : Nat → Nat) (k : Nat) : Prop where
  px : PX w base b mb xb dv v s tv told false ats ls tag
  ti : TI s.steps s.wishes s.ts
  st : 0 ≤ s.steps ∧ s.steps ≤ k
  wi : 0 ≤ s.wishes ∧ s.wishes ≤ k
  within : s.within = false
  lk : s.lk.length ≤ k
  n64 : s.bs.length ≤ 64
  ato : ∀ (i a : Nat) (l : List (Int × Int)), ats[i]? = some a → ls[i]? = some l → a ≤ l.length
  lso : ∀ l ∈ ls, l.length < 10000000 ∧ ∀ d ∈ l, InI d.1 ∧ InI d.2
  tl : told.length ≤ ats.sum
theorem PI.keep {w W : World} {base b mb xb k : Nat} {dv v : Value} {s : SS} {tv : Value} {told : List Int} {ats : List Nat} {ls : List (List (Int × Int))} {tag : Nat → Nat} (h : PI w base b mb xb dv v s tv told ats ls tag k) (hB : Below w.heap.size w W) : PI W base b mb xb dv v s tv told ats ls tag k := { h with px := h.px.keep hB }
theorem PI.steady {w : World} {base b mb xb k : Nat} {dv v : Value} {s : SS} {tv : Value} {told : List Int} {ats : List Nat} {ls : List (List (Int × Int))} {tag : Nat → Nat} (h : PI w base b mb xb dv v s tv told ats ls tag k) (hk : k < 1000000000000000) : Steady s := h.ti.steady h.st.1 (by have := h.st.2; omega)
theorem sum_set : ∀ (l : List Nat) (n a c : Nat), l[n]? = some a → (l.set n c).sum + a = l.sum + c
  | [], n, a, c, h => by simp at h
  | x :: l, 0, a, c, h => by
    simp only [List.getElem?_cons_zero, Option.some.injEq] at h
    subst h
    simp only [List.set_cons_zero, List.sum_cons]; omega
  | x :: l, n + 1, a, c, h => by
    have := sum_set l n a c (by simpa using h)
    simp only [List.set_cons_succ, List.sum_cons]; omega
theorem sum_le : ∀ (l : List Nat) (m : Nat), (∀ a ∈ l, a ≤ m) → l.sum ≤ l.length * m
  | [], m, _ => by simp
  | x :: l, m, h => by
    have h1 := sum_le l m (fun a ha => h a (List.mem_cons_of_mem _ ha))
    have h2 := h x (by simp)
    rw [List.sum_cons, List.length_cons, Nat.add_mul]; omega
theorem PI.told_le {w : World} {base b mb xb k : Nat} {dv v : Value} {s : SS} {tv : Value} {told : List Int} {ats : List Nat} {ls : List (List (Int × Int))} {tag : Nat → Nat} (h : PI w base b mb xb dv v s tv told ats ls tag k) : told.length ≤ 640000000 := by
  have h1 := h.tl
  have h2 := h.px.lena
  have h3 := h.px.sh.len
  have h4 := h.n64
  have h5 := sum_le ats 10000000 (fun a ha => by
    obtain ⟨i, hi⟩ := List.mem_iff_getElem?.1 ha
    have hil := (List.getElem?_eq_some_iff.1 hi).1
    obtain ⟨l, hl⟩ : ∃ l, ls[i]? = some l := ⟨_, List.getElem?_eq_getElem (by rw [h.px.len]; omega)⟩
    have := h.ato i a l hi hl
    have := (h.lso l (List.mem_of_getElem? hl)).1
    omega)
  have h6 : ats.length * 10000000 ≤ 64 * 10000000 := Nat.mul_le_mul_right _ (by omega)
  omega
/-- the task that is picked. -/
structure Who (s : SS) (ats : List Nat) (ls : List (List (Int × Int))) (p n : Nat) (t : Tk) (l : List (Int × Int)) (a0 : Nat) : Prop where
  hp : (thoseI (mayB s) s.ts)[p % (thoseI (mayB s) s.ts).length]? = some (n : Int)
  ht : s.ts[n]? = some t
  hl : ls[n]? = some l
  ha : ats[n]? = some a0
  may : mayB s t = true
theorem PI.who {w : World} {base b mb xb k : Nat} {dv v : Value} {s : SS} {tv : Value} {told : List Int} {ats : List Nat} {ls : List (List (Int × Int))} {tag : Nat → Nat} (h : PI w base b mb xb dv v s tv told ats ls tag k) (hne : thoseI (mayB s) s.ts ≠ []) (p : Nat) : ∃ n t l a0, Who s ats ls p n t l a0 := by
  have hlen : 0 < (thoseI (mayB s) s.ts).length := List.length_pos_iff.2 hne
  obtain ⟨x, hx⟩ : ∃ x, (thoseI (mayB s) s.ts)[p % (thoseI (mayB s) s.ts).length]? = some x := ⟨_, List.getElem?_eq_getElem (Nat.mod_lt _ hlen)⟩
  have hm := List.mem_of_getElem? hx
  unfold thoseI at hm
  obtain ⟨n, hn, rfl⟩ := List.mem_map.1 hm
  obtain ⟨hn1, hn2⟩ := List.mem_filter.1 hn
  have hnl := List.mem_range.1 hn1
  have ht : s.ts[n]? = some s.ts[n] := List.getElem?_eq_getElem hnl
  rw [ht] at hn2
  obtain ⟨l, hl⟩ : ∃ l, ls[n]? = some l := ⟨_, List.getElem?_eq_getElem (by rw [h.px.len]; exact hnl)⟩
  obtain ⟨a, ha⟩ : ∃ a, ats[n]? = some a := ⟨_, List.getElem?_eq_getElem (by rw [h.px.lena]; exact hnl)⟩
  exact ⟨n, _, l, a, hx, ht, hl, ha, hn2⟩
def erOf (s : SS) (told : List Int) (n : Nat) (t : Tk) (l : List (Int × Int)) (a0 : Nat) : ER := exG n (l.drop a0) a0 (s.ts.set n { t with kd := 0, on := 0 }) (lkN t n s.lk) told
def own4 (tag : Nat → Nat) (n k : Nat) : Prop := tag k = 0 ∨ tag k = 1 ∨ tag k = 2 ∨ tag k = 4 + n
theorem PI.pick {w : World} {base b mb xb k p n a0 : Nat} {dv v : Value} {s : SS} {t : Tk} {l : List (Int × Int)} {tv : Value} {told : List Int} {ats : List Nat} {ls : List (List (Int × Int))} {tag : Nat → Nat} (h : PI w base b mb xb dv v s tv told ats ls tag k) (hk : k < 1000000000000000) (hw : Who s ats ls p n t l a0) :
    Calls Try.prog 13 #[ptr b, .int .i64 p] w fun e w' => e = .returned (.tuple #[.int .i64 n, .int .i64 (rcOf (erOf s told n t l a0).res)]) ∧
      ∃ tv' tag', PI w' base b mb xb dv v (pickG s n (erOf s told n t l a0)) tv' (erOf s told n t l a0).told (ats.set n (erOf s told n t l a0).a) ls tag' (k + 1) ∧ (∀ k, k < w.heap.size → tag' k = tag k) ∧ Fr (own4 tag n) w w' := by
  have hlm := h.lso l (List.mem_of_getElem? hw.hl)
  have hal := h.ato n a0 l hw.ha hw.hl
  have htl := h.told_le
  have h1 := h.st
  have h2 := h.wi
  have h3 := h.lk
  have hnl : n < s.ts.length := (List.getElem?_eq_some_iff.1 hw.ht).1
  have hti2 := h.ti.set0 hw.ht
  refine (h.px.pickG base b mb xb n p a0 dv v s t tv told ats ls tag l w hw.hp hw.ht hw.hl hw.ha h.within h.ti h.n64 hlm.2 hal hlm.1 (by omega) ⟨h2.1, by omega⟩ ⟨h1.1, by omega⟩ (by omega) _ rfl).mono ?_
  rintro e w' ⟨rfl, tv', tag', hP, htg, hf⟩
  have hok := exG_ok n (l.drop a0) a0 (s.ts.set n { t with kd := 0, on := 0 }) (lkN t n s.lk) told
  obtain ⟨r, hr⟩ : ∃ r, erOf s told n t l a0 = r := ⟨_, rfl⟩
  rw [show exG n (l.drop a0) a0 (s.ts.set n { t with kd := 0, on := 0 }) (lkN t n s.lk) told = r from hr] at hok hP ⊢
  rw [hr]
  refine ⟨rfl, tv', tag', ⟨hP, ?_, ?_, ?_, rfl, ?_, h.n64, ?_, h.lso, ?_⟩, htg, hf⟩
  · refine pickG_ti (hok.2.2.2.2.2.2.1 _ _ hti2) h1.1 h2.1 (fun q hq => ?_)
    rcases hok.2.2.2.2.2.2.2 q hq with e | ⟨d, hd, _, e⟩
    · subst e; exact inI0
    · subst e; exact (hlm.2 d (List.mem_of_mem_drop hd)).2
  · show 0 ≤ s.steps + 1 ∧ s.steps + 1 ≤ _; omega
  · show 0 ≤ s.wishes + 1 ∧ s.wishes + 1 ≤ _; omega
  · have hlkn : (lkN t n s.lk).length ≤ s.lk.length + 1 := by unfold lkN; split <;> simp
    have hrl := hok.2.2.1
    show (if r.res.isSome then r.lk else r.lk.filter _).length ≤ _
    split
    · omega
    · have := List.length_filter_le (fun p : Int × Int => p.2 != (n : Int)) r.lk; omega
  · intro i a l' hi hl'
    by_cases e : n = i
    · subst e
      rw [List.getElem?_set_self (List.getElem?_eq_some_iff.1 hw.ha).1] at hi
      injection hi with hi
      rw [hw.hl] at hl'
      injection hl' with hl'
      subst hi hl'
      have := hok.2.2.2.2.1
      rw [List.length_drop] at this
      omega
    · rw [List.getElem?_set_ne e] at hi
      exact h.ato i a l' hi hl'
  · have h5 := sum_set ats n a0 r.a hw.ha
    have h6 := hok.2.2.2.2.2.1
    have h7 := h.tl
    omega
end Go.Proofs.Ytcdhmjapeapicaa
