/- Tasks that are lists of what they do, in memory. Conditions: what each theorem names. -/
import Derived.RangeFuncNested
import Derived.RangeFuncBound
import Derived.RangeFuncCalls
import Derived.RangeFuncLeaves
import Derived.Shelf.Abstract
import Derived.Shelf.RegionOpen
import Derived.WalkKit
import Derived.OwnWalkIn
import Derived.TacticsInMore
import Derived.LoopNIn
import Derived.LoopIn
import Derived.Lib.Hide
import Derived.Outline
import Derived.RegionTactic
import Derived.BigRegion
import Derived.WalkLawsBesides
import Derived.WalkSpells
import Derived.Deep.QuietTactic
import Derived.BigQuiet
import Derived.Deep.RegionHeld3
import Derived.Deep.DeepCutAuto
import Derived.Deep.CutBlock
import Derived.StillTailTactics
import Derived.WalkSmall
import Derived.Test.YtcdhmjapeapicaaProg
import Derived.Test.YtcdhmjapeapicaaFr
import Derived.Test.YtcdhmjapeapicaaMp
import Derived.Defers
import Derived.Recover
import Derived.Test.YtcdhmjapeapicaaSchL
import Derived.Lib.SliceRun
namespace Go.Proofs.Ytcdhmjapeapicaa
open Go.RowKit Go.Sed Go.Maps
set_option maxHeartbeats 1000000
set_option maxRecDepth 100000
def dsC (d : Int × Int) : List Value := [.int .i64 d.1, .int .i64 d.2]
theorem dsC_len (d : Int × Int) : (dsC d).length = 2 := rfl
def stepV (X A L T : Nat) : Value := .func (.func 56) #[] #[.pointer (some ⟨X, 0, none⟩), .pointer (some ⟨A, 0, none⟩), .pointer (some ⟨L, 0, none⟩), .pointer (some ⟨T, 0, none⟩)]
theorem rd_setFar0 {w : World} {size n b i : Nat} {A : Option Addr} {xs : List Value} (h : Rd w size A n xs) (v : Value) (hk : ∀ a, A = some a → 0 < n → a.block ≠ b) : Rd (w.setCell ⟨b, i, none⟩ v) size A n xs :=
  ⟨h.1, fun hn => by
    obtain ⟨g, o, e, hc⟩ := h.2 hn
    refine ⟨g, o, e, fun j u hu => ?_⟩
    rw [World.cell?_of_block (a := ⟨g, o + j, none⟩) (Below.heap_setCell _ _ _ _ (hk _ e hn))]
    exact hc j u hu⟩
/-- a task's own cells. -/
structure TX (W : World) (base xb i at' : Nat) (l : List (Int × Int)) (tag : Nat → Nat) (X A L T : Nat) : Prop where
  x : Bl W X (.cells #[.pointer (some ⟨xb, 0, none⟩)] 37 (0, 0))
  a : Bl W A (.cells #[.int .i64 at'] 3 (0, 0))
  l : ∃ p c, Bl W L (.cells #[.slice p l.length c] 47 (0, 0)) ∧ Rd W 2 p l.length (l.flatMap dsC) ∧ ∀ q, p = some q → 0 < l.length → tag q.block = 3 ∧ q.block < W.heap.size
  t : Bl W T (.cells #[.int .i64 i] 3 (0, 0))
  tX : tag X = 3
  tA : tag A = 4 + i
  tL : tag L = 3
  tT : tag T = 3
  lo : base ≤ A
structure PX (W : World) (base b mb xb : Nat) (dv v : Value) (s : SS) (tv : Value) (told : List Int) (bad : Bool) (ats : List Nat) (ls : List (List (Int × Int))) (tag : Nat → Nat) : Prop where
  sh : SH W base b mb v s
  x : Bl W xb (.cells #[ptr b, dv, tv, .bool bad] 41 (0, 0))
  told : OW W base 1 tv told.length (told.map (Value.int .i64))
  fT : ∀ k, foot b mb v s k → tag k = 0
  xT : tag xb = 1
  tT : ∀ k, tv.ownBlock = some k → tag k = 2
  xlo : base ≤ xb
  len : ls.length = s.ts.length
  lena : ats.length = s.ts.length
  tk : ∀ (i : Nat) (t : Tk), s.ts[i]? = some t → ∃ X A L T l at', t.st = stepV X A L T ∧ ls[i]? = some l ∧ ats[i]? = some at' ∧ TX W base xb i at' l tag X A L T
theorem TX.fr {F : Nat → Prop} {W W' : World} {base xb i at' : Nat} {l : List (Int × Int)} {tag : Nat → Nat} {X A L T : Nat} (h : TX W base xb i at' l tag X A L T) (hf : Fr F W W') (h3 : ∀ k, F k → k < W.heap.size → tag k ≠ 3 ∧ tag k ≠ 4 + i) : TX W' base xb i at' l tag X A L T := by
  have n3 : ∀ {k : Nat}, k < W.heap.size → tag k = 3 → ¬ F k := fun a e f => (h3 _ f a).1 e
  obtain ⟨p, c, l1, l2, l3⟩ := h.l
  refine ⟨h.x.fr hf (n3 h.x.lt h.tX), h.a.fr hf (fun f => (h3 _ f h.a.lt).2 h.tA), ⟨p, c, l1.fr hf (n3 l1.lt h.tL), ?_, fun q e hp => ⟨(l3 q e hp).1, Nat.lt_of_lt_of_le (l3 q e hp).2 hf.size⟩⟩, h.t.fr hf (n3 h.t.lt h.tT), h.tX, h.tA, h.tL, h.tT, h.lo⟩
  refine ⟨l2.1, fun hn => ?_⟩
  obtain ⟨g, o, e, hc⟩ := l2.2 hn
  have h1 := (l3 _ e hn).1
  refine ⟨g, o, e, fun j u hu => ?_⟩
  have hcu := hc j u hu
  rw [World.cell?_of_block (a := ⟨g, o + j, none⟩) (hf.block g (cell_lt hcu) (n3 (cell_lt hcu) h1))]
  exact hcu
theorem TX.retag {W : World} {base xb i at' : Nat} {l : List (Int × Int)} {tag tag' : Nat → Nat} {X A L T : Nat} (h : TX W base xb i at' l tag X A L T) (ht : ∀ k, k < W.heap.size → tag' k = tag k) : TX W base xb i at' l tag' X A L T := by
  obtain ⟨p, c, l1, l2, l3⟩ := h.l
  refine ⟨h.x, h.a, ⟨p, c, l1, l2, ?_⟩, h.t, by rw [ht _ h.x.lt]; exact h.tX, by rw [ht _ h.a.lt]; exact h.tA, by rw [ht _ l1.lt]; exact h.tL, by rw [ht _ h.t.lt]; exact h.tT, h.lo⟩
  exact fun q e hp => ⟨by rw [ht _ (l3 q e hp).2]; exact (l3 q e hp).1, (l3 q e hp).2⟩
theorem PX.keep {W W' : World} {base b mb xb : Nat} {dv v : Value} {s : SS} {tv : Value} {told : List Int} {bad : Bool} {ats : List Nat} {ls : List (List (Int × Int))} {tag : Nat → Nat} (h : PX W base b mb xb dv v s tv told bad ats ls tag) (hB : Below W.heap.size W W') : PX W' base b mb xb dv v s tv told bad ats ls tag :=
  { h with
    sh := h.sh.keep hB, x := h.x.keep hB, told := h.told.keep hB
    tk := fun i t ht => by
      obtain ⟨X, A, L, T, l, at', a1, a2, a3, a4⟩ := h.tk i t ht
      exact ⟨X, A, L, T, l, at', a1, a2, a3, a4.fr (Fr.of_below (F := fun k => W.heap.size ≤ k) hB) (fun k hk hl => by omega)⟩ }
/-- the scheduler alone is another. -/
theorem PX.sched {F : Nat → Prop} {W W' : World} {base b mb xb : Nat} {dv v : Value} {s s' : SS} {tv : Value} {told : List Int} {bad : Bool} {ats : List Nat} {ls : List (List (Int × Int))} {tag : Nat → Nat} (h : PX W base b mb xb dv v s tv told bad ats ls tag) (hS : SH W' base b mb v s') (hb : s'.bs = s.bs) (ht : s'.ts.map Tk.st = s.ts.map Tk.st) (hf : Fr F W W') (hF : ∀ k, F k → k < W.heap.size → tag k = 0 ∨ 100 ≤ tag k) (hn64 : s.bs.length ≤ 64) : PX W' base b mb xb dv v s' tv told bad ats ls tag := by
  have hlen : s'.ts.length = s.ts.length := by have := congrArg List.length ht; simpa using this
  refine ⟨hS, h.x.fr hf (fun f => by have := hF _ f h.x.lt; rw [h.xT] at this; omega), h.told.fr hf (fun k e f => by have := hF _ f (h.told.lt k e).2; rw [h.tT k e] at this; omega), ?_, h.xT, h.tT, h.xlo, by rw [hlen]; exact h.len, by rw [hlen]; exact h.lena, ?_⟩
  · intro k hk
    refine h.fT k ?_
    unfold foot at hk ⊢
    rw [← hb]; exact hk
  · intro i t hi
    have hil : i < s.ts.length := by rw [← hlen]; exact (List.getElem?_eq_some_iff.1 hi).1
    obtain ⟨t0, ht0⟩ : ∃ t0, s.ts[i]? = some t0 := ⟨_, List.getElem?_eq_getElem hil⟩
    have hst : t.st = t0.st := by
      have h1 : (s'.ts.map Tk.st)[i]? = some t.st := by rw [List.getElem?_map, hi]; rfl
      have h2 : (s.ts.map Tk.st)[i]? = some t0.st := by rw [List.getElem?_map, ht0]; rfl
      rw [ht, h2] at h1
      exact (Option.some.inj h1).symm
    obtain ⟨X, A, L, T, l, at', a1, a2, a3, a4⟩ := h.tk i t0 ht0
    have hil2 := hil
    rw [h.sh.len] at hil2
    exact ⟨X, A, L, T, l, at', hst.trans a1, a2, a3, a4.fr hf (fun k hk hl => by have := hF k hk hl; omega)⟩
/-- a task's place is another. -/
theorem PX.place {W : World} {base b mb xb i A n : Nat} {dv v : Value} {s : SS} {tv : Value} {told : List Int} {bad : Bool} {ats : List Nat} {ls : List (List (Int × Int))} {tag : Nat → Nat} (h : PX W base b mb xb dv v s tv told bad ats ls tag) (hA : tag A = 4 + i) (hb : Bl W A (.cells #[.int .i64 n] 3 (0, 0))) (m : Nat)
    (hu : ∀ t X' A' L' T', s.ts[i]? = some t → t.st = stepV X' A' L' T' → A' = A) : PX (W.setCell ⟨A, 0, none⟩ (.int .i64 m)) base b mb xb dv v s tv told bad (ats.set i m) ls tag := by
  have fr : Fr (fun k => k = A) W (W.setCell ⟨A, 0, none⟩ (.int .i64 m)) := (Fr.refl _ _).set _ (fun _ => rfl)
  refine ⟨h.sh.fr fr (fun k hk e => by have := h.fT k hk; subst e; omega), h.x.fr fr (fun e => by have := h.xT; rw [e] at this; omega), h.told.fr fr (fun k e f => by have := h.tT k e; subst f; omega), h.fT, h.xT, h.tT, h.xlo, h.len, by rw [List.length_set]; exact h.lena, ?_⟩
  intro j t ht
  obtain ⟨X, A', L, T, l, at', a1, a2, a3, a4⟩ := h.tk j t ht
  by_cases e : i = j
  · subst e
    have hAA := hu t X A' L T ht a1
    subst hAA
    have hin : i < ats.length := (List.getElem?_eq_some_iff.1 a3).1
    obtain ⟨p, c, l1, l2, l3⟩ := a4.l
    have hne : ∀ k, tag k = 3 → k ≠ A' := fun k h1 h2 => by subst h2; omega
    refine ⟨X, A', L, T, l, m, a1, a2, List.getElem?_set_self hin, ⟨a4.x.set _ (hne _ a4.tX), a4.a.setSame1 _, ⟨p, c, l1.set _ (hne _ a4.tL), rd_setFar0 l2 _ (fun q e hp => hne _ (l3 q e hp).1), fun q e hp => ⟨(l3 q e hp).1, by have := (l3 q e hp).2; simpa using this⟩⟩, a4.t.set _ (hne _ a4.tT), a4.tX, a4.tA, a4.tL, a4.tT, a4.lo⟩⟩
  · exact ⟨X, A', L, T, l, at', a1, a2, by rw [List.getElem?_set_ne e]; exact a3, a4.fr fr (fun k hk _ => by subst hk; omega)⟩
/-- what was told is one more. -/
theorem PX.tell {W W3 : World} {base b mb xb : Nat} {dv v : Value} {s : SS} {tv tv' : Value} {told : List Int} {r : Int} {bad : Bool} {ats : List Nat} {ls : List (List (Int × Int))} {tag : Nat → Nat} (h : PX W base b mb xb dv v s tv told bad ats ls tag)
    (ho : OW W3 base 1 tv' (told.length + 1) (told.map (Value.int .i64) ++ [.int .i64 r])) (hg : W.grownBy W3 tv.ownBlock) (hc : tv'.ownBlock = tv.ownBlock ∨ tv'.ownBlock = some W.heap.size) :
    ∃ tag', PX (W3.setCell ⟨xb, 2, none⟩ tv') base b mb xb dv v s tv' (told ++ [r]) bad ats ls tag' ∧ ∀ k, k < W.heap.size → tag' k = tag k := by
  let tag' : Nat → Nat := fun k => if k = W.heap.size then 2 else tag k
  have htag : ∀ k, k < W.heap.size → tag' k = tag k := fun k hk => if_neg (by omega)
  have fr : Fr (fun k => tag k = 2 ∨ k = xb) W (W3.setCell ⟨xb, 2, none⟩ tv') := ((Fr.refl _ _).grown hg (fun k e _ => .inl (h.tT k e))).set _ (fun _ => .inr rfl)
  have hbad : ∀ k, (tag k = 2 ∨ k = xb) → tag k = 1 ∨ tag k = 2 := fun k hk => by
    rcases hk with hk | hk
    · exact .inr hk
    · subst hk; exact .inl h.xT
  have ntv : tv'.ownBlock ≠ some xb := fun e => by
    rcases hc with hc | hc
    · rw [hc] at e; have := h.tT _ e; have := h.xT; omega
    · rw [hc] at e; injection e with e; have := h.x.lt; omega
  refine ⟨tag', ⟨h.sh.fr fr (fun k hk e => by have := h.fT k hk; have := hbad k e; omega), ?_, ?_, ?_, ?_, ?_, h.xlo, h.len, h.lena, ?_⟩, htag⟩
  · have hx3 : Bl W3 xb (.cells #[ptr b, dv, tv, .bool bad] 41 (0, 0)) := by
      have h1 := h.x
      have h2 := h1.lt
      unfold Bl at h1 ⊢
      rw [hg.block xb h2 (fun e => by have := h.tT xb e.symm; have := h.xT; omega)]; exact h1
    exact hx3.setSame 2 tv'
  · rw [List.length_append, List.map_append]
    exact ho.set _ ntv
  · intro k hk
    rw [htag k (h.sh.lo k hk).2]; exact h.fT k hk
  · rw [htag xb h.x.lt]; exact h.xT
  · intro k e
    rcases hc with hc | hc
    · rw [hc] at e; rw [htag k (h.told.lt k e).2]; exact h.tT k e
    · rw [hc] at e; injection e with e; subst e; exact if_pos rfl
  · intro i t ht
    obtain ⟨X, A, L, T, l, at', a1, a2, a3, a4⟩ := h.tk i t ht
    exact ⟨X, A, L, T, l, at', a1, a2, a3, ((a4.retag htag).fr fr (fun k hk hl => by rw [htag k hl]; have := hbad k hk; omega))⟩
theorem PX.xgrown {W W3 : World} {base b mb xb : Nat} {dv v : Value} {s : SS} {tv : Value} {told : List Int} {bad : Bool} {ats : List Nat} {ls : List (List (Int × Int))} {tag : Nat → Nat} (h : PX W base b mb xb dv v s tv told bad ats ls tag) (hg : W.grownBy W3 tv.ownBlock) :
    Bl W3 xb (.cells #[ptr b, dv, tv, .bool bad] 41 (0, 0)) := by
  have h1 := h.x
  have h2 := h1.lt
  unfold Bl at h1 ⊢
  rw [hg.block xb h2 (fun e => by have := h.tT xb e.symm; have := h.xT; omega)]; exact h1
theorem PX.retag {W : World} {base b mb xb : Nat} {dv v : Value} {s : SS} {tv : Value} {told : List Int} {bad : Bool} {ats : List Nat} {ls : List (List (Int × Int))} {tag tag' : Nat → Nat} (h : PX W base b mb xb dv v s tv told bad ats ls tag) (ht : ∀ k, k < W.heap.size → tag' k = tag k) : PX W base b mb xb dv v s tv told bad ats ls tag' :=
  { h with
    fT := fun k hk => by rw [ht k (h.sh.lo k hk).2]; exact h.fT k hk
    xT := by rw [ht xb h.x.lt]; exact h.xT
    tT := fun k e => by rw [ht k (h.told.lt k e).2]; exact h.tT k e
    tk := fun i t hi => by
      obtain ⟨X, A, L, T, l, at', a1, a2, a3, a4⟩ := h.tk i t hi
      exact ⟨X, A, L, T, l, at', a1, a2, a3, a4.retag ht⟩ }
/-- blocks that are none of these are changed. -/
theorem PX.other {F : Nat → Prop} {W W' : World} {base b mb xb : Nat} {dv v : Value} {s : SS} {tv : Value} {told : List Int} {bad : Bool} {ats : List Nat} {ls : List (List (Int × Int))} {tag : Nat → Nat} (h : PX W base b mb xb dv v s tv told bad ats ls tag) (hf : Fr F W W') (hF : ∀ k, F k → k < W.heap.size → 100 ≤ tag k) (hn : s.bs.length ≤ 64) : PX W' base b mb xb dv v s tv told bad ats ls tag :=
  { h with
    sh := h.sh.keepB hf.size (fun k hk hfk => hf.block k hk (fun f => by have := hF k f hk; have := h.fT k hfk; omega))
    x := h.x.fr hf (fun f => by have := hF _ f h.x.lt; have := h.xT; omega)
    told := h.told.fr hf (fun k e f => by have := hF _ f (h.told.lt k e).2; have := h.tT k e; omega)
    tk := fun i t hi => by
      obtain ⟨X, A, L, T, l, at', a1, a2, a3, a4⟩ := h.tk i t hi
      have hil := (List.getElem?_eq_some_iff.1 hi).1
      rw [h.sh.len] at hil
      exact ⟨X, A, L, T, l, at', a1, a2, a3, a4.fr hf (fun k hk hl => by have := hF k hk hl; omega)⟩ }
/-- the mark is set anew, to the same. -/
theorem PX.mark {W : World} {base b mb xb : Nat} {dv v : Value} {s : SS} {tv : Value} {told : List Int} {bad bad' : Bool} {ats : List Nat} {ls : List (List (Int × Int))} {tag : Nat → Nat} (h : PX W base b mb xb dv v s tv told bad ats ls tag) : PX (W.setCell ⟨xb, 3, none⟩ (.bool bad')) base b mb xb dv v s tv told bad' ats ls tag := by
  have fr : Fr (fun k => k = xb) W (W.setCell ⟨xb, 3, none⟩ (.bool bad')) := (Fr.refl _ _).set _ (fun _ => rfl)
  have hx := h.xT
  refine ⟨h.sh.fr fr (fun k hk e => by have := h.fT k hk; subst e; omega), h.x.setSame 3 _, h.told.fr fr (fun k e f => by have := h.tT k e; subst f; omega), h.fT, h.xT, h.tT, h.xlo, h.len, h.lena, ?_⟩
  intro i t ht
  obtain ⟨X, A, L, T, l, at', a1, a2, a3, a4⟩ := h.tk i t ht
  exact ⟨X, A, L, T, l, at', a1, a2, a3, a4.fr fr (fun k hk _ => by subst hk; omega)⟩
end Go.Proofs.Ytcdhmjapeapicaa
