/- What counts of a pair at work; a pick as a function of it. Conditions: what each theorem names. -/
import Derived.RangeFuncNested
import Derived.RangeFuncBound
import Derived.RangeFuncCalls
import Derived.RangeFuncLeaves
import Derived.Shelf.Abstract
import Derived.Shelf.RegionOpen
import Derived.WalkKit
import Derived.OwnWalkIn
import Derived.TacticsInMore
import Derived.LoopNIn
import Derived.LoopIn
import Derived.Lib.Hide
import Derived.Outline
import Derived.RegionTactic
import Derived.BigRegion
import Derived.WalkLawsBesides
import Derived.WalkSpells
import Derived.Deep.QuietTactic
import Derived.BigQuiet
import Derived.Deep.RegionHeld3
import Derived.Deep.DeepCutAuto
import Derived.Deep.CutBlock
import Derived.StillTailTactics
import Derived.WalkSmall
import Derived.Test.YtcdhmjapeapicaaProg
import Derived.Test.YtcdhmjapeapicaaSdI
import Derived.Test.YtcdhmjapeapicaaSdP
namespace Go.Proofs.Ytcdhmjapeapicaa
open Go.RowKit Go.Sed Go.Maps
set_option maxHeartbeats 1000000
set_option maxRecDepth 100000
/-- a task without its name and its closure. -/
def core (t : Tk) : Tk := { t with nm := .bool false, st := .bool false }
def Cs (ts : List Tk) : List Tk := ts.map core
theorem Cs_get (ts : List Tk) (i : Nat) : (Cs ts)[i]? = (ts[i]?).map core := List.getElem?_map
theorem Cs_len (ts : List Tk) : (Cs ts).length = ts.length := List.length_map _
theorem any_core {p : Tk → Bool} (hp : ∀ t, p (core t) = p t) (ts : List Tk) (i : Nat) : ((Cs ts)[i]?).any p = (ts[i]?).any p := by
  rw [Cs_get]
  cases ts[i]? with
  | none => rfl
  | some t => exact hp t
theorem thoseI_core {p : Tk → Bool} (hp : ∀ t, p (core t) = p t) (ts : List Tk) : thoseI p (Cs ts) = thoseI p ts := by
  unfold thoseI
  rw [Cs_len]
  refine congrArg _ (List.filter_congr fun i _ => any_core hp ts i)
theorem waitN_core (o : Int) (ts : List Tk) : waitN o (Cs ts) = waitN o ts := by
  unfold waitN
  rw [Cs_len]
  exact List.filter_congr fun i _ => any_core (fun _ => rfl) ts i
theorem odAt_core (ts : List Tk) (i : Nat) : odAt (Cs ts) i = odAt ts i := by
  unfold odAt
  rw [Cs_get]
  cases ts[i]? <;> rfl
theorem waitI_core (o : Int) (ts : List Tk) : waitI o (Cs ts) = waitI o ts := by
  unfold waitI
  simp only [waitN_core, odAt_core]
theorem mod_core (ts : List Tk) (i : Nat) (f : Tk → Tk) (hf : ∀ t, f (core t) = core (f t)) : (Cs ts).modify i f = Cs (ts.modify i f) := by
  refine List.ext_getElem? (fun j => ?_)
  rw [mod_get, Cs_get, Cs_get, mod_get]
  cases ts[j]? with
  | none => rfl
  | some t =>
    simp only [Option.map_some]
    split
    · rw [hf]
    · rfl
theorem wake_core (ts : List Tk) (i : Nat) : wake (Cs ts) i = Cs (wake ts i) := mod_core ts i go0 (fun _ => rfl)
theorem wakeAll_core (l : List Nat) : ∀ ts : List Tk, wakeAll (Cs ts) l = Cs (wakeAll ts l) := by
  induction l with
  | nil => exact fun _ => rfl
  | cons i l ih =>
    intro ts
    show wakeAll (wake (Cs ts) i) l = Cs (wakeAll (wake ts i) l)
    rw [wake_core, ih]
theorem sigT_core (o : Int) (ts : List Tk) : sigT o (Cs ts) = Cs (sigT o ts) := by
  unfold sigT
  rw [waitI_core]
  cases waitI o ts with
  | nil => rfl
  | cons i l => exact wake_core ts i
theorem sigR_core (o : Int) (ts : List Tk) : sigR o (Cs ts) = sigR o ts := by
  unfold sigR
  rw [waitI_core]
def ER.core (r : ER) : ER := { r with ts := Cs r.ts }
theorem exG_core (n : Nat) : ∀ (r : List (Int × Int)) (a : Nat) (ts : List Tk) (lk : List (Int × Int)) (told : List Int), exG n r a (Cs ts) lk told = (exG n r a ts lk told).core
  | [], a, ts, lk, told => rfl
  | d :: r, a, ts, lk, told => by
    simp only [exG]
    split
    · rfl
    · split
      · exact exG_core n r _ _ _ _
      · split
        · rw [sigT_core, sigR_core]; exact exG_core n r _ _ _ _
        · split
          · rw [waitI_core, wakeAll_core]; exact exG_core n r _ _ _ _
          · split
            · rfl
            · exact exG_core n r _ _ _ _
theorem set_core (ts : List Tk) (n : Nat) (t : Tk) : (Cs ts).set n (core t) = Cs (ts.set n t) := (List.map_set).symm
theorem wishT_core (st wi : Int) (r : Option (Int × Int)) (u : Tk) : wishT st wi r (core u) = core (wishT st wi r u) := by cases r <;> rfl
/-- all that counts of a pair. -/
structure CS where
  ts : List Tk
  lk : List (Int × Int)
  steps : Int
  wishes : Int
  told : List Int
  ats : List Nat
def ssOf (c : CS) : SS := { bs := [], ts := c.ts, lk := c.lk, steps := c.steps, wishes := c.wishes, within := false }
def absC (s : SS) (told : List Int) (ats : List Nat) : CS := ⟨Cs s.ts, s.lk, s.steps, s.wishes, told, ats⟩
def csOf (c : CS) (n : Nat) (r : ER) : CS := ⟨(pickG (ssOf c) n r).ts, (pickG (ssOf c) n r).lk, c.steps + 1, c.wishes + 1, r.told, c.ats.set n r.a⟩
def stepC (ls : List (List (Int × Int))) (c : CS) (p : Nat) : CS × Int × Int :=
  match (thoseI (mayB (ssOf c)) c.ts)[p % (thoseI (mayB (ssOf c)) c.ts).length]? with
  | none => (c, 0, 8)
  | some n => match c.ts[n.toNat]?, ls[n.toNat]?, c.ats[n.toNat]? with
    | some t, some l, some a0 => (csOf c n.toNat (erOf (ssOf c) c.told n.toNat t l a0), n, rcOf (erOf (ssOf c) c.told n.toNat t l a0).res)
    | _, _, _ => (c, 0, 8)
theorem may_abs (s : SS) (told : List Int) (ats : List Nat) : thoseI (mayB (ssOf (absC s told ats))) (absC s told ats).ts = thoseI (mayB s) s.ts :=
  thoseI_core (p := mayB s) (fun _ => rfl) s.ts
theorem stepC_no {ls : List (List (Int × Int))} {s : SS} {told : List Int} {ats : List Nat} (p : Nat) (h : thoseI (mayB s) s.ts = []) : stepC ls (absC s told ats) p = (absC s told ats, 0, 8) := by
  unfold stepC
  rw [may_abs, h]
  rfl
theorem stepC_yes {ls : List (List (Int × Int))} {s : SS} {told : List Int} {ats : List Nat} {p n : Nat} {t : Tk} {l : List (Int × Int)} {a0 : Nat} (h : Who s ats ls p n t l a0) :
    stepC ls (absC s told ats) p = (absC (pickG s n (erOf s told n t l a0)) (erOf s told n t l a0).told (ats.set n (erOf s told n t l a0).a), (n : Int), rcOf (erOf s told n t l a0).res) := by
  have h1 : (absC s told ats).ts[n]? = some (core t) := by show (Cs s.ts)[n]? = _; rw [Cs_get, h.ht]; rfl
  have h3 : (absC s told ats).ats[n]? = some a0 := h.ha
  have h4 : erOf (ssOf (absC s told ats)) (absC s told ats).told n (core t) l a0 = (erOf s told n t l a0).core := by
    unfold erOf
    rw [← exG_core]
    show exG n _ a0 ((Cs s.ts).set n _) _ _ = exG n _ a0 (Cs (s.ts.set n _)) _ _
    rw [← set_core]
    rfl
  unfold stepC
  rw [may_abs, h.hp]
  simp only [Int.toNat_natCast, h1, h.hl, h3, h4]
  refine Prod.ext ?_ rfl
  show csOf (absC s told ats) n (erOf s told n t l a0).core = _
  unfold csOf absC pickG ER.core
  simp only [CS.mk.injEq]
  exact ⟨mod_core _ _ _ (wishT_core _ _ _), trivial, trivial, trivial, trivial, trivial⟩
def runC (ls : List (List (Int × Int))) (c : CS) (ps : List Nat) : CS := ps.foldl (fun c p => (stepC ls c p).1) c
theorem runC_stop {ls : List (List (Int × Int))} {s : SS} {told : List Int} {ats : List Nat} (h : thoseI (mayB s) s.ts = []) : ∀ ps : List Nat, runC ls (absC s told ats) ps = absC s told ats
  | [] => rfl
  | p :: ps => by
    show runC ls (stepC ls (absC s told ats) p).1 ps = _
    rw [stepC_no p h]
    exact runC_stop h ps
theorem runC_snoc (ls : List (List (Int × Int))) (c : CS) (ps : List Nat) (p : Nat) : runC ls c (ps ++ [p]) = (stepC ls (runC ls c ps) p).1 := by
  unfold runC
  rw [List.foldl_append]; rfl
theorem runC_app (ls : List (List (Int × Int))) (c : CS) (ps qs : List Nat) : runC ls c (ps ++ qs) = runC ls (runC ls c ps) qs := by
  unfold runC
  rw [List.foldl_append]
/-- blocks of the pair's own. -/
def ownT (tag : Nat → Nat) (k : Nat) : Prop := tag k = 0 ∨ tag k = 1 ∨ tag k = 2 ∨ 4 ≤ tag k ∧ tag k < 100
theorem own4_T {tag : Nat → Nat} {n k : Nat} (hn : n < 64) (h : own4 tag n k) : ownT tag k := by
  unfold own4 at h
  unfold ownT
  omega
theorem PI.pickL {w : World} {base b mb xb k : Nat} {dv v : Value} {s : SS} {tv : Value} {told : List Int} {ats : List Nat} {ls : List (List (Int × Int))} {tag : Nat → Nat} (h : PI w base b mb xb dv v s tv told ats ls tag k) (hk : k < 1000000000000000) (p : Nat) :
    Calls Try.prog 29 #[ptr b, .int .i64 p] w fun e w' => e = .returned (.tuple #[.int .i64 (stepC ls (absC s told ats) p).2.1, .int .i64 (stepC ls (absC s told ats) p).2.2]) ∧
      ∃ s' tv' told' ats' tag', PI w' base b mb xb dv v s' tv' told' ats' ls tag' (k + 1) ∧ absC s' told' ats' = (stepC ls (absC s told ats) p).1 ∧ (∀ k, k < w.heap.size → tag' k = tag k) ∧ Fr (ownT tag) w w' := by
  by_cases he : thoseI (mayB s) s.ts = []
  · rw [stepC_no p he]
    refine (none_any base b mb p v s w h.px.sh (h.steady hk) h.within h.n64 he).mono ?_
    rintro e w' ⟨rfl, hB⟩
    have hk2 := h.keep hB
    exact ⟨rfl, s, tv, told, ats, tag, { hk2 with st := ⟨hk2.st.1, by have := hk2.st.2; omega⟩, wi := ⟨hk2.wi.1, by have := hk2.wi.2; omega⟩, lk := by have := hk2.lk; omega }, rfl, fun _ _ => rfl, Fr.of_below hB⟩
  · obtain ⟨n, t, l, a0, hw⟩ := h.who he p
    rw [stepC_yes hw]
    have hlm := h.lso l (List.mem_of_getElem? hw.hl)
    have hal := h.ato n a0 l hw.ha hw.hl
    have htl := h.told_le
    have h1 := h.st
    have h2 := h.wi
    have h3 := h.lk
    have hnl : n < s.ts.length := (List.getElem?_eq_some_iff.1 hw.ht).1
    have hn64 : n < 64 := by have := h.px.sh.len; have := h.n64; omega
    have hti2 := h.ti.set0 hw.ht
    refine (h.px.pickL base b mb xb n p a0 dv v s t tv told ats ls tag l w hw.hp hw.ht hw.hl hw.ha h.within h.ti h.n64 hlm.2 hal hlm.1 (by omega) ⟨h2.1, by omega⟩ ⟨h1.1, by omega⟩ (by omega) _ rfl).mono ?_
    rintro e w' ⟨rfl, tv', tag', hP, htg, hf⟩
    have hok := exG_ok n (l.drop a0) a0 (s.ts.set n { t with kd := 0, on := 0 }) (lkN t n s.lk) told
    obtain ⟨r, hr⟩ : ∃ r, erOf s told n t l a0 = r := ⟨_, rfl⟩
    rw [show exG n (l.drop a0) a0 (s.ts.set n { t with kd := 0, on := 0 }) (lkN t n s.lk) told = r from hr] at hok hP ⊢
    rw [hr]
    refine ⟨rfl, _, tv', r.told, ats.set n r.a, tag', ⟨hP, ?_, ?_, ?_, rfl, ?_, h.n64, ?_, h.lso, ?_⟩, rfl, htg, hf.mono (fun k _ hk => own4_T hn64 hk)⟩
    · refine pickG_ti (hok.2.2.2.2.2.2.1 _ _ hti2) h1.1 h2.1 (fun q hq => ?_)
      rcases hok.2.2.2.2.2.2.2 q hq with e | ⟨d, hd, _, e⟩
      · subst e; exact inI0
      · subst e; exact (hlm.2 d (List.mem_of_mem_drop hd)).2
    · show 0 ≤ s.steps + 1 ∧ s.steps + 1 ≤ _; omega
    · show 0 ≤ s.wishes + 1 ∧ s.wishes + 1 ≤ _; omega
    · have hlkn : (lkN t n s.lk).length ≤ s.lk.length + 1 := by unfold lkN; split <;> simp
      have hrl := hok.2.2.1
      show (if r.res.isSome then r.lk else r.lk.filter _).length ≤ _
      split
      · omega
      · have := List.length_filter_le (fun p : Int × Int => p.2 != (n : Int)) r.lk; omega
    · intro i a l' hi hl'
      by_cases e : n = i
      · subst e
        rw [List.getElem?_set_self (List.getElem?_eq_some_iff.1 hw.ha).1] at hi
        injection hi with hi
        rw [hw.hl] at hl'
        injection hl' with hl'
        subst hi hl'
        have := hok.2.2.2.2.1
        rw [List.length_drop] at this
        omega
      · rw [List.getElem?_set_ne e] at hi
        exact h.ato i a l' hi hl'
    · have h5 := sum_set ats n a0 r.a hw.ha
      have h6 := hok.2.2.2.2.2.1
      have h7 := h.tl
      omega
theorem PI.pickP {w : World} {base b mb xb k : Nat} {dv v : Value} {s : SS} {tv : Value} {told : List Int} {ats : List Nat} {ls : List (List (Int × Int))} {tag : Nat → Nat} (h : PI w base b mb xb dv v s tv told ats ls tag k) (hk : k < 1000000000000000) (p : Nat) :
    Calls Try.prog 13 #[ptr b, .int .i64 p] w fun e w' => e = .returned (.tuple #[.int .i64 (stepC ls (absC s told ats) p).2.1, .int .i64 (stepC ls (absC s told ats) p).2.2]) ∧
      ∃ s' tv' told' ats' tag', PI w' base b mb xb dv v s' tv' told' ats' ls tag' (k + 1) ∧ absC s' told' ats' = (stepC ls (absC s told ats) p).1 ∧ (∀ k, k < w.heap.size → tag' k = tag k) ∧ Fr (ownT tag) w w' := Pick_of (h.pickL hk p)
end Go.Proofs.Ytcdhmjapeapicaa
