/- A pick of such a task; tasks taken in. Conditions: what each theorem names. -/
import Derived.RangeFuncNested
import Derived.RangeFuncBound
import Derived.RangeFuncCalls
import Derived.RangeFuncLeaves
import Derived.Shelf.Abstract
import Derived.Shelf.RegionOpen
import Derived.WalkKit
import Derived.OwnWalkIn
import Derived.TacticsInMore
import Derived.LoopNIn
import Derived.LoopIn
import Derived.Lib.Hide
import Derived.Outline
import Derived.RegionTactic
import Derived.BigRegion
import Derived.WalkLawsBesides
import Derived.WalkSpells
import Derived.Deep.QuietTactic
import Derived.BigQuiet
import Derived.Deep.RegionHeld3
import Derived.Deep.DeepCutAuto
import Derived.Deep.CutBlock
import Derived.StillTailTactics
import Derived.WalkSmall
import Derived.Test.YtcdhmjapeapicaaProg
import Derived.Test.YtcdhmjapeapicaaFr
import Derived.Test.YtcdhmjapeapicaaMp
import Derived.Defers
import Derived.Recover
import Derived.Test.YtcdhmjapeapicaaSchQ
import Derived.Test.YtcdhmjapeapicaaSchI
import Derived.Deep.LoopGhost
import Derived.Test.YtcdhmjapeapicaaSchF
import Derived.Test.YtcdhmjapeapicaaArg
import Derived.Lib.SliceRun
namespace Go.Proofs.Ytcdhmjapeapicaa
open Go.RowKit Go.Sed Go.Maps
set_option maxHeartbeats 1000000
set_option maxRecDepth 100000
theorem step_enters : Enters Try.prog 56 := enters_of Try.func56 (by kernel_rfl) rfl
/-- a scheduler behind a pick. -/
def pickS (s : SS) (n : Nat) (t : Tk) (r : Int × Int × Nat × List (Int × Int) × List Int) : SS :=
  { bs := s.bs, ts := s.ts.set n { t with kd := kdF r.1, on := onF r.1 r.2.1, si := s.steps + 1, od := s.wishes + 1 }, lk := r.2.2.2.1, steps := s.steps + 1, wishes := s.wishes + 1, within := false }
theorem map_set_st {ts : List Tk} {n : Nat} {t t' : Tk} (h : ts[n]? = some t) (he : t'.st = t.st) : (ts.set n t').map Tk.st = ts.map Tk.st := by
  have hn := (List.getElem?_eq_some_iff.1 h).1
  rw [List.map_set]
  refine List.ext_getElem? (fun j => ?_)
  by_cases e : n = j
  · subst e
    rw [List.getElem?_set_self (by rw [List.length_map]; exact hn), List.getElem?_map, h, he]; rfl
  · rw [List.getElem?_set_ne e]
theorem PX.pick (base b mb xb n p a0 : Nat) (dv v : Value) (s : SS) (t : Tk) (tv : Value) (told : List Int) (ats : List Nat) (ls : List (List (Int × Int))) (tag : Nat → Nat) (l : List (Int × Int)) (w : World)
    (h : PX w base b mb xb dv v s tv told false ats ls tag) (hp : (thoseI (mayB s) s.ts)[p % (thoseI (mayB s) s.ts).length]? = some (n : Int)) (ht : s.ts[n]? = some t) (hls : ls[n]? = some l) (hat : ats[n]? = some a0) (hwi : s.within = false) (hsd : Steady s) (hn64 : s.bs.length ≤ 64) (hsim : Simple l) (ha0 : a0 ≤ l.length) (hll : l.length < 1000000) (htl : told.length < 100000000000)
    (hw : 0 ≤ s.wishes ∧ s.wishes < 4611686018427387904) (hst : s.steps < 4611686018427387904) (hlk : s.lk.length < 9223372036854775807) :
    Calls Try.prog 13 #[ptr b, .int .i64 p] w fun e w' => e = .returned (.tuple #[.int .i64 n, .int .i64 0]) ∧
      ∃ tv' tag', PX w' base b mb xb dv v (pickS s n t (exS n (l.drop a0) a0 (lkN t n s.lk) told)) tv' (exS n (l.drop a0) a0 (lkN t n s.lk) told).2.2.2.2 false (ats.set n (exS n (l.drop a0) a0 (lkN t n s.lk) told).2.2.1) ls tag' ∧ (∀ k, k < w.heap.size → tag' k = tag k) ∧
        Fr (fun k => tag k = 0 ∨ tag k = 1 ∨ tag k = 2 ∨ tag k = 4 + n) w w' := by
  obtain ⟨X, A, L, T, l', a', hste, q2, q3, hTX⟩ := h.tk n t ht
  obtain rfl : l = l' := by rw [hls] at q2; exact Option.some.inj q2
  obtain rfl : a0 = a' := by rw [hat] at q3; exact Option.some.inj q3
  have hnl : n < s.ts.length := (List.getElem?_eq_some_iff.1 ht).1
  obtain ⟨x, hx⟩ : ∃ x, s.bs[n]? = some x := ⟨_, List.getElem?_eq_getElem (by rw [← h.sh.len]; exact hnl)⟩
  obtain ⟨s2, hs2⟩ : ∃ s2 : SS, s2 = { s with lk := lkN t n s.lk, ts := s.ts.set n { t with kd := 0, on := 0 }, within := true } := ⟨_, rfl⟩
  have hF : ∀ k, (foot b mb v s k ∨ k = xb ∨ k = A ∨ tv.ownBlock = some k) → k < w.heap.size := by
    rintro k (e | e | e | e)
    · exact (h.sh.lo k e).2
    · subst e; exact h.x.lt
    · subst e; exact hTX.a.lt
    · exact (h.told.lt k e).2
  have hFt : ∀ k, (foot b mb v s k ∨ k = xb ∨ k = A ∨ tv.ownBlock = some k) → tag k = 0 ∨ tag k = 1 ∨ tag k = 2 ∨ tag k = 4 + n := by
    rintro k (e | e | e | e)
    · exact .inl (h.fT k e)
    · subst e; exact .inr (.inl h.xT)
    · subst e; exact .inr (.inr (.inr hTX.tA))
    · exact .inr (.inr (.inl (h.tT k e)))
  have hsd2 : Steady s2 := by
    subst hs2
    refine ⟨hsd.1, hsd.2.1, fun t' ht' => ?_⟩
    rcases List.mem_or_eq_of_mem_set ht' with e | e
    · have := hsd.2.2 t' e; exact ⟨this.on, this.si⟩
    · subst e
      have := hsd.2.2 t (List.mem_of_getElem? ht)
      exact ⟨⟨by simp, by simp⟩, this.si⟩
  have hbs2 : s2.bs = s.bs := by subst hs2; rfl
  have hms2 : s2.ts.map Tk.st = s.ts.map Tk.st := by subst hs2; exact map_set_st ht rfl
  have ht2 : s2.ts[n]? = some { t with kd := 0, on := 0 } := by subst hs2; exact List.getElem?_set_self hnl
  have hlk2 : s2.lk = lkN t n s.lk := by subst hs2; rfl
  have hwi2 : s2.within = true := by subst hs2; rfl
  obtain ⟨r, hr⟩ : ∃ r, exS n (l.drop a0) a0 (lkN t n s.lk) told = r := ⟨_, rfl⟩
  rw [hr]
  have h0 := h.retag (tag' := fun k => if w.heap.size ≤ k then 1000 else tag k) (fun k hk => if_neg (by omega))
  refine (Pick_ok base b mb n x p 56 _ v s t w h.sh hsd hwi hw.1 hn64 hlk hp hx ht hste step_enters (fun k => foot b mb v s k ∨ k = xb ∨ k = A ∨ tv.ownBlock = some k) hF
    (fun k o s' W W' => k = r.1 ∧ o = r.2.1 ∧ s' = { s2 with lk := r.2.2.2.1 } ∧ w.heap.size ≤ W.heap.size ∧ ∃ tv' tag', PX W' base b mb xb dv v s' tv' r.2.2.2.2 false (ats.set n r.2.2.1) ls tag' ∧ ∀ k, k < W.heap.size → tag' k = if w.heap.size ≤ k then 1000 else tag k) s2 hs2 ?_).mono ?_
  · intro W hW hf
    have hPW := h0.sched hW hbs2 hms2 hf (fun k hk _ => .inl (h0.fT k hk)) hn64
    obtain ⟨X', A', L', T', l', a', w1, w2, w3, w4⟩ := hPW.tk n _ ht2
    obtain ⟨rfl, rfl, rfl, rfl⟩ := stepV_inj (hste.symm.trans w1)
    obtain rfl : l = l' := by rw [hls] at w2; exact Option.some.inj w2
    obtain rfl : a0 = a' := by rw [hat] at w3; exact Option.some.inj w3
    have hstp := step_any base b mb xb n X A L T a0 dv v s2 _ tv told ats ls _ l W hPW ht2 hste hls hat w4 hwi2 hsd2 (by rw [hbs2]; exact hn64) hsim ha0 hll htl
    rw [hlk2, hr] at hstp
    refine hstp.mono ?_
    rintro e W' ⟨rfl, tv', tag', hP', htg, hf'⟩
    have hft : ∀ k, foot b mb v s2 k = foot b mb v s k := fun k => by unfold foot; rw [hbs2]
    refine ⟨_, _, _, rfl, hP'.sh, hbs2, ⟨⟨rfl, rfl, rfl, hf.size, tv', tag', hP', htg⟩, ?_, ?_, ?_, ?_⟩, hf'.mono (fun k _ hk => by rw [hft] at hk; exact hk)⟩
    · subst hs2; exact hsd.1
    · subst hs2; exact hst
    · subst hs2; exact hw.1
    · subst hs2; exact hw.2
  · rintro e w' ⟨k, o, s', t', W, W', rfl, ht', hS, ⟨rfl, rfl, rfl, hWW, tv', tag', hP', htg⟩, hf1, hf2⟩
    have hst' : t' = { t with kd := 0, on := 0 } := by rw [ht2] at ht'; exact (Option.some.inj ht').symm
    subst hst'
    have hsz : w.heap.size ≤ w'.heap.size := hf2.size
    refine ⟨rfl, tv', tag', ?_, ?_, hf2.mono (fun k _ hk => by
      rcases hk with hk | hk
      · exact hFt k (.inl hk)
      · exact hFt k hk)⟩
    · have hS' : SH w' base b mb v (pickS s n t r) := by
        subst hs2
        simpa [pickS, List.set_set] using hS
      refine hP'.sched hS' (by subst hs2; rfl) ?_ hf1 ?_ (by rw [show ({ s2 with lk := r.2.2.2.1 } : SS).bs = s.bs from hbs2]; exact hn64)
      · show (pickS s n t r).ts.map Tk.st = s2.ts.map Tk.st
        rw [hms2]
        exact map_set_st ht rfl
      · intro k hk hkl
        rcases hk with hk | ⟨hk, hk2⟩
        · refine .inl (hP'.fT k ?_)
          unfold foot at hk ⊢
          rw [show ({ s2 with lk := r.2.2.2.1 } : SS).bs = s.bs from hbs2]; exact hk
        · rw [htg k hk2, if_pos hk]; exact .inr (by omega)
    · intro k hk
      have : k < W.heap.size := Nat.lt_of_lt_of_le hk hWW
      rw [htg k this, if_neg (by omega)]
end Go.Proofs.Ytcdhmjapeapicaa
