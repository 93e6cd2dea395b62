/- A pick from within, whatever a task does. Conditions: what each theorem names. -/
import Derived.RangeFuncNested
import Derived.RangeFuncBound
import Derived.RangeFuncCalls
import Derived.RangeFuncLeaves
import Derived.Shelf.Abstract
import Derived.Shelf.RegionOpen
import Derived.WalkKit
import Derived.OwnWalkIn
import Derived.TacticsInMore
import Derived.LoopNIn
import Derived.LoopIn
import Derived.Lib.Hide
import Derived.Outline
import Derived.RegionTactic
import Derived.BigRegion
import Derived.WalkLawsBesides
import Derived.WalkSpells
import Derived.Deep.QuietTactic
import Derived.BigQuiet
import Derived.Deep.RegionHeld3
import Derived.Deep.DeepCutAuto
import Derived.Deep.CutBlock
import Derived.StillTailTactics
import Derived.WalkSmall
import Derived.Test.YtcdhmjapeapicaaProg
import Derived.Test.YtcdhmjapeapicaaSdH
namespace Go.Proofs.Ytcdhmjapeapicaa
open Go.RowKit Go.Sed Go.Maps
set_option maxHeartbeats 1000000
set_option maxRecDepth 100000
theorem Pick_of {b : Nat} {i n rc : Int} {w : World} {Q : World → Prop} (hc : Calls Try.prog 29 #[ptr b, .int .i64 i] w fun e w' => e = .returned (.tuple #[.int .i64 n, .int .i64 rc]) ∧ Q w') :
    Calls Try.prog 13 #[ptr b, .int .i64 i] w fun e w' => e = .returned (.tuple #[.int .i64 n, .int .i64 rc]) ∧ Q w' := by
  replace hc := Lib.hid hc
  unfold ptr at hc ⊢
  go_enter Try.func13, Try.ntmps13
  go_wp2_with (go_at_call 29; refine hc.out.mono ?_; rintro e w1 ⟨rfl, hQ⟩)
  go_ret2
  exact ⟨rfl, hQ⟩
/-- a pick of a task, whatever it does. -/
theorem PX.pickL (base b mb xb n p a0 : Nat) (dv v : Value) (s : SS) (t : Tk) (tv : Value) (told : List Int) (ats : List Nat) (ls : List (List (Int × Int))) (tag : Nat → Nat) (l : List (Int × Int)) (w : World)
    (h : PX w base b mb xb dv v s tv told false ats ls tag) (hp : (thoseI (mayB s) s.ts)[p % (thoseI (mayB s) s.ts).length]? = some (n : Int)) (ht : s.ts[n]? = some t) (hls : ls[n]? = some l) (hat : ats[n]? = some a0) (hwi : s.within = false) (hti : TI s.steps s.wishes s.ts) (hn64 : s.bs.length ≤ 64) (hsim : ∀ d ∈ l, InI d.1 ∧ InI d.2) (ha0 : a0 ≤ l.length) (hll : l.length < 10000000) (htl : told.length < 100000000000)
    (hw : 0 ≤ s.wishes ∧ s.wishes < 4611686018427387904) (hst : 0 ≤ s.steps ∧ s.steps < 4611686018427387904) (hlk : s.lk.length < 9223372036854775807)
    (r : ER) (hr : exG n (l.drop a0) a0 (s.ts.set n { t with kd := 0, on := 0 }) (lkN t n s.lk) told = r) :
    Calls Try.prog 29 #[ptr b, .int .i64 p] w fun e w' => e = .returned (.tuple #[.int .i64 n, .int .i64 (rcOf r.res)]) ∧
      ∃ tv' tag', PX w' base b mb xb dv v (Go.Proofs.Ytcdhmjapeapicaa.pickG s n r) tv' r.told false (ats.set n r.a) ls tag' ∧ (∀ k, k < w.heap.size → tag' k = tag k) ∧
        Fr (fun k => tag k = 0 ∨ tag k = 1 ∨ tag k = 2 ∨ tag k = 4 + n) w w' := by
  have hsd : Steady s := hti.steady hst.1 (by omega)
  obtain ⟨X, A, L, T, l', a', hste, q2, q3, hTX⟩ := h.tk n t ht
  obtain rfl : l = l' := by rw [hls] at q2; exact Option.some.inj q2
  obtain rfl : a0 = a' := by rw [hat] at q3; exact Option.some.inj q3
  have hnl : n < s.ts.length := (List.getElem?_eq_some_iff.1 ht).1
  obtain ⟨x, hx⟩ : ∃ x, s.bs[n]? = some x := ⟨_, List.getElem?_eq_getElem (by rw [← h.sh.len]; exact hnl)⟩
  obtain ⟨s2, hs2⟩ : ∃ s2 : SS, s2 = { s with lk := lkN t n s.lk, ts := s.ts.set n { t with kd := 0, on := 0 }, within := true } := ⟨_, rfl⟩
  have hF : ∀ k, (foot b mb v s k ∨ k = xb ∨ k = A ∨ tv.ownBlock = some k) → k < w.heap.size := by
    rintro k (e | e | e | e)
    · exact (h.sh.lo k e).2
    · subst e; exact h.x.lt
    · subst e; exact hTX.a.lt
    · exact (h.told.lt k e).2
  have hFt : ∀ k, (foot b mb v s k ∨ k = xb ∨ k = A ∨ tv.ownBlock = some k) → tag k = 0 ∨ tag k = 1 ∨ tag k = 2 ∨ tag k = 4 + n := by
    rintro k (e | e | e | e)
    · exact .inl (h.fT k e)
    · subst e; exact .inr (.inl h.xT)
    · subst e; exact .inr (.inr (.inr hTX.tA))
    · exact .inr (.inr (.inl (h.tT k e)))
  have hti2 : TI s2.steps s2.wishes s2.ts := by subst hs2; exact hti.set0 ht
  have hsd2 : Steady s2 := hti2.steady (by subst hs2; exact hst.1) (by subst hs2; simp only; omega)
  have hbs2 : s2.bs = s.bs := by subst hs2; rfl
  have hms2 : s2.ts.map Tk.st = s.ts.map Tk.st := by subst hs2; exact map_set_st ht rfl
  have ht2 : s2.ts[n]? = some { t with kd := 0, on := 0 } := by subst hs2; exact List.getElem?_set_self hnl
  have hts2 : s2.ts = s.ts.set n { t with kd := 0, on := 0 } := by subst hs2; rfl
  have hlk2 : s2.lk = lkN t n s.lk := by subst hs2; rfl
  have hwi2 : s2.within = true := by subst hs2; rfl
  have hst2 : s2.steps = s.steps ∧ s2.wishes = s.wishes := by subst hs2; exact ⟨rfl, rfl⟩
  have hok := exG_ok n (l.drop a0) a0 (s.ts.set n { t with kd := 0, on := 0 }) (lkN t n s.lk) told
  rw [hr] at hok
  have hrms : r.ts.map Tk.st = s.ts.map Tk.st := hok.2.1.trans (map_set_st ht rfl)
  have hrlen : r.ts.length = s.ts.length := by rw [hok.1, List.length_set]
  have h0 := h.retag (tag' := fun k => if w.heap.size ≤ k then 1000 else tag k) (fun k hk => if_neg (by omega))
  let R : SS → World → World → Prop := fun s' W W' => s' = { s2 with ts := r.ts, lk := r.lk } ∧ w.heap.size ≤ W.heap.size ∧ ∃ tv' tag', PX W' base b mb xb dv v s' tv' r.told false (ats.set n r.a) ls tag' ∧ ∀ k, k < W.heap.size → tag' k = if w.heap.size ≤ k then 1000 else tag k
  have hcall : ∀ W, SH W base b mb v s2 → Fr (foot b mb v s) w W → Calls Try.prog 56 #[.pointer (some ⟨X, 0, none⟩), .pointer (some ⟨A, 0, none⟩), .pointer (some ⟨L, 0, none⟩), .pointer (some ⟨T, 0, none⟩)] W fun e W' => EndsS e r.res ∧ ∃ s', SH W' base b mb v s' ∧ s'.bs = s.bs ∧ (R s' W W' ∧ 0 ≤ s'.steps ∧ s'.steps < 4611686018427387904 ∧ 0 ≤ s'.wishes ∧ s'.wishes < 4611686018427387904) ∧ Fr (fun k => foot b mb v s k ∨ k = xb ∨ k = A ∨ tv.ownBlock = some k) W W' := by
    intro W hW hf
    have hPW := h0.sched hW hbs2 hms2 hf (fun k hk _ => .inl (h0.fT k hk)) hn64
    obtain ⟨X', A', L', T', l', a', w1, w2, w3, w4⟩ := hPW.tk n _ ht2
    obtain ⟨rfl, rfl, rfl, rfl⟩ := stepV_inj (hste.symm.trans w1)
    obtain rfl : l = l' := by rw [hls] at w2; exact Option.some.inj w2
    obtain rfl : a0 = a' := by rw [hat] at w3; exact Option.some.inj w3
    have hstp := step_gen base b mb xb n X A L T a0 dv v s2 _ tv told ats ls _ l W hPW ht2 hste hls hat w4 hwi2 hsd2 (by rw [hbs2]; exact hn64) hsim hti2 (by rw [hst2.2]; omega) ha0 hll htl
    rw [hts2, hlk2, hr] at hstp
    refine hstp.mono ?_
    rintro e W' ⟨he, tv', tag', hP', htg, hf'⟩
    have hft : ∀ k, foot b mb v s2 k = foot b mb v s k := fun k => by unfold foot; rw [hbs2]
    refine ⟨he, _, hP'.sh, hbs2, ⟨⟨rfl, hf.size, tv', tag', hP', htg⟩, ?_, ?_, ?_, ?_⟩, hf'.mono (fun k _ hk => by rw [hft] at hk; exact hk)⟩
    · show 0 ≤ s2.steps; rw [hst2.1]; exact hst.1
    · show s2.steps < _; rw [hst2.1]; exact hst.2
    · show 0 ≤ s2.wishes; rw [hst2.2]; exact hw.1
    · show s2.wishes < _; rw [hst2.2]; exact hw.2
  have hfin : ∀ (w' W W' : World) (s' : SS) (t' : Tk), s'.ts[n]? = some t' → SH w' base b mb v { s' with ts := s'.ts.set n (wishT s'.steps s'.wishes r.res t'), lk := if r.res.isSome then s'.lk else s'.lk.filter (fun p => p.2 != (n : Int)), steps := s'.steps + 1, wishes := s'.wishes + 1, within := false } → R s' W W' → Fr (fun k => foot b mb v s k ∨ w.heap.size ≤ k ∧ k < W.heap.size) W' w' → Fr (fun k => foot b mb v s k ∨ foot b mb v s k ∨ k = xb ∨ k = A ∨ tv.ownBlock = some k) w w' →
      ∃ tv' tag', PX w' base b mb xb dv v (Go.Proofs.Ytcdhmjapeapicaa.pickG s n r) tv' r.told false (ats.set n r.a) ls tag' ∧ (∀ k, k < w.heap.size → tag' k = tag k) ∧ Fr (fun k => tag k = 0 ∨ tag k = 1 ∨ tag k = 2 ∨ tag k = 4 + n) w w' := by
    intro w' W W' s' t' ht' hS hR hf1 hf2
    obtain ⟨rfl, hWW, tv', tag', hP', htg⟩ := hR
    rw [set_modify ht'] at hS
    simp only at hS
    have hS' : SH w' base b mb v (Go.Proofs.Ytcdhmjapeapicaa.pickG s n r) := by
      unfold Go.Proofs.Ytcdhmjapeapicaa.pickG
      rw [hst2.1, hst2.2] at hS
      simp only [hbs2] at hS
      exact hS
    have hsz : w.heap.size ≤ w'.heap.size := hf2.size
    refine ⟨tv', tag', ?_, ?_, hf2.mono (fun k _ hk => by
      rcases hk with hk | hk
      · exact hFt k (.inl hk)
      · exact hFt k hk)⟩
    · refine hP'.sched hS' (by show s.bs = s2.bs; exact hbs2.symm) ?_ hf1 ?_ (by show s2.bs.length ≤ 64; rw [hbs2]; exact hn64)
      · exact modify_st _ _ _ (wishT_st _ _ _)
      · intro k hk hkl
        rcases hk with hk | ⟨hk, hk2⟩
        · refine .inl (hP'.fT k ?_)
          unfold foot at hk ⊢
          rw [show ({ s2 with ts := r.ts, lk := r.lk } : SS).bs = s.bs from hbs2]; exact hk
        · rw [htg k hk2, if_pos hk]; exact .inr (by omega)
    · intro k hk
      have : k < W.heap.size := Nat.lt_of_lt_of_le hk hWW
      rw [htg k this, if_neg (by omega)]
  cases hres : r.res with
  | some q =>
    refine (pick_ok base b mb n x p 56 _ v s t w h.sh hsd hwi hw.1 hn64 hlk hp hx ht hste step_enters (fun k => foot b mb v s k ∨ k = xb ∨ k = A ∨ tv.ownBlock = some k) hF
      (fun k o s' W W' => k = q.1 ∧ o = q.2 ∧ R s' W W') s2 hs2 ?_).mono ?_
    · intro W hW hf
      refine (hcall W hW hf).mono ?_
      rintro e W' ⟨he, s', h1, h2, h3, h4⟩
      rw [hres] at he
      exact ⟨q.1, q.2, s', he, h1, h2, ⟨⟨rfl, rfl, h3.1⟩, h3.2⟩, h4⟩
    · rintro e w' ⟨k, o, s', t', W, W', rfl, ht', hS, ⟨rfl, rfl, hR⟩, hf1, hf2⟩
      refine ⟨by unfold rcOf; rfl, hfin w' W W' s' t' ht' ?_ hR hf1 hf2⟩
      rw [hres]
      exact hS
  | none =>
    refine (pick_no base b mb n x p 56 _ v s t w h.sh hsd hwi hw.1 hn64 hlk hp hx ht hste step_enters (fun k => foot b mb v s k ∨ k = xb ∨ k = A ∨ tv.ownBlock = some k) hF
      R s2 hs2 ?_).mono ?_
    · intro W hW hf
      refine (hcall W hW hf).mono ?_
      rintro e W' ⟨he, s', h1, h2, h3, h4⟩
      rw [hres] at he
      obtain ⟨u, pv, he⟩ := he
      exact ⟨u, pv, s', he, h1, h2, h3, h4⟩
    · rintro e w' ⟨s', t', W, W', rfl, ht', hS, hR, hf1, hf2⟩
      refine ⟨by unfold rcOf; rfl, hfin w' W W' s' t' ht' ?_ hR hf1 hf2⟩
      rw [hres]
      exact hS
end Go.Proofs.Ytcdhmjapeapicaa
