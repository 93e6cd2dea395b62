/- Runs; who is dead. Conditions: what each theorem names. -/
import Derived.RangeFuncNested
import Derived.RangeFuncBound
import Derived.RangeFuncCalls
import Derived.RangeFuncLeaves
import Derived.Shelf.Abstract
import Derived.Shelf.RegionOpen
import Derived.WalkKit
import Derived.OwnWalkIn
import Derived.TacticsInMore
import Derived.LoopNIn
import Derived.LoopIn
import Derived.Lib.Hide
import Derived.Outline
import Derived.RegionTactic
import Derived.BigRegion
import Derived.WalkLawsBesides
import Derived.WalkSpells
import Derived.Deep.QuietTactic
import Derived.BigQuiet
import Derived.Deep.RegionHeld3
import Derived.Deep.DeepCutAuto
import Derived.Deep.CutBlock
import Derived.StillTailTactics
import Derived.WalkSmall
import Derived.Test.YtcdhmjapeapicaaProg
import Derived.Test.YtcdhmjapeapicaaFr
import Derived.Test.YtcdhmjapeapicaaMp
import Derived.Defers
import Derived.Recover
import Derived.Test.YtcdhmjapeapicaaSchF
import Derived.Lib.SliceRun
namespace Go.Proofs.Ytcdhmjapeapicaa
open Go.RowKit Go.Sed Go.Maps
set_option maxHeartbeats 1000000
set_option maxRecDepth 100000
def sleepB (t : Tk) : Bool := t.kd == 3
theorem sleep_any (base b mb x n : Nat) (v : Value) (s : SS) (t : Tk) (w : World) (h : SH w base b mb v s) (hx : s.bs[n]? = some x) (ht : s.ts[n]? = some t) :
    Calls Try.prog 34 #[ptr x] w fun e w' => e = .returned (.bool (t.kd == 3)) ∧ Below w.heap.size w w' := by
  have hb := h.tk n x t hx ht
  have c2 : w.cell? ⟨x, 2, none⟩ = some (.int .i64 t.kd) := hb.cell 2
  unfold ptr
  clear hb h hx ht
  go_enter Try.func34, Try.ntmps34
  go_wp2_with fail
  go_ret
  exact ⟨rfl, Below.refl _ _⟩
theorem those_dead (base b mb : Nat) (v : Value) (s : SS) (w : World) (h : SH w base b mb v s) (hn : s.bs.length ≤ 64) :
    Calls Try.prog 33 #[ptr b, .func (.func 34) #[] #[]] w fun e w' => ∃ r, e = .returned r ∧ OW w' w.heap.size 1 r (thoseI sleepB s.ts).length ((thoseI sleepB s.ts).map (Value.int .i64)) ∧ Below w.heap.size w w' := by
  obtain ⟨A1, c1, rfl, -⟩ := h.row.shape
  have d0 : w.cell? ⟨b, 0, none⟩ = some (.slice A1 s.bs.length c1) := h.ld.cell 0
  replace h := Lib.hid h
  unfold ptr
  go_enter Try.func33, Try.ntmps33
  go_wp2_with fail
  go_loopw [5, 13] (fun l i wr => ∃ k : Nat, k ≤ s.bs.length ∧ i = .int .i64 k ∧ OW wr w.heap.size 1 l (thoseK sleepB s.ts k).length ((thoseK sleepB s.ts k).map (Value.int .i64)) ∧ Below w.heap.size w wr) (fun _ i _ => s.bs.length - (intOf i).toNat)
  case atStart => exact ⟨0, Nat.zero_le _, rfl, OW.nil _ _ _, Below.refl _ _⟩
  case round =>
    obtain ⟨k, hk, rfl, ho, hB⟩ := hrel
    obtain ⟨Al, cl, rfl, -⟩ := ho.shape
    have hKl := thoseK_len sleepB s.ts k
    by_cases hlt : k < s.bs.length
    · have hr := (h.out.row.keep hB).rd
      obtain ⟨g1, o1, u1, rfl, hu1, r1⟩ := hr.at1 hlt
      obtain ⟨x, hx, rfl⟩ : ∃ x, s.bs[k]? = some x ∧ u1 = ptr x := by
        rw [List.getElem?_map, List.getElem?_eq_getElem hlt] at hu1
        exact ⟨_, List.getElem?_eq_getElem hlt, (Option.some.inj hu1).symm⟩
      obtain ⟨t, ht⟩ : ∃ t, s.ts[k]? = some t := ⟨_, List.getElem?_eq_getElem (by rw [h.out.len]; exact hlt)⟩
      have hs := thoseK_succ sleepB s.ts k t ht
      clear hr hu1
      unfold ptr at r1
      have hsz := hB.size
      cases hm : sleepB t
      · rw [hm, if_neg (by simp)] at hs
        replace hs := Lib.hid hs
        replace hm := Lib.hid hm
        go_wp2_with (go_at_call 34; refine (sleep_any base b mb x k _ s t _ (h.out.keep hB) hx ht).mono ?_; rintro e w1 ⟨rfl, hB1⟩; rw [show (t.kd == 3) = sleepB t from rfl, hm.out])
        go_roundw
        case rel => exact ⟨k + 1, by omega, by go_num, by rw [hs.out]; exact ho.keep hB1, below_then hB hB1⟩
        case measure => simp only [intOf]; omega
      · rw [hm, if_pos rfl] at hs
        replace hs := Lib.hid hs
        replace hm := Lib.hid hm
        go_wp2_with (first
          | (go_at_call 34; refine (sleep_any base b mb x k _ s t _ (h.out.keep hB) hx ht).mono ?_; rintro e w1 ⟨rfl, hB1⟩; rw [show (t.kd == 3) = sleepB t from rfl, hm.out])
          | (at_builtin; refine wpList_append_ow rfl _ _ 26 rfl w.heap.size 3 Try.underlying26 infoInt rfl (by decide) _ (thoseK sleepB s.ts k).length _ rfl ((ho.keep hB1).alloc _) _ 1 1 [.int .i64 k] rfl (rd_one rfl _ _) (by intro u hu; simp at hu; subst hu; rfl) (by unfold maxLen; omega) (by omega) (by have := hB1.size; simp; omega) ?_; intro v5 w5 hown5 hgr5 hcase5; have hB5 : Below w.heap.size w w5 := below_grow ((below_then hB hB1).alloc (below_then hB hB1).size _) (by have := hB1.size; simp; omega) ((ho.keep hB1).alloc _) (Nat.le_refl _) hgr5; clear hgr5 hcase5))
        go_roundw
        case rel => exact ⟨k + 1, by omega, by go_num, by rw [hs.out, List.length_append, List.map_append]; exact hown5, hB5⟩
        case measure => simp only [intOf]; omega
    · obtain rfl : k = s.bs.length := by omega
      go_wp2_with fail
      go_ret
      refine ⟨_, rfl, ?_, hB⟩
      have e : thoseK sleepB s.ts s.bs.length = thoseI sleepB s.ts := by unfold thoseK thoseI; rw [h.out.len]
      rw [← e]; exact ho

def deadL (s : SS) : List Int := if thoseI (mayB s) s.ts = [] then (if thoseI sleepB s.ts = [] then thoseI aliveB s.ts else []) else []
theorem dead_any (base b mb : Nat) (v : Value) (s : SS) (w : World) (h : SH w base b mb v s) (hst : Steady s) (hn : s.bs.length ≤ 64) :
    Calls Try.prog 20 #[ptr b] w fun e w' => ∃ r, e = .returned r ∧ OW w' w.heap.size 1 r (deadL s).length ((deadL s).map (Value.int .i64)) ∧ Below w.heap.size w w' := by
  have hc := Lib.hid (enabled_any base b mb v s w h hst hn)
  have hd := Lib.hid (fun W hW => those_dead base b mb v s W hW hn)
  have ha := Lib.hid (fun W hW => alives_any base b mb v s W hW hn)
  replace h := Lib.hid h
  unfold ptr at hc hd ha ⊢
  obtain ⟨L1, hL1⟩ : ∃ L, thoseI (mayB s) s.ts = L := ⟨_, rfl⟩
  obtain ⟨L2, hL2⟩ : ∃ L, thoseI sleepB s.ts = L := ⟨_, rfl⟩
  obtain ⟨L3, hL3⟩ : ∃ L, thoseI aliveB s.ts = L := ⟨_, rfl⟩
  have hdl : deadL s = if L1 = [] then (if L2 = [] then L3 else []) else [] := by unfold deadL; rw [hL1, hL2, hL3]
  rw [hL1] at hc
  rw [hL2] at hd
  rw [hL3] at ha
  rw [hdl]
  clear hdl hL1 hL2 hL3
  rcases L1 with _ | ⟨x1, L1⟩
  · rcases L2 with _ | ⟨x2, L2⟩
    · rw [if_pos rfl, if_pos rfl]
      go_enter Try.func20, Try.ntmps20
      go_wp2_with (first
        | (go_at_call 28; refine hc.out.mono ?_; rintro e w1 ⟨r1, rfl, ho1, hB1⟩; obtain ⟨A1, c1, rfl, -⟩ := ho1.shape; simp only [List.length_nil])
        | (go_at_call 33; refine (hd.out _ (h.out.keep hB1)).mono ?_; rintro e w2 ⟨r2, rfl, ho2, hB2⟩; obtain ⟨A2, c2, rfl, -⟩ := ho2.shape; simp only [List.length_nil])
        | (go_at_call 30; refine (ha.out _ (h.out.keep (below_then hB1 hB2))).mono ?_; rintro e w3 ⟨r3, rfl, ho3, hB3⟩; replace ho3 := Lib.hid ho3))
      go_ret
      exact ⟨_, rfl, ho3.out.more (below_then hB1 hB2).size, below_then (below_then hB1 hB2) hB3⟩
    · rw [if_pos rfl, if_neg (by simp)]
      go_enter Try.func20, Try.ntmps20
      go_wp2_with (first
        | (go_at_call 28; refine hc.out.mono ?_; rintro e w1 ⟨r1, rfl, ho1, hB1⟩; obtain ⟨A1, c1, rfl, -⟩ := ho1.shape; simp only [List.length_nil])
        | (go_at_call 33; refine (hd.out _ (h.out.keep hB1)).mono ?_; rintro e w2 ⟨r2, rfl, ho2, hB2⟩; obtain ⟨A2, c2, rfl, -⟩ := ho2.shape; simp only [List.length_cons]))
      go_ret
      exact ⟨_, rfl, OW.nil _ _ _, below_then hB1 hB2⟩
  · rw [if_neg (by simp)]
    go_enter Try.func20, Try.ntmps20
    go_wp2_with (first
      | (go_at_call 28; refine hc.out.mono ?_; rintro e w1 ⟨r1, rfl, ho1, hB1⟩; obtain ⟨A1, c1, rfl, -⟩ := ho1.shape; simp only [List.length_cons]))
    go_ret
    exact ⟨_, rfl, OW.nil _ _ _, hB1⟩
/-- a list of numbers, copied. -/
theorem clone_any (g o n c : Nat) (l : List Int) (w : World) (hr : Rd w 1 (some ⟨g, o, none⟩) n (l.map (Value.int .i64))) (hn : n ≤ 1000000000000) :
    Calls Try.prog 32 #[.slice (some ⟨g, o, none⟩) n c] w fun e w' => ∃ r, e = .returned r ∧ OW w' w.heap.size 1 r n (l.map (Value.int .i64)) ∧ Below w.heap.size w w' := by
  have heq := fun (W : World) => Lib.run_eql_slice_nil (P := Try.prog) W 26 3 (some ⟨g, o, none⟩) n c 0 0 Try.underlying26
  simp only [Option.isNone_some] at heq
  go_enter Try.func32, Try.ntmps32
  go_wp2_with (at_builtin; refine wpList_append_ow rfl _ _ 26 rfl w.heap.size 3 Try.underlying26 infoInt rfl (by decide) _ 0 [] rfl (OW.empty (Nat.le_refl _) (Bl.new' rfl)) _ n c (l.map (Value.int .i64)) rfl (hr.alloc _) (ints_one _ _) (by unfold maxLen; omega) (by omega) (by simp) ?_; intro v5 w5 ho5 hg5 hc5; rw [Nat.zero_add, List.nil_append] at ho5; have hB5 : Below w.heap.size w w5 := below_grow ((Below.refl _ _).alloc (Nat.le_refl _) _) (by simp) (OW.empty (T := 3) (size := 1) (Nat.le_refl _) (Bl.new' rfl)) (Nat.le_refl _) hg5; clear hg5 hc5)
  go_ret
  exact ⟨_, rfl, ho5, hB5⟩
/-- a run of picks: what one pick does is handed in. -/
theorem run_any (base b mb g o n c most : Nat) (l : List Int) (v : Value) (s : SS) (w : World) (h : SH w base b mb v s) (hwi : s.within = false) (hst : Steady s) (hn64 : s.bs.length ≤ 64) (hr : Rd w 1 (some ⟨g, o, none⟩) n (l.map (Value.int .i64))) (hn0 : 0 < n) (hn : n ≤ 1000000000000) (hmost : most ≤ 1000000000000)
    (G : Nat → Prop) (hG : ∀ k, G k → k < w.heap.size) (I : Nat → SS → World → Prop) (h0 : ∀ W, Below w.heap.size w W → I 0 s W) (hkeep : ∀ j s W W', I j s W → Below W.heap.size W W' → I j s W')
    (hstep : ∀ j s W p, I j s W → SH W base b mb v s → Steady s → s.bs.length ≤ 64 → j < most → thoseI (mayB s) s.ts ≠ [] → l[j % n]? = some p → Calls Try.prog 29 #[ptr b, .int .i64 p] W fun e W' => ∃ r s', e = .returned r ∧ SH W' base b mb v s' ∧ Steady s' ∧ s'.bs.length ≤ 64 ∧ I (j + 1) s' W' ∧ Fr G W W') :
    Calls Try.prog 16 #[ptr b, .slice (some ⟨g, o, none⟩) n c, .int .i64 most] w fun e w' => ∃ (j : Nat) (s' : SS), e = .returned (.tuple #[.int .i64 j, .int .i64 0]) ∧ SH w' base b mb v s' ∧ Steady s' ∧ s'.bs.length ≤ 64 ∧ I j s' w' ∧ j ≤ most ∧ (j = most ∨ thoseI (mayB s') s'.ts = []) ∧ Fr G w w' := by
  have hln : l.length = n := by have := hr.1; simpa using this
  have d4 : w.cell? ⟨b, 4, none⟩ = some (.bool false) := by rw [← hwi]; exact h.ld.cell 4
  have hcl := Lib.hid (clone_any g o n c l w hr hn)
  have hen := Lib.hid (fun s W hW hS hl => enabled_any base b mb v s W hW hS hl)
  replace hln := Lib.hid hln
  replace hkeep := Lib.hid hkeep
  replace hstep := Lib.hid hstep
  replace hG := Lib.hid hG
  replace hst := Lib.hid hst
  replace hwi := Lib.hid hwi
  replace h0 := Lib.hid h0
  replace h := Lib.hid h
  unfold ptr at hstep hen ⊢
  go_enter Try.func16, Try.ntmps16
  go_wp2_with (first
    | (go_at_call 32; refine hcl.out.mono ?_; rintro e w1 ⟨r1, rfl, ho1, hB1⟩; obtain ⟨A1, c1, rfl, hr1, -⟩ := ho1.shape; have hlow : ∀ a, A1 = some a → w.heap.size ≤ a.block := (fun a e => (ho1.lt a.block (by subst e; rfl)).1); replace hlow := Lib.hid hlow; replace hr1 := Lib.hid hr1; replace hB1 := Lib.hid hB1; clear ho1))
  go_loopw [8] (fun i wr => ∃ (j : Nat) (s' : SS), i = .int .i64 j ∧ j ≤ most ∧ SH wr base b mb v s' ∧ Steady s' ∧ s'.bs.length ≤ 64 ∧ I j s' wr ∧ Fr G w1 wr) (fun i _ => most - (intOf i).toNat)
  case atStart => exact ⟨0, s, rfl, by omega, h.out.keep hB1.out, hst.out, hn64, h0.out _ hB1.out, Fr.refl _ _⟩
  case round =>
    obtain ⟨j, s', rfl, hj, hS, hs, hl, hI, hf⟩ := hrel
    by_cases hjm : j < most
    · obtain ⟨L, hL⟩ : ∃ L, thoseI (mayB s') s'.ts = L := ⟨_, rfl⟩
      have he := hen.out s' wr hS hs hl
      rw [hL] at he
      replace he := Lib.hid he
      replace hS := Lib.hid hS
      replace hs := Lib.hid hs
      replace hI := Lib.hid hI
      replace hf := Lib.hid hf
      rcases L with _ | ⟨x, L⟩
      · replace hL := Lib.hid hL
        go_wp2_with (first
          | (go_at_call 28; refine he.out.mono ?_; rintro e w2 ⟨r2, rfl, ho2, hB2⟩; obtain ⟨A2, c2, rfl, -⟩ := ho2.shape; simp only [List.length_nil]; clear ho2; replace hB2 := Lib.hid hB2))
        go_ret2
        exact ⟨j, s', rfl, hS.out.keep hB2.out, hs.out, hl, hkeep.out _ _ _ _ hI.out hB2.out, hj, .inr hL.out, (Fr.of_below hB1.out).then (hf.out.thenB hB2.out) (fun _ _ e => e)⟩
      · have hne : thoseI (mayB s') s'.ts ≠ [] := by rw [hL]; simp
        have hjn : j % n < n := Nat.mod_lt _ hn0
        obtain ⟨p, hp⟩ : ∃ p, l[j % n]? = some p := ⟨_, List.getElem?_eq_getElem (by rw [hln.out]; exact hjn)⟩
        obtain ⟨q, hq⟩ : ∃ q, j % n = q := ⟨_, rfl⟩
        have hmod : (j : Int) % n = (q : Int) := by rw [← hq]; first | exact (Int.natCast_emod j n).symm | simp | rfl
        have hpk := fun W hW hS' => hstep.out j s' W p hW hS' hs.out hl hjm hne hp
        rw [hq] at hp hjn
        obtain ⟨u, hu⟩ : ∃ u, (l.map (Value.int .i64))[q]? = some u := ⟨.int .i64 p, by rw [List.getElem?_map, hp]; rfl⟩
        obtain rfl : u = .int .i64 p := by rw [List.getElem?_map, hp] at hu; exact (Option.some.inj hu).symm
        have hr2 := hr1.out.fr hf.out (fun a e hg => by have := hG.out _ hg; have := hlow.out a e; omega)
        replace hpk := Lib.hid hpk
        replace hq := Lib.hid hq
        replace hL := Lib.hid hL
        replace hne := Lib.hid hne
        have hj0 : (0 : Int) ≤ (j : Int) := by omega
        obtain ⟨g1, o1, u1, rfl, hu1, -⟩ := hr2.at1 hjn
        obtain rfl : u1 = .int .i64 p := by rw [hu] at hu1; exact (Option.some.inj hu1).symm
        clear hu1
        go_wp2_with (first
          | (go_at_call 28; refine he.out.mono ?_; rintro e w2 ⟨r2, rfl, ho2, hB2⟩; obtain ⟨A2, c2, rfl, -⟩ := ho2.shape; simp only [List.length_cons]; clear ho2; have q2 : w2.cell? ⟨g1, o1 + q, none⟩ = some (.int .i64 p) := (hr2.keep hB2).cellAt hu; replace hB2 := Lib.hid hB2)
          | (go_at_call 29; refine (hpk.out _ (hkeep.out _ _ _ _ hI.out hB2.out) (hS.out.keep hB2.out)).mono ?_; rintro e w3 ⟨r3, s3, rfl, hS3, hs3, hl3, hI3, hf3⟩; replace hS3 := Lib.hid hS3; replace hs3 := Lib.hid hs3; replace hI3 := Lib.hid hI3; replace hf3 := Lib.hid hf3))
        go_roundw
        case rel => exact ⟨j + 1, s3, by go_num, by omega, hS3.out, hs3.out, hl3, hI3.out, (hf.out.thenB hB2.out).then hf3.out (fun _ _ e => e)⟩
        case measure => simp only [intOf]; omega
    · obtain rfl : j = most := by omega
      go_wp2_with fail
      go_ret2
      exact ⟨j, s', rfl, hS, hs, hl, hI, hj, .inl rfl, (Fr.of_below hB1.out).then hf (fun _ _ e => e)⟩
end Go.Proofs.Ytcdhmjapeapicaa
