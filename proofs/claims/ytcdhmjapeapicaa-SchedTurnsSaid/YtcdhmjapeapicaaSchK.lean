/- The law of SchedTurns, walked. Conditions: what each theorem names. -/
import Derived.RangeFuncNested
import Derived.RangeFuncBound
import Derived.RangeFuncCalls
import Derived.RangeFuncLeaves
import Derived.Shelf.Abstract
import Derived.Shelf.RegionOpen
import Derived.WalkKit
import Derived.OwnWalkIn
import Derived.TacticsInMore
import Derived.LoopNIn
import Derived.LoopIn
import Derived.Lib.Hide
import Derived.Outline
import Derived.RegionTactic
import Derived.BigRegion
import Derived.WalkLawsBesides
import Derived.WalkSpells
import Derived.Deep.QuietTactic
import Derived.BigQuiet
import Derived.Deep.RegionHeld3
import Derived.Deep.DeepCutAuto
import Derived.Deep.CutBlock
import Derived.StillTailTactics
import Derived.WalkSmall
import Derived.Test.YtcdhmjapeapicaaProg
import Derived.Test.YtcdhmjapeapicaaFr
import Derived.Test.YtcdhmjapeapicaaMp
import Derived.Defers
import Derived.Recover
import Derived.Test.YtcdhmjapeapicaaSchJ
import Derived.Lib.SliceRun
namespace Go.Proofs.Ytcdhmjapeapicaa
open Go.RowKit Go.Sed Go.Maps
set_option maxHeartbeats 1000000
set_option maxRecDepth 100000
theorem TW.spawn {W W1 W2 : World} {base b mb D g n x k I E : Nat} {v v' : Value} {s : SS} {es ds : List Int} (h : TW W base b mb D g n v s es ds) (hk : s.ts.length = k) (hB : Below W.heap.size W W1) (hI : Bl W1 I (.cells #[.int .i64 k] 3 (0, 0))) (hE : Bl W1 E (.cells #[.int .i64 (es.getD k 0)] 3 (0, 0))) (hIz : W.heap.size ≤ I) (hEz : W.heap.size ≤ E)
    (hS : SH W2 base b mb v' { s with bs := s.bs ++ [x], ts := s.ts ++ [{ nm := .string { data := #[116] }, st := .func (.func 11) #[] #[.pointer (some ⟨D, 0, none⟩), .pointer (some ⟨I, 0, none⟩), .pointer (some ⟨E, 0, none⟩)], kd := 0, on := 0, si := 0, od := 0, fl := false }] }) (hf : Fr (foot b mb v s) W1 W2) (hx : W1.heap.size ≤ x) (hv : v'.ownBlock = v.ownBlock ∨ ∃ k, v'.ownBlock = some k ∧ W1.heap.size ≤ k)
    (hwk : wk (es.getD k 0) (ds.getD k 0) = 0) (hlen : s.bs.length < 64) :
    TW W2 base b mb D g n v' { s with bs := s.bs ++ [x], ts := s.ts ++ [{ nm := .string { data := #[116] }, st := .func (.func 11) #[] #[.pointer (some ⟨D, 0, none⟩), .pointer (some ⟨I, 0, none⟩), .pointer (some ⟨E, 0, none⟩)], kd := 0, on := 0, si := 0, od := 0, fl := false }] } es ds := by
  have h1 := h.keep hB
  have hIl := hI.lt
  have hEl := hE.lt
  have nI : ¬ foot b mb v s I := h.sh.nfoot hIz
  have nE : ¬ foot b mb v s E := h.sh.nfoot hEz
  have hz := hB.size
  have up : ∀ {k : Nat}, ¬ foot b mb v s k → k < W1.heap.size → ¬ foot b mb v' { s with bs := s.bs ++ [x], ts := s.ts ++ [{ nm := .string { data := #[116] }, st := .func (.func 11) #[] #[.pointer (some ⟨D, 0, none⟩), .pointer (some ⟨I, 0, none⟩), .pointer (some ⟨E, 0, none⟩)], kd := 0, on := 0, si := 0, od := 0, fl := false }] } k := fun a c => foot_spawn a c hx hv
  refine ⟨hS, h1.d.fr hf h.dn, h1.gg.fr hf h.gn, up h.dn h1.d.lt, up h.gn h1.gg.lt, h.dg, h.bd, h.bg, ?_, h.lk, h.wi, h.hs, h.hw, by simp; omega⟩
  intro i t ht
  simp only at ht
  by_cases hi : i < s.ts.length
  · rw [List.getElem?_append_left hi] at ht
    obtain ⟨I2, E2, a1, a2, a3, a4, a5, a6⟩ := h1.tk i t ht
    exact ⟨I2, E2, a1, a2.fr hf a4, a3.fr hf a5, up a4 a2.lt, up a5 a3.lt, a6⟩
  · have hil := (List.getElem?_eq_some_iff.1 ht).1
    simp at hil
    obtain rfl : i = s.ts.length := by omega
    rw [List.getElem?_append_right (Nat.le_refl _), Nat.sub_self] at ht
    simp only [List.getElem?_cons_zero, Option.some.injEq] at ht
    subst ht
    have hgl := h.gg.lt
    rw [hk]
    exact ⟨I, E, rfl, hI.fr hf nI, hE.fr hf nE, up nI hIl, up nE hEl, by omega, by omega, hwk.symm, rfl, Int.le_refl 0, h.hs.1⟩
theorem turns_walk (A : Option Addr) (c : Nat) (l : List Int) (w : World) (hr : Rd w 1 A l.length (l.map (Value.int .u8))) (hx : ∀ x ∈ l, 0 ≤ x ∧ x ≤ 255) (hll : l.length ≤ maxLen) :
    Calls Try.prog 3 #[.slice A l.length c] w fun e w' => e = .returned (.bool true) ∧ Below w.heap.size w w' := by
  unfold maxLen at hll
  have hmf : ∀ (fn : Fn) (first cap : Array Value) (w : World), (Instr.makeFunc fn first cap).run Try.prog w = .ok (.func fn first cap) w := fun _ _ _ _ => rfl
  replace hx := Lib.hid hx
  go_enter Try.func3, Try.ntmps3
  go_upto_if 25 with (first
    | (go_at_call 8; refine (lives_any _).mono ?_; rintro e w1 ⟨rfl, hB1⟩; replace hB1 := Lib.hid hB1)
    | (go_at_call 9; refine (new_any _).mono ?_; rintro e w2 ⟨b, mb, rfl, hS2, hB2⟩; replace hS2 := Lib.hid hS2; replace hB2 := Lib.hid (below_then hB1.out hB2); unfold ptr))
  go_cut [4] (fun y wx => ∃ n : Nat, y = .int .i64 n ∧ n ≤ 64 ∧ n ≤ l.length ∧ w2 = wx)
  case first =>
    by_cases h64 : 64 < l.length
    · go_wp2_with fail
      go_meet
      exact ⟨64, rfl, by omega, by omega, rfl⟩
    · go_wp2_with fail
      go_meet
      exact ⟨l.length, rfl, by omega, by omega, rfl⟩
  case rest =>
    obtain ⟨n, rfl, hn64, hnl, rfl⟩ := hcut
    have hmk := run_make_ints (t := 26) Try.underlying26 infoInt (n : Int) n rfl (by omega) (by omega)
    go_upto_region 10 with (fail)
    obtain ⟨w3, hw3⟩ : ∃ w3, (w2.alloc (.cells (ci .i64 (List.replicate n 0)) 3)).alloc (.cells #[.slice (some ⟨w2.heap.size, 0, none⟩) n n] 26) = w3 := ⟨_, rfl⟩
    obtain ⟨g, hge⟩ : ∃ g, w2.heap.size = g := ⟨_, rfl⟩
    have hB3 : Below w2.heap.size w2 w3 := by rw [← hw3]; exact ((Below.refl _ _).alloc (Nat.le_refl _) _).alloc (by simp) _
    have hg3 : Bl w3 w2.heap.size (.cells (ci .i64 (List.replicate n 0)) 3 (0, 0)) := by rw [← hw3]; exact (Bl.new' rfl).alloc _
    have hD3 : Bl w3 (w2.heap.size + 1) (.cells #[.slice (some ⟨w2.heap.size, 0, none⟩) n n] 26 (0, 0)) := by rw [← hw3]; exact Bl.new' (by simp)
    rw [hw3]
    obtain ⟨es, hes⟩ : ∃ es, l.take n = es := ⟨_, rfl⟩
    have hel : es.length = n := by rw [← hes, List.length_take]; omega
    have hex : ∀ x ∈ es, 0 ≤ x ∧ x ≤ 255 := fun x h => hx.out x (by rw [← hes] at h; exact List.mem_of_mem_take h)
    have hg1 := hB1.out.size
    have hg2 := hB2.out.size
    have hW3 := Lib.hid (below_then hB2.out hB3)
    have htw0 : TW w3 w1.heap.size b mb (g + 1) g n (.slice none 0 0) S0 es (List.replicate n 0) := by
      rw [hge] at hg3 hD3
      exact ⟨hS2.out.keep hB3, hD3, hg3, hS2.out.nfoot (by omega), hS2.out.nfoot (by omega), by omega, by have := hS2.out.lob; have := hS2.out.ld.lt; omega, by have := hS2.out.lob; have := hS2.out.ld.lt; omega, fun i t ht => by simp [S0] at ht, rfl, rfl, by simp [S0], by simp [S0], by simp [S0]⟩
    rw [hge]
    clear hg3 hD3 hS2 hw3 hB3 hmk
    have hwz : ∀ i, i < n → wk (es.getD i 0) ((List.replicate n (0 : Int)).getD i 0) = 0 := by
      intro i hi
      have h1 : es[i]? = some (es.getD i 0) := by simp [hel, hi]
      have h2 := (hex _ (List.mem_of_getElem? h1)).1
      have h3 : (List.replicate n (0 : Int)).getD i 0 = 0 := by simp [List.getElem?_replicate, hi]
      rw [h3]
      unfold wk
      rw [if_neg (by omega)]
    replace hwz := Lib.hid hwz
    replace htw0 := Lib.hid htw0
    replace hes := Lib.hid hes
    replace hel := Lib.hid hel
    replace hex := Lib.hid hex
    go_wp2_with fail
    go_loopw [6] (fun i wr => ∃ (k : Nat) (v : Value) (s : SS), i = .int .i64 k ∧ k ≤ n ∧ TW wr w1.heap.size b mb (g + 1) g n v s es (List.replicate n 0) ∧ s.ts.length = k ∧ s.steps = 0 ∧ s.wishes = 0 ∧ Below w.heap.size w wr) (fun i _ => n - (intOf i).toNat)
    case atStart => exact ⟨0, _, _, rfl, Nat.zero_le _, htw0.out, rfl, rfl, rfl, hW3.out⟩
    case round =>
      obtain ⟨k, v, s, rfl, hk, htw, hsl, hs0, hs1, hB⟩ := hrel
      by_cases hlt : k < n
      · obtain ⟨x, hxk⟩ : ∃ x, l[k]? = some x := ⟨_, List.getElem?_eq_getElem (by omega)⟩
        have hx2 := hx.out x (List.mem_of_getElem? hxk)
        have hek : es.getD k 0 = x := by
          rw [← hes.out, List.getD_eq_getElem?_getD, List.getElem?_take]
          simp [hlt, hxk]
        obtain ⟨g1, o1, u1, rfl, hu1, r1⟩ := (hr.keep hB).at1 (k := k) (by omega)
        obtain rfl : u1 = .int .u8 x := by
          rw [List.getElem?_map, hxk] at hu1
          exact (Option.some.inj hu1).symm
        clear hu1
        have hwx : IntKind.i64.wrap x = x := by simp [IntKind.wrap, IntKind.bits, IntKind.signed]; omega
        replace htw := Lib.hid htw
        replace hB := Lib.hid hB
        replace hek := Lib.hid hek
        go_upto_region 14 with (fail)
        obtain ⟨w4, hw4⟩ : ∃ w4, (wr.alloc (.cells #[.int .i64 x] 3)).alloc (.cells #[.int .i64 k] 3) = w4 := ⟨_, rfl⟩
        have hB4 : Below wr.heap.size wr w4 := by rw [← hw4]; exact ((Below.refl _ _).alloc (Nat.le_refl _) _).alloc (by simp) _
        have hE4 : Bl w4 wr.heap.size (.cells #[.int .i64 x] 3 (0, 0)) := by rw [← hw4]; exact (Bl.new' rfl).alloc _
        have hI4 : Bl w4 (wr.heap.size + 1) (.cells #[.int .i64 k] 3 (0, 0)) := by rw [← hw4]; exact Bl.new' (by simp)
        rw [hw4]
        rw [← hek.out] at hE4
        have hbl : s.bs.length < 64 := by have := htw.out.sh.len; omega
        have hsp := Lib.hid (spawn_any _ b mb 11 { data := #[116] } #[.pointer (some ⟨g + 1, 0, none⟩), .pointer (some ⟨wr.heap.size + 1, 0, none⟩), .pointer (some ⟨wr.heap.size, 0, none⟩)] v s w4 (htw.out.sh.keep hB4) hbl)
        have hfoot := htw.out.sh.lo
        have hBw := hB.out.size
        have hB5 := Lib.hid (below_then hB.out hB4)
        replace hfoot := Lib.hid hfoot
        replace hB4 := Lib.hid hB4
        replace hE4 := Lib.hid hE4
        replace hI4 := Lib.hid hI4
        clear hw4 r1
        unfold ptr at hsp
        go_wp2_with (first
          | (go_at_call 10; refine hsp.out.mono ?_; rintro e w5 ⟨v5, x5, rfl, hS5, hf5, hx5, hv5⟩; have htw5 := Lib.hid (htw.out.spawn hsl hB4.out hI4.out hE4.out (by omega) (by omega) hS5 hf5 hx5 hv5 (hwz.out k hlt) hbl); have hB6 := Lib.hid (hB5.out.trans (hf5.below hB5.out.size (fun i hi hfi => by have := (hfoot.out i hfi).1; omega))); clear hS5 hf5 hx5 hv5))
        go_roundw
        case rel => exact ⟨k + 1, _, _, by go_num, by omega, htw5.out, by simp only [List.length_append, List.length_singleton]; omega, hs0, hs1, hB6.out⟩
        case measure => simp only [intOf]; omega
      · obtain rfl : n = k := by omega
        have hmk := run_make_ints (t := 26) Try.underlying26 infoInt (n : Int) n rfl (by omega) (by omega)
        replace htw := Lib.hid htw
        replace hB := Lib.hid hB
        go_upto_region 18 with (fail)
        obtain ⟨w4, hw4⟩ : ∃ w4, wr.alloc (.cells (ci .i64 (List.replicate n 0)) 3) = w4 := ⟨_, rfl⟩
        obtain ⟨gl, hgl⟩ : ∃ gl, wr.heap.size = gl := ⟨_, rfl⟩
        have hB4 : Below wr.heap.size wr w4 := by rw [← hw4]; exact (Below.refl _ _).alloc (Nat.le_refl _) _
        have hl4 : Bl w4 wr.heap.size (.cells (ci .i64 (List.replicate n 0)) 3 (0, 0)) := by rw [← hw4]; exact Bl.new' rfl
        have ngl : ¬ foot b mb v s gl := htw.out.sh.nfoot (by omega)
        have hggl : g ≠ gl := by have := htw.out.gg.lt; omega
        have hbgl : w.heap.size ≤ gl := by have := hB.out.size; omega
        rw [hw4, hgl]
        rw [hgl] at hl4
        have htw4 := Lib.hid (htw.out.keep hB4)
        have hti0 := Lib.hid (TI.start hel.out hn64 hex.out)
        have hB5 := Lib.hid (below_then hB.out hB4)
        obtain ⟨sb, hsb⟩ : ∃ sb, s.bs = sb := ⟨_, rfl⟩
        obtain ⟨sts, hsts⟩ : ∃ sts, s.ts.map Tk.st = sts := ⟨_, rfl⟩
        have htq := htw.out.tq (q := gl) (by omega)
        rw [hsts] at htq
        replace htq := Lib.hid htq
        replace hsts := Lib.hid hsts
        have hDgl : g + 1 ≠ gl := by have := htw.out.d.lt; omega
        have hgw : w.heap.size ≤ g := by omega
        replace hsb := Lib.hid hsb
        replace hl4 := Lib.hid hl4
        replace ngl := Lib.hid ngl
        clear hw4 htw hB hB4 hmk htw0 hwz
        go_wp2_with fail
        go_loopw [12] (fun i wx => ∃ (j : Nat) (s' : SS) (ds ls : List Int), i = .int .i64 j ∧ TW wx w1.heap.size b mb (g + 1) g n v s' es ds ∧ TI n j es ds ls ∧ Bl wx gl (.cells (ci .i64 ls) 3 (0, 0)) ∧ s'.ts.map Tk.st = sts ∧ s'.bs = sb ∧ s'.steps = j ∧ s'.wishes = j ∧ Below w.heap.size w wx) (fun i _ => 20000 - (intOf i).toNat)
        case atStart => exact ⟨0, s, _, _, rfl, htw4.out, hti0.out, hl4.out, hsts.out, hsb.out, hs0, hs1, hB5.out⟩
        case round =>
          obtain ⟨j, s', ds, ls, rfl, htw, hti, hll4, hst', hsb', hsj, hwj, hB⟩ := hrel
          have hsl' : s'.ts.length = n := by have := congrArg List.length hst'; rw [← hsts.out, List.length_map, List.length_map] at this; omega
          replace hst' := Lib.hid hst'
          have hj := hti.small
          have hmay := htw.may (hsl'.trans hti.le.symm)
          have hal := htw.alive (hsl'.trans hti.le.symm)
          have hen := Enabled_any w1.heap.size b mb v s' wr htw.sh htw.steady htw.n64
          have hali := fun W (h : SH W w1.heap.size b mb v s') => Alive_any w1.heap.size b mb v s' W h htw.n64
          rw [hmay] at hen
          rw [hal] at hali
          obtain ⟨L, hL⟩ : ∃ L, enL es ds = L := ⟨_, rfl⟩
          rw [hL] at hen hali
          unfold ptr at hen hali
          replace hen := Lib.hid hen
          replace hali := Lib.hid hali
          replace htw := Lib.hid htw
          replace hti := Lib.hid hti
          replace hll4 := Lib.hid hll4
          replace hsb' := Lib.hid hsb'
          replace hB := Lib.hid hB
          clear hmay hal htw4 hti0 hl4 hB5
          rcases L with _ | ⟨i0, L⟩
          · replace hL := Lib.hid hL
            go_wp2_with (first
              | (go_at_call 12; refine hen.out.mono ?_; rintro e w6 ⟨r6, rfl, ho6, hB6⟩; obtain ⟨A6, c6, rfl, -⟩ := ho6.shape; simp only [List.map_nil, List.length_nil]; clear ho6; replace hB6 := Lib.hid hB6)
              | (go_at_call 14; refine (hali.out _ (htw.out.sh.keep hB6.out)).mono ?_; rintro e w7 ⟨r7, rfl, ho7, hB7⟩; obtain ⟨A7, c7, rfl, -⟩ := ho7.shape; simp only [List.map_nil, List.length_nil]; clear ho7; replace hB7 := Lib.hid hB7))
            go_ret
            exact ⟨rfl, below_then (below_then hB.out hB6.out) hB7.out⟩
          · have hmp : 0 < (i0 :: L).length := by simp
            obtain ⟨i, hi⟩ : ∃ i, (enL es ds)[j % (enL es ds).length]? = some i := ⟨_, List.getElem?_eq_getElem (Nat.mod_lt _ (by rw [hL]; exact hmp))⟩
            have him := enL_mem.1 (List.mem_of_getElem? hi)
            have hin : i < n := by rw [← hti.out.le]; exact him.1
            obtain ⟨d, hd⟩ : ∃ d, ds[i]? = some d := ⟨_, List.getElem?_eq_getElem (by rw [hti.out.ld]; exact hin)⟩
            have hdg : ds.getD i 0 = d := by simp [hd]
            have hd0 := hti.out.d0 i hin
            have he0 := hti.out.e0 (es.getD i 0) (List.mem_of_getElem? (show es[i]? = some (es.getD i 0) by simp [hti.out.le, hin]))
            have hpk := fun W (h : TW W w1.heap.size b mb (g + 1) g n v s' es ds) => TW.pick h (hsl'.trans hti.out.le.symm) hi hd hti.out.ld hn64 (by omega) (by omega) (by omega)
            have hts := hti.out.step hi
            rw [hdg] at hts
            have hli : i < ls.length := by rw [hti.out.ll]; exact hin
            unfold ptr at hpk
            replace hpk := Lib.hid hpk
            replace hts := Lib.hid hts
            replace hL := Lib.hid hL
            replace hi := Lib.hid hi
            replace hd := Lib.hid hd
            replace hli := Lib.hid hli
            have hj2 : (j : Int) < 20000 := by omega
            clear hd0 he0 hdg him
            go_upto_region 24 with (first
              | (go_at_call 12; refine hen.out.mono ?_; rintro e w6 ⟨r6, rfl, ho6, hB6⟩; obtain ⟨A6, c6, rfl, -⟩ := ho6.shape; simp only [List.map_cons, List.length_cons]; clear ho6; replace hB6 := Lib.hid hB6)
              | (go_at_call 13; refine (hpk.out _ (htw.out.keep hB6.out)).mono ?_; rintro e w7 ⟨s7, rfl, htw7, hms7, hbs7, hst7, hwi7, hf7⟩; replace hms7 := Lib.hid (hms7.trans hst'.out); replace htw7 := Lib.hid htw7; replace hf7 := Lib.hid hf7; replace hbs7 := Lib.hid (hbs7.trans hsb'.out)))
            have nfg : ¬ (foot b mb v s' gl ∨ gl = g) := fun h => by
              rcases h with h | h
              · apply ngl.out
                unfold foot at h ⊢
                rw [hsb.out]; rw [hsb'.out] at h; exact h
              · exact hggl h.symm
            have ng7 : ¬ foot b mb v s7 gl := fun h => by
              apply ngl.out
              unfold foot at h ⊢
              rw [hsb.out]; rw [hbs7.out] at h; exact h
            have hl7 := (hll4.out.keep hB6.out).fr hf7.out nfg
            have hB7 := (below_then hB.out hB6.out).trans (hf7.out.below (below_then hB.out hB6.out).size (fun q hq hfq => by
              rcases hfq with hfq | hfq
              · have := (htw.out.sh.lo q hfq).1; omega
              · omega))
            have c7 : w7.cell? ⟨gl, i, none⟩ = some (.int .i64 (ls[i]?.getD 0)) := hl7.int i hli.out
            have z7 := hl7.frozen i
            have hl8 := Lib.hid (hl7.setInt i (j : Int))
            have htq7 : TQ (g + 1) gl (s7.ts.map Tk.st) := by rw [hms7.out]; exact htq.out
            have htw8 := Lib.hid (htw7.out.other (j := i) (.int .i64 j) htq7 ng7 hggl hDgl)
            have hB8 := Lib.hid (hB7.setCell (p := ⟨gl, i, none⟩) hbgl (.int .i64 j))
            clear hl7 hB7 htq7 nfg ng7 htw7 hf7
            go_upto_region 25 with (fail)
            obtain ⟨w8, hw8⟩ : ∃ w8, w7.setCell ⟨gl, i, none⟩ (.int .i64 j) = w8 := ⟨_, rfl⟩
            rw [hw8] at hl8 htw8 hB8 ⊢
            clear hw8 c7 z7 hen hali hpk
            have hsl8 : s7.ts.length = n := by have := congrArg List.length hms7.out; rw [← hst'.out, List.length_map, List.length_map] at this; omega
            have hen := Enabled_any w1.heap.size b mb v s7 w8 htw8.out.sh htw8.out.steady htw8.out.n64
            rw [htw8.out.may (hsl8.trans hti.out.le.symm)] at hen
            obtain ⟨L7, hL7⟩ : ∃ L, enL es (ds.set i (d + 1)) = L := ⟨_, rfl⟩
            rw [hL7] at hen
            unfold ptr at hen
            replace hen := Lib.hid hen
            go_wp2_with (first
              | (go_at_call 12; refine hen.out.mono ?_; rintro e w9 ⟨r9, rfl, ho9, hB9⟩; obtain ⟨A9, c9, rfl, hr9, -⟩ := ho9.shape; rw [List.length_map]; rw [List.length_map] at hr9; clear ho9; replace hB9 := Lib.hid hB9))
            have hl9 := Lib.hid (hl8.out.keep hB9.out)
            have htw9 := Lib.hid (htw8.out.keep hB9.out)
            have hB10 := Lib.hid (below_then hB8.out hB9.out)
            obtain ⟨ls', hls'⟩ : ∃ x, ls.set i (j : Int) = x := ⟨_, rfl⟩
            obtain ⟨ds', hds'⟩ : ∃ x, ds.set i (d + 1) = x := ⟨_, rfl⟩
            rw [hls'] at hl9 hts
            rw [hds'] at hL7 htw9 hts
            have hN : n * n ≤ 4096 := Nat.le_trans (Nat.mul_le_mul hn64 hn64) (by decide)
            obtain ⟨N, hNe⟩ : ∃ N, n * n = N := ⟨_, rfl⟩
            have hNi : (2 * (n : Int)) * n = ((2 * N : Nat) : Int) := by rw [← hNe, Int.mul_assoc]; simp
            rw [hNe] at hN
            have hw1 : IntKind.i64.wrap (2 * (n : Int) * n) = ((2 * N : Nat) : Int) := by rw [hNi]; simp [IntKind.wrap, IntKind.bits, IntKind.signed]; omega
            have hgap := fun (p q : Nat) (h : L7[p]? = some q) => hts.out.gap (by rw [hL7]; exact h)
            rw [hNi] at hgap
            have hrange := fun (p q : Nat) (h : L7[p]? = some q) => enL_mem.1 (show q ∈ enL es ds' by rw [hL7]; exact List.mem_of_getElem? h)
            replace hgap := Lib.hid hgap
            replace hrange := Lib.hid hrange
            replace hL7 := Lib.hid hL7
            replace hls' := Lib.hid hls'
            replace hds' := Lib.hid hds'
            replace hNe := Lib.hid hNe
            replace hNi := Lib.hid hNi
            replace hr9 := Lib.hid hr9
            clear hl8 htw8 hB8 hen
            have hL7n : L7.length ≤ 64 := by
              rw [← hL7.out]
              unfold enL
              exact Nat.le_trans (List.length_filter_le _ _) (by rw [List.length_range, hti.out.le]; exact hn64)
            obtain ⟨w10, hw10⟩ : ∃ w10 : World, w10 = w9 := ⟨_, rfl⟩
            subst hw10
            go_loop [16] (fun q => ∃ m : Nat, q = .int .i64 m ∧ m ≤ L7.length) (fun q => L7.length - (intOf q).toNat)
            case atStart => exact ⟨0, rfl, Nat.zero_le _⟩
            case round =>
              obtain ⟨m, rfl, hm⟩ := hrel
              by_cases hlt2 : m < L7.length
              · obtain ⟨q, hq⟩ : ∃ q, L7[m]? = some q := ⟨_, List.getElem?_eq_getElem hlt2⟩
                have hqn := (hrange.out m q hq).1
                rw [hti.out.le] at hqn
                have hg1 := hgap.out m q hq
                have hql : q < ls'.length := by rw [hts.out.ll]; exact hqn
                obtain ⟨y, hy⟩ : ∃ y, ls'[q]? = some y := ⟨_, List.getElem?_eq_getElem hql⟩
                have hy0 := hts.out.l0 y (List.mem_of_getElem? hy)
                have hyd : ls'.getD q 0 = y := by simp [hy]
                rw [hyd] at hg1
                obtain ⟨g5, o5, u5, rfl, hu5, r5⟩ := hr9.out.at1 hlt2
                obtain rfl : u5 = .int .i64 q := by
                  rw [List.getElem?_map, List.getElem?_map, hq] at hu5
                  exact (Option.some.inj hu5).symm
                have c5 : w10.cell? ⟨gl, q, none⟩ = some (.int .i64 y) := by rw [hl9.out.int q hql, hy]; rfl
                have hdec : decide (((2 * N : Nat) : Int) < (j : Int) - y) = false := decide_eq_false (by omega)
                clear hu5
                replace hq := Lib.hid hq
                replace hy := Lib.hid hy
                replace hyd := Lib.hid hyd
                go_wp2_with fail
                go_round
                case rel => exact ⟨m + 1, by go_num, by omega⟩
                case measure => simp only [intOf]; omega
              · go_wp2_with fail
                go_roundw
                case rel => exact ⟨j + 1, s7, ds', ls', by go_num, htw9.out, hts.out, hl9.out, hms7.out, hbs7.out, by rw [hst7, hsj]; go_num, by rw [hwi7, hwj]; go_num, hB10.out⟩
                case measure => simp only [intOf]; omega
end Go.Proofs.Ytcdhmjapeapicaa
