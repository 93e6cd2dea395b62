/- The law of SchedAgain, walked. Conditions: what is read is of some bulk. -/
import Derived.RangeFuncNested
import Derived.RangeFuncBound
import Derived.RangeFuncCalls
import Derived.RangeFuncLeaves
import Derived.Shelf.Abstract
import Derived.Shelf.RegionOpen
import Derived.WalkKit
import Derived.OwnWalkIn
import Derived.TacticsInMore
import Derived.LoopNIn
import Derived.LoopIn
import Derived.Lib.Hide
import Derived.Outline
import Derived.RegionTactic
import Derived.BigRegion
import Derived.WalkLawsBesides
import Derived.WalkSpells
import Derived.Deep.QuietTactic
import Derived.BigQuiet
import Derived.Deep.RegionHeld3
import Derived.Deep.DeepCutAuto
import Derived.Deep.CutBlock
import Derived.StillTailTactics
import Derived.WalkSmall
import Derived.Test.YtcdhmjapeapicaaProg
import Derived.Test.YtcdhmjapeapicaaSchI
import Derived.Test.YtcdhmjapeapicaaAps
import Derived.Test.YtcdhmjapeapicaaSdN
namespace Go.Proofs.Ytcdhmjapeapicaa
open Go.RowKit Go.Sed Go.Maps
set_option maxHeartbeats 1000000
set_option maxRecDepth 100000
theorem newTag3 {w : World} {E j : Nat} (h : j < E) (hE : E ≤ w.heap.size) : newTag w (fun _ => 3) j = 3 := newTag_old (by omega)
theorem sep_begin {w w' : World} {tx ty : Nat → Nat} {E : Nat} (hy : ∀ j, j < w.heap.size → ty j = if j < E then 3 else 1000) (hx : ∀ j, j < E → tx j = 3) : Sep w' (newTag w tx) ty := by
  intro k _
  by_cases hk : k < w.heap.size
  · have h1 := hy k hk
    unfold ownT
    rw [newTag_old hk, h1]
    by_cases he : k < E
    · rw [if_pos he]
      have := hx k he
      omega
    · rw [if_neg he]
      omega
  · refine ⟨fun e => ?_, fun _ => by rw [newTag_new (by omega)]; omega⟩
    have := (ownT_new e).1
    omega
/-- the first loop: both pairs do the same. -/
def R1 (w wr : World) (E B2 bx mbx xbx by' mby xby : Nat) (dvx vx dvy vy : Value) (LS : List (List (Int × Int))) (k : Nat) (C : CS) : Prop :=
  ∃ tx ty, AP wr E E bx mbx xbx dvx vx LS tx k C ∧ AP wr E B2 by' mby xby dvy vy LS ty k C ∧ Sep wr tx ty ∧ Below w.heap.size w wr
theorem step_append_owg {P : Program} {w : World} {ops : Array Oper} {o : Oper} {a : Act} {K : Act → World → Prop} {Q : Exit → Act → World → Prop} {E : Prop} (hw : Region.wanted o (yielded ops a.tmps) = true) (s x : Operand) (t : TypeId)
    (ho : o.op = .call { callee := .builtin .append, args := #[s, x], argTypes := #[t, t] })
    (base : Nat) (e : TypeId) {z : Value} {size bytes : Nat} (ht : P.underlying t = some (.slice e)) (hinfo : (P.info? e).map (fun i => (i.zero, i.size, i.bytes)) = some (some z, size, bytes)) (hzs : z.cells.size = size) (hsz : 0 < size)
    (v : Value) (n : Nat) (xs : List Value) (hs : a.eval s = v) (hown : OW w base size v n xs)
    (A : Option Addr) (m c : Nat) (news : List Value) (hx : a.eval x = .slice A m c) (hr : Rd w size A m news) (h1 : ∀ u ∈ news, u.oneCell' = true)
    (h63 : n + m ≤ maxLen) (hbytes : (n + m) * bytes ≤ 140737488355328) (hbase : base ≤ w.heap.size)
    (h : ∀ v' w', OW w' base size v' (n + m) (xs ++ news) → w.grownBy w' v.ownBlock → (v'.ownBlock = v.ownBlock ∨ v'.ownBlock = some w.heap.size) → K (a.put o.dst v') w') :
    if Region.wanted o (yielded ops a.tmps) = true then Oper.wp P o a w K Q else E := by
  rw [if_pos hw]
  obtain ⟨v', w', hr, h2, h3, h4⟩ := run_append_ow (P := P) w base t o.type e ht hinfo hzs hsz v n xs hown A m c news hr h1 h63 hbytes hbase
  unfold Oper.wp execOp
  simp only [ho, resolve, invoke, builtin, Sem.run_bind, Sem.run_pure, Result.andThen_ok, List.map_toArray, List.map_cons, List.map_nil, hs, hx, hr]
  exact h v' w' h2 h3 h4
theorem AP.more {w : World} {E base b mb xb k k' : Nat} {dv v : Value} {ls : List (List (Int × Int))} {tag : Nat → Nat} {C : CS} (h : AP w E base b mb xb dv v ls tag k C) (hk : k ≤ k') : AP w E base b mb xb dv v ls tag k' C := by
  obtain ⟨s, tv, told, ats, h1, h2, h3, h4⟩ := h
  exact ⟨s, tv, told, ats, h1.more hk, h2, h3, h4⟩
theorem bnI_len (l : List Nat) : (bnI l).length = l.length := by simp [bnI]
theorem bnI_one (l : List Nat) : ∀ u ∈ bnI l, u.oneCell' = true := by
  intro u hu
  obtain ⟨x, -, rfl⟩ := List.mem_map.1 hu
  rfl
theorem bnI_drop (l : List Nat) (k : Nat) : bnI (l.drop k) = (bnI l).drop k := List.map_drop
theorem bnI_take (l : List Nat) (k : Nat) : bnI (l.take k) = (bnI l).take k := List.map_take
theorem bnI_app (a b : List Nat) : bnI (a ++ b) = bnI a ++ bnI b := List.map_append
theorem rd_drop2 {w : World} {n c s g o : Nat} {xs : List Value} (h : Rd w 1 (some ⟨g, o, none⟩) n xs) (hn : n ≤ c) (hs : s ≤ n) : Rd w 1 (if c = s then some ⟨g, o, none⟩ else some ⟨g, o + s, none⟩) (n - s) (xs.drop s) := by
  have := rd_drop h hn hs
  simpa [add_mk] using this
theorem rd_take {w : World} {n k : Nat} {A : Option Addr} {xs : List Value} (h : Rd w 1 A n xs) (hk : k ≤ n) : Rd w 1 A k (xs.take k) := by
  have hl := h.1
  refine ⟨by rw [List.length_take]; omega, fun h0 => ?_⟩
  obtain ⟨b, o, rfl, hc⟩ := h.2 (by omega)
  refine ⟨b, o, rfl, fun j u hu => ?_⟩
  rw [List.getElem?_take] at hu
  split at hu
  · exact hc j u hu
  · cases hu
theorem again_walk (pm0 pm : Option Addr) (cm0 cm : Nat) (cut : Nat) (ls : List (List (Int × Int))) (ps : List Nat) (vs0 : List Value) (w : World) (hr0 : Rd w 1 pm0 ls.length vs0) (hd0 : DL w vs0 ls) (hll : ls.length ≤ maxLen) (hr : Rd w 1 pm ps.length (ps.map (fun p => Value.int .u8 (p : Nat)))) (hp8 : ∀ x ∈ ps, x < 256) (hlm : ps.length ≤ 1048576) (hcut : cut < 256) (hls : ∀ l ∈ ls, l.length < 10000000 ∧ ∀ d ∈ l, InI d.1 ∧ InI d.2) :
    Calls Try.prog 4 #[.slice pm0 ls.length cm0, .slice pm ps.length cm, .int .u8 cut] w fun e w' => e = .returned (.bool true) ∧ Below w.heap.size w w' := by
  have hlv := Lib.hid (fun W => lives_any W)
  have hbg := Lib.hid (fun W (tg0 : Nat → Nat) (hB : Below w.heap.size w W) (h3 : ∀ j, j < w.heap.size → tg0 j = 3) => begins_gen tg0 pm0 cm0 vs0 ls W (hr0.keep hB) (hd0.keep hB) (fun i l p c q hi hv hp h0 => by
    obtain ⟨p', c', g1, g2, g3⟩ := hd0.at' i l hi
    rw [hv] at g1
    injection g1 with g1
    injection g1 with g1
    subst g1
    exact h3 _ (g3 q hp h0)) hll)
  have hls64 : ∀ l ∈ ls.take 64, l.length < 10000000 ∧ ∀ d ∈ l, InI d.1 ∧ InI d.2 := fun x hx => hls x (List.mem_of_mem_take hx)
  replace hls64 := Lib.hid hls64
  replace hp8 := Lib.hid hp8
  clear hls hd0 hr0
  obtain ⟨m, hm⟩ : ∃ m, min ls.length 64 = m := ⟨_, rfl⟩
  have hm64 : m ≤ 64 := by omega
  obtain ⟨LS, hLS⟩ : ∃ LS, ls.take 64 = LS := ⟨_, rfl⟩
  rw [hm, hLS] at hbg
  rw [hLS] at hls64
  replace hm := Lib.hid hm
  replace hLS := Lib.hid hLS
  go_enter Try.func4, Try.ntmps4
  go_upto_region 3 with (first
    | (go_at_call 8; refine (hlv.out _).mono ?_; rintro e w1 ⟨rfl, hB1⟩; replace hB1 := Lib.hid hB1))
  have hz1 := hB1.out.size
  have tok1 : True := trivial
  go_wp2_with (first
    | (go_at_call 15; have _t := tok1; refine (hbg.out _ (fun _ => 3) hB1.out (fun _ _ => rfl)).mono ?_; rintro e w2 ⟨bx, mbx, xbx, dvx, vx, sx, tagx, rfl, hP, hnw, h1, h2, h3, h4, h5, htg, hB2⟩; have hAx := Lib.hid (AP.begin (E := w1.heap.size) hP hnw h1 h2 h3 h4 h5 hm64 hls64.out htg hB2.size); have hB2' := Lib.hid (below_then hB1.out hB2); have hz2 := hB2.size; clear hP hnw h1 h2 h3 h4 h5 hB2 htg tok1)
    | (go_at_call 15; refine (hbg.out _ (newTag w1 (fun _ => 3)) hB2'.out (fun j hj => newTag3 hj hB1.out.size)).mono ?_; rintro e w3 ⟨by', mby, xby, dvy, vy, sy, tagy, rfl, hP, hnw, h1, h2, h3, h4, h5, htg, hB3⟩; have hAy := Lib.hid (AP.begin (E := w1.heap.size) hP hnw h1 h2 h3 h4 h5 hm64 hls64.out (fun j hj => by rw [htg j (by omega)]; exact newTag3 hj (Nat.le_refl _)) (Nat.le_trans hz2 hB3.size)); have hAx3 := Lib.hid (hAx.out.retag.keep hB3); have hSep := Lib.hid (show Sep w3 (newTag w2 tagx) tagy from sep_begin (E := w1.heap.size) htg (by obtain ⟨_, _, _, _, _, _, g3, _⟩ := hAx.out; exact g3)); have hB3' := Lib.hid (below_then hB2'.out hB3); have hz3 := hB3.size; clear hP hnw h1 h2 h3 h4 h5 hB3 htg))
  go_loopw [9] (fun i wr => ∃ k : Nat, k ≤ ps.length ∧ i = .int .i64 k ∧ R1 w wr w1.heap.size w2.heap.size bx mbx xbx by' mby xby dvx vx dvy vy LS k (runC LS (c0C m) (ps.take k))) (fun i _ => ps.length - (intOf i).toNat)
  case atStart => exact ⟨0, Nat.zero_le _, rfl, _, _, hAx3.out, hAy.out, hSep.out, hB3'.out⟩
  case round =>
    clear hAx hAy hSep hB3' hAx3 hB2'
    obtain ⟨k, hk, rfl, tx, ty, hX, hY, hS, hB⟩ := hrel
    by_cases hlt : k < ps.length
    · obtain ⟨p, hp⟩ : ∃ p, ps[k]? = some p := ⟨_, List.getElem?_eq_getElem hlt⟩
      have hpl := hp8.out p (List.mem_of_getElem? hp)
      have htk : ps.take (k + 1) = ps.take k ++ [p] := by rw [List.take_add_one, hp]; rfl
      obtain ⟨g1, o1, u1, rfl, hu1, r1⟩ := (hr.keep hB).at1 hlt
      have hpu : (ps.map (fun p => Value.int .u8 (p : Nat)))[k]? = some (.int .u8 p) := by rw [List.getElem?_map, hp]; rfl
      obtain rfl : u1 = .int .u8 p := by rw [hpu] at hu1; exact (Option.some.inj hu1).symm
      have hcv : IntKind.i64.wrap (p : Int) = p := by simp [IntKind.wrap, IntKind.bits, IntKind.signed]; omega
      obtain ⟨C, hC⟩ : ∃ C, runC LS (c0C m) (ps.take k) = C := ⟨_, rfl⟩
      rw [hC] at hX hY
      obtain ⟨D, hD⟩ : ∃ D, stepC LS C p = D := ⟨_, rfl⟩
      have hend : runC LS (c0C m) (ps.take (k + 1)) = D.1 := by rw [htk, runC_snoc, hC, hD]
      have hpx := fun W (h : AP W w1.heap.size w1.heap.size bx mbx xbx dvx vx LS tx k C) => h.pick (by omega) p
      have hpy := fun W t' (h : AP W w1.heap.size w2.heap.size by' mby xby dvy vy LS t' k C) => h.pick (by omega) p
      rw [hD] at hpx hpy
      have x0 := hX.ptr0
      have x0' : wr.drew.cell? ⟨xbx, 0, none⟩ = some (.pointer (some ⟨bx, 0, none⟩)) := x0
      have r1' : wr.drew.cell? ⟨g1, o1 + k, none⟩ = some (.int .u8 p) := r1
      replace hend := Lib.hid hend
      replace hpu := Lib.hid hpu
      replace hpx := Lib.hid hpx
      replace hpy := Lib.hid hpy
      replace hX := Lib.hid hX
      replace hY := Lib.hid hY
      replace hS := Lib.hid hS
      replace hB := Lib.hid hB
      clear hu1 hp htk hC hD
      unfold ptr at hpx hpy
      go_upto_region 9 with (fail)
      rw [show Op.load 24 (Operand.tmp 39) = id (Op.load 24 (Operand.tmp 39)) from rfl, show Op.load 5 (Operand.tmp 43) = id (Op.load 5 (Operand.tmp 43)) from rfl]
      go_region_held3 (fun _ => True) (exact trivial) ((first
        | (go_at_call 13; refine (hpx.out _ (hX.out.keep (Below.refl _ _).drew)).mono ?_; rintro e w4 ⟨rfl, tx4, hX4, ht4, hf4⟩; have hY4 := Lib.hid ((hY.out.keep (Below.refl _ _).drew).aside hS.out hf4); have hS4 := Lib.hid (show Sep w4 tx4 (newTag wr.drew ty) from Sep.turn (w := wr.drew) hS.out ht4); have hB4 := Lib.hid (hX.out.below hB.out hB1.out.size ((Fr.refl _ _).drew.then hf4 (fun _ _ e => e))); have y1 : w4.cell? ⟨g1, o1 + k, none⟩ = some (.int .u8 p) := (hr.keep hB4.out).cellAt hpu.out; replace hX4 := Lib.hid hX4; clear hf4 ht4)))
      all_goals
        have y0 : w4.cell? ⟨xby, 0, none⟩ = some (.pointer (some ⟨by', 0, none⟩)) := hY4.out.ptr0
        have y0' : w4.drew.cell? ⟨xby, 0, none⟩ = some (.pointer (some ⟨by', 0, none⟩)) := y0
        have y1' : w4.drew.cell? ⟨g1, o1 + k, none⟩ = some (.int .u8 p) := y1
        clear x0 x0' r1 r1'
        go_upto_region 10 with (fail)
        rw [show Op.load 24 (Operand.tmp 52) = id (Op.load 24 (Operand.tmp 52)) from rfl, show Op.load 5 (Operand.tmp 56) = id (Op.load 5 (Operand.tmp 56)) from rfl]
        go_region_held3 (fun _ => True) (exact trivial) ((first
          | (go_at_call 13; refine (hpy.out _ _ (hY4.out.keep (Below.refl _ _).drew)).mono ?_; rintro e w5 ⟨rfl, ty5, hY5, ht5, hf5⟩; have hX5 := Lib.hid ((hX4.out.keep (Below.refl _ _).drew).aside hS4.out.symm hf5); have hS5 := Lib.hid (show Sep w5 ty5 (newTag w4.drew tx4) from Sep.turn (w := w4.drew) hS4.out.symm ht5); have hB5 := Lib.hid (hY4.out.below hB4.out hB1.out.size ((Fr.refl _ _).drew.then hf5 (fun _ _ e => e))); replace hY5 := Lib.hid hY5; clear hf5 ht5)))
        all_goals
          go_wp2_with fail
          go_roundw
          all_goals (first
            | (simp only [intOf]; omega)
            | exact ⟨k + 1, by omega, by go_num, _, _, by rw [hend.out]; exact hX5.out, by rw [hend.out]; exact hY5.out, hS5.out.symm, hB5.out⟩)
    · obtain rfl : k = ps.length := by omega
      rw [List.take_length] at hX
      obtain ⟨wo, rfl⟩ : ∃ wo : World, wo = wr := ⟨_, rfl⟩
      obtain ⟨CX, hCX⟩ : ∃ CX, runC LS (c0C m) ps = CX := ⟨_, rfl⟩
      rw [hCX] at hX
      have hEw : w1.heap.size ≤ wo.heap.size := by obtain ⟨_, _, _, _, _, _, _, g⟩ := hX; exact g
      have hE3 : ∀ j, j < w1.heap.size → tx j = 3 := by obtain ⟨_, _, _, _, _, _, g, _⟩ := hX; exact g
      replace hCX := Lib.hid hCX
      replace hX := Lib.hid hX
      replace hE3 := Lib.hid hE3
      have hB := Lib.hid hB
      clear hY hS
      go_upto_region 16 with (first
        | (go_at_call 15; refine (hbg.out _ (newTag w1 (fun _ => 3)) hB.out (fun j hj => newTag3 hj hB1.out.size)).mono ?_; rintro e w6 ⟨bz, mbz, xbz, dvz, vz, sz, tagz, rfl, hP, hnw, h1, h2, h3, h4, h5, htg, hB6⟩; have hAz := Lib.hid (AP.begin (E := w1.heap.size) hP hnw h1 h2 h3 h4 h5 hm64 hls64.out (fun j hj => by rw [htg j (by omega)]; exact newTag3 hj (Nat.le_refl _)) (Nat.le_trans hEw hB6.size)); have hX6 := Lib.hid (hX.out.retag.keep hB6); have hS6 := Lib.hid (show Sep w6 (newTag wo tx) tagz from sep_begin (E := w1.heap.size) htg hE3.out); have hB6' := Lib.hid (below_then hB.out hB6); have hz6 := hB6.size; clear hP hnw h1 h2 h3 h4 h5 hB6 htg))
      clear hX hB hbg hlv hls64
      have hw6 := hB6'.out.size
      go_wp2_with fail
      go_loopw [15, 16] (fun v i wr => ∃ k : Nat, k ≤ ps.length ∧ i = .int .i64 k ∧ OW wr w6.heap.size 1 v k (bnI (ps.take k)) ∧ Below w6.heap.size w6 wr) (fun _ i _ => ps.length - (intOf i).toNat)
      case atStart => exact ⟨0, Nat.zero_le _, rfl, OW.nil _ _ _, Below.refl _ _⟩
      case round =>
        obtain ⟨k, hk, rfl, hO, hBk⟩ := hrel
        obtain ⟨Ak, ck, rfl, -⟩ := hO.shape
        by_cases hlt : k < ps.length
        · obtain ⟨p, hp⟩ : ∃ p, ps[k]? = some p := ⟨_, List.getElem?_eq_getElem hlt⟩
          have hpl := hp8.out p (List.mem_of_getElem? hp)
          have htk : bnI (ps.take (k + 1)) = bnI (ps.take k) ++ [.int .i64 p] := by rw [List.take_add_one, hp, bnI_app]; rfl
          obtain ⟨g1, o1, u1, rfl, hu1, r1⟩ := (hr.keep (below_then hB6'.out hBk)).at1 hlt
          have hpu : (ps.map (fun p => Value.int .u8 (p : Nat)))[k]? = some (.int .u8 p) := by rw [List.getElem?_map, hp]; rfl
          obtain rfl : u1 = .int .u8 p := by rw [hpu] at hu1; exact (Option.some.inj hu1).symm
          have hcv : IntKind.i64.wrap (p : Int) = p := by simp [IntKind.wrap, IntKind.bits, IntKind.signed]; omega
          have hzk := hBk.size
          replace htk := Lib.hid htk
          clear hpu hu1 hp
          go_wp2_with (first
            | (at_builtin; refine wpList_append_ow rfl _ _ 26 rfl w6.heap.size 3 Try.underlying26 infoInt rfl (by decide) _ k _ rfl (hO.alloc _) _ 1 1 [.int .i64 p] rfl (rd_one rfl _ _) (by intro u hu; simp at hu; subst hu; rfl) (by unfold maxLen; omega) (by omega) (by simp; omega) ?_; intro v5 w5 hown5 hgr5 hcase5; have hB5 : Below w6.heap.size w6 w5 := below_grow (hBk.alloc hBk.size _) (by simp; omega) (hO.alloc _) (Nat.le_refl _) hgr5; clear hgr5 hcase5))
          go_roundw
          case rel => exact ⟨k + 1, by omega, by go_num, by rw [htk.out]; exact hown5, hB5⟩
          case measure => simp only [intOf]; omega
        · obtain rfl : k = ps.length := by omega
          rw [List.take_length] at hO
          have hcap : ps.length ≤ ck := by
            rcases hO.2 with ⟨e, h0⟩ | ⟨g', o', c', e, _, _, hnc, _⟩
            · omega
            · injection e with _ _ e; omega
          obtain ⟨kk, hkk⟩ : ∃ kk, cut % (ps.length + 1) = kk := ⟨_, rfl⟩
          have hkl : kk ≤ ps.length := by have := Nat.mod_lt cut (show 0 < ps.length + 1 by omega); omega
          have hmod : (cut : Int) % ((ps.length : Int) + 1) = (kk : Int) := by rw [← hkk]; simp
          have hcv : IntKind.i64.wrap (cut : Int) = cut := by simp [IntKind.wrap, IntKind.bits, IntKind.signed]; omega
          have hc0 : (0 : Int) ≤ (cut : Int) := by omega
          have hX7 := hX6.out.keep hBk
          have hZ7 := hAz.out.retag.keep hBk
          have hS7 : Sep wr (newTag w6 (newTag wo tx)) (newTag w6 tagz) := (Sep.turn (w := w6) (w' := wr) (tx := newTag wo tx) (tx' := newTag w6 (newTag wo tx)) hS6.out (fun j hj => newTag_old hj))
          have hX7 : AP wr w1.heap.size w1.heap.size bx mbx xbx dvx vx LS (newTag w6 (newTag wo tx)) ps.length CX := hX6.out.retag.keep hBk
          have hB7 := below_then hB6'.out hBk
          have hw7 := hBk.size
          replace hkk := Lib.hid hkk
          replace hO := Lib.hid hO
          replace hX7 := Lib.hid hX7
          replace hZ7 := Lib.hid hZ7
          replace hS7 := Lib.hid hS7
          replace hB7 := Lib.hid hB7
          clear hX6 hAz hS6 hB6' hBk
          go_upto_if 96 with (fail)
          simp only [hmod]
          replace hmod := Lib.hid hmod
          go_cut [17] (fun y wx => y = .int .i64 kk ∧ ∃ ta tb, AP wx w1.heap.size w1.heap.size bx mbx xbx dvx vx LS ta ps.length CX ∧ AP wx w1.heap.size wo.heap.size bz mbz xbz dvz vz LS tb (ps.length + ps.length) CX ∧ Sep wx ta tb ∧ Below w.heap.size w wx)
          case first =>
            by_cases hn0 : ps.length = 0
            · have hps : ps = [] := List.eq_nil_of_length_eq_zero hn0
              have hCX0 : CX = c0C m := by rw [← hCX.out, hps]; rfl
              have hd0 : decide (0 < ps.length) = false := decide_eq_false (by omega)
              have hd1 : decide ((0 : Int) < (ps.length : Int)) = false := decide_eq_false (by omega)
              have hd2 : ¬ 0 < ps.length := by omega
              replace hn0 := Lib.hid hn0
              replace hps := Lib.hid hps
              replace hCX0 := Lib.hid hCX0
              go_wp2_with fail
              go_meet
              exact ⟨rfl, _, _, hX7.out, by rw [hCX0.out]; exact hZ7.out.more (Nat.zero_le _), hS7.out, hB7.out⟩
            · obtain ⟨g, o, rfl, -⟩ := hO.out.rd.2 (by omega)
              have hd1 : decide ((0 : Int) < (ps.length : Int)) = true := decide_eq_true (by omega)
              have hnp : 0 < ps.length := by omega
              have hrun1 := hZ7.out.run (g := g) (o := o) (n := ps.length) (c := ck) (most := kk) ps hO.out.rd hnp (by omega) hkl (by omega)
              obtain ⟨CK, hCK⟩ : ∃ CK, runC LS (c0C m) (ps.take kk) = CK := ⟨_, rfl⟩
              rw [hCK] at hrun1
              have hrun2 := fun W t' (h : AP W w1.heap.size wo.heap.size bz mbz xbz dvz vz LS t' (0 + kk) CK) g' o' c' (hrd : Rd W 1 (some ⟨g', o', none⟩) ps.length (bnI (ps.drop kk) ++ bnI (ps.take kk))) =>
                h.run (g := g') (o := o') (n := ps.length) (c := c') (most := ps.length - kk) (ps.drop kk ++ ps.take kk) (by rw [bnI_app]; exact hrd) hnp (by omega) (by omega) (by omega)
              have hfin : runC LS CK ((ps.drop kk ++ ps.take kk).take (ps.length - kk)) = CX := by
                rw [List.take_append_of_le_length (by simp), List.take_of_length_le (by simp), ← hCK, ← runC_app, List.take_append_drop]
                exact hCX.out
              rw [hfin] at hrun2
              have hsub : IntKind.i64.wrap ((ps.length : Int) - (kk : Int)) = ((ps.length - kk : Nat) : Int) := by simp [IntKind.wrap, IntKind.bits, IntKind.signed]; omega
              have hz0 := hZ7.out.ptr0
              have hlg := (hO.out.lt g rfl).1
              have htz : ∀ j, ownT (newTag w6 tagz) j → j < w6.heap.size := fun j hj => (ownT_new hj).1
              replace htz := Lib.hid htz
              replace hrun1 := Lib.hid hrun1
              replace hrun2 := Lib.hid hrun2
              replace hfin := Lib.hid hfin
              replace hCK := Lib.hid hCK
              replace hn0 := Lib.hid hn0
              unfold ptr at hrun1 hrun2
              go_upto_region 24 with (first
                | (go_at_call 16; refine hrun1.out.mono ?_; rintro e w8 ⟨j8, rfl, tz8, hZ8, ht8, hf8⟩; have hX8 := Lib.hid (hX7.out.aside hS7.out.symm hf8); have hS8 := Lib.hid (show Sep w8 tz8 (newTag wr (newTag w6 (newTag wo tx))) from Sep.turn (w := wr) hS7.out.symm ht8); have hB8 := Lib.hid (hZ7.out.below hB7.out hB1.out.size hf8); have hO8 := Lib.hid (hO.out.fr hf8 (fun q e hq => by have := htz.out q hq; have := (hO.out.lt q e).1; omega)); have a0 : w8.cell? ⟨xbz, 0, none⟩ = some (.pointer (some ⟨bz, 0, none⟩)) := hZ8.ptr0; have hz8 := hf8.size; replace hZ8 := Lib.hid hZ8; clear hf8 ht8))
              have a0' : w8.drew.cell? ⟨xbz, 0, none⟩ = some (.pointer (some ⟨bz, 0, none⟩)) := a0
              have hxz : xbz < w8.heap.size := cell_lt a0
              rw [show Op.load 24 (Operand.tmp 106) = id (Op.load 24 (Operand.tmp 106)) from rfl]
              have hl8 := hO8.out.rd
              have hcap8 := hcap
              have hi0 : (0 : Int) ≤ (kk : Int) := by omega
              have hi1 : (kk : Int) ≤ (ps.length : Int) := by omega
              have hi2 : (kk : Int) ≤ (ck : Int) := by omega
              have hi3 : ((kk : Int)).toNat = kk := by omega
              have hi4 : ck ≠ 0 := by omega
              go_region_held3 (fun _ => True) (exact trivial) ((first
                | (refine step_append_ow rfl _ _ 26 rfl w8.heap.size 3 Try.underlying26 infoInt rfl (by decide) _ 0 [] rfl (OW.empty (by simp) (Bl.new' (by simp))) _ (ps.length - kk) _ (bnI (ps.drop kk)) rfl (by rw [bnI_drop]; exact rd_drop2 (hl8.keep (((Below.refl _ _).alloc (Nat.le_refl _) _).drew)) hcap hkl) (bnI_one _) (by unfold maxLen; omega) (by omega) (by simp) ?_; intro v9 w9 ho9 hg9 _; have hB9 : Below w8.heap.size w8 w9 := below_grow (((Below.refl _ _).alloc (Nat.le_refl _) _).drew) (by simp) (OW.empty (T := 3) (size := 1) (base := w8.heap.size) (by simp) (Bl.new' (by simp))) (Nat.le_refl _) hg9; rw [Nat.zero_add, List.nil_append] at ho9; obtain ⟨A9, c9, rfl, -⟩ := ho9.shape; have a9 : w9.cell? ⟨xbz, 0, none⟩ = some (.pointer (some ⟨bz, 0, none⟩)) := cell_keep hB9 a0; replace ho9 := Lib.hid ho9; have hl9 := Lib.hid (rd_take (hl8.keep hB9) hkl); replace hB9 := Lib.hid hB9; clear hg9; obtain ⟨Av, hAv⟩ : ∃ Av, (if ck = kk then some (⟨g, o, none⟩ : Addr) else some ⟨g, o + kk, none⟩) = Av := ⟨_, rfl⟩; rw [hAv]; clear hAv)
                | (refine step_append_ow rfl _ _ 26 rfl w8.heap.size 3 Try.underlying26 infoInt rfl (by decide) _ (ps.length - kk) _ rfl ho9.out _ kk _ (bnI (ps.take kk)) rfl (by rw [bnI_take]; exact hl9.out) (bnI_one _) (by unfold maxLen; omega) (by omega) (hB9.out.size) ?_; intro v10 w10 ho10 hg10 _; have hB10 : Below w8.heap.size w8 w10 := below_grow hB9.out hB9.out.size ho9.out (Nat.le_refl _) hg10; rw [Nat.sub_add_cancel hkl] at ho10; obtain ⟨A10, c10, rfl, -⟩ := ho10.shape; obtain ⟨g10, o10, rfl, -⟩ := ho10.rd.2 hnp; have a10 : w10.cell? ⟨xbz, 0, none⟩ = some (.pointer (some ⟨bz, 0, none⟩)) := cell_keep hB10 a0; replace ho10 := Lib.hid ho10; replace hB10 := Lib.hid hB10; clear hg10)
                | (go_at_call 16; refine (hrun2.out _ _ (hZ8.out.retag.keep hB10.out) g10 o10 c10 ho10.out.rd).mono ?_; rintro e w11 ⟨j11, rfl, tz11, hZ11, ht11, hf11⟩; have hX11 := Lib.hid ((hX8.out.retag.keep hB10.out).aside (show Sep w10 (newTag w8 tz8) (newTag w8 (newTag wr (newTag w6 (newTag wo tx)))) from (Sep.turn (w := w8) (w' := w10) (hS8.out) (tx' := newTag w8 tz8) (fun j hj => newTag_old hj))) hf11); have hS11 := Lib.hid (show Sep w11 tz11 (newTag w10 (newTag w8 (newTag wr (newTag w6 (newTag wo tx))))) from Sep.turn (w := w10) (Sep.turn (w := w8) (w' := w10) (hS8.out) (tx' := newTag w8 tz8) (fun j hj => newTag_old hj)) ht11); have hB11 := Lib.hid ((hZ8.out.retag.keep hB10.out).below (below_then hB8.out hB10.out) hB1.out.size hf11); replace hZ11 := Lib.hid hZ11; clear hf11 ht11)))
              all_goals
                go_wp2_with fail
                go_meet
                exact ⟨rfl, _, _, hX11.out, hZ11.out.more (by omega), hS11.out.symm, hB11.out⟩
          case rest =>
            obtain ⟨rfl, ta, tb, hX, hZ, hS, hB⟩ := hcut
            obtain ⟨tvx, x0, x2, hox, htx, hxt, hxl, hel⟩ := hX.cells
            obtain ⟨tvz, z0, z2, hoz, htz, hzt, hzl, -⟩ := hZ.cells
            obtain ⟨Ax, cx, rfl, -⟩ := hox.shape
            obtain ⟨Az, cz, rfl, hrz, -⟩ := hoz.shape
            have hEc : w1.heap.size ≤ wc.heap.size := by obtain ⟨_, _, _, _, _, _, _, g⟩ := hX; exact g
            have hE3 : ∀ j, j < w1.heap.size → ta j = 3 := by obtain ⟨_, _, _, _, _, _, g, _⟩ := hX; exact g
            have hxlt : xbx < wc.heap.size := cell_lt x0
            have hzlt : xbz < wc.heap.size := cell_lt z0
            have hzx : 100 ≤ ta xbz := (hS xbz hzlt).2 (by unfold ownT; omega)
            have hex := fun W h => AP.enabled (w := W) (C := CX) (h : AP W w1.heap.size w1.heap.size bx mbx xbx dvx vx LS ta ps.length CX) (by omega)
            have hez := fun W h => AP.enabled (w := W) (C := CX) (h : AP W w1.heap.size wo.heap.size bz mbz xbz dvz vz LS tb (ps.length + ps.length) CX) (by omega)
            have hsx := fun W h => AP.stepsC (w := W) (C := CX) (h : AP W w1.heap.size w1.heap.size bx mbx xbx dvx vx LS ta ps.length CX)
            have hsz := fun W h => AP.stepsC (w := W) (C := CX) (h : AP W w1.heap.size wo.heap.size bz mbz xbz dvz vz LS tb (ps.length + ps.length) CX)
            obtain ⟨T, hT⟩ : ∃ T, CX.told = T := ⟨_, rfl⟩
            rw [hT] at hox hoz hxl hrz x2 z2 htx
            obtain ⟨N, hN⟩ : ∃ N, enC CX = N := ⟨_, rfl⟩
            rw [hN] at hex hez hel
            obtain ⟨st, hst⟩ : ∃ st, CX.steps = st := ⟨_, rfl⟩
            rw [hst] at hsx hsz
            have tok2 : True := trivial
            have tok3 : True := trivial
            have hfin : ∀ W, Below wc.heap.size wc W → ∀ W', Fr (fun k => (Value.slice Ax T.length cx).ownBlock = some k) W W' → Below w.heap.size w W' ∧ W'.cell? ⟨xbx, 0, none⟩ = some (.pointer (some ⟨bx, 0, none⟩)) ∧ W'.cell? ⟨xbz, 0, none⟩ = some (.pointer (some ⟨bz, 0, none⟩)) ∧ W'.cell? ⟨xbx, 2, none⟩ = some (.slice Ax T.length cx) ∧ W'.cell? ⟨xbz, 2, none⟩ = some (.slice Az T.length cz) := by
              intro W hW W' hf
              have hn1 : ¬ (Value.slice Ax T.length cx).ownBlock = some xbx := fun e => by have := htx xbx e; omega
              have hn2 : ¬ (Value.slice Ax T.length cx).ownBlock = some xbz := fun e => by have := htx xbz e; omega
              have hl := hW.size
              have g : ∀ (k o : Nat) (u : Value), k < wc.heap.size → ¬ (Value.slice Ax T.length cx).ownBlock = some k → wc.cell? ⟨k, o, none⟩ = some u → W'.cell? ⟨k, o, none⟩ = some u := fun k o u hk hn hc => by
                rw [World.cell?_of_block (a := ⟨k, o, none⟩) (hf.block k (by omega) hn)]
                exact cell_keep hW hc
              refine ⟨(below_then hB hW).trans (hf.below (by have := hB.size; omega) (fun i hi e => ?_)), g _ _ _ hxlt hn1 x0, g _ _ _ hzlt hn2 z0, g _ _ _ hxlt hn1 x2, g _ _ _ hzlt hn2 z2⟩
              have := htx i e
              have := hE3 i (by have := hB1.out.size; omega)
              omega
            have hTl : T.length ≤ 640000000 := hxl
            have hNl : N.length ≤ 64 := hel
            replace hfin := Lib.hid hfin
            replace hex := Lib.hid hex
            replace hez := Lib.hid hez
            replace hsx := Lib.hid hsx
            replace hsz := Lib.hid hsz
            replace hX := Lib.hid hX
            replace hZ := Lib.hid hZ
            replace hB := Lib.hid hB
            replace hox := Lib.hid hox
            replace hrz := Lib.hid hrz
            replace htx := Lib.hid htx
            replace hE3 := Lib.hid hE3
            clear hoz htz hS hT hN hst hxt hzt hzx hxl hel hzl hO hX7 hZ7 hS7 hB7
            unfold ptr at hex hez hsx hsz
            go_upto_region 25 with (fail)
            go_region_held3 (fun w' => w'.cell? ⟨xbx, 0, none⟩ = some (.pointer (some ⟨bx, 0, none⟩)) ∧ w'.cell? ⟨xbz, 0, none⟩ = some (.pointer (some ⟨bz, 0, none⟩)) ∧ w'.cell? ⟨xbx, 2, none⟩ = some (.slice Ax T.length cx) ∧ w'.cell? ⟨xbz, 2, none⟩ = some (.slice Az T.length cz))
              ((first | exact ⟨x0, z0, x2, z2⟩ | exact ⟨by assumption, by assumption, by assumption, by assumption⟩ | exact ⟨cell_keep ((Below.refl _ _).alloc (Nat.le_refl _) _) x14, cell_keep ((Below.refl _ _).alloc (Nat.le_refl _) _) z14, cell_keep ((Below.refl _ _).alloc (Nat.le_refl _) _) X14, cell_keep ((Below.refl _ _).alloc (Nat.le_refl _) _) Z14⟩))
              ((first
                | (go_at_call 12; have _t := tok2; refine (hex.out _ (hX.out.keep (Below.refl _ _).drew)).mono ?_; rintro e w12 ⟨r12, rfl, ho12, hB12⟩; obtain ⟨A12, c12, rfl, -⟩ := ho12.shape; have hC12 : Below wc.heap.size wc w12 := below_then (Below.refl _ _).drew hB12; have x12 : w12.cell? ⟨xbx, 0, none⟩ = some (.pointer (some ⟨bx, 0, none⟩)) := cell_keep hC12 x0; have z12 : w12.cell? ⟨xbz, 0, none⟩ = some (.pointer (some ⟨bz, 0, none⟩)) := cell_keep hC12 z0; have X12 : w12.cell? ⟨xbx, 2, none⟩ = some (.slice Ax T.length cx) := cell_keep hC12 x2; have Z12 : w12.cell? ⟨xbz, 2, none⟩ = some (.slice Az T.length cz) := cell_keep hC12 z2; replace ho12 := Lib.hid ho12; replace hC12 := Lib.hid hC12; clear hB12 tok2)
                | (go_at_call 12; refine (hez.out _ (hZ.out.keep hC12.out)).mono ?_; rintro e w13 ⟨r13, rfl, ho13, hB13⟩; obtain ⟨A13, c13, rfl, -⟩ := ho13.shape; have hC13 : Below wc.heap.size wc w13 := below_then hC12.out hB13; have x13 : w13.cell? ⟨xbx, 0, none⟩ = some (.pointer (some ⟨bx, 0, none⟩)) := cell_keep hC13 x0; have z13 : w13.cell? ⟨xbz, 0, none⟩ = some (.pointer (some ⟨bz, 0, none⟩)) := cell_keep hC13 z0; have X13 : w13.cell? ⟨xbx, 2, none⟩ = some (.slice Ax T.length cx) := cell_keep hC13 x2; have Z13 : w13.cell? ⟨xbz, 2, none⟩ = some (.slice Az T.length cz) := cell_keep hC13 z2; have hq13 := Lib.hid (ho12.out.keep hB13); replace ho13 := Lib.hid ho13; replace hC13 := Lib.hid hC13; clear hB13)
                | (go_at_call 17; have _t := tok3; refine (ints_yes A12 A13 c12 c13 _ N _ hq13.out ho13.out.rd (fun a d ea ed _ => by have h1 := (ho12.out.lt a.block (by rw [ea]; rfl)).2; have h2 := (ho13.out.lt d.block (by rw [ed]; rfl)).1; omega) (by omega)).mono ?_; rintro e w14 ⟨rfl, hf14⟩; have hC14 : Below wc.heap.size wc w14 := hC13.out.trans (hf14.below hC13.out.size (fun i hi e => by have h1 := (ho12.out.lt i e).1; simp at h1; omega)); have x14 : w14.cell? ⟨xbx, 0, none⟩ = some (.pointer (some ⟨bx, 0, none⟩)) := cell_keep hC14 x0; have z14 : w14.cell? ⟨xbz, 0, none⟩ = some (.pointer (some ⟨bz, 0, none⟩)) := cell_keep hC14 z0; have X14 : w14.cell? ⟨xbx, 2, none⟩ = some (.slice Ax T.length cx) := cell_keep hC14 x2; have Z14 : w14.cell? ⟨xbz, 2, none⟩ = some (.slice Az T.length cz) := cell_keep hC14 z2; replace hC14 := Lib.hid hC14; clear hf14 tok3)
                | (go_at_call 18; ((with_reducible refine (hsx.out _ (hX.out.keep hC14.out)).mono ?_); rintro e w15 ⟨rfl, rfl⟩))
                | (go_at_call 18; ((with_reducible refine (hsz.out _ (hZ.out.keep hC14.out)).mono ?_); rintro e w15 ⟨rfl, rfl⟩))
                | (refine step_append_owg rfl _ _ 26 rfl w14.heap.size 3 Try.underlying26 infoInt rfl (by decide) _ 0 [] rfl (OW.empty (by simp) (Bl.new' (by simp))) _ T.length _ (T.map (Value.int .i64)) rfl (hrz.out.keep (below_then hC14.out ((Below.refl _ _).alloc (Nat.le_refl _) _))) (ints_one _ _) (by unfold maxLen; omega) (by omega) (by simp) ?_; intro v16 w16 ho16 hg16 _; have hB16 : Below w14.heap.size w14 w16 := below_grow ((Below.refl _ _).alloc (Nat.le_refl _) _) (by simp) (OW.empty (T := 3) (size := 1) (base := w14.heap.size) (by simp) (Bl.new' (by simp))) (Nat.le_refl _) hg16; rw [Nat.zero_add, List.nil_append] at ho16; obtain ⟨A16, c16, rfl, -⟩ := ho16.shape; have hC16 : Below wc.heap.size wc w16 := below_then hC14.out hB16; have x16 : w16.cell? ⟨xbx, 0, none⟩ = some (.pointer (some ⟨bx, 0, none⟩)) := cell_keep hC16 x0; have z16 : w16.cell? ⟨xbz, 0, none⟩ = some (.pointer (some ⟨bz, 0, none⟩)) := cell_keep hC16 z0; have X16 : w16.cell? ⟨xbx, 2, none⟩ = some (.slice Ax T.length cx) := cell_keep hC16 x2; have Z16 : w16.cell? ⟨xbz, 2, none⟩ = some (.slice Az T.length cz) := cell_keep hC16 z2; have hz14 := hC14.out.size; replace ho16 := Lib.hid ho16; replace hC16 := Lib.hid hC16; clear hg16 hB16)
                | (go_at_call 17; refine (ints_yes Ax A16 cx c16 _ T _ (hox.out.keep hC16.out) ho16.out.rd (fun a d ea ed _ => by have h1 := (hox.out.lt a.block (by rw [ea]; rfl)).2; have h2 := (ho16.out.lt d.block (by rw [ed]; rfl)).1; omega) (by omega)).mono ?_; rintro e w17 ⟨rfl, hf17⟩; obtain ⟨hB17, x17, z17, X17, Z17⟩ := hfin.out _ hC16.out _ hf17; replace hB17 := Lib.hid hB17; clear hf17)))
            all_goals
              go_wp2_with fail
              go_ret
              exact ⟨rfl, hB17.out⟩
end Go.Proofs.Ytcdhmjapeapicaa
