/- The law of turns: its walk. -/
import Derived.Test.YtefeompdhalgcaaProg
import Derived.RangeFuncNested
import Derived.RangeFuncBound
import Derived.RangeFuncCalls
import Derived.RangeFuncLeaves
import Derived.Shelf.Abstract
import Derived.Shelf.RegionOpen
import Derived.WalkKit
import Derived.OwnWalkIn
import Derived.TacticsInMore
import Derived.LoopNIn
import Derived.LoopIn
import Derived.Lib.Hide
import Derived.Outline
import Derived.RegionTactic
import Derived.BigRegion
import Derived.WalkLawsBesides
import Derived.WalkSpells
import Derived.Deep.QuietTactic
import Derived.BigQuiet
import Derived.Deep.RegionHeld3
import Derived.Lib.Bytealg
import Derived.Lib.ConvBytes
import Derived.Laws.BytesArg
import Derived.Test.YtefeompdhalgcaaSed
import Derived.Test.YtefeompdhalgcaaOwn
import Derived.Deep.DeepCutAuto
import Derived.Deep.CutBlock
import Derived.StillTailTactics
import Derived.WalkSmall
import Derived.Deep.LoopGhost
import Derived.Test.YtefeompdhalgcaaStallT
import Derived.Test.YtefeompdhalgcaaStallG
namespace Go.Proofs.Ytefeompdhalgcaa
open Go.RowKit Go.Sed
set_option maxHeartbeats 1000000
def entb (a : A3) : Int × Lit := (a.1, .bool a.2.2)
theorem zerob (w : World) : (zeroValue 4).run Try.prog w = .ok (.bool false) w := by kernel_rfl
theorem zerobd : plainElem (H := Unit) Try.prog 4 (.bool false) = some (.lit (.bool false), []) := plainElem_bool Try.underlying4 _
structure TJ (w0 : World) (b bm : Nat) (r bu : Int) (le : Int) (U O : List A3) (row : Int) (W : World) : Prop where
  lx : LX W b r bu le U O row (fun x => x < b ∨ x = bm)
  mp : Mp Try.prog 3 4 W bm ((U ++ O).map entb)
  below : Below w0.heap.size w0 W
  base : w0.heap.size ≤ b ∧ b < bm
theorem TJ.lt {w0 W : World} {b bm : Nat} {r bu le row : Int} {U O : List A3} (h : TJ w0 b bm r bu le U O row W) : ∀ x, (x < b ∨ x = bm) → x < W.heap.size := by
  rintro x (hx | rfl)
  · have := h.lx.lt; omega
  · exact h.mp.lt
theorem TJ.keep {w0 W W' : World} {b bm : Nat} {r bu le row : Int} {U O : List A3} (h : TJ w0 b bm r bu le U O row W) (hB : Below W.heap.size W W') : TJ w0 b bm r bu le U O row W' :=
  ⟨h.lx.keep hB, h.mp.keep hB, h.below.trans (hB.mono h.below.size), h.base⟩
theorem TJ.mid {w0 W W' : World} {b bm : Nat} {r bu le row : Int} {U O : List A3} (h : TJ w0 b bm r bu le U O row W) (hf : Fr (fun x => ¬ (x < b ∨ x = bm)) W W') :
    Mp Try.prog 3 4 W' bm ((U ++ O).map entb) ∧ Below w0.heap.size w0 W' :=
  ⟨h.mp.fr hf (fun e => e (.inr rfl)), h.below.trans (hf.below h.below.size (fun i hi e => e (.inl (by have := h.base; omega))))⟩
theorem entb_fresh {bu : Int} {k : Nat} {U O : List A3} (h : TP bu k U O) : ∀ p, p ∈ (U ++ O).map entb → p.1 ≠ (k : Int) := by
  intro p hp
  simp only [List.mem_map] at hp
  obtain ⟨a, ha, rfl⟩ := hp
  have := h.all a (by simpa using ha)
  simp only [entb]; omega
theorem entb_perm (k n : Int) (ur : Bool) (U O : List A3) : ((k, Lit.bool ur) :: (U ++ O).map entb).Perm (((if ur then U ++ [(k, n, ur)] else U) ++ (if ur then O else O ++ [(k, n, ur)])).map entb) := by
  have : ((if ur then U ++ [(k, n, ur)] else U) ++ (if ur then O else O ++ [(k, n, ur)])).Perm ((k, n, ur) :: (U ++ O)) := by
    cases ur
    · simp only [Bool.false_eq_true, if_false]
      rw [← List.append_assoc]
      exact List.perm_append_singleton _ _
    · simp only [if_true]
      rw [List.append_assoc]
      exact List.perm_middle
  exact (this.map entb).symm
theorem TJ.put {w0 W W' W'' : World} {b bm : Nat} {r bu le row : Int} {U O U2 O2 : List A3} {x : Int × Lit} (h : TJ w0 b bm r bu le U O row W) (hf : Fr (fun x => ¬ (x < b ∨ x = bm)) W W')
    (hl : LX W' b r bu le U2 O2 row (fun x => x < b ∨ x = bm)) (hm : Mp Try.prog 3 4 W'' bm (x :: (U ++ O).map entb)) (hg : W'.grownBy W'' (some bm)) (hp : (x :: (U ++ O).map entb).Perm ((U2 ++ O2).map entb)) :
    TJ w0 b bm r bu le U2 O2 row W'' := by
  obtain ⟨-, h3⟩ := h.mid hf
  have hF : Fr (fun x => x = bm) W' W'' := (Fr.refl _ _).grown hg (fun x e _ => by simpa using e.symm)
  exact ⟨hl.fr hF (fun x _ e => .inr e), hm.perm hp, h3.trans (hF.below h3.size (fun i hi e => by have := h.base; omega)), h.base⟩
/-- among those who go: the map still holds Uj and Oj. -/
structure VJ (w0 : World) (b bm : Nat) (r bu : Int) (vo : Value) (g : List A3) (Uj Oj : List A3) (le : Int) (U O : List A3) (row : Int) (W : World) : Prop where
  lx : LX W b r bu le U O row (fun x => x < b ∨ x = bm)
  mp : Mp Try.prog 3 4 W bm ((Uj ++ Oj).map entb)
  who : OW W (b + 1) 1 vo g.length (g.map fun a => Value.int .i64 a.1)
  nw : vo.ownBlock ≠ some bm
  below : Below w0.heap.size w0 W
  base : w0.heap.size ≤ b ∧ b < bm
theorem TJ.step {w0 W W' : World} {b bm : Nat} {r bu le le' row row' : Int} {vo : Value} {U O U' O' g : List A3} (h : TJ w0 b bm r bu le U O row W) (hf : Fr (fun x => ¬ (x < b ∨ x = bm)) W W')
    (hl : LX W' b r bu le' U' O' row' (fun x => (x < b ∨ x = bm) ∨ vo.ownBlock = some x)) (ho : OW W' W.heap.size 1 vo (g.map (·.1)).length ((g.map (·.1)).map (Value.int .i64))) :
    VJ w0 b bm r bu vo g U O le' U' O' row' W' := by
  obtain ⟨h1, h3⟩ := h.mid hf
  have hbm := h.mp.lt
  have hlb := h.lx.lt
  refine ⟨hl.mono (fun x _ e => .inl e), h1, ?_, ?_, h3, h.base⟩
  · have := ho.more (base' := b + 1) (by omega)
    simpa [List.map_map, Function.comp_def] using this
  · intro e
    have := (ho.lt _ e).1
    omega
theorem VJ.del {w0 W W' : World} {b bm : Nat} {r bu le row : Int} {vo : Value} {Uj Oj Uk Ok U O g : List A3} (h : VJ w0 b bm r bu vo g Uj Oj le U O row W) (hm : Mp Try.prog 3 4 W' bm ((Uk ++ Ok).map entb)) (hg : W.grownBy W' (some bm)) :
    VJ w0 b bm r bu vo g Uk Ok le U O row W' := by
  have hF : Fr (fun x => x = bm) W W' := (Fr.refl _ _).grown hg (fun x e _ => by simpa using e.symm)
  exact ⟨h.lx.fr hF (fun x _ e => .inr e), hm, h.who.fr hF (fun x e e' => h.nw (by rw [e, e'])), h.nw, h.below.trans (hF.below h.below.size (fun i hi e => by have := h.base; omega)), h.base⟩
theorem VJ.cell {w0 W : World} {b bm b3 o3 n c : Nat} {r bu le row : Int} {Uj Oj U O g : List A3} (h : VJ w0 b bm r bu (.slice (some ⟨b3, o3, none⟩) n c) g Uj Oj le U O row W) {j : Nat} {a : A3} (hj : g[j]? = some a) : W.cell? ⟨b3, o3 + j, none⟩ = some (.int .i64 a.1) := by
  obtain ⟨A, c', e, hr, -⟩ := h.who.shape
  simp only [Value.slice.injEq] at e
  obtain ⟨rfl, -, -⟩ := e
  exact hr.cellAt (by simp [hj])
set_option maxRecDepth 100000 in
theorem turn_walk (r bu : Int) (p : Option Addr) (c : Nat) (acts : List A4) (w : World) (hr : 0 ≤ r ∧ r ≤ 65535) (hb : 0 ≤ bu ∧ bu ≤ 65535) (ha : Rd w 4 p acts.length (fa acts)) (hc : acts.length ≤ c) (hn : acts.length ≤ 9223372036854775807)
    (hby : ∀ a, a ∈ acts → 0 ≤ a.2.2.1 ∧ a.2.2.1 < 18446744073709551616) :
    Calls Try.prog 4 #[.int .u16 r, .int .u16 bu, .slice p acts.length c] w fun e w' => e = .returned (.bool true) ∧ Below w.heap.size w w' := by
  by_cases hok : r = 0 ∨ bu = 0 ∨ bu < r
  · go_enter Try.func4, Try.ntmps4
    go_wp2_with (first
      | (go_at_call 8; refine (lives_any _).mono ?_; rintro e wo ⟨rfl, hBo⟩)
      | (go_at_call 9; refine (new_no _ _ _ hok).mono ?_; rintro e wo ⟨rfl, rfl⟩))
    go_ret
    exact ⟨rfl, hBo⟩
  · have h1 : (r == 0) = false := by rw [beq_eq_false_iff_ne]; omega
    have h2 : (bu == 0) = false := by rw [beq_eq_false_iff_ne]; omega
    have h3 : r ≤ bu := by omega
    have hr0 : 0 < r := by omega
    clear hok
    have hmm := @run_makeMap Try.prog
    replace hby := Lib.hid hby
    replace ha := Lib.hid ha
    go_enter Try.func4, Try.ntmps4
    go_wp2_with (first
      | (go_at_call 8; refine (lives_any _).mono ?_; rintro e wo ⟨rfl, hBo⟩)
      | (go_at_call 9; refine (lx_new _ _ _ h1 h2 h3).mono ?_; rintro e wl ⟨rfl, hll, hBl⟩))
    have hj0 : TJ w wo.heap.size wl.heap.size r bu bu [] [] 0 (wl.alloc (.map #[] 0)) := by
      have hlt := hll.lt
      have hm0 := Mp.made (P := Try.prog) 3 4 wl wl.heap.size rfl
      refine ⟨(hll.mono ?_).keep ((Below.refl _ _).alloc (Nat.le_refl _) _), hm0, ((hBo.trans (hBl.mono hBo.size))).alloc (Nat.le_trans hBo.size hBl.size) _, ⟨hBo.size, hlt⟩⟩
      rintro x hx (e | e)
      · exact e
      · omega
    replace hj0 := Lib.hid hj0
    have hrb := Lib.hid (And.intro hr hb)
    go_loopw [10, 11] (fun vo vi wr => ∃ k U O, vi = .int .i64 (k : Nat) ∧ vo = .int .i64 (O.length : Nat) ∧ k ≤ acts.length ∧ TP bu k U O ∧ TJ w wo.heap.size wl.heap.size r bu bu U O 0 wr) (fun _ vi _ => acts.length - (intOf vi).toNat)
    case atStart => exact ⟨0, [], [], rfl, rfl, Nat.zero_le _, ⟨by simp, by simp, by simp, by simp, by simp, by simp⟩, hj0.out⟩
    case round =>
      clear hj0 hBl hBo hll
      obtain ⟨k, U, O, rfl, rfl, hk, hp, hj⟩ := hrel
      have hpl := hp.len
      by_cases hlt : k < acts.length
      · obtain ⟨⟨a1, a2, a3, a4⟩, hak⟩ : ∃ a, acts[k]? = some a := ⟨acts[k], List.getElem?_eq_getElem hlt⟩
        obtain ⟨pb, po, rfl, q0, -, q2, q3⟩ := fa_cells (ha.out.keep hj.below) hak
        have hkz : (0 : Int) ≤ (k : Int) := by omega
        by_cases hk0 : a1 = 0
        · subst hk0
          by_cases hok : a3 ≤ bu ∧ U.length + O.length < 4096
          · have hj1 := Lib.hid (hj.keep (Below.refl _ _).drew)
            have hol : (O.length : Int) ≤ 4096 := by omega
            replace hj := Lib.hid hj
            replace hp := Lib.hid hp
            rcases a4 with _ | _
            all_goals
             go_wp2_with fail
             go_still_tail 19, (by kernel_rfl)
             change wpList _ _ _ _ _ wr.drew
             go_wp2_with fail
             refine (lx_ask _ r bu bu U O 0 _ _ _ _ _ hj1.out.lx hj1.out.lt hok.2 hok.1).mono ?_
             rintro e w3 ⟨rfl, hl3, hf3⟩
             have hmd := hj1.out.mid hf3
             clear q0 q2 q3
             obtain ⟨q0, -, q2, q3⟩ := fa_at (ha.out.keep hmd.2) hak
             have hb3 : 0 ≤ a3 ∧ a3 < 18446744073709551616 := hby.out _ (List.mem_of_getElem? hak)
             replace hl3 := Lib.hid hl3
             replace hf3 := Lib.hid hf3
             replace hmd := Lib.hid hmd
             replace hak := Lib.hid hak
             go_wp2_with (at_mapUpdate; (refine wpList_mp_put _ rfl _ _ _ 40 rfl 3 4 Try.underlying3 Try.underlying40 _ _ rfl hmd.out.1 (by have := hok.2; simp only [List.length_map, List.length_append]; unfold maxLen; omega) _ (by omega) (entb_fresh hp.out) _ _ rfl rfl (plainElem_bool Try.underlying4 _) ?_; intro w4 hm4 hg4; have hj4 := Lib.hid (hj1.out.put hf3.out hl3.out hm4 hg4 (by first | simpa using entb_perm (k : Int) a3 true U O | simpa using entb_perm (k : Int) a3 false U O)); obtain ⟨q0, -, q2, q3⟩ := fa_at (ha.out.keep hj4.out.below) hak.out; clear hm4 hg4))
             go_roundw
             case rel => exact ⟨k + 1, _, _, by go_num, by simp, by omega, by first | simpa using hp.out.ask a3 true ⟨hb3.1, hok.1⟩ hok.2 | simpa using hp.out.ask a3 false ⟨hb3.1, hok.1⟩ hok.2, hj4.out⟩
             case measure => simp [intOf]; omega
          · have hlong : bu < a3 ∨ U.length + O.length = 4096 := by omega
            have hj1 := Lib.hid (hj.keep (Below.refl _ _).drew)
            replace hj := Lib.hid hj
            replace hp := Lib.hid hp
            clear hok
            go_wp2_with fail
            go_still_tail 19, (by kernel_rfl)
            change wpList _ _ _ _ _ wr.drew
            go_wp2_with fail
            refine (lx_long _ r bu bu U O 0 _ _ _ _ _ hj1.out.lx hpl hlong).mono ?_
            rintro e w3 ⟨rfl, hl3, hB3⟩
            have hj4 := Lib.hid (hj1.out.keep hB3)
            clear q0 q2 q3 hl3 hB3
            replace hak := Lib.hid hak
            go_wp2_with fail
            go_roundw
            case rel => exact ⟨k + 1, _, _, by go_num, rfl, by omega, hp.out.next, hj4.out⟩
            case measure => simp [intOf]; omega
        · have hk0' : (a1 == 0) = false := beq_eq_false_iff_ne.2 hk0
          replace hj := Lib.hid hj
          replace hp := Lib.hid hp
          go_wp2_with fail
          go_quiet (fail)
          go_wp2_with fail
          go_roundw
          case rel => exact ⟨k + 1, _, _, by go_num, rfl, by omega, hp.out.next, hj.out.keep (below_drewN (Below.refl _ _) _)⟩
          case measure => simp [intOf]; omega
      · have hkm := Lib.hid (show (k : Int) ≤ 9223372036854775807 by omega)
        clear ha hby hk hc hn
        have hrz : ¬ r = 0 := by omega
        replace hj := Lib.hid hj
        replace hp := Lib.hid hp
        go_wp2_with fail
        have hM0 : 0 ≤ bu / r := Int.ediv_nonneg hb.1 hr.1
        have hM1 : bu / r ≤ 65535 := Int.le_trans (Int.ediv_le_self _ hb.1) hb.2
        have hM2 : wrap64 (bu / r + 1) = bu / r + 1 := by unfold wrap64; omega
        obtain ⟨M, hM⟩ : ∃ M, bu / r = M := ⟨_, rfl⟩
        rw [hM] at hM0 hM1 hM2 ⊢
        rw [hM2]
        clear hM2
        replace hM := Lib.hid hM
        obtain ⟨wn, hwn⟩ : ∃ wn, wr = wn := ⟨_, rfl⟩
        go_loopg [10, 13, 14, 15, 16, 17, 18, 19, 20] (4097 * 65540) (fun gk vo vlu vlo vrow vid _ _ _ _ wr => ∃ (le : Int) (U O : List A3) (row lrow lu lo idle : Int), vo = .int .i64 (O.length : Nat) ∧ vlu = .int .i64 lu ∧ vlo = .int .i64 lo ∧ vrow = .int .i64 lrow ∧ vid = .int .i64 idle ∧
          TQ bu k U O row lrow lu lo ∧ TJ w wo.heap.size wl.heap.size r bu le U O row wr ∧ (0 ≤ le ∧ le ≤ bu) ∧ (0 ≤ idle ∧ idle ≤ M) ∧ (le = bu ∨ idle * r ≤ le) ∧ (U.length + O.length) * 65538 + (65536 - idle.toNat) ≤ gk)
        case atStart =>
          have hz := hp.out.all
          exact ⟨bu, U, O, 0, 0, -1, -1, 0, rfl, rfl, rfl, rfl, rfl, ⟨hp.out, by omega, fun _ => rfl, by omega, fun a h => by have := hz a (.inl h); omega, fun a h => by have := hz a (.inr h); omega⟩, hj.out, by omega, by omega, .inl rfl, by omega⟩
        case round =>
          clear hj hp hwn
          obtain ⟨le, U, O, row, lrow, lu, lo, idle, rfl, rfl, rfl, rfl, rfl, hq, hj, hle, hid, hil, hgk⟩ := hrel
          have hw := hj.below
          by_cases hn0 : U.length + O.length = 0
          · obtain rfl : U = [] := List.eq_nil_of_length_eq_zero (by omega)
            obtain rfl : O = [] := List.eq_nil_of_length_eq_zero (by omega)
            replace hq := Lib.hid hq
            replace hj := Lib.hid hj
            replace hil := Lib.hid hil
            go_wp2_with (first
              | (at_len; refine wpList_mp_len _ rfl _ 40 rfl 3 4 Try.underlying40 _ _ rfl hj.out.mp 0 rfl ?_)
              | (go_at_call 12; refine (lx_waiting _ r bu le [] [] row _ _ hj.out.lx (by decide) hq.out.rowb).mono ?_; rintro e w3 ⟨v3, rfl, ho3, hB3⟩; obtain ⟨A3, c3, rfl, -⟩ := ho3.shape; clear ho3))
            go_ret
            exact ⟨rfl, hw.trans (hB3.mono hw.size)⟩
          · obtain ⟨g, le', U', O', row', hrun, hto, hperm, hle', hidle⟩ := turn_step hq ⟨hr0, hr.2⟩ hb hle hid.1 hil (by omega)
            rw [hM.out] at hidle
            have hpl : U.length + O.length ≤ 4096 := hq.pl.len
            have hlen : g.length + (U'.length + O'.length) = U.length + O.length := by have := hperm.length_eq; simp only [List.length_append] at this; omega
            have hnz : (0 : Int) < ((U.length + O.length : Nat) : Int) := by omega
            have hall := hq.pl.all
            replace hrun := Lib.hid hrun
            replace hto := Lib.hid hto
            replace hq := Lib.hid hq
            replace hj := Lib.hid hj
            replace hil := Lib.hid hil
            replace hall := Lib.hid hall
            clear hperm
            have hgg : (g = [] ∧ (idle + 1 ≤ M ∧ (le' = bu ∨ (idle + 1) * r ≤ le'))) ∨ 0 < g.length := by
              by_cases h0 : g = []
              · exact .inl ⟨h0, hidle h0⟩
              · right; cases g; exact absurd rfl h0; simp
            clear hidle
            rcases hgg with ⟨rfl, hid2, hil2⟩ | hg0
            · replace hid2 : 0 ≤ idle + 1 ∧ idle + 1 ≤ M := by omega
              have hms2 : (U'.length + O'.length) * 65538 + (65536 - (idle + 1).toNat) < gk := by simp at hlen; omega
              have hgz : ¬ (0 : Int) < ((([] : List A3).length : Nat) : Int) := by simp
              replace hil2 := Lib.hid hil2
              replace hms2 := Lib.hid hms2
              replace hid2 := Lib.hid hid2
              go_wp2_with (first
                | (at_len; refine wpList_mp_len _ rfl _ 40 rfl 3 4 Try.underlying40 _ _ rfl hj.out.mp (U.length + O.length) (by simp) ?_)
                | (go_at_call 11; refine (lx_stepTo hrun.out hj.out.lx hj.out.lt hpl (by omega) (by omega) (by omega) hq.out.rowb (fun a h => by have := hall.out a h; omega)).mono ?_; rintro e w3 ⟨po3, co3, rfl, ho3, hl3, hf3⟩; have vj0 := Lib.hid (hj.out.step hf3 hl3 ho3); clear ho3 hl3 hf3; rw [List.length_map] at *))
              obtain ⟨rfl, rfl, rfl⟩ := hto.out
              refine wp_loop_rounds 1 ?_
              rw [rounds_succ]
              go_wp2_with fail
              go_roundg ((U.length + O.length) * 65538 + (65536 - (idle + 1).toNat))
              case measure => exact hms2.out
              case rel => exact ⟨le', U, O, row, lrow, lu, lo, _, rfl, rfl, rfl, rfl, rfl, hq.out, ⟨vj0.out.lx, vj0.out.mp, vj0.out.below, vj0.out.base⟩, hle', hid2.out, hil2.out, Nat.le_refl _⟩
            · have hgz : (0 : Int) < ((g.length : Nat) : Int) := by omega
              have hgl : g.length ≤ 4096 := by omega
              have hms2 : (U'.length + O'.length) * 65538 + (65536 - (0 : Int).toNat) < gk := by
                have h1 : U.length + O.length ≥ U'.length + O'.length + 1 := by omega
                have h2 := Nat.mul_le_mul_right 65538 h1
                simp; omega
              have hM3 : ¬ M + 1 < 0 := by omega
              replace hms2 := Lib.hid hms2
              go_wp2_with (first
                | (at_len; refine wpList_mp_len _ rfl _ 40 rfl 3 4 Try.underlying40 _ _ rfl hj.out.mp (U.length + O.length) (by simp) ?_)
                | (go_at_call 11; refine (lx_stepTo hrun.out hj.out.lx hj.out.lt hpl (by omega) (by omega) (by omega) hq.out.rowb (fun a h => by have := hall.out a h; omega)).mono ?_; rintro e w3 ⟨po3, co3, rfl, ho3, hl3, hf3⟩; have vj0 := Lib.hid (hj.out.step hf3 hl3 ho3); clear ho3 hl3 hf3; rw [List.length_map] at *))
              go_loopw [10, 13, 14, 15, 18, 19, 20] (fun vo vlu vlo vrow vj _ _ w2 => ∃ (j : Nat) (Uj Oj : List A3) (rowj lrow lu lo : Int), vj = .int .i64 (j : Nat) ∧ j ≤ g.length ∧ vo = .int .i64 (Oj.length : Nat) ∧ vlu = .int .i64 lu ∧ vlo = .int .i64 lo ∧ vrow = .int .i64 lrow ∧
                TQ bu k Uj Oj rowj lrow lu lo ∧ RunTo (g.drop j) Uj Oj rowj U' O' row' ∧ VJ w wo.heap.size wl.heap.size r bu (.slice po3 g.length co3) g Uj Oj le' U' O' row' w2) (fun _ _ _ _ vj _ _ _ => g.length - (intOf vj).toNat)
              case atStart => exact ⟨0, _, _, _, _, _, _, rfl, Nat.zero_le _, rfl, rfl, rfl, rfl, hq.out, hto.out, vj0.out⟩
              case round =>
                clear vj0 hto hq hj hrun hall hil
                obtain ⟨j, Uj, Oj, rowj, lrow, lu, lo, rfl, hjl, rfl, rfl, rfl, rfl, hq, hto, hvj⟩ := hrel
                by_cases hjt : j < g.length
                · obtain ⟨ga, hga⟩ : ∃ ga, g[j]? = some ga := ⟨g[j], List.getElem?_eq_getElem hjt⟩
                  obtain ⟨b3, o3, rfl, hc3⟩ := hvj.who.rd.2 (by omega)
                  have z3 : wr.cell? ⟨b3, o3 + j, none⟩ = some (.int .i64 ga.1) := hvj.cell hga
                  have hjz : (0 : Int) ≤ (j : Int) := by omega
                  have hol : (Oj.length : Int) ≤ 4096 := by have := hq.pl.len; omega
                  rw [drop_cons hga] at hto
                  clear hc3
                  replace hga := Lib.hid hga
                  rcases hto with ⟨hah, O1, rfl, hto⟩ | ⟨hah, U1, rfl, hto⟩
                  · obtain ⟨hfl, hnl, hq2⟩ := hq.goO
                    have hgb := hq.pl.all ga (by simp)
                    have hm3 : Mp Try.prog 3 4 wr wl.heap.size ((ga.1, .bool false) :: ((Uj ++ O1).map entb)) := by
                      have := hvj.mp.perm ((List.perm_middle (a := ga) (l₁ := Uj) (l₂ := O1)).map entb)
                      rw [List.map_cons, show entb ga = (ga.1, .bool false) from by unfold entb; rw [hfl]] at this; exact this
                    obtain ⟨g1, g2, g3⟩ := ga
                    simp only at hnl hgb z3 hm3 hq2
                    have hb3 : g1 ≤ 9223372036854775807 := by have := hkm.out; omega
                    have hb1 := hgb.1
                    simp only [List.length_cons] at hol
                    have hol2 : (O1.length : Int) ≤ 4096 := by omega
                    replace hto := Lib.hid hto
                    replace hq2 := Lib.hid hq2
                    replace hvj := Lib.hid hvj
                    clear hah hfl hq hgb hol
                    go_wp2_with (first
                      | (at_lookup; refine wpList_mp_has _ rfl _ _ 40 rfl 3 4 Try.underlying3 Try.underlying40 (zerob _) _ zerobd _ _ _ _ rfl hm3 (by omega) rfl (yv := .bool false) rfl ?_)
                      | (at_delete; refine wpList_mp_del _ rfl _ _ 40 3 rfl 4 Try.underlying3 Try.underlying40 _ _ _ _ rfl hm3 (by omega) rfl ?_; intro w5 hm5 hg5; have hvj5 := Lib.hid (hvj.out.del hm5 hg5); have z5 : w5.cell? ⟨b3, o3 + j, none⟩ = some (.int .i64 g1) := hvj5.out.cell hga.out; clear hm5 hg5))
                    go_roundw
                    case rel => exact ⟨j + 1, _, _, _, _, _, _, by go_num, by omega, by go_num, rfl, rfl, rfl, hq2.out, hto.out, hvj5.out⟩
                    case measure => simp [intOf]; omega
                  · obtain ⟨hfl, hnl, h10, hq2⟩ := hq.goU hah
                    have hgb := hq.pl.all ga (by simp)
                    have hlr := hq.lr0
                    have hm3 : Mp Try.prog 3 4 wr wl.heap.size ((ga.1, .bool true) :: ((U1 ++ Oj).map entb)) := by
                      have := hvj.mp
                      rw [List.cons_append, List.map_cons, show entb ga = (ga.1, .bool true) from by unfold entb; rw [hfl]] at this; exact this
                    obtain ⟨g1, g2, g3⟩ := ga
                    simp only at hnl hgb z3 hm3 hq2
                    have hb3 : g1 ≤ 9223372036854775807 := by have := hkm.out; omega
                    have hb1 := hgb.1
                    have hl1 := hlr.1
                    have hl2 : lrow ≤ 4096 := by simp at hlr; omega
                    replace hto := Lib.hid hto
                    replace hq2 := Lib.hid hq2
                    replace hvj := Lib.hid hvj
                    obtain ⟨no, hno⟩ : ∃ no, Oj.length = no := ⟨_, rfl⟩
                    rw [hno] at h10 hol ⊢
                    replace hno := Lib.hid hno
                    clear hah hfl hq hgb hlr
                    have hcs : no = 0 ∨ (0 < (no : Int) ∧ ¬ 10 ≤ lrow) := by
                      by_cases h0 : no = 0
                      · exact .inl h0
                      · exact .inr ⟨by omega, by have := h10 (by omega); omega⟩
                    clear h10
                    rcases hcs with rfl | ⟨hc1, hc2⟩
                    all_goals
                      go_wp2_with (first
                        | (at_lookup; refine wpList_mp_has _ rfl _ _ 40 rfl 3 4 Try.underlying3 Try.underlying40 (zerob _) _ zerobd _ _ _ _ rfl hm3 (by omega) rfl (yv := .bool true) rfl ?_)
                        | (at_delete; refine wpList_mp_del _ rfl _ _ 40 3 rfl 4 Try.underlying3 Try.underlying40 _ _ _ _ rfl hm3 (by omega) rfl ?_; intro w5 hm5 hg5; have hvj5 := Lib.hid (hvj.out.del hm5 hg5); have z5 : w5.cell? ⟨b3, o3 + j, none⟩ = some (.int .i64 g1) := hvj5.out.cell hga.out; clear hm5 hg5))
                      go_roundw
                      case rel => exact ⟨j + 1, _, _, _, _, _, _, by go_num, by omega, by simp [hno.out], rfl, rfl, rfl, hq2.out, hto.out, hvj5.out⟩
                      case measure => simp [intOf]; omega
                · obtain rfl : j = g.length := by omega
                  rw [List.drop_eq_nil_of_le (Nat.le_refl _)] at hto
                  obtain ⟨rfl, rfl, rfl⟩ := hto
                  replace hq := Lib.hid hq
                  replace hvj := Lib.hid hvj
                  go_wp2_with fail
                  go_roundg ((Uj.length + Oj.length) * 65538 + (65536 - (0 : Int).toNat))
                  case measure => exact hms2.out
                  case rel => exact ⟨le', Uj, Oj, rowj, lrow, lu, lo, _, rfl, rfl, rfl, rfl, rfl, hq.out, ⟨hvj.out.lx, hvj.out.mp, hvj.out.below, hvj.out.base⟩, hle', ⟨by omega, hM0⟩, .inr (by simp; exact hle'.1), Nat.le_refl _⟩
end Go.Proofs.Ytefeompdhalgcaa
