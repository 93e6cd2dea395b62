/- The law of SchedOrder: its own walk. Conditions: what each theorem names. -/
import Derived.RangeFuncNested
import Derived.RangeFuncBound
import Derived.RangeFuncCalls
import Derived.RangeFuncLeaves
import Derived.Shelf.Abstract
import Derived.Shelf.RegionOpen
import Derived.WalkKit
import Derived.OwnWalkIn
import Derived.TacticsInMore
import Derived.LoopNIn
import Derived.LoopIn
import Derived.Lib.Hide
import Derived.Outline
import Derived.RegionTactic
import Derived.BigRegion
import Derived.WalkLawsBesides
import Derived.WalkSpells
import Derived.Deep.QuietTactic
import Derived.BigQuiet
import Derived.Deep.RegionHeld3
import Derived.Deep.DeepCutAuto
import Derived.Deep.CutBlock
import Derived.StillTailTactics
import Derived.WalkSmall
import Derived.Test.YtcdhmjapeapicaaProg
import Derived.Test.YtcdhmjapeapicaaFr
import Derived.Test.YtcdhmjapeapicaaMp
import Derived.Defers
import Derived.Recover
import Derived.Test.YtcdhmjapeapicaaSchX
import Derived.Deep.LoopGhost
import Derived.Test.YtcdhmjapeapicaaSchF
import Derived.Test.YtcdhmjapeapicaaArg
import Derived.Lib.SliceRun
namespace Go.Proofs.Ytcdhmjapeapicaa
open Go.RowKit Go.Sed Go.Maps
set_option maxHeartbeats 8000000
set_option maxRecDepth 100000
theorem rd_blk {w : World} {k size n : Nat} {T : TypeId} (hk : k = w.heap.size) (cs : List Value) (hc : cs.length = n * size) : Rd (w.alloc (.cells cs.toArray T)) size (some ⟨k, 0, none⟩) n cs :=
  ⟨hc, fun _ => ⟨k, 0, rfl, fun j u hu => by
    have h := (Bl.new' (W := w) (o := .cells cs.toArray T) hk).cell j
    rw [Nat.zero_add]
    simpa [hu] using h⟩⟩
theorem sumN_app (l : List Nat) (x : Nat) : sumN (l ++ [x]) = sumN l + x := by
  induction l with
  | nil => simp [sumN]
  | cons a l ih => simp only [List.cons_append, sumN, ih]; omega
/-- rows of bytes handed in. -/
structure LL (w : World) (vs : List Value) (ls : List (List Int)) : Prop where
  at' : ∀ (i : Nat) (l : List Int), ls[i]? = some l → ∃ p c, vs[i]? = some (.slice p l.length c) ∧ Rd w 1 p l.length (l.map (Value.int .u8)) ∧ l.length ≤ maxLen ∧ ∀ y ∈ l, 0 ≤ y ∧ y ≤ 255
theorem ds_one (l : List (Int × Int)) : ∀ u ∈ l.flatMap dsC, u.oneCell' = true := by
  intro u hu
  obtain ⟨d, -, hd⟩ := List.mem_flatMap.1 hu
  simp [dsC] at hd
  rcases hd with rfl | rfl <;> rfl
def totN (Ls : List (List Nat)) : Nat := sumN (Ls.map (fun L => 3 * L.length + 1))
theorem totN_app (Ls : List (List Nat)) (L : List Nat) : totN (Ls ++ [L]) = totN Ls + (3 * L.length + 1) := by
  unfold totN
  rw [List.map_append, List.map_singleton, sumN_app]
theorem locksL_len (l : List Int) : (locksL l).length ≤ 8 := by
  unfold locksL
  exact Nat.le_trans (List.length_filter_le _ _) (by simp)
theorem order_walk (A Ap : Option Addr) (c cp : Nat) (ls : List (List Int)) (pk : List Int) (vs0 : List Value) (w : World) (hr : Rd w 1 A ls.length vs0) (hd : LL w vs0 ls) (hll : ls.length ≤ maxLen)
    (hp : Rd w 1 Ap pk.length (pk.map (Value.int .u8))) (hpb : ∀ y ∈ pk, 0 ≤ y ∧ y ≤ 255) (hpl : pk.length ≤ maxLen) :
    Calls Try.prog 5 #[.slice A ls.length c, .slice Ap pk.length cp] w fun e w' => e = .returned (.bool true) ∧ Below w.heap.size w w' := by
  unfold maxLen at hll hpl
  replace hpb := Lib.hid hpb
  replace hd := Lib.hid hd
  go_enter Try.func5, Try.ntmps5
  go_wp2_with (first
    | (go_at_call 8; refine (lives_any _).mono ?_; rintro e w1 ⟨rfl, hB1⟩; replace hB1 := Lib.hid hB1))
  go_loopw [5, 6, 7] (fun lv tv i wr => ∃ (k : Nat) (vs : List Value) (Ls : List (List Nat)), i = .int .i64 k ∧ k ≤ ls.length ∧ k ≤ 64 ∧ BL w wr lv vs Ls ∧ Ls.length = k ∧ (∀ L ∈ Ls, L.length ≤ 8) ∧ tv = .int .i64 (totN Ls : Nat) ∧ totN Ls ≤ 25 * k ∧ Below w.heap.size w wr) (fun _ _ i _ => ls.length - (intOf i).toNat)
  case atStart => exact ⟨0, [], [], rfl, Nat.zero_le _, by omega, ⟨OW.nil _ _ _, rfl, fun i L h => by simp at h, fun L h => by simp at h⟩, rfl, fun L h => by simp at h, rfl, Nat.le_refl _, hB1.out⟩
  case round =>
    obtain ⟨k, vs, Ls, rfl, hk, hk64, hBL, hLk, hL8, rfl, hT, hB⟩ := hrel
    obtain ⟨wo, hwo⟩ : ∃ wo, wo = wr := ⟨_, rfl⟩
    subst hwo
    by_cases hc : k < ls.length ∧ k < 64
    · obtain ⟨hlt, hlt2⟩ := hc
      obtain ⟨l, hl⟩ : ∃ l, ls[k]? = some l := ⟨_, List.getElem?_eq_getElem hlt⟩
      obtain ⟨p, pc, hv, hrd, hlm, hlb⟩ := hd.out.at' k l hl
      obtain ⟨g1, o1, u1, rfl, hu1, r1⟩ := (hr.keep hB).at1 hlt
      obtain rfl : u1 = .slice p l.length pc := by rw [hv] at hu1; exact (Option.some.inj hu1).symm
      have hrw := hrd.keep hB
      have hasc := fun W (hW : Below wo.heap.size wo W) (x : Nat) (hx : x < 8) => has_any p pc l x W (hrw.keep hW) hlm hx hlb
      obtain ⟨tot, htot⟩ : ∃ tot, totN Ls = tot := ⟨_, rfl⟩
      rw [htot] at hT ⊢
      have hBz := hB.size
      replace hasc := Lib.hid hasc
      replace hBL := Lib.hid hBL
      replace hL8 := Lib.hid hL8
      replace hB := Lib.hid hB
      clear hu1 hv hl hrw hrd hlb hlm
      have hd64 : decide ((k : Int) < 64) = true := decide_eq_true (by omega)
      go_wp2_with fail
      try rw [hd64]
      clear hd64
      go_loopw [8, 9] (fun d j wx => ∃ k' : Nat, j = .int .i64 k' ∧ k' ≤ 8 ∧ OW wx wo.heap.size 2 d (upsL l k').length ((upsL l k').flatMap dsC) ∧ Below wo.heap.size wo wx) (fun _ j _ => 8 - (intOf j).toNat)
      case atStart => exact ⟨0, rfl, Nat.zero_le _, OW.nil _ _ _, Below.refl _ _⟩
      case round =>
        obtain ⟨k', rfl, hk', ho, hBx⟩ := hrel
        by_cases h8 : k' < 8
        · have rx := cell_keep hBx r1
          have hwx : IntKind.u8.wrap (k' : Int) = k' := by simp [IntKind.wrap, IntKind.bits, IntKind.signed]; omega
          have hsn := upsL_succ l k'
          have hul := upsL_len l k'
          have hcall := Lib.hid (hasc.out _ hBx k' h8)
          obtain ⟨U, hU⟩ : ∃ U, upsL l k' = U := ⟨_, rfl⟩
          rw [hU] at ho hsn hul
          obtain ⟨Ad, cd, rfl, -⟩ := ho.shape
          replace ho := Lib.hid ho
          replace hBx := Lib.hid hBx
          cases hh : hasB l k' with
          | true =>
            rw [hh] at hcall hsn
            rw [if_pos rfl] at hsn
            replace hsn := Lib.hid hsn
            replace hU := Lib.hid hU
            replace hh := Lib.hid hh
            go_wp2_with (first
              | (go_at_call 19; refine hcall.out.mono ?_; rintro e w2 ⟨rfl, rfl⟩)
              | (at_builtin; refine wpList_append_ow rfl _ _ 47 rfl wo.heap.size 50 Try.underlying47 infoDoes rfl (by decide) _ U.length _ rfl (ho.out.alloc _) _ 1 1 (dsC (-2, (k' : Int))) rfl (rd_blk rfl _ rfl) (by intro u hu; simp [dsC] at hu; rcases hu with rfl | rfl <;> rfl) (by unfold maxLen; omega) (by omega) (by have := hBx.out.size; simp; omega) ?_; intro v5 w5 hown5 hgr5 hcase5; have hB5 := Lib.hid (below_grow (hBx.out.alloc hBx.out.size _) (by have := hBx.out.size; simp; omega) (ho.out.alloc _) (Nat.le_refl _) hgr5); replace hown5 := Lib.hid hown5; clear hgr5 hcase5))
            go_roundw
            case rel => exact ⟨k' + 1, by go_num, by omega, by rw [hsn.out]; simpa using hown5.out, hB5.out⟩
            case measure => simp only [intOf]; omega
          | false =>
            rw [hh] at hcall hsn
            simp only [Bool.false_eq_true, if_false] at hsn
            replace hsn := Lib.hid hsn
            replace hU := Lib.hid hU
            replace hh := Lib.hid hh
            go_wp2_with (first
              | (go_at_call 19; refine hcall.out.mono ?_; rintro e w2 ⟨rfl, rfl⟩))
            go_roundw
            case rel => exact ⟨k' + 1, by go_num, by omega, by rw [hsn.out]; exact ho.out, hBx.out⟩
            case measure => simp only [intOf]; omega
        · obtain rfl : k' = 8 := by omega
          obtain ⟨Ad, cd, rfl, -⟩ := ho.shape
          obtain ⟨U, hU⟩ : ∃ U, upsL l 8 = U := ⟨_, rfl⟩
          have hul := upsL_len l 8
          rw [hU] at ho hul ⊢
          replace ho := Lib.hid ho
          replace hBx := Lib.hid hBx
          obtain ⟨w3, hw3⟩ : ∃ w3, w3 = wr := ⟨_, rfl⟩
          subst hw3
          rw [show ((8 : Nat) : Int) = (8 : Int) from rfl]
          go_wp2_with fail
          go_loopw [8, 10] (fun d j wx => ∃ (x y : Nat), y + x = 8 ∧ j = .int .i64 ((y : Int) - 1) ∧ OW wx wo.heap.size 2 d (U ++ downsL l x).length ((U ++ downsL l x).flatMap dsC) ∧ Below wo.heap.size wo wx) (fun _ j _ => ((intOf j) + 1).toNat)
          case atStart => exact ⟨(0 : Nat), (8 : Nat), rfl, rfl, by simpa [downsL] using ho.out, hBx.out⟩
          case round =>
            obtain ⟨x, y, hxy, rfl, ho2, hBy⟩ := hrel
            have hsn := downsL_succ l x
            have hdl := downsL_len l x
            obtain ⟨V, hV⟩ : ∃ V, U ++ downsL l x = V := ⟨_, rfl⟩
            have hVl : V.length ≤ 8 + 2 * x := by rw [← hV, List.length_append]; omega
            rw [hV] at ho2
            obtain ⟨Ae, ce, rfl, -⟩ := ho2.shape
            replace ho2 := Lib.hid ho2
            replace hV := Lib.hid hV
            rcases y with _ | y
            · obtain rfl : x = 8 := by omega
              have hVp : V = progL (locksL l) := by rw [← hV.out, ← hU, prog_ud]
              clear hsn hVl
              subst hVp
              have hrow : Rd _ 2 _ _ _ := ho2.out.rd
              have hlt2' := ho2.out.lt
              have hlk8 := locksL_len l
              have hm24 : (progL (locksL l)).length ≤ 24 := by rw [progL_len]; omega
              have hrowl := Lib.hid (hBL.out.row.keep hBy)
              have hlen1 := hBL.out.len
              have hyz := hBy.size
              have htn : ((totN (Ls ++ [locksL l]) : Nat) : Int) = (tot : Int) + ((progL (locksL l)).length : Int) + 1 := by rw [totN_app, htot, progL_len]; omega
              have htb : totN (Ls ++ [locksL l]) ≤ 25 * (k + 1) := by rw [totN_app, htot]; omega
              replace htn := Lib.hid htn
              replace hrow := Lib.hid hrow
              replace hlt2' := Lib.hid hlt2'
              replace hBy := Lib.hid hBy
              go_wp2_with (at_builtin; refine wpList_append_ow rfl _ _ 36 rfl w.heap.size 47 Try.underlying36 infoSl rfl (by decide) _ Ls.length _ rfl (hrowl.out.alloc _) _ 1 1 [.slice Ae (progL (locksL l)).length ce] rfl (rd_one rfl _ _) (by intro u hu; simp at hu; subst hu; rfl) (by unfold maxLen; omega) (by omega) (by simp; omega) ?_; intro v5 w5 hown5 hgr5 hcase5; have hB5 := Lib.hid (below_grow ((below_then hB.out hBy.out).alloc (below_then hB.out hBy.out).size _) (by simp; omega) (hrowl.out.alloc _) (Nat.le_refl _) hgr5); have hBL5 := Lib.hid (hBL.out.more (hBy.out.alloc hBy.out.size _) (hrow.out.keep ((Below.refl _ _).alloc (Nat.le_refl _) _)) (fun q e => ⟨(hlt2'.out q.block (by rw [e]; rfl)).1, Nat.lt_of_lt_of_le (hlt2'.out q.block (by rw [e]; rfl)).2 (by simp)⟩) hown5 hgr5 hcase5 (locksL_asc l)); clear hown5 hgr5 hcase5)
              go_roundw
              case rel => exact ⟨k + 1, _, Ls ++ [locksL l], by go_num, by omega, by omega, hBL5.out, by simp [hLk], fun L hL => by
                rcases List.mem_append.1 hL with e | e
                · exact hL8.out L e
                · simp at e; subst e; exact hlk8, by rw [htn.out], htb, hB5.out⟩
              case measure => simp only [intOf]; omega
            · have hy : ((y + 1 : Nat) : Int) - 1 = (y : Int) := by omega
              rw [hy]
              rw [show 7 - x = y by omega] at hsn
              have rx := cell_keep hBy r1
              have hwx : IntKind.u8.wrap (y : Int) = y := by simp [IntKind.wrap, IntKind.bits, IntKind.signed]; omega
              have hcall := Lib.hid (hasc.out _ hBy y (by omega))
              replace hBy := Lib.hid hBy
              cases hh : hasB l y with
              | true =>
                rw [hh] at hcall hsn
                rw [if_pos rfl] at hsn
                have hfin : U ++ downsL l (x + 1) = V ++ [((0 : Int), (y : Int)), (-1, 0)] := by rw [hsn, ← List.append_assoc, hV.out]
                replace hfin := Lib.hid hfin
                replace hsn := Lib.hid hsn
                replace hh := Lib.hid hh
                go_wp2_with (first
                  | (go_at_call 19; refine hcall.out.mono ?_; rintro e w2 ⟨rfl, rfl⟩)
                  | (at_builtin; refine wpList_append_ow rfl _ _ 47 rfl wo.heap.size 50 Try.underlying47 infoDoes rfl (by decide) _ V.length _ rfl (ho2.out.alloc _) _ 2 2 ([((0 : Int), (y : Int)), (-1, 0)].flatMap dsC) rfl (rd_blk rfl _ rfl) (by intro u hu; simp [dsC] at hu; rcases hu with rfl | rfl | rfl | rfl <;> rfl) (by unfold maxLen; omega) (by omega) (by have := hBy.out.size; simp; omega) ?_; intro v5 w5 hown5 hgr5 hcase5; have hB5 := Lib.hid (below_grow (hBy.out.alloc hBy.out.size _) (by have := hBy.out.size; simp; omega) (ho2.out.alloc _) (Nat.le_refl _) hgr5); replace hown5 := Lib.hid hown5; clear hgr5 hcase5))
                go_roundw
                case rel => exact ⟨x + 1, y, by omega, by go_num, by rw [hfin.out]; simpa using hown5.out, hB5.out⟩
                case measure => simp only [intOf]; omega
              | false =>
                rw [hh] at hcall hsn
                simp only [Bool.false_eq_true, if_false] at hsn
                have hfin : U ++ downsL l (x + 1) = V := by rw [hsn, hV.out]
                replace hfin := Lib.hid hfin
                replace hsn := Lib.hid hsn
                replace hh := Lib.hid hh
                go_wp2_with (first
                  | (go_at_call 19; refine hcall.out.mono ?_; rintro e w2 ⟨rfl, rfl⟩))
                go_roundw
                case rel => exact ⟨x + 1, y, by omega, by go_num, by rw [hfin.out]; exact ho2.out, hBy.out⟩
                case measure => simp only [intOf]; omega
    · have hLl : (Ls.map progL).length = Ls.length := List.length_map ..
      have hbg : ∀ Al cl, Rd wo 1 Al Ls.length vs → _ := fun Al cl hrd => begins_any Al cl vs (Ls.map progL) wo (by rw [hLl]; exact hrd) hBL.dl (by rw [hLl]; unfold maxLen; omega)
      rw [hLl, List.take_of_length_le (by rw [hLl]; omega), Nat.min_eq_left (by omega)] at hbg
      obtain ⟨Al, cl, rfl, hlr, -⟩ := hBL.row.shape
      replace hbg := Lib.hid (hbg Al cl hlr)
      have hasc := hBL.asc
      have hBz := hB.size
      obtain ⟨tot, htot⟩ : ∃ tot, totN Ls = tot := ⟨_, rfl⟩
      rw [htot] at hT ⊢
      unfold totN at htot
      replace hasc := Lib.hid hasc
      replace hB := Lib.hid hB
      replace hL8 := Lib.hid hL8
      replace htot := Lib.hid htot
      have hLn : Ls.length ≤ 64 := by omega
      have hTk : tot ≤ 1600 := by omega
      clear hBL hlr hLl hLk hT
      have hex : k = ls.length ∨ (k = 64 ∧ k < ls.length) := by omega
      rcases hex with hex | ⟨hex, hex2⟩
      all_goals (
        go_wp2_with (first
          | (go_at_call 15; refine hbg.out.mono ?_; rintro e w2 ⟨b, mb, xb, dv, v, s, tag, rfl, hP, hnew, hk0, hs0, hw0, hwi, hts, htag, hB2⟩; have hso := Lib.hid (show SO w2 wo.heap.size b mb xb dv v Ls tot 0 s (.slice none 0 0) [] from ⟨_, _, _, tag, hP, OI.start hts hnew hk0 hs0 hasc.out, by rw [htot.out]; omega, hs0, hw0, hwi, by rw [hk0]; exact Nat.le_refl _, Nat.le_refl _, hL8.out, by omega, by omega, htag, hB2.size⟩); have hB2' := Lib.hid (below_then hB.out hB2); clear hP hnew hk0 hs0 hw0 hwi hts htag hB2))
        go_loopw [12] (fun i wx => ∃ (j : Nat) (s : SS) (tv : Value) (told : List Int), i = .int .i64 j ∧ SO wx wo.heap.size b mb xb dv v Ls tot j s tv told ∧ Below w.heap.size w wx) (fun i _ => tot - (intOf i).toNat)
        case atStart => exact ⟨0, s, _, _, rfl, hso.out, hB2'.out⟩
        case round =>
          obtain ⟨j, s', tv, told, rfl, hso', hB'⟩ := hrel
          obtain ⟨wp, hwp⟩ : ∃ wp, wp = wr := ⟨_, rfl⟩
          subst hwp
          obtain ⟨hsh, hsd, hn64, hx, hot, ht0, htl, hjt, hbz⟩ := hso'.facts
          obtain ⟨At, ct, rfl, hrt, -⟩ := hot.shape
          have x0 : wp.cell? ⟨xb, 0, none⟩ = some (.pointer (some ⟨b, 0, none⟩)) := hx.cell 0
          have x2 := hx.cell 2
          have x3 := hx.cell 3
          have hali := fun W (h : SH W wo.heap.size b mb v s') => Alive_any wo.heap.size b mb v s' W h hn64
          have hdead := fun W (h : SH W wo.heap.size b mb v s') => dead_any wo.heap.size b mb v s' W h hsd hn64
          unfold ptr at hali hdead
          clear hx hot hsd
          replace hsh := Lib.hid hsh
          replace hB' := Lib.hid hB'
          replace ht0 := Lib.hid ht0
          rcases hal : thoseI aliveB s'.ts with _ | ⟨i0, R⟩
          · rw [hal] at hali
            replace hali := Lib.hid hali
            replace hal := Lib.hid hal
            clear hdead hso' hso
            go_wp2_with (first
              | (go_at_call 14; refine (hali.out _ hsh.out).mono ?_; rintro e w6 ⟨r6, rfl, ho6, hB6⟩; obtain ⟨A6, c6, rfl, -⟩ := ho6.shape; simp only [List.map_nil, List.length_nil]; clear ho6; have y2 := cell_keep hB6 x2; have y3 := cell_keep hB6 x3; have hrt6 := hrt.keep hB6; replace hB6 := Lib.hid hB6))
            go_loopw [16] (fun i wx => ∃ q : Nat, i = .int .i64 q ∧ q ≤ told.length ∧ wx = w6) (fun i _ => told.length - (intOf i).toNat)
            case atStart => exact ⟨0, rfl, Nat.zero_le _, rfl⟩
            case round =>
              obtain ⟨q, rfl, hq, rfl⟩ := hrel
              by_cases hlt : q < told.length
              · obtain ⟨g1, o1, u1, rfl, hu1, r1⟩ := hrt6.at1 hlt
                obtain rfl : u1 = .int .i64 0 := by
                  rw [List.getElem?_map, List.getElem?_eq_getElem hlt] at hu1
                  rw [ht0.out _ (List.getElem_mem hlt)] at hu1
                  exact (Option.some.inj hu1).symm
                clear hu1
                go_wp2_with fail
                go_roundw
                case rel => exact ⟨q + 1, by go_num, by omega, by first | rfl | trivial⟩
                case measure => simp only [intOf]; omega
              · obtain rfl : q = told.length := by omega
                go_wp2_with fail
                go_ret
                exact ⟨rfl, below_then hB'.out hB6.out⟩
          · have hal' : thoseI aliveB s'.ts ≠ [] := by rw [hal]; simp
            have hdl := hso'.dead hal'
            rw [hdl] at hdead
            rw [hal] at hali
            have hpick := fun W (hW : SO W wo.heap.size b mb xb dv v Ls tot j s' (.slice At told.length ct) told) (q : Nat) => hW.pick hal' q
            unfold ptr at hpick
            replace hpick := Lib.hid hpick
            replace hali := Lib.hid hali
            replace hdead := Lib.hid hdead
            replace hal := Lib.hid hal
            replace hso' := Lib.hid hso'
            clear hal' hdl hso
            by_cases hpk : 0 < pk.length
            · obtain ⟨g1, o1, u1, rfl, hu1, r1⟩ := (hp.keep hB'.out).at1 (k := j % pk.length) (Nat.mod_lt _ hpk)
              obtain ⟨y, hy⟩ : ∃ y, pk[j % pk.length]? = some y := ⟨_, List.getElem?_eq_getElem (Nat.mod_lt _ hpk)⟩
              obtain rfl : u1 = .int .u8 y := by
                rw [List.getElem?_map, hy] at hu1
                exact (Option.some.inj hu1).symm
              have hyb := hpb.out y (List.mem_of_getElem? hy)
              obtain ⟨q, rfl⟩ : ∃ q : Nat, y = (q : Int) := ⟨y.toNat, by omega⟩
              have hwx : IntKind.i64.wrap (q : Int) = q := by simp [IntKind.wrap, IntKind.bits, IntKind.signed]; omega
              clear hu1 hy
              have hm0 : 0 ≤ (j : Int) % (pk.length : Int) := Int.emod_nonneg _ (by omega)
              have hm1 : (j : Int) % (pk.length : Int) < (pk.length : Int) := Int.emod_lt_of_pos _ (by omega)
              have hm2 : ((j : Int) % (pk.length : Int)).toNat = j % pk.length := by omega
              go_wp2_with (first
                | (go_at_call 14; refine (hali.out _ hsh.out).mono ?_; rintro e w6 ⟨r6, rfl, ho6, hB6⟩; obtain ⟨A6, c6, rfl, -⟩ := ho6.shape; simp only [List.map_cons, List.length_cons]; clear ho6; have y0 := cell_keep hB6 x0; have r6 := cell_keep hB6 r1; replace hB6 := Lib.hid hB6)
                | (go_at_call 20; refine (hdead.out _ (hsh.out.keep hB6.out)).mono ?_; rintro e w7 ⟨r7, rfl, ho7, hB7⟩; obtain ⟨A7, c7, rfl, -⟩ := ho7.shape; simp only [List.map_nil, List.length_nil]; clear ho7; have z0 := cell_keep hB7 y0; replace hB7 := Lib.hid hB7)
                | (go_at_call 13; refine (hpick.out _ ((hso'.out.keep hB6.out).keep hB7.out) q).mono ?_; rintro e w8 ⟨n8, s8, tv8, told8, rfl, hso8, hjt8, hB8⟩; replace hso8 := Lib.hid hso8; replace hB8 := Lib.hid ((below_then (below_then hB'.out hB6.out) hB7.out).trans (hB8.mono hBz))))
              go_roundw
              case rel => exact ⟨j + 1, s8, tv8, told8, by go_num, hso8.out, hB8.out⟩
              case measure => simp only [intOf]; omega
            · go_wp2_with (first
                | (go_at_call 14; refine (hali.out _ hsh.out).mono ?_; rintro e w6 ⟨r6, rfl, ho6, hB6⟩; obtain ⟨A6, c6, rfl, -⟩ := ho6.shape; simp only [List.map_cons, List.length_cons]; clear ho6; have y0 := cell_keep hB6 x0; replace hB6 := Lib.hid hB6)
                | (go_at_call 20; refine (hdead.out _ (hsh.out.keep hB6.out)).mono ?_; rintro e w7 ⟨r7, rfl, ho7, hB7⟩; obtain ⟨A7, c7, rfl, -⟩ := ho7.shape; simp only [List.map_nil, List.length_nil]; clear ho7; have z0 := cell_keep hB7 y0; replace hB7 := Lib.hid hB7)
                | (go_at_call 13; refine (hpick.out _ ((hso'.out.keep hB6.out).keep hB7.out) j).mono ?_; rintro e w8 ⟨n8, s8, tv8, told8, rfl, hso8, hjt8, hB8⟩; replace hso8 := Lib.hid hso8; replace hB8 := Lib.hid ((below_then (below_then hB'.out hB6.out) hB7.out).trans (hB8.mono hBz))))
              go_roundw
              case rel => exact ⟨j + 1, s8, tv8, told8, by go_num, hso8.out, hB8.out⟩
              case measure => simp only [intOf]; omega)
end Go.Proofs.Ytcdhmjapeapicaa
