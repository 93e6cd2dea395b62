/- The law of SchedApart, walked. Conditions: what is read is of some bulk. -/
import Derived.RangeFuncNested
import Derived.RangeFuncBound
import Derived.RangeFuncCalls
import Derived.RangeFuncLeaves
import Derived.Shelf.Abstract
import Derived.Shelf.RegionOpen
import Derived.WalkKit
import Derived.OwnWalkIn
import Derived.TacticsInMore
import Derived.LoopNIn
import Derived.LoopIn
import Derived.Lib.Hide
import Derived.Outline
import Derived.RegionTactic
import Derived.BigRegion
import Derived.WalkLawsBesides
import Derived.WalkSpells
import Derived.Deep.QuietTactic
import Derived.BigQuiet
import Derived.Deep.RegionHeld3
import Derived.Deep.DeepCutAuto
import Derived.Deep.CutBlock
import Derived.StillTailTactics
import Derived.WalkSmall
import Derived.Test.YtcdhmjapeapicaaProg
import Derived.Test.YtcdhmjapeapicaaSchS
import Derived.Test.YtcdhmjapeapicaaSchI
import Derived.Test.YtcdhmjapeapicaaSdI
namespace Go.Proofs.Ytcdhmjapeapicaa
open Go.RowKit Go.Sed Go.Maps
set_option maxHeartbeats 1000000
set_option maxRecDepth 100000
theorem newT_ti {ts : List Tk} (h : newT ts) : TI 0 0 ts :=
  ⟨fun t ht => by obtain ⟨_, h1, h2, h3, _⟩ := h t ht; rw [h1, h2, h3]; exact ⟨inI0, by omega, by omega⟩, fun i j t u ht _ hk _ _ => by have := (h t (List.mem_of_getElem? ht)).1; omega⟩
theorem PI.begin {w : World} {base b mb xb m : Nat} {dv v : Value} {s : SS} {tag : Nat → Nat} {ls : List (List (Int × Int))} (hP : PX w base b mb xb dv v s (.slice none 0 0) [] false (List.replicate m 0) ls tag) (hn : newT s.ts) (h1 : s.lk = []) (h2 : s.steps = 0) (h3 : s.wishes = 0) (h4 : s.within = false) (h5 : s.ts.length ≤ 64) (hls : ∀ l ∈ ls, l.length < 10000000 ∧ ∀ d ∈ l, InI d.1 ∧ InI d.2) :
    PI w base b mb xb dv v s (.slice none 0 0) [] (List.replicate m 0) ls tag 0 :=
  ⟨hP, by rw [h2, h3]; exact newT_ti hn, by omega, by omega, h4, by rw [h1]; simp, by rw [← hP.sh.len]; exact h5, fun i a l ha _ => by
    have := List.mem_of_getElem? ha
    obtain ⟨_, e⟩ := List.mem_replicate.1 this
    omega, hls, by simp⟩
theorem DL.keep {w W : World} {vs : List Value} {ls : List (List (Int × Int))} (h : DL w vs ls) (hB : Below w.heap.size w W) : DL W vs ls :=
  ⟨h.len, fun i l hi => by
    obtain ⟨p, c, h1, h2, h3⟩ := h.at' i l hi
    exact ⟨p, c, h1, h2.keep hB, fun q e h0 => Nat.lt_of_lt_of_le (h3 q e h0) hB.size⟩⟩
theorem own4_lo {tag : Nat → Nat} {B n k : Nat} (h : ∀ j, j < B → tag j = 3) (hn : own4 tag n k) : B ≤ k := by
  unfold own4 at hn
  rcases Nat.lt_or_ge k B with e | e
  · have := h k e; omega
  · exact e
theorem may_lock {s : SS} {t : Tk} (h : mayB s t = true) (hk : t.kd = 1) : lkOf s.lk t.on = none := by
  unfold mayB at h
  rw [if_neg (by omega), if_pos hk] at h
  simpa using h
theorem apart_walk (pm0 pm : Option Addr) (cm0 cm : Nat) (ls : List (List (Int × Int))) (l : List Int) (vs0 : List Value) (w : World) (hr0 : Rd w 1 pm0 ls.length vs0) (hd0 : DL w vs0 ls) (hll : ls.length ≤ maxLen) (hr : Rd w 1 pm l.length (l.map (Value.int .u8))) (hl8 : ∀ x ∈ l, 0 ≤ x ∧ x < 256) (hlm : l.length ≤ 1048576) (hls : ∀ l ∈ ls, l.length < 10000000 ∧ ∀ d ∈ l, InI d.1 ∧ InI d.2) :
    Calls Try.prog 6 #[.slice pm0 ls.length cm0, .slice pm l.length cm] w fun e w' => e = .returned (.bool true) ∧ Below w.heap.size w w' := by
  have hlv := Lib.hid (fun W => lives_any W)
  have hbg := Lib.hid (fun W (hB : Below w.heap.size w W) => begins_any pm0 cm0 vs0 ls W (hr0.keep hB) (hd0.keep hB) hll)
  have hls64 : ∀ l ∈ ls.take 64, l.length < 10000000 ∧ ∀ d ∈ l, InI d.1 ∧ InI d.2 := fun x hx => hls x (List.mem_of_mem_take hx)
  replace hls64 := Lib.hid hls64
  replace hd0 := Lib.hid hd0
  replace hl8 := Lib.hid hl8
  replace hr0 := Lib.hid hr0
  clear hls
  go_enter Try.func6, Try.ntmps6
  go_wp2_with (first
    | (go_at_call 8; refine (hlv.out _).mono ?_; rintro e w1 ⟨rfl, hB1⟩; replace hB1 := Lib.hid hB1)
    | (go_at_call 15; refine (hbg.out _ hB1.out).mono ?_; rintro e w2 ⟨b, mb, xb, dv, v, s, tag, rfl, hP, hnw, h1, h2, h3, h4, h5, htg, hB2⟩; have hPI := Lib.hid (PI.begin hP hnw h1 h2 h3 h4 (by omega) hls64.out); replace htg := Lib.hid htg; have hB2' := Lib.hid (below_then hB1.out hB2); have hz12 := hB2.size; clear hP hnw h1 h2 h3 h4 h5 hB2))
  go_loopw [6] (fun i wr => ∃ (k : Nat) (s : SS) (tv : Value) (told : List Int) (ats : List Nat) (tag : Nat → Nat), k ≤ l.length ∧ i = .int .i64 k ∧ PI wr w1.heap.size b mb xb dv v s tv told ats (ls.take 64) tag k ∧ (∀ j, j < w1.heap.size → tag j = 3) ∧ Below w.heap.size w wr ∧ w1.heap.size ≤ wr.heap.size) (fun i _ => l.length - (intOf i).toNat)
  case atStart => exact ⟨0, s, _, _, _, tag, Nat.zero_le _, rfl, hPI.out, htg.out, hB2'.out, hz12⟩
  case round =>
    clear hPI htg hB2'
    obtain ⟨k, s, tv, told, ats, tag, hk, rfl, hI, htg, hB, hz⟩ := hrel
    by_cases hlt : k < l.length
    · obtain ⟨p, hp⟩ : ∃ p, l[k]? = some p := ⟨_, List.getElem?_eq_getElem hlt⟩
      have hp8 := hl8.out p (List.mem_of_getElem? hp)
      obtain ⟨p, rfl⟩ : ∃ p' : Nat, p = p' := ⟨p.toNat, by omega⟩
      obtain ⟨g1, o1, u1, rfl, hu1, r1⟩ := (hr.keep hB).at1 hlt
      obtain rfl : u1 = .int .u8 p := by rw [List.getElem?_map, hp] at hu1; exact (Option.some.inj hu1).symm
      have hcv : IntKind.i64.wrap (p : Int) = p := by simp [IntKind.wrap, IntKind.bits, IntKind.signed]; omega
      have hsd := hI.steady (by omega)
      have hen := Enabled_any w1.heap.size b mb v s wr hI.px.sh hsd hI.n64
      have x0 : wr.cell? ⟨xb, 0, none⟩ = some (.pointer (some ⟨b, 0, none⟩)) := hI.px.x.cell 0
      have hno := fun W hW (he : thoseI (mayB s) s.ts = []) => None_any w1.heap.size b mb p v s W hW hsd hI.within hI.n64 he
      have hwho := hI.who (p := p)
      obtain ⟨L, hL⟩ : ∃ L, thoseI (mayB s) s.ts = L := ⟨_, rfl⟩
      rw [hL] at hen hno hwho
      replace hsd := Lib.hid hsd
      replace hen := Lib.hid hen
      replace hno := Lib.hid hno
      replace hwho := Lib.hid hwho
      replace hI := Lib.hid hI
      replace htg := Lib.hid htg
      replace hB := Lib.hid hB
      unfold ptr at hen hno
      clear hu1 hp
      rcases L with _ | ⟨n0, L⟩
      · replace hL := Lib.hid hL
        go_upto_region 11 with (go_at_call 12; refine hen.out.mono ?_; rintro e w3 ⟨r, rfl, ho, hB3⟩; obtain ⟨A1, c1, rfl, -⟩ := ho.shape; simp only [List.length_nil]; have y0 : w3.cell? ⟨xb, 0, none⟩ = some (.pointer (some ⟨b, 0, none⟩)) := cell_keep hB3 x0; have y1 : w3.cell? ⟨g1, o1 + k, none⟩ = some (.int .u8 p) := cell_keep hB3 r1; have hI3 := Lib.hid (hI.out.keep hB3); have hB3' := Lib.hid (below_then hB.out hB3); clear ho hB3)
        have y0' : w3.drew.cell? ⟨xb, 0, none⟩ = some (.pointer (some ⟨b, 0, none⟩)) := y0
        have y1' : w3.drew.cell? ⟨g1, o1 + k, none⟩ = some (.int .u8 p) := y1
        rw [show Op.load 24 (Operand.tmp 40) = id (Op.load 24 (Operand.tmp 40)) from rfl, show Op.load 5 (Operand.tmp 44) = id (Op.load 5 (Operand.tmp 44)) from rfl]
        go_region_held3 (fun _ => True) (exact trivial) ((first
          | (go_at_call 13; refine (hno.out _ (hI3.out.keep (Below.refl _ _).drew).px.sh rfl).mono ?_; rintro e w4 ⟨rfl, hB4⟩; have hB4' := Lib.hid (below_then (hB3'.out.drew) hB4); clear hB4)))
        all_goals
          go_wp2_with fail
          go_ret
          exact ⟨rfl, hB4'.out⟩
      · obtain ⟨n, t, l', a0, hw⟩ := hwho.out (by simp)
        have hpk := fun W (hW : PI W w1.heap.size b mb xb dv v s tv told ats (ls.take 64) tag k) => hW.pick (by omega) hw
        have hwi := fun W hW => Wish_any w1.heap.size b mb n v s t W hW hw.ht
        have hon : InI t.on := (hI.out.ti.ok t (List.mem_of_getElem? hw.ht)).1
        have hho := fun W hW => Holder_any w1.heap.size b mb t.on v s W hW hon
        have hml := may_lock hw.may
        have hql : p % (n0 :: L).length < (n0 :: L).length := Nat.mod_lt _ (by simp)
        have hqn : (n0 :: L)[p % (n0 :: L).length]? = some (n : Int) := by rw [← hL]; exact hw.hp
        obtain ⟨m, hm⟩ : ∃ m, (n0 :: L).length = m := ⟨_, rfl⟩
        obtain ⟨LL, hLL⟩ : ∃ LL, n0 :: L = LL := ⟨_, rfl⟩
        have hm0 : 0 < m := by rw [← hm]; simp
        have hm64 : m ≤ 64 := by
          rw [← hm, ← hL]
          unfold thoseI
          rw [List.length_map]
          refine Nat.le_trans (List.length_filter_le _ _) ?_
          rw [List.length_range, hI.out.px.sh.len]
          exact hI.out.n64
        rw [hm] at hen hql hqn
        rw [hLL] at hen hqn
        obtain ⟨q, hq⟩ : ∃ q, p % m = q := ⟨_, rfl⟩
        have hmod : (p : Int) % m = (q : Int) := by rw [← hq]; first | exact (Int.natCast_emod p m).symm | simp | rfl
        rw [hq] at hql hqn
        have hme : ((m : Int) == 0) = false := beq_eq_false_iff_ne.2 (by omega)
        have hp0 : (0 : Int) ≤ (p : Int) := by omega
        replace hw := Lib.hid hw
        replace hpk := Lib.hid hpk
        replace hwi := Lib.hid hwi
        replace hho := Lib.hid hho
        replace hml := Lib.hid hml
        replace hon := Lib.hid hon
        replace hL := Lib.hid hL
        replace hLL := Lib.hid hLL
        replace hm := Lib.hid hm
        replace hq := Lib.hid hq
        unfold ptr at hpk hwi hho
        go_upto_region 10 with (go_at_call 12; refine hen.out.mono ?_; rintro e w3 ⟨r, rfl, ho, hB3⟩; obtain ⟨A1, c1, rfl, hrd, -⟩ := ho.shape; have y0 : w3.cell? ⟨xb, 0, none⟩ = some (.pointer (some ⟨b, 0, none⟩)) := cell_keep hB3 x0; have y1 : w3.cell? ⟨g1, o1 + k, none⟩ = some (.int .u8 p) := cell_keep hB3 r1; have hI3 := Lib.hid (hI.out.keep hB3); have hB3' := Lib.hid (below_then hB.out hB3); have hz3 := hB3.size; clear ho hB3)
        obtain ⟨g2, o2, u2, rfl, hu2, r2⟩ := hrd.at1 hql
        obtain rfl : u2 = .int .i64 n := by rw [List.getElem?_map, hqn] at hu2; exact (Option.some.inj hu2).symm
        clear hu2 hrd
        go_upto_region 15 with (go_at_call 21; refine (hwi.out _ hI3.out.px.sh).mono ?_; rintro e w4 ⟨rfl, hB4⟩; replace hB4 := Lib.hid hB4)
        obtain ⟨w5, hw5⟩ : ∃ w5, w4.alloc (.cells #[.int .i64 t.kd, .int .i64 t.on] 31) = w5 := ⟨_, rfl⟩
        have hB5 : Below w3.heap.size w3 w5 := by rw [← hw5]; exact below_then hB4.out ((Below.refl _ _).alloc (Nat.le_refl _) _)
        have k5 : Bl w5 w4.heap.size (.cells #[.int .i64 t.kd, .int .i64 t.on] 31 (0, 0)) := by rw [← hw5]; exact Bl.new' rfl
        have z0 : w5.cell? ⟨xb, 0, none⟩ = some (.pointer (some ⟨b, 0, none⟩)) := cell_keep hB5 y0
        have z1 : w5.cell? ⟨g1, o1 + k, none⟩ = some (.int .u8 p) := cell_keep hB5 y1
        have z2 : w5.cell? ⟨w4.heap.size, 0, none⟩ = some (.int .i64 t.kd) := k5.cell 0
        have z3 : w5.cell? ⟨w4.heap.size, 1, none⟩ = some (.int .i64 t.on) := k5.cell 1
        have z0' : w5.drew.cell? ⟨xb, 0, none⟩ = some (.pointer (some ⟨b, 0, none⟩)) := z0
        have z1' : w5.drew.cell? ⟨g1, o1 + k, none⟩ = some (.int .u8 p) := z1
        have z3' : w5.drew.cell? ⟨w4.heap.size, 1, none⟩ = some (.int .i64 t.on) := z3
        have hI5 := Lib.hid (hI3.out.keep hB5)
        have hB5' := Lib.hid (below_then hB3'.out hB5)
        have hz5 := hB5.size
        rw [hw5]
        clear hw5 hB5 k5 y0 y1 r2 r1 x0 hI3 hB3' hI hB
        by_cases hkd : t.kd = 1
        · rw [hkd] at z2
          have hnone := hml.out hkd
          have hho2 := hho.out
          rw [hnone] at hho2
          simp only [Option.getD_none, Option.isSome_none] at hho2
          replace hho2 := Lib.hid hho2
          replace hkd := Lib.hid hkd
          replace hnone := Lib.hid hnone
          go_upto_region 18 with (fail)
          rw [show Op.load 24 (Operand.tmp 80) = id (Op.load 24 (Operand.tmp 80)) from rfl, show Op.load 3 (Operand.tmp 82) = id (Op.load 3 (Operand.tmp 82)) from rfl]
          go_region_held3 (fun _ => True) (exact trivial) ((first
            | (go_at_call 22; refine (hho2.out _ (hI5.out.keep (Below.refl _ _).drew).px.sh).mono ?_; rintro e w6 ⟨rfl, hw6⟩; have hI6 := Lib.hid (hw6 ▸ (hI5.out.keep (Below.refl _ _).drew)); have hB6' := Lib.hid (hw6 ▸ (hB5'.out.drew)); have v0 : w6.cell? ⟨xb, 0, none⟩ = some (.pointer (some ⟨b, 0, none⟩)) := hw6 ▸ z0'; have v1 : w6.cell? ⟨g1, o1 + k, none⟩ = some (.int .u8 p) := hw6 ▸ z1'; have hz6 : w3.heap.size ≤ w6.heap.size := hw6 ▸ hz5; clear hw6)))
          all_goals
            go_upto_region 21 with (fail)
            have a0' : w6.drew.cell? ⟨xb, 0, none⟩ = some (.pointer (some ⟨b, 0, none⟩)) := v0
            have a1' : w6.drew.cell? ⟨g1, o1 + k, none⟩ = some (.int .u8 p) := v1
            rw [show Op.load 24 (Operand.tmp 91) = id (Op.load 24 (Operand.tmp 91)) from rfl, show Op.load 5 (Operand.tmp 95) = id (Op.load 5 (Operand.tmp 95)) from rfl]
            go_region_held3 (fun _ => True) (exact trivial) ((first
              | (go_at_call 13; refine (hpk.out _ (hI6.out.keep (Below.refl _ _).drew)).mono ?_; rintro e w7 ⟨rfl, tv7, tag7, hI7, ht7, hf7⟩; have x3 : w7.cell? ⟨xb, 3, none⟩ = some (.bool false) := hI7.px.x.cell 3; replace hI7 := Lib.hid hI7; replace ht7 := Lib.hid ht7; replace hf7 := Lib.hid hf7)))
            all_goals
              go_wp2_with fail
              go_roundw
              all_goals (first
                | (simp only [intOf]; omega)
                | exact ⟨k + 1, _, _, _, _, _, by omega, by go_num, hI7.out, fun j hj => by rw [ht7.out j (by simp; omega)]; exact htg.out j hj, hB6'.out.drew.trans (hf7.out.below (by have := hB6'.out.size; simp; omega) (fun j hj hf => by have := own4_lo htg.out hf; have := hB1.out.size; omega)), Nat.le_trans (by simp; omega) hf7.out.size⟩)
        · have hkf : (t.kd == 1) = false := beq_eq_false_iff_ne.2 hkd
          replace hkd := Lib.hid hkd
          go_upto_region 21 with (fail)
          have a0' : w5.drew.cell? ⟨xb, 0, none⟩ = some (.pointer (some ⟨b, 0, none⟩)) := z0'
          have a1' : w5.drew.cell? ⟨g1, o1 + k, none⟩ = some (.int .u8 p) := z1'
          rw [show Op.load 24 (Operand.tmp 91) = id (Op.load 24 (Operand.tmp 91)) from rfl, show Op.load 5 (Operand.tmp 95) = id (Op.load 5 (Operand.tmp 95)) from rfl]
          go_region_held3 (fun _ => True) (exact trivial) ((first
            | (go_at_call 13; refine (hpk.out _ (hI5.out.keep (Below.refl _ _).drew)).mono ?_; rintro e w7 ⟨rfl, tv7, tag7, hI7, ht7, hf7⟩; have x3 : w7.cell? ⟨xb, 3, none⟩ = some (.bool false) := hI7.px.x.cell 3; replace hI7 := Lib.hid hI7; replace ht7 := Lib.hid ht7; replace hf7 := Lib.hid hf7)))
          all_goals
            go_wp2_with fail
            go_roundw
            all_goals (first
              | (simp only [intOf]; omega)
              | exact ⟨k + 1, _, _, _, _, _, by omega, by go_num, hI7.out, fun j hj => by rw [ht7.out j (by simp; omega)]; exact htg.out j hj, hB5'.out.drew.trans (hf7.out.below (by have := hB5'.out.size; simp; omega) (fun j hj hf => by have := own4_lo htg.out hf; have := hB1.out.size; omega)), Nat.le_trans (by simp; omega) hf7.out.size⟩)
    · obtain rfl : k = l.length := by omega
      replace hI := Lib.hid hI
      replace htg := Lib.hid htg
      replace hB := Lib.hid hB
      go_wp2_with fail
      go_ret
      exact ⟨rfl, hB.out⟩
end Go.Proofs.Ytcdhmjapeapicaa
