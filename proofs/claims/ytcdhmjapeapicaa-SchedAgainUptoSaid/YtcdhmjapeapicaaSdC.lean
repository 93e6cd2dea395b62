/- One is woken, or all. Conditions: what each theorem names. -/
import Derived.RangeFuncNested
import Derived.RangeFuncBound
import Derived.RangeFuncCalls
import Derived.RangeFuncLeaves
import Derived.Shelf.Abstract
import Derived.Shelf.RegionOpen
import Derived.WalkKit
import Derived.OwnWalkIn
import Derived.TacticsInMore
import Derived.LoopNIn
import Derived.LoopIn
import Derived.Lib.Hide
import Derived.Outline
import Derived.RegionTactic
import Derived.BigRegion
import Derived.WalkLawsBesides
import Derived.WalkSpells
import Derived.Deep.QuietTactic
import Derived.BigQuiet
import Derived.Deep.RegionHeld3
import Derived.Deep.DeepCutAuto
import Derived.Deep.CutBlock
import Derived.StillTailTactics
import Derived.WalkSmall
import Derived.Test.YtcdhmjapeapicaaProg
import Derived.Test.YtcdhmjapeapicaaSdS
namespace Go.Proofs.Ytcdhmjapeapicaa
open Go.RowKit Go.Sed Go.Maps
set_option maxHeartbeats 1000000
set_option maxRecDepth 100000
theorem wakes_any (base b mb i : Nat) (v : Value) (s : SS) (w : World) (h : SH w base b mb v s) (hi : i < s.ts.length) :
    Calls Try.prog 62 #[ptr b, .int .i64 i] w fun e w' => e = .returned (.tuple #[]) ∧ SH w' base b mb v { s with ts := wake s.ts i } ∧ Fr (foot b mb v s) w w' := by
  have hil := hi
  rw [h.len] at hil
  obtain ⟨t, ht⟩ : ∃ t, s.ts[i]? = some t := ⟨_, List.getElem?_eq_getElem hi⟩
  obtain ⟨x, hx⟩ : ∃ x, s.bs[i]? = some x := ⟨_, List.getElem?_eq_getElem hil⟩
  have hxm := List.mem_of_getElem? hx
  have hb := h.tk i x t hx ht
  have c2 : w.cell? ⟨x, 2, none⟩ = some (.int .i64 t.kd) := hb.cell 2
  have c3 : w.cell? ⟨x, 3, none⟩ = some (.int .i64 t.on) := hb.cell 3
  have z2 := hb.frozen 2
  have z3 := hb.frozen 3
  obtain ⟨A0, c, rfl, hrd, -⟩ := h.row.shape
  have d0 : w.cell? ⟨b, 0, none⟩ = some (.slice A0 s.bs.length c) := h.ld.cell 0
  obtain ⟨g, o, u1, rfl, hu1, r1⟩ := hrd.at1 hil
  obtain rfl : u1 = .pointer (some ⟨x, 0, none⟩) := by
    rw [List.getElem?_map, hx] at hu1
    exact (Option.some.inj hu1).symm
  have h2 : SH ((w.setCell ⟨x, 2, none⟩ (.int .i64 0)).setCell ⟨x, 3, none⟩ (.int .i64 0)) base b mb (.slice (some ⟨g, o, none⟩) s.bs.length c) { s with ts := wake s.ts i } :=
    (h.setT (t' := { t with kd := 0 }) hx ht 2 _ rfl rfl).setT (t := { t with kd := 0 }) (t' := go0 t) hx (by simp [hi]) 3 _ rfl (by
      have e : wake s.ts i = s.ts.set i (go0 t) := by
        refine List.ext_getElem? (fun j => ?_)
        unfold wake
        rw [mod_get]
        by_cases e : i = j
        · subst e; rw [List.getElem?_set_self hi, ht, Option.map_some, if_pos rfl]
        · rw [List.getElem?_set_ne e]
          cases s.ts[j]? with
          | none => rfl
          | some u => rw [Option.map_some, if_neg e]
      rw [e]
      simp)
  have hf : Fr (foot b mb (.slice (some ⟨g, o, none⟩) s.bs.length c) s) w ((w.setCell ⟨x, 2, none⟩ (.int .i64 0)).setCell ⟨x, 3, none⟩ (.int .i64 0)) := ((Fr.refl (foot b mb (.slice (some ⟨g, o, none⟩) s.bs.length c) s) w).set _ (fun _ => .inr (.inr (.inl hxm)))).set _ (fun _ => .inr (.inr (.inl hxm)))
  replace h2 := Lib.hid h2
  replace hf := Lib.hid hf
  clear h hb hrd hu1 hx ht
  unfold ptr
  go_enter Try.func62, Try.ntmps62
  go_wp2_with fail
  go_end0
  exact ⟨rfl, h2.out, hf.out⟩
def sig0 (o : Int) (ts : List Tk) : Int := match waitI o ts with | [] => 0 | i :: _ => (i : Int)
def sigB (o : Int) (ts : List Tk) : Bool := match waitI o ts with | [] => false | _ :: _ => true
theorem Signal_any (base b mb : Nat) (o : Int) (v : Value) (s : SS) (w : World) (h : SH w base b mb v s) (hti : TI s.steps s.wishes s.ts) (hw : s.wishes ≤ 4611686018427387904) (hn64 : s.bs.length ≤ 64) :
    Calls Try.prog 42 #[ptr b, .int .i64 o] w fun e w' => e = .returned (.tuple #[.int .i64 (sig0 o s.ts), .bool (sigB o s.ts)]) ∧ SH w' base b mb v { s with ts := sigT o s.ts } ∧ Fr (foot b mb v s) w w' := by
  have hwa := waiting_any base b mb o v s w h hti hw hn64
  have hmem := fun i => waitI_mem (o := o) (ts := s.ts) (i := i)
  have hlen := waitI_len o s.ts
  have hbl := h.len
  unfold sig0 sigB sigT
  obtain ⟨L, hL⟩ : ∃ L, waitI o s.ts = L := ⟨_, rfl⟩
  rw [hL] at hwa hlen ⊢
  simp only [hL] at hmem
  clear hL
  rcases L with _ | ⟨i, L⟩
  · replace h := Lib.hid h
    replace hwa := Lib.hid hwa
    unfold ptr at hwa ⊢
    clear hmem
    go_enter Try.func42, Try.ntmps42
    go_wp2_with (go_at_call 61; refine hwa.out.mono ?_; rintro e w1 ⟨r, rfl, ho, hB1⟩; obtain ⟨A, c, rfl, -⟩ := ho.shape; replace hB1 := Lib.hid hB1; clear ho)
    go_ret2
    exact ⟨rfl, h.out.keep hB1.out, Fr.of_below hB1.out⟩
  · have hi : i < s.ts.length := by
      obtain ⟨t, ht, -⟩ := (hmem i).1 (by simp)
      exact (List.getElem?_eq_some_iff.1 ht).1
    have hwk := fun W hW => wakes_any base b mb i v s W hW hi
    have hlo := Lib.hid h.lo
    replace h := Lib.hid h
    replace hwa := Lib.hid hwa
    replace hwk := Lib.hid hwk
    rw [List.length_cons] at hlen
    obtain ⟨m, hm⟩ : ∃ m, (i :: L).length = m := ⟨_, rfl⟩
    have hm1 : 0 < m := by rw [← hm]; simp
    have hm2 : m ≤ 64 := by rw [← hm]; simp; omega
    rw [hm] at hwa
    replace hm := Lib.hid hm
    have hm0 : ((m : Int) == 0) = false := beq_eq_false_iff_ne.2 (by omega)
    unfold ptr at hwa hwk ⊢
    clear hmem
    go_enter Try.func42, Try.ntmps42
    go_upto_region 2 with (go_at_call 61; refine hwa.out.mono ?_; rintro e w1 ⟨r, rfl, ho, hB1⟩; obtain ⟨A, c, rfl, -⟩ := ho.shape; replace hB1 := Lib.hid hB1; replace ho := Lib.hid ho)
    obtain ⟨g, of, u1, rfl, hu1, r1⟩ := ho.out.rd.at1 hm1
    obtain rfl : u1 = .int .i64 i := by simpa using hu1.symm
    clear hu1
    rw [Nat.add_zero] at r1
    go_upto_region 5 with (go_at_call 62; refine (hwk.out _ (h.out.keep hB1.out)).mono ?_; rintro e w2 ⟨rfl, hS2, hf2⟩; replace hS2 := Lib.hid hS2; have r2 : w2.cell? ⟨g, of, none⟩ = some (.int .i64 i) := (by have h9 := (ho.out.fr hf2 (fun k e f => (by have := (hlo.out k f).2; have := (ho.out.lt k e).1; omega))).rd.cellAt (j := 0) (u := .int .i64 i) rfl; rwa [Nat.add_zero] at h9); replace hf2 := Lib.hid hf2)
    go_wp2_with fail
    go_ret2
    exact ⟨rfl, hS2.out, (Fr.of_below hB1.out).then hf2.out (fun _ _ e => e)⟩
theorem Broadcast_any (base b mb : Nat) (o : Int) (v : Value) (s : SS) (w : World) (h : SH w base b mb v s) (hti : TI s.steps s.wishes s.ts) (hw : s.wishes ≤ 4611686018427387904) (hn64 : s.bs.length ≤ 64) :
    Calls Try.prog 44 #[ptr b, .int .i64 o] w fun e w' => e = .returned (.int .i64 (waitI o s.ts).length) ∧ SH w' base b mb v { s with ts := wakeAll s.ts (waitI o s.ts) } ∧ Fr (foot b mb v s) w w' := by
  have hwa := waiting_any base b mb o v s w h hti hw hn64
  have hmem : ∀ i ∈ waitI o s.ts, i < s.ts.length := fun i hi => by
    obtain ⟨t, ht, -⟩ := waitI_mem.1 hi
    exact (List.getElem?_eq_some_iff.1 ht).1
  have hlen := waitI_len o s.ts
  have hbl := h.len
  obtain ⟨L, hL⟩ : ∃ L, waitI o s.ts = L := ⟨_, rfl⟩
  rw [hL] at hwa hlen hmem ⊢
  clear hL
  have hlo := Lib.hid h.lo
  replace h := Lib.hid h
  replace hwa := Lib.hid hwa
  replace hmem := Lib.hid hmem
  unfold ptr at hwa ⊢
  go_enter Try.func44, Try.ntmps44
  go_wp2_with (go_at_call 61; refine hwa.out.mono ?_; rintro e w1 ⟨r, rfl, ho, hB1⟩; obtain ⟨A, c, rfl, -⟩ := ho.shape; replace hB1 := Lib.hid hB1; replace ho := Lib.hid ho)
  go_loopw [13] (fun i wr => ∃ k : Nat, k ≤ L.length ∧ i = .int .i64 k ∧ SH wr base b mb v { s with ts := wakeAll s.ts (L.take k) } ∧ Fr (foot b mb v s) w wr ∧ OW wr w.heap.size 1 (.slice A L.length c) L.length (L.map (fun i => Value.int .i64 (i : Nat)))) (fun i _ => L.length - (intOf i).toNat)
  case atStart => exact ⟨0, Nat.zero_le _, rfl, h.out.keep hB1.out, Fr.of_below hB1.out, ho.out⟩
  case round =>
    obtain ⟨k, hk, rfl, hS, hF, hO⟩ := hrel
    by_cases hlt : k < L.length
    · obtain ⟨i, hi⟩ : ∃ i, L[k]? = some i := ⟨_, List.getElem?_eq_getElem hlt⟩
      have hil := hmem.out i (List.mem_of_getElem? hi)
      have htk : L.take (k + 1) = L.take k ++ [i] := by rw [List.take_add_one, hi]; rfl
      obtain ⟨g, of, u1, rfl, hu1, r1⟩ := hO.rd.at1 hlt
      obtain rfl : u1 = .int .i64 i := by
        rw [List.getElem?_map, hi] at hu1
        exact (Option.some.inj hu1).symm
      have hwk := wakes_any base b mb i v _ wr hS (by simp only; rw [wakeAll_len]; exact hil)
      have hex : wake (wakeAll s.ts (L.take k)) i = wakeAll s.ts (L.take (k + 1)) := by rw [htk]; unfold wakeAll; rw [List.foldl_append]; rfl
      simp only [hex] at hwk
      replace hwk := Lib.hid hwk
      replace hS := Lib.hid hS
      replace hF := Lib.hid hF
      replace hO := Lib.hid hO
      replace hex := Lib.hid hex
      replace htk := Lib.hid htk
      unfold ptr at hwk
      clear hu1 hi
      go_wp2_with (go_at_call 62; refine hwk.out.mono ?_; rintro e w2 ⟨rfl, hS2, hf2⟩; replace hS2 := Lib.hid hS2; replace hf2 := Lib.hid hf2)
      go_roundw
      case rel => exact ⟨k + 1, by omega, by go_num, hS2.out, hF.out.then hf2.out (fun _ _ e => e), hO.out.fr hf2.out (fun j e f => by have := (hlo.out j f).2; have := (hO.out.lt j e).1; omega)⟩
      case measure => simp only [intOf]; omega
    · obtain rfl : k = L.length := by omega
      rw [List.take_length] at hS
      replace hS := Lib.hid hS
      replace hF := Lib.hid hF
      clear hO
      go_wp2_with fail
      go_ret
      exact ⟨rfl, hS.out, hF.out⟩
end Go.Proofs.Ytcdhmjapeapicaa
