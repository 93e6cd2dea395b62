/- A run of picks; two lists held against each other. Conditions: what each theorem names. -/
import Derived.RangeFuncNested
import Derived.RangeFuncBound
import Derived.RangeFuncCalls
import Derived.RangeFuncLeaves
import Derived.Shelf.Abstract
import Derived.Shelf.RegionOpen
import Derived.WalkKit
import Derived.OwnWalkIn
import Derived.TacticsInMore
import Derived.LoopNIn
import Derived.LoopIn
import Derived.Lib.Hide
import Derived.Outline
import Derived.RegionTactic
import Derived.BigRegion
import Derived.WalkLawsBesides
import Derived.WalkSpells
import Derived.Deep.QuietTactic
import Derived.BigQuiet
import Derived.Deep.RegionHeld3
import Derived.Deep.DeepCutAuto
import Derived.Deep.CutBlock
import Derived.StillTailTactics
import Derived.WalkSmall
import Derived.Test.YtcdhmjapeapicaaProg
import Derived.Test.YtcdhmjapeapicaaSchG
import Derived.Test.YtcdhmjapeapicaaSdK
namespace Go.Proofs.Ytcdhmjapeapicaa
open Go.RowKit Go.Sed Go.Maps
set_option maxHeartbeats 1000000
set_option maxRecDepth 100000
theorem PI.retag {w : World} {base b mb xb k : Nat} {dv v : Value} {s : SS} {tv : Value} {told : List Int} {ats : List Nat} {ls : List (List (Int × Int))} {tag tag' : Nat → Nat} (h : PI w base b mb xb dv v s tv told ats ls tag k) (ht : ∀ j, j < w.heap.size → tag' j = tag j) : PI w base b mb xb dv v s tv told ats ls tag' k := { h with px := h.px.retag ht }
theorem PI.other {F : Nat → Prop} {w w' : World} {base b mb xb k : Nat} {dv v : Value} {s : SS} {tv : Value} {told : List Int} {ats : List Nat} {ls : List (List (Int × Int))} {tag : Nat → Nat} (h : PI w base b mb xb dv v s tv told ats ls tag k) (hf : Fr F w w') (hF : ∀ j, F j → j < w.heap.size → 100 ≤ tag j) : PI w' base b mb xb dv v s tv told ats ls tag k := { h with px := h.px.other hf hF h.n64 }
theorem PI.more {w : World} {base b mb xb k k' : Nat} {dv v : Value} {s : SS} {tv : Value} {told : List Int} {ats : List Nat} {ls : List (List (Int × Int))} {tag : Nat → Nat} (h : PI w base b mb xb dv v s tv told ats ls tag k) (hk : k ≤ k') : PI w base b mb xb dv v s tv told ats ls tag k' :=
  { h with st := ⟨h.st.1, by have := h.st.2; omega⟩, wi := ⟨h.wi.1, by have := h.wi.2; omega⟩, lk := by have := h.lk; omega }
/-- tags of a world, new blocks foreign. -/
def newTag (w : World) (tag : Nat → Nat) (j : Nat) : Nat := if j < w.heap.size then tag j else 1000
theorem newTag_old {w : World} {tag : Nat → Nat} {j : Nat} (h : j < w.heap.size) : newTag w tag j = tag j := if_pos h
theorem newTag_new {w : World} {tag : Nat → Nat} {j : Nat} (h : w.heap.size ≤ j) : newTag w tag j = 1000 := if_neg (by omega)
theorem ownT_new {w : World} {tag : Nat → Nat} {j : Nat} (h : ownT (newTag w tag) j) : j < w.heap.size ∧ ownT tag j := by
  by_cases hj : j < w.heap.size
  · refine ⟨hj, ?_⟩
    unfold ownT at h ⊢
    rw [newTag_old hj] at h; exact h
  · unfold ownT at h
    rw [newTag_new (by omega)] at h; omega
def bnI (l : List Nat) : List Value := l.map (fun p => Value.int .i64 (p : Nat))
theorem bnI_ints (l : List Nat) : bnI l = (l.map (fun p => ((p : Nat) : Int))).map (Value.int .i64) := by unfold bnI; rw [List.map_map]; rfl
/-- a run of picks. -/
theorem PI.run {w : World} {base b mb xb k g o n c most : Nat} {dv v : Value} {s : SS} {tv : Value} {told : List Int} {ats : List Nat} {ls : List (List (Int × Int))} {tag : Nat → Nat} (h : PI w base b mb xb dv v s tv told ats ls tag k) (ps : List Nat) (hr : Rd w 1 (some ⟨g, o, none⟩) n (bnI ps)) (hn0 : 0 < n) (hn : n ≤ 1000000000) (hmost : most ≤ n) (hk : k ≤ 1000000000) :
    Calls Try.prog 16 #[ptr b, .slice (some ⟨g, o, none⟩) n c, .int .i64 most] w fun e w' => ∃ j : Nat, e = .returned (.tuple #[.int .i64 j, .int .i64 0]) ∧
      ∃ s' tv' told' ats' tag', PI w' base b mb xb dv v s' tv' told' ats' ls tag' (k + most) ∧ absC s' told' ats' = runC ls (absC s told ats) (ps.take most) ∧ (∀ j, j < w.heap.size → tag' j = tag j) ∧ Fr (ownT tag) w w' := by
  have hln : ps.length = n := by have := hr.1; unfold bnI at this; simpa using this
  have d4 : w.cell? ⟨b, 4, none⟩ = some (.bool false) := by rw [← h.within]; exact h.px.sh.ld.cell 4
  rw [bnI_ints] at hr
  have hcl := Lib.hid (clone_any g o n c _ w hr (by omega))
  have hen := Lib.hid (fun s W hW hS hl => enabled_any base b mb v s W hW hS hl)
  obtain ⟨c0, hc0⟩ : ∃ c0, absC s told ats = c0 := ⟨_, rfl⟩
  rw [hc0]
  replace hc0 := Lib.hid hc0
  replace hln := Lib.hid hln
  replace h := Lib.hid h
  unfold ptr at hen ⊢
  go_enter Try.func16, Try.ntmps16
  go_wp2_with (first
    | (go_at_call 32; refine hcl.out.mono ?_; rintro e w1 ⟨r1, rfl, ho1, hB1⟩; obtain ⟨A1, c1, rfl, hr1, -⟩ := ho1.shape; have hlow : ∀ a, A1 = some a → w.heap.size ≤ a.block := (fun a e => (ho1.lt a.block (by subst e; rfl)).1); replace hlow := Lib.hid hlow; replace hr1 := Lib.hid hr1; have h1 := Lib.hid ((h.out.retag (tag' := newTag w tag) (fun j hj => newTag_old hj)).keep hB1); replace hB1 := Lib.hid hB1; clear ho1))
  go_loopw [8] (fun i wr => ∃ (j : Nat) (s' : SS) (tv' : Value) (told' : List Int) (ats' : List Nat) (tag' : Nat → Nat), i = .int .i64 j ∧ j ≤ most ∧ PI wr base b mb xb dv v s' tv' told' ats' ls tag' (k + j) ∧ absC s' told' ats' = runC ls c0 (ps.take j) ∧ (∀ q, q < w1.heap.size → tag' q = newTag w tag q) ∧ Fr (ownT (newTag w tag)) w1 wr) (fun i _ => most - (intOf i).toNat)
  case atStart => exact ⟨0, s, _, _, _, _, rfl, by omega, h1.out, by rw [hc0.out]; rfl, fun _ _ => rfl, Fr.refl _ _⟩
  case round =>
    clear h1
    obtain ⟨j, s', tv', told', ats', tag', rfl, hj, hI, hab, htg, hf⟩ := hrel
    have hfw := Lib.hid (show ∀ w2, Fr (ownT (newTag w tag)) w1 w2 → Fr (ownT tag) w w2 from fun w2 hf2 => (Fr.of_below hB1.out).then hf2 (fun i _ e => (ownT_new e).2))
    by_cases hjm : j < most
    · have hsd := hI.steady (by omega)
      obtain ⟨L, hL⟩ : ∃ L, thoseI (mayB s') s'.ts = L := ⟨_, rfl⟩
      have he := hen.out s' wr hI.px.sh hsd hI.n64
      rw [hL] at he
      replace he := Lib.hid he
      replace hsd := Lib.hid hsd
      replace hI := Lib.hid hI
      replace hab := Lib.hid hab
      replace htg := Lib.hid htg
      replace hf := Lib.hid hf
      rcases L with _ | ⟨x, L⟩
      · replace hL := Lib.hid hL
        go_wp2_with (first
          | (go_at_call 28; refine he.out.mono ?_; rintro e w2 ⟨r2, rfl, ho2, hB2⟩; obtain ⟨A2, c2, rfl, -⟩ := ho2.shape; simp only [List.length_nil]; clear ho2; replace hB2 := Lib.hid hB2))
        go_ret2
        refine ⟨j, rfl, s', tv', told', ats', tag', (hI.out.keep hB2.out).more (by omega), ?_, fun q hq => ?_, hfw.out _ (hf.out.thenB hB2.out)⟩
        · have h5 : ps.take most = ps.take j ++ (ps.take most).drop j := by
            conv => lhs; rw [← List.take_append_drop j (ps.take most)]
            rw [List.take_take, Nat.min_eq_left hj]
          rw [h5, runC_app, ← hab.out, runC_stop hL.out]
        · have hsz := hB1.out.size
          rw [htg.out q (by omega), newTag_old hq]
      · have hjn : j < n := by omega
        obtain ⟨p, hp⟩ : ∃ p, ps[j]? = some p := ⟨_, List.getElem?_eq_getElem (by rw [hln.out]; exact hjn)⟩
        have hmod : (j : Int) % n = (j : Int) := by
          have := Int.emod_eq_of_lt (a := (j : Int)) (b := n) (by omega) (by omega); exact this
        have hpk := fun W (hW : PI W base b mb xb dv v s' tv' told' ats' ls tag' (k + j)) => hW.pickL (by omega) p
        have htk : ps.take (j + 1) = ps.take j ++ [p] := by rw [List.take_add_one, hp]; rfl
        obtain ⟨u, hu⟩ : ∃ u, ((ps.map (fun p => ((p : Nat) : Int))).map (Value.int .i64))[j]? = some u := ⟨.int .i64 p, by rw [List.getElem?_map, List.getElem?_map, hp]; rfl⟩
        obtain rfl : u = .int .i64 p := by rw [List.getElem?_map, List.getElem?_map, hp] at hu; exact (Option.some.inj hu).symm
        have hr2 := hr1.out.fr hf.out (fun a e hg => by have := (ownT_new hg).1; have := hlow.out a e; omega)
        replace hpk := Lib.hid hpk
        replace hL := Lib.hid hL
        replace htk := Lib.hid htk
        have hj0 : (0 : Int) ≤ (j : Int) := by omega
        obtain ⟨g1, o1, u1, rfl, hu1, -⟩ := hr2.at1 hjn
        obtain rfl : u1 = .int .i64 p := by rw [hu] at hu1; exact (Option.some.inj hu1).symm
        clear hu1 hp
        unfold ptr at hpk
        go_wp2_with (first
          | (go_at_call 28; refine he.out.mono ?_; rintro e w2 ⟨r2, rfl, ho2, hB2⟩; obtain ⟨A2, c2, rfl, -⟩ := ho2.shape; simp only [List.length_cons]; clear ho2; have q2 : w2.cell? ⟨g1, o1 + j, none⟩ = some (.int .i64 p) := (hr2.keep hB2).cellAt hu; replace hB2 := Lib.hid hB2)
          | (go_at_call 29; refine (hpk.out _ (hI.out.keep hB2.out)).mono ?_; rintro e w3 ⟨rfl, s3, tv3, told3, ats3, tag3, hI3, hab3, htg3, hf3⟩; replace hI3 := Lib.hid hI3; replace hab3 := Lib.hid hab3; replace htg3 := Lib.hid htg3; replace hf3 := Lib.hid hf3))
        go_roundw
        case rel =>
          refine ⟨j + 1, s3, tv3, told3, ats3, tag3, by go_num, by omega, hI3.out, ?_, fun q hq => ?_, (hf.out.thenB hB2.out).then hf3.out (fun i hi e => ?_)⟩
          · rw [hab3.out, hab.out, htk.out, runC_snoc]
          · have h7 := (hf.out.thenB hB2.out).size
            rw [htg3.out q (by omega)]; exact htg.out q hq
          · unfold ownT at e ⊢
            rw [htg.out i hi] at e; exact e
        case measure => simp only [intOf]; omega
    · obtain rfl : j = most := by omega
      replace hI := Lib.hid hI
      replace hab := Lib.hid hab
      replace htg := Lib.hid htg
      replace hf := Lib.hid hf
      go_wp2_with fail
      go_ret2
      refine ⟨j, rfl, s', tv', told', ats', tag', hI.out, hab.out, fun q hq => ?_, hfw.out _ hf.out⟩
      have hsz := hB1.out.size
      rw [htg.out q (by omega), newTag_old hq]
/-- two lists that are the same; the first one is spoilt. -/
theorem ints_yes (A B : Option Addr) (c c2 base : Nat) (L : List Int) (w : World) (ha : OW w base 1 (.slice A L.length c) L.length (L.map (Value.int .i64))) (hb : Rd w 1 B L.length (L.map (Value.int .i64))) (hne : ∀ a d, A = some a → B = some d → 0 < L.length → a.block ≠ d.block) (hn : L.length ≤ 1000000000000) :
    Calls Try.prog 17 #[.slice A L.length c, .slice B L.length c2] w fun e w' => e = .returned (.bool true) ∧ Fr (fun k => (Value.slice A L.length c).ownBlock = some k) w w' := by
  by_cases h0 : L.length = 0
  · rw [h0]
    go_enter Try.func17, Try.ntmps17
    go_wp2_with fail
    refine wp_loop_rounds 1 ?_
    rw [rounds_succ]
    go_wp2_with fail
    go_ret
    exact ⟨rfl, Fr.refl _ _⟩
  · have hp : 0 < L.length := by omega
    obtain ⟨g, o, rfl, -⟩ := ha.rd.2 hp
    obtain ⟨g2, o2, rfl, hc2⟩ := hb.2 hp
    have hgg : g ≠ g2 := hne _ _ rfl rfl hp
    obtain ⟨-, ⟨e, -⟩ | ⟨g', o', c', e, -, -, hnc, -, hc, hf⟩⟩ := ha
    · cases e
    simp only [Value.slice.injEq, Option.some.injEq, Addr.mk.injEq, and_true, true_and] at e
    obtain ⟨⟨rfl, rfl⟩, rfl⟩ := e
    have hcell : ∀ j x, L[j]? = some x → w.cell? ⟨g, o + j, none⟩ = some (.int .i64 x) := fun j x hj => hc j _ (by rw [List.getElem?_map, hj]; rfl)
    have hfr : ∀ j, j < L.length → w.frozen? ⟨g, o + j, none⟩ = false := fun j hj => (hf j (by omega)).2
    have hcell2 : ∀ j x, L[j]? = some x → w.cell? ⟨g2, o2 + j, none⟩ = some (.int .i64 x) := fun j x hj => hc2 j _ (by rw [List.getElem?_map, hj]; rfl)
    replace hcell := Lib.hid hcell
    replace hcell2 := Lib.hid hcell2
    replace hfr := Lib.hid hfr
    clear hc hf hc2 hb hne h0
    go_enter Try.func17, Try.ntmps17
    go_wp2_with fail
    go_loopw [5] (fun i wr => ∃ k : Nat, k ≤ L.length ∧ i = .int .i64 k ∧ Fr (fun q => q = g) w wr ∧ (∀ j x, k ≤ j → L[j]? = some x → wr.cell? ⟨g, o + j, none⟩ = some (.int .i64 x)) ∧ (∀ j, j < L.length → wr.frozen? ⟨g, o + j, none⟩ = false)) (fun i _ => L.length - (intOf i).toNat)
    case atStart => exact ⟨0, Nat.zero_le _, rfl, Fr.refl _ _, fun j x _ hj => hcell.out j x hj, hfr.out⟩
    case round =>
      obtain ⟨k, hk, rfl, hF, hC, hZ⟩ := hrel
      by_cases hlt : k < L.length
      · obtain ⟨x, hx⟩ : ∃ x, L[k]? = some x := ⟨_, List.getElem?_eq_getElem hlt⟩
        have c1 := hC k x (Nat.le_refl _) hx
        have z1 := hZ k hlt
        have c2' : wr.cell? ⟨g2, o2 + k, none⟩ = some (.int .i64 x) := by
          rw [World.cell?_of_block (a := ⟨g2, o2 + k, none⟩) (hF.block g2 (cell_lt (hcell2.out k x hx)) (fun e => hgg e.symm))]
          exact hcell2.out k x hx
        replace hC := Lib.hid hC
        replace hZ := Lib.hid hZ
        replace hF := Lib.hid hF
        clear hx
        go_upto_region 6 with (fail)
        go_quiet (fail)
        go_wp2_with fail
        go_roundw
        case rel =>
          refine ⟨k + 1, by omega, by go_num, ?_, fun j y hj hy => ?_, fun j hj => ?_⟩
          · first
              | exact (hF.out.set _ (fun _ => rfl)).thenB (below_drewN (Below.refl _ _) _)
              | exact (hF.out.thenB (below_drewN (Below.refl _ _) _)).set _ (fun _ => rfl)
          · have h9 := hC.out j y (by omega) hy
            have h8 : ∀ W : World, W.cell? ⟨g, o + j, none⟩ = some (.int .i64 y) → (W.setCell ⟨g, o + k, none⟩ (.int .i64 77)).cell? ⟨g, o + j, none⟩ = some (.int .i64 y) := fun W hW => by
              exact (World.cell?_setCell_other (w := W) (a := ⟨g, o + k, none⟩) (b := ⟨g, o + j, none⟩) (v := .int .i64 77) (by intro e; injection e with _ e; omega)).trans hW
            first
              | exact h8 _ h9
              | exact h8 wr h9
          · have h9 := hZ.out j hj
            first
              | (rw [World.frozen?_setCell]; exact h9)
              | simpa using h9
        case measure => simp only [intOf]; omega
      · obtain rfl : k = L.length := by omega
        replace hF := Lib.hid hF
        clear hC hZ
        go_wp2_with fail
        go_ret
        exact ⟨rfl, hF.out.mono (fun k _ e => by subst e; rfl)⟩
end Go.Proofs.Ytcdhmjapeapicaa
