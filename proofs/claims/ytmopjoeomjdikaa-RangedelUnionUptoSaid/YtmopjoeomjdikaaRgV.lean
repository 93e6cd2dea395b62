/- RangedelUnion walked. Conditions: what each theorem names. -/
import Derived.RangeFuncNested
import Derived.RangeFuncBound
import Derived.RangeFuncCalls
import Derived.RangeFuncLeaves
import Derived.Shelf.Abstract
import Derived.Shelf.RegionOpen
import Derived.WalkKit
import Derived.OwnWalkIn
import Derived.TacticsInMore
import Derived.LoopNIn
import Derived.LoopIn
import Derived.Lib.Hide
import Derived.Outline
import Derived.RegionTactic
import Derived.BigRegion
import Derived.WalkLawsBesides
import Derived.WalkSpells
import Derived.Deep.QuietTactic
import Derived.BigQuiet
import Derived.Deep.RegionHeld3
import Derived.Deep.DeepCutAuto
import Derived.Deep.CutBlock
import Derived.StillTailTactics
import Derived.WalkSmall
import Derived.Test.YtmopjoeomjdikaaRgU
import Derived.Test.YtmopjoeomjdikaaRgH
import Derived.Test.YtmopjoeomjdikaaSl
namespace Go.Proofs.Ytmopjoeomjdikaa
open Go.RowKit Go.Sed Go.Sort
set_option maxHeartbeats 2000000
set_option maxRecDepth 100000
theorem union1 (how : Int) (pa pb : Option Addr) (ca cb : Nat) (a b : List Tb) (key : ByteArray) (w : World) (hl : a.length + b.length ≤ 1048576) (hra : Rd w 3 pa a.length (a.flatMap tc)) (hrb : Rd w 3 pb b.length (b.flatMap tc)) (hsa : ∀ t ∈ a, (t.b.size ≤ maxLen ∧ t.e.size ≤ maxLen) ∧ 0 ≤ t.s) (hsb : ∀ t ∈ b, (t.b.size ≤ maxLen ∧ t.e.size ≤ maxLen) ∧ 0 ≤ t.s) (ha : chkT how a ≠ 0) (hc : chkT how (a ++ b) ≠ 0) :
    Calls Try.prog 4 #[.int .i64 how, .slice pa a.length ca, .agg #[.slice pb b.length cb, .string key]] w fun e w' => e = .returned (.bool true) ∧ Below w.heap.size w w' := by
  obtain ⟨w0, hw0⟩ : ∃ w0, w.alloc (.cells #[.slice pb b.length cb, .string key] 41) = w0 := ⟨_, rfl⟩
  have hB0 : Below w.heap.size w w0 := by rw [← hw0]; exact (Below.refl _ _).alloc (Nat.le_refl _) _
  have b0 : Bl w0 w.heap.size (.cells #[.slice pb b.length cb, .string key] 41 (0, 0)) := by rw [← hw0]; exact Bl.new' rfl
  have hsab : ∀ t ∈ a ++ b, (t.b.size ≤ maxLen ∧ t.e.size ≤ maxLen) ∧ 0 ≤ t.s := fun t ht => by
    rcases List.mem_append.1 ht with h | h
    · exact hsa t h
    · exact hsb t h
  have hlaw := Lib.hid (fun s => union_law how a b key s (fun t ht => (hsab t ht).2))
  have hcA := Lib.hid (fun W (hW : Below w0.heap.size w0 W) => copied_any a pa ca W ((hra.keep hB0).keep hW) (by omega))
  have hcB := Lib.hid (fun W (hW : Below w0.heap.size w0 W) => copied_any b pb cb W ((hrb.keep hB0).keep hW) (by omega))
  have hrb2 := Lib.hid (fun W (hW : Below w0.heap.size w0 W) => (hrb.keep hB0).keep hW)
  have hnA := Lib.hid (fun A c W (hW : Rd W 3 A a.length (a.flatMap tc)) => new_no how a A c W hW (fun t ht => (hsa t ht).1) (by unfold maxLen; omega) (beq_eq_false_iff_ne.2 ha))
  have hnB := Lib.hid (fun A c W (hW : Rd W 3 A b.length (b.flatMap tc)) => new_any how b A c b.length W rfl hW (fun t ht => (hsb t ht).1) (by unfold maxLen; omega))
  have hnC := Lib.hid (fun A c W (hW : Rd W 3 A (a ++ b).length ((a ++ b).flatMap tc)) => new_no how (a ++ b) A c W hW (fun t ht => (hsab t ht).1) (by rw [List.length_append]; unfold maxLen; omega) (beq_eq_false_iff_ne.2 hc))
  rw [List.length_append] at hnC
  obtain ⟨ea, hea⟩ : ∃ e, chkT how a = e := ⟨_, rfl⟩
  rw [hea] at ha hnA
  have na0 : (ea != 0) = true := bne_iff_ne.2 ha
  have na1 : (ea == 0) = false := beq_eq_false_iff_ne.2 ha
  obtain ⟨ec, hec⟩ : ∃ e, chkT how (a ++ b) = e := ⟨_, rfl⟩
  rw [hec] at hc hnC
  have nc0 : (ec != 0) = true := bne_iff_ne.2 hc
  have nc1 : (ec == 0) = false := beq_eq_false_iff_ne.2 hc
  obtain ⟨eb, heb⟩ : ∃ e, chkT how b = e := ⟨_, rfl⟩
  rw [heb] at hnB
  have c0 : w0.cell? ⟨w.heap.size, 0, none⟩ = some (.slice pb b.length cb) := b0.cell 0
  have c1 : w0.cell? ⟨w.heap.size, 1, none⟩ = some (.string key) := b0.cell 1
  have tok : True := trivial
  have tok2 : True := trivial
  have hone := tc_one b
  obtain ⟨na, hna⟩ : ∃ na, a.length = na := ⟨_, rfl⟩
  obtain ⟨nb, hnb⟩ : ∃ nb, b.length = nb := ⟨_, rfl⟩
  rw [hna] at hcA hnA hnC hl ⊢
  rw [hnb] at hcB hnB hnC hrb2 hl c0 hw0 ⊢
  replace hw0 := Lib.hid hw0
  replace hone := Lib.hid hone
  clear hra hrb hsa hsb hsab b0 hna hnb heb
  clear ha hc hea hec
  go_enter Try.func4, Try.ntmps4
  go_upto_region 1 with fail
  rw [hw0.out]
  go_quiet (fail)
  have hBq := Lib.hid (below_drewN (Below.refl w0.heap.size w0) nq)
  go_upto_region 5 with (first
    | (go_at_call 8; have t1 := tok; clear tok; refine (hcA.out _ hBq.out).mono ?_; rintro e1 w1 ⟨r, rfl, ho1, hB1⟩; obtain ⟨A1, c1', rfl, hr1, -⟩ := ho1.shape; replace hr1 := Lib.hid hr1; replace hB1 := Lib.hid (hBq.out.trans (hB1.mono hBq.out.size)); clear ho1)
    | (go_at_call 13; refine (hnA.out A1 c1' w1 hr1.out).mono ?_; rintro e2 w2 ⟨rfl, hB2⟩; clear hr1; replace hB2 := Lib.hid (hB1.out.trans (hB2.mono hB1.out.size)))
    | (go_at_call 8; have t2 := tok2; clear tok2; refine (hcB.out w2 hB2.out).mono ?_; rintro e3 w3 ⟨r, rfl, ho3, hB3⟩; obtain ⟨A3, c3', rfl, hr3, -⟩ := ho3.shape; replace hr3 := Lib.hid hr3; replace hB3 := Lib.hid (hB2.out.trans (hB3.mono hB2.out.size)); clear ho3)
    | (go_at_call 13; refine (hnB.out A3 c3' w3 hr3.out).mono ?_; rintro e4 w4 ⟨pB, rfl, -, -, hB4⟩; clear hr3; replace hB4 := Lib.hid (hB3.out.trans (hB4.mono hB3.out.size)))
    | (go_at_call 8; refine (hcA.out w4 hB4.out).mono ?_; rintro e5 w5 ⟨r, rfl, ho5, hB5⟩; replace ho5 := Lib.hid ho5; obtain ⟨A5, c5', rfl, -⟩ := ho5.out.shape; have hB45 := Lib.hid hB5; replace hB5 := Lib.hid (hB4.out.trans (hB5.mono hB4.out.size)))
    | (at_builtin; refine wpList_append_ow rfl (.tmp 39) (.tmp 40) 22 rfl w4.heap.size 38 rfl infoTomb rfl (by decide) _ _ _ rfl ho5.out pb nb cb (b.flatMap tc) rfl (hrb2.out w5 hB5.out) hone.out (by unfold maxLen; omega) (by omega) hB45.out.size ?_; rintro v6 w6 ho6 hg6 -; have hB46 := below_grow hB45.out hB45.out.size ho5.out (Nat.le_refl _) hg6; clear hg6; obtain ⟨A6, c6', rfl, hr6, -⟩ := ho6.shape; clear ho6; rw [← List.flatMap_append] at hr6; replace hr6 := Lib.hid hr6; replace hB46 := Lib.hid (hB4.out.trans (hB46.mono hB4.out.size)))
    | (go_at_call 13; refine (hnC.out A6 c6' w6 hr6.out).mono ?_; rintro e7 w7 ⟨rfl, hB7⟩; clear hr6; replace hB7 := Lib.hid (hB0.trans ((hB46.out.trans (hB7.mono hB46.out.size)).mono hB0.size))))
  go_wp2_with (first
    | (go_at_call 10; refine (lives_any w7).mono ?_; rintro e8 w8 ⟨rfl, hB8⟩))
  go_ret
  exact ⟨rfl, below_then hB7.out hB8⟩
theorem union2 (how : Int) (pa pb : Option Addr) (ca cb : Nat) (a b : List Tb) (key : ByteArray) (w : World) (hl : a.length + b.length ≤ 1048576) (hra : Rd w 3 pa a.length (a.flatMap tc)) (hrb : Rd w 3 pb b.length (b.flatMap tc)) (hsa : ∀ t ∈ a, (t.b.size ≤ maxLen ∧ t.e.size ≤ maxLen) ∧ 0 ≤ t.s) (hsb : ∀ t ∈ b, (t.b.size ≤ maxLen ∧ t.e.size ≤ maxLen) ∧ 0 ≤ t.s) (ha : chkT how a = 0) (hb : chkT how b ≠ 0) (hc : chkT how (a ++ b) ≠ 0) :
    Calls Try.prog 4 #[.int .i64 how, .slice pa a.length ca, .agg #[.slice pb b.length cb, .string key]] w fun e w' => e = .returned (.bool true) ∧ Below w.heap.size w w' := by
  obtain ⟨w0, hw0⟩ : ∃ w0, w.alloc (.cells #[.slice pb b.length cb, .string key] 41) = w0 := ⟨_, rfl⟩
  have hB0 : Below w.heap.size w w0 := by rw [← hw0]; exact (Below.refl _ _).alloc (Nat.le_refl _) _
  have b0 : Bl w0 w.heap.size (.cells #[.slice pb b.length cb, .string key] 41 (0, 0)) := by rw [← hw0]; exact Bl.new' rfl
  have hsab : ∀ t ∈ a ++ b, (t.b.size ≤ maxLen ∧ t.e.size ≤ maxLen) ∧ 0 ≤ t.s := fun t ht => by
    rcases List.mem_append.1 ht with h | h
    · exact hsa t h
    · exact hsb t h
  have hlaw := Lib.hid (fun s => union_law how a b key s (fun t ht => (hsab t ht).2))
  have hcA := Lib.hid (fun W (hW : Below w0.heap.size w0 W) => copied_any a pa ca W ((hra.keep hB0).keep hW) (by omega))
  have hcB := Lib.hid (fun W (hW : Below w0.heap.size w0 W) => copied_any b pb cb W ((hrb.keep hB0).keep hW) (by omega))
  have hrb2 := Lib.hid (fun W (hW : Below w0.heap.size w0 W) => (hrb.keep hB0).keep hW)
  have hnA := Lib.hid (fun A c W (hW : Rd W 3 A a.length (a.flatMap tc)) => new_yes how a A c W hW (fun t ht => (hsa t ht).1) ha (chkT_ok.1 ha).2.1)
  have hnB := Lib.hid (fun A c W (hW : Rd W 3 A b.length (b.flatMap tc)) => new_no how b A c W hW (fun t ht => (hsb t ht).1) (by unfold maxLen; omega) (beq_eq_false_iff_ne.2 hb))
  have hnC := Lib.hid (fun A c W (hW : Rd W 3 A (a ++ b).length ((a ++ b).flatMap tc)) => new_no how (a ++ b) A c W hW (fun t ht => (hsab t ht).1) (by rw [List.length_append]; unfold maxLen; omega) (beq_eq_false_iff_ne.2 hc))
  rw [List.length_append] at hnC
  obtain ⟨eb, heb⟩ : ∃ e, chkT how b = e := ⟨_, rfl⟩
  rw [heb] at hb hnB
  have nb0 : (eb != 0) = true := bne_iff_ne.2 hb
  have nb1 : (eb == 0) = false := beq_eq_false_iff_ne.2 hb
  obtain ⟨ec, hec⟩ : ∃ e, chkT how (a ++ b) = e := ⟨_, rfl⟩
  rw [hec] at hc hnC
  have nc0 : (ec != 0) = true := bne_iff_ne.2 hc
  have nc1 : (ec == 0) = false := beq_eq_false_iff_ne.2 hc
  have c0 : w0.cell? ⟨w.heap.size, 0, none⟩ = some (.slice pb b.length cb) := b0.cell 0
  have c1 : w0.cell? ⟨w.heap.size, 1, none⟩ = some (.string key) := b0.cell 1
  have tok : True := trivial
  have tok2 : True := trivial
  have hone := tc_one b
  obtain ⟨na, hna⟩ : ∃ na, a.length = na := ⟨_, rfl⟩
  obtain ⟨nb, hnb⟩ : ∃ nb, b.length = nb := ⟨_, rfl⟩
  rw [hna] at hcA hnA hnC hl ⊢
  rw [hnb] at hcB hnB hnC hrb2 hl c0 hw0 ⊢
  replace hw0 := Lib.hid hw0
  replace hone := Lib.hid hone
  clear hra hrb hsa hsb hsab b0 hna hnb
  clear ha hb hc heb hec
  go_enter Try.func4, Try.ntmps4
  go_upto_region 1 with fail
  rw [hw0.out]
  go_quiet (fail)
  have hBq := Lib.hid (below_drewN (Below.refl w0.heap.size w0) nq)
  go_upto_region 5 with (first
    | (go_at_call 8; have t1 := tok; clear tok; refine (hcA.out _ hBq.out).mono ?_; rintro e1 w1 ⟨r, rfl, ho1, hB1⟩; obtain ⟨A1, c1', rfl, hr1, -⟩ := ho1.shape; replace hr1 := Lib.hid hr1; replace hB1 := Lib.hid (hBq.out.trans (hB1.mono hBq.out.size)); clear ho1)
    | (go_at_call 13; refine (hnA.out A1 c1' w1 hr1.out).mono ?_; rintro e2 w2 ⟨pA, rfl, hypA, hB2⟩; replace hypA := Lib.hid hypA; clear hr1; replace hB2 := Lib.hid (hB1.out.trans (hB2.mono hB1.out.size)))
    | (go_at_call 8; have t2 := tok2; clear tok2; refine (hcB.out w2 hB2.out).mono ?_; rintro e3 w3 ⟨r, rfl, ho3, hB3⟩; obtain ⟨A3, c3', rfl, hr3, -⟩ := ho3.shape; replace hr3 := Lib.hid hr3; replace hypA := Lib.hid (hypA.out.keep hB3); replace hB3 := Lib.hid (hB2.out.trans (hB3.mono hB2.out.size)); clear ho3)
    | (go_at_call 13; refine (hnB.out A3 c3' w3 hr3.out).mono ?_; rintro e4 w4 ⟨rfl, hB4⟩; clear hr3; replace hypA := Lib.hid (hypA.out.keep hB4); replace hB4 := Lib.hid (hB3.out.trans (hB4.mono hB3.out.size)))
    | (go_at_call 8; refine (hcA.out w4 hB4.out).mono ?_; rintro e5 w5 ⟨r, rfl, ho5, hB5⟩; replace ho5 := Lib.hid ho5; obtain ⟨A5, c5', rfl, -⟩ := ho5.out.shape; have hB45 := Lib.hid hB5; replace hB5 := Lib.hid (hB4.out.trans (hB5.mono hB4.out.size)))
    | (at_builtin; refine wpList_append_ow rfl (.tmp 39) (.tmp 40) 22 rfl w4.heap.size 38 rfl infoTomb rfl (by decide) _ _ _ rfl ho5.out pb nb cb (b.flatMap tc) rfl (hrb2.out w5 hB5.out) hone.out (by unfold maxLen; omega) (by omega) hB45.out.size ?_; rintro v6 w6 ho6 hg6 -; have hB46 := below_grow hB45.out hB45.out.size ho5.out (Nat.le_refl _) hg6; clear hg6; obtain ⟨A6, c6', rfl, hr6, -⟩ := ho6.shape; clear ho6; rw [← List.flatMap_append] at hr6; replace hr6 := Lib.hid hr6; replace hypA := Lib.hid (hypA.out.keep hB46); replace hB46 := Lib.hid (hB4.out.trans (hB46.mono hB4.out.size)))
    | (go_at_call 13; refine (hnC.out A6 c6' w6 hr6.out).mono ?_; rintro e7 w7 ⟨rfl, hB7⟩; clear hr6; replace hypA := Lib.hid (hypA.out.keep hB7); replace hB7 := Lib.hid (hB0.trans ((hB46.out.trans (hB7.mono hB46.out.size)).mono hB0.size))))
  go_wp2_with (first
    | (go_at_call 10; refine (lives_any w7).mono ?_; rintro e8 w8 ⟨rfl, hB8⟩))
  go_ret
  exact ⟨rfl, below_then hB7.out hB8⟩
theorem union3 (how : Int) (pa pb : Option Addr) (ca cb : Nat) (a b : List Tb) (key : ByteArray) (w : World) (hl : a.length + b.length ≤ 1048576) (hra : Rd w 3 pa a.length (a.flatMap tc)) (hrb : Rd w 3 pb b.length (b.flatMap tc)) (hsa : ∀ t ∈ a, (t.b.size ≤ maxLen ∧ t.e.size ≤ maxLen) ∧ 0 ≤ t.s) (hsb : ∀ t ∈ b, (t.b.size ≤ maxLen ∧ t.e.size ≤ maxLen) ∧ 0 ≤ t.s) (ha : chkT how a = 0) (hb : chkT how b = 0) (hc : chkT how (a ++ b) ≠ 0) :
    Calls Try.prog 4 #[.int .i64 how, .slice pa a.length ca, .agg #[.slice pb b.length cb, .string key]] w fun e w' => e = .returned (.bool true) ∧ Below w.heap.size w w' := by
  obtain ⟨w0, hw0⟩ : ∃ w0, w.alloc (.cells #[.slice pb b.length cb, .string key] 41) = w0 := ⟨_, rfl⟩
  have hB0 : Below w.heap.size w w0 := by rw [← hw0]; exact (Below.refl _ _).alloc (Nat.le_refl _) _
  have b0 : Bl w0 w.heap.size (.cells #[.slice pb b.length cb, .string key] 41 (0, 0)) := by rw [← hw0]; exact Bl.new' rfl
  have hsab : ∀ t ∈ a ++ b, (t.b.size ≤ maxLen ∧ t.e.size ≤ maxLen) ∧ 0 ≤ t.s := fun t ht => by
    rcases List.mem_append.1 ht with h | h
    · exact hsa t h
    · exact hsb t h
  have hlaw := Lib.hid (fun s => union_law how a b key s (fun t ht => (hsab t ht).2))
  have hcA := Lib.hid (fun W (hW : Below w0.heap.size w0 W) => copied_any a pa ca W ((hra.keep hB0).keep hW) (by omega))
  have hcB := Lib.hid (fun W (hW : Below w0.heap.size w0 W) => copied_any b pb cb W ((hrb.keep hB0).keep hW) (by omega))
  have hrb2 := Lib.hid (fun W (hW : Below w0.heap.size w0 W) => (hrb.keep hB0).keep hW)
  have hnA := Lib.hid (fun A c W (hW : Rd W 3 A a.length (a.flatMap tc)) => new_yes how a A c W hW (fun t ht => (hsa t ht).1) ha (chkT_ok.1 ha).2.1)
  have hnB := Lib.hid (fun A c W (hW : Rd W 3 A b.length (b.flatMap tc)) => new_yes how b A c W hW (fun t ht => (hsb t ht).1) hb (chkT_ok.1 hb).2.1)
  have hnC := Lib.hid (fun A c W (hW : Rd W 3 A (a ++ b).length ((a ++ b).flatMap tc)) => new_no how (a ++ b) A c W hW (fun t ht => (hsab t ht).1) (by rw [List.length_append]; unfold maxLen; omega) (beq_eq_false_iff_ne.2 hc))
  rw [List.length_append] at hnC
  obtain ⟨hc2, hcl⟩ := chkT_app ha hb hc
  rw [hc2] at hnC
  have c0 : w0.cell? ⟨w.heap.size, 0, none⟩ = some (.slice pb b.length cb) := b0.cell 0
  have c1 : w0.cell? ⟨w.heap.size, 1, none⟩ = some (.string key) := b0.cell 1
  have tok : True := trivial
  have tok2 : True := trivial
  have hone := tc_one b
  obtain ⟨na, hna⟩ : ∃ na, a.length = na := ⟨_, rfl⟩
  obtain ⟨nb, hnb⟩ : ∃ nb, b.length = nb := ⟨_, rfl⟩
  rw [hna] at hcA hnA hnC hl ⊢
  rw [hnb] at hcB hnB hnC hrb2 hl c0 hw0 ⊢
  rw [hna, hnb] at hcl
  have d9 : decide ((1024 : Int) < (na : Int) + (nb : Int)) = true := decide_eq_true (by omega)
  replace hw0 := Lib.hid hw0
  replace hone := Lib.hid hone
  clear hra hrb hsa hsb hsab b0 hna hnb
  clear ha hb hc hc2 hcl
  go_enter Try.func4, Try.ntmps4
  go_upto_region 1 with fail
  rw [hw0.out]
  go_quiet (fail)
  have hBq := Lib.hid (below_drewN (Below.refl w0.heap.size w0) nq)
  go_upto_region 5 with (first
    | (go_at_call 8; have t1 := tok; clear tok; refine (hcA.out _ hBq.out).mono ?_; rintro e1 w1 ⟨r, rfl, ho1, hB1⟩; obtain ⟨A1, c1', rfl, hr1, -⟩ := ho1.shape; replace hr1 := Lib.hid hr1; replace hB1 := Lib.hid (hBq.out.trans (hB1.mono hBq.out.size)); clear ho1)
    | (go_at_call 13; refine (hnA.out A1 c1' w1 hr1.out).mono ?_; rintro e2 w2 ⟨pA, rfl, hypA, hB2⟩; replace hypA := Lib.hid hypA; clear hr1; replace hB2 := Lib.hid (hB1.out.trans (hB2.mono hB1.out.size)))
    | (go_at_call 8; have t2 := tok2; clear tok2; refine (hcB.out w2 hB2.out).mono ?_; rintro e3 w3 ⟨r, rfl, ho3, hB3⟩; obtain ⟨A3, c3', rfl, hr3, -⟩ := ho3.shape; replace hr3 := Lib.hid hr3; replace hypA := Lib.hid (hypA.out.keep hB3); replace hB3 := Lib.hid (hB2.out.trans (hB3.mono hB2.out.size)); clear ho3)
    | (go_at_call 13; refine (hnB.out A3 c3' w3 hr3.out).mono ?_; rintro e4 w4 ⟨pB, rfl, hypB, hB4⟩; replace hypB := Lib.hid hypB; clear hr3; replace hypA := Lib.hid (hypA.out.keep hB4); replace hB4 := Lib.hid (hB3.out.trans (hB4.mono hB3.out.size)))
    | (go_at_call 8; refine (hcA.out w4 hB4.out).mono ?_; rintro e5 w5 ⟨r, rfl, ho5, hB5⟩; replace ho5 := Lib.hid ho5; obtain ⟨A5, c5', rfl, -⟩ := ho5.out.shape; have hB45 := Lib.hid hB5; replace hB5 := Lib.hid (hB4.out.trans (hB5.mono hB4.out.size)))
    | (at_builtin; refine wpList_append_ow rfl (.tmp 39) (.tmp 40) 22 rfl w4.heap.size 38 rfl infoTomb rfl (by decide) _ _ _ rfl ho5.out pb nb cb (b.flatMap tc) rfl (hrb2.out w5 hB5.out) hone.out (by unfold maxLen; omega) (by omega) hB45.out.size ?_; rintro v6 w6 ho6 hg6 -; have hB46 := below_grow hB45.out hB45.out.size ho5.out (Nat.le_refl _) hg6; clear hg6; obtain ⟨A6, c6', rfl, hr6, -⟩ := ho6.shape; clear ho6; rw [← List.flatMap_append] at hr6; replace hr6 := Lib.hid hr6; replace hypA := Lib.hid (hypA.out.keep hB46); replace hypB := Lib.hid (hypB.out.keep hB46); replace hB46 := Lib.hid (hB4.out.trans (hB46.mono hB4.out.size)))
    | (go_at_call 13; refine (hnC.out A6 c6' w6 hr6.out).mono ?_; rintro e7 w7 ⟨rfl, hB7⟩; clear hr6; replace hypA := Lib.hid (hypA.out.keep hB7); replace hypB := Lib.hid (hypB.out.keep hB7); replace hB7 := Lib.hid (hB0.trans ((hB46.out.trans (hB7.mono hB46.out.size)).mono hB0.size))))
  go_wp2_with (first
    | (go_at_call 10; refine (lives_any w7).mono ?_; rintro e8 w8 ⟨rfl, hB8⟩))
  go_ret
  exact ⟨rfl, below_then hB7.out hB8⟩
theorem union4 (how : Int) (pa pb : Option Addr) (ca cb : Nat) (a b : List Tb) (key : ByteArray) (w : World) (hl : a.length + b.length ≤ 1048576) (hra : Rd w 3 pa a.length (a.flatMap tc)) (hrb : Rd w 3 pb b.length (b.flatMap tc)) (hsa : ∀ t ∈ a, (t.b.size ≤ maxLen ∧ t.e.size ≤ maxLen) ∧ 0 ≤ t.s) (hsb : ∀ t ∈ b, (t.b.size ≤ maxLen ∧ t.e.size ≤ maxLen) ∧ 0 ≤ t.s) (ha : chkT how a = 0) (hb : chkT how b = 0) (hc : chkT how (a ++ b) = 0) :
    Calls Try.prog 4 #[.int .i64 how, .slice pa a.length ca, .agg #[.slice pb b.length cb, .string key]] w fun e w' => e = .returned (.bool true) ∧ Below w.heap.size w w' := by
  obtain ⟨w0, hw0⟩ : ∃ w0, w.alloc (.cells #[.slice pb b.length cb, .string key] 41) = w0 := ⟨_, rfl⟩
  have hB0 : Below w.heap.size w w0 := by rw [← hw0]; exact (Below.refl _ _).alloc (Nat.le_refl _) _
  have b0 : Bl w0 w.heap.size (.cells #[.slice pb b.length cb, .string key] 41 (0, 0)) := by rw [← hw0]; exact Bl.new' rfl
  have hsab : ∀ t ∈ a ++ b, (t.b.size ≤ maxLen ∧ t.e.size ≤ maxLen) ∧ 0 ≤ t.s := fun t ht => by
    rcases List.mem_append.1 ht with h | h
    · exact hsa t h
    · exact hsb t h
  have hlaw := Lib.hid (fun s => union_law how a b key s (fun t ht => (hsab t ht).2))
  have hcA := Lib.hid (fun W (hW : Below w0.heap.size w0 W) => copied_any a pa ca W ((hra.keep hB0).keep hW) (by omega))
  have hcB := Lib.hid (fun W (hW : Below w0.heap.size w0 W) => copied_any b pb cb W ((hrb.keep hB0).keep hW) (by omega))
  have hrb2 := Lib.hid (fun W (hW : Below w0.heap.size w0 W) => (hrb.keep hB0).keep hW)
  have hnA := Lib.hid (fun A c W (hW : Rd W 3 A a.length (a.flatMap tc)) => new_yes how a A c W hW (fun t ht => (hsa t ht).1) ha (chkT_ok.1 ha).2.1)
  have hnB := Lib.hid (fun A c W (hW : Rd W 3 A b.length (b.flatMap tc)) => new_yes how b A c W hW (fun t ht => (hsb t ht).1) hb (chkT_ok.1 hb).2.1)
  have hnC := Lib.hid (fun A c W (hW : Rd W 3 A (a ++ b).length ((a ++ b).flatMap tc)) => new_yes how (a ++ b) A c W hW (fun t ht => (hsab t ht).1) hc (chkT_ok.1 hc).2.1)
  rw [List.length_append] at hnC
  have hfA := split_fo how a (chkT_ok.1 ha).2.1
  have hfB := split_fo how b (chkT_ok.1 hb).2.1
  have hfC := split_fo how (a ++ b) (chkT_ok.1 hc).2.1
  obtain ⟨FA, hFA⟩ : ∃ F, splitT how a = F := ⟨_, rfl⟩
  obtain ⟨FB, hFB⟩ : ∃ F, splitT how b = F := ⟨_, rfl⟩
  obtain ⟨FC, hFC⟩ : ∃ F, splitT how (a ++ b) = F := ⟨_, rfl⟩
  rw [hFA] at hnA hfA hlaw
  rw [hFB] at hnB hfB hlaw
  rw [hFC] at hnC hfC hlaw
  have hmA := Lib.hid (fun s x W h => most_any how FA key s x W h hfA)
  have hmB := Lib.hid (fun s x W h => most_any how FB key s x W h hfB)
  have hmC := Lib.hid (fun s x W h => most_any how FC key s x W h hfC)
  clear hfA hfB hfC hFA hFB hFC
  have c0 : w0.cell? ⟨w.heap.size, 0, none⟩ = some (.slice pb b.length cb) := b0.cell 0
  have c1 : w0.cell? ⟨w.heap.size, 1, none⟩ = some (.string key) := b0.cell 1
  have tok : True := trivial
  have tok2 : True := trivial
  have hone := tc_one b
  obtain ⟨na, hna⟩ : ∃ na, a.length = na := ⟨_, rfl⟩
  obtain ⟨nb, hnb⟩ : ∃ nb, b.length = nb := ⟨_, rfl⟩
  rw [hna] at hcA hnA hnC hl ⊢
  rw [hnb] at hcB hnB hnC hrb2 hl c0 hw0 ⊢
  replace hw0 := Lib.hid hw0
  replace hone := Lib.hid hone
  clear hra hrb hsa hsb hsab b0 hna hnb
  clear ha hb hc 
  go_enter Try.func4, Try.ntmps4
  go_upto_region 1 with fail
  rw [hw0.out]
  go_quiet (fail)
  have hBq := Lib.hid (below_drewN (Below.refl w0.heap.size w0) nq)
  go_upto_region 5 with (first
    | (go_at_call 8; have t1 := tok; clear tok; refine (hcA.out _ hBq.out).mono ?_; rintro e1 w1 ⟨r, rfl, ho1, hB1⟩; obtain ⟨A1, c1', rfl, hr1, -⟩ := ho1.shape; replace hr1 := Lib.hid hr1; replace hB1 := Lib.hid (hBq.out.trans (hB1.mono hBq.out.size)); clear ho1)
    | (go_at_call 13; refine (hnA.out A1 c1' w1 hr1.out).mono ?_; rintro e2 w2 ⟨pA, rfl, hypA, hB2⟩; replace hypA := Lib.hid hypA; clear hr1; replace hB2 := Lib.hid (hB1.out.trans (hB2.mono hB1.out.size)))
    | (go_at_call 8; have t2 := tok2; clear tok2; refine (hcB.out w2 hB2.out).mono ?_; rintro e3 w3 ⟨r, rfl, ho3, hB3⟩; obtain ⟨A3, c3', rfl, hr3, -⟩ := ho3.shape; replace hr3 := Lib.hid hr3; replace hypA := Lib.hid (hypA.out.keep hB3); replace hB3 := Lib.hid (hB2.out.trans (hB3.mono hB2.out.size)); clear ho3)
    | (go_at_call 13; refine (hnB.out A3 c3' w3 hr3.out).mono ?_; rintro e4 w4 ⟨pB, rfl, hypB, hB4⟩; replace hypB := Lib.hid hypB; clear hr3; replace hypA := Lib.hid (hypA.out.keep hB4); replace hB4 := Lib.hid (hB3.out.trans (hB4.mono hB3.out.size)))
    | (go_at_call 8; refine (hcA.out w4 hB4.out).mono ?_; rintro e5 w5 ⟨r, rfl, ho5, hB5⟩; replace ho5 := Lib.hid ho5; obtain ⟨A5, c5', rfl, -⟩ := ho5.out.shape; have hB45 := Lib.hid hB5; replace hB5 := Lib.hid (hB4.out.trans (hB5.mono hB4.out.size)))
    | (at_builtin; refine wpList_append_ow rfl (.tmp 39) (.tmp 40) 22 rfl w4.heap.size 38 rfl infoTomb rfl (by decide) _ _ _ rfl ho5.out pb nb cb (b.flatMap tc) rfl (hrb2.out w5 hB5.out) hone.out (by unfold maxLen; omega) (by omega) hB45.out.size ?_; rintro v6 w6 ho6 hg6 -; have hB46 := below_grow hB45.out hB45.out.size ho5.out (Nat.le_refl _) hg6; clear hg6; obtain ⟨A6, c6', rfl, hr6, -⟩ := ho6.shape; clear ho6; rw [← List.flatMap_append] at hr6; replace hr6 := Lib.hid hr6; replace hypA := Lib.hid (hypA.out.keep hB46); replace hypB := Lib.hid (hypB.out.keep hB46); replace hB46 := Lib.hid (hB4.out.trans (hB46.mono hB4.out.size)))
    | (go_at_call 13; refine (hnC.out A6 c6' w6 hr6.out).mono ?_; rintro e7 w7 ⟨pC, rfl, hypC, hB7⟩; replace hypC := Lib.hid hypC; clear hr6; replace hypA := Lib.hid (hypA.out.keep hB7); replace hypB := Lib.hid (hypB.out.keep hB7); replace hB7 := Lib.hid (hB0.trans ((hB46.out.trans (hB7.mono hB46.out.size)).mono hB0.size))))
  go_wp2_with fail
  clear c0 c1
  go_loopw [15] (fun vi wr => ∃ k : Nat, k ≤ 12 ∧ vi = .int .u64 k ∧ Below w7.heap.size w7 wr) (fun vi _ => 12 - (intOf vi).toNat)
  case atStart => exact ⟨0, Nat.zero_le _, rfl, Below.refl _ _⟩
  case round =>
    obtain ⟨k, hk, rfl, hB⟩ := hrel
    by_cases hlt : k < 12
    · have hlk := hlaw.out (k : Int)
      have h1 := hmA.out (k : Int) pA wr (hypA.out.keep hB)
      have h2 := Lib.hid (fun W (hW : Below w7.heap.size w7 W) => hmB.out (k : Int) pB W (hypB.out.keep hW))
      have h3 := Lib.hid (fun W (hW : Below w7.heap.size w7 W) => hmC.out (k : Int) pC W (hypC.out.keep hW))
      obtain ⟨x, hx⟩ : ∃ x, uptoQ (overQ how FA key) (k : Int) = x := ⟨_, rfl⟩
      obtain ⟨y, hy⟩ : ∃ x, uptoQ (overQ how FB key) (k : Int) = x := ⟨_, rfl⟩
      obtain ⟨z, hz⟩ : ∃ x, uptoQ (overQ how FC key) (k : Int) = x := ⟨_, rfl⟩
      rw [hx] at hlk h1
      rw [hy] at hlk h2
      rw [hz] at hlk h3
      replace h1 := Lib.hid h1
      clear hx hy hz
      by_cases hxy : x < y
      · rw [if_pos hxy] at hlk
        subst hlk
        have d0 : decide (x < z) = true := decide_eq_true hxy
        go_wp2_with (first
          | (go_at_call 14; (with_reducible refine h1.out.mono ?_); rintro e1 w11 ⟨rfl, hB11⟩; replace hB11 := hB.trans (hB11.mono hB.size); clear h1)
          | (go_at_call 14; (with_reducible refine (h2.out _ hB11).mono ?_); rintro e1 w12 ⟨rfl, hB12⟩; replace hB12 := hB11.trans (hB12.mono hB11.size); clear h2)
          | (go_at_call 14; (with_reducible refine (h3.out _ hB12).mono ?_); rintro e1 w13 ⟨rfl, hB13⟩; replace hB13 := hB12.trans (hB13.mono hB12.size)))
        go_roundw
        case measure => simp only [intOf]; omega
        case rel => exact ⟨k + 1, by omega, by go_num, hB13⟩
      · rw [if_neg hxy] at hlk
        subst hlk
        have d0 : decide (z < y) = false := decide_eq_false hxy
        go_wp2_with (first
          | (go_at_call 14; (with_reducible refine h1.out.mono ?_); rintro e1 w11 ⟨rfl, hB11⟩; replace hB11 := hB.trans (hB11.mono hB.size); clear h1)
          | (go_at_call 14; (with_reducible refine (h2.out _ hB11).mono ?_); rintro e1 w12 ⟨rfl, hB12⟩; replace hB12 := hB11.trans (hB12.mono hB11.size); clear h2)
          | (go_at_call 14; (with_reducible refine (h3.out _ hB12).mono ?_); rintro e1 w13 ⟨rfl, hB13⟩; replace hB13 := hB12.trans (hB13.mono hB12.size)))
        go_roundw
        case measure => simp only [intOf]; omega
        case rel => exact ⟨k + 1, by omega, by go_num, hB13⟩
    · obtain rfl : k = 12 := by omega
      go_wp2_with (first
        | (go_at_call 10; refine (lives_any _).mono ?_; rintro e8 w8 ⟨rfl, hB8⟩))
      go_ret
      exact ⟨rfl, below_then (below_then hB7.out hB) hB8⟩
theorem union_walk (how : Int) (pa pb : Option Addr) (ca cb : Nat) (a b : List Tb) (key : ByteArray) (w : World) (hl : a.length + b.length ≤ 1048576) (hra : Rd w 3 pa a.length (a.flatMap tc)) (hrb : Rd w 3 pb b.length (b.flatMap tc)) (hsa : ∀ t ∈ a, (t.b.size ≤ maxLen ∧ t.e.size ≤ maxLen) ∧ 0 ≤ t.s) (hsb : ∀ t ∈ b, (t.b.size ≤ maxLen ∧ t.e.size ≤ maxLen) ∧ 0 ≤ t.s) :
    Calls Try.prog 4 #[.int .i64 how, .slice pa a.length ca, .agg #[.slice pb b.length cb, .string key]] w fun e w' => e = .returned (.bool true) ∧ Below w.heap.size w w' := by
  by_cases ha : chkT how a = 0
  · by_cases hb : chkT how b = 0
    · by_cases hc : chkT how (a ++ b) = 0
      · exact union4 how pa pb ca cb a b key w hl hra hrb hsa hsb ha hb hc
      · exact union3 how pa pb ca cb a b key w hl hra hrb hsa hsb ha hb hc
    · exact union2 how pa pb ca cb a b key w hl hra hrb hsa hsb ha hb (fun h => hb (chkT_app0 h).2)
  · exact union1 how pa pb ca cb a b key w hl hra hrb hsa hsb ha (fun h => ha (chkT_app0 h).1)
end Go.Proofs.Ytmopjoeomjdikaa
