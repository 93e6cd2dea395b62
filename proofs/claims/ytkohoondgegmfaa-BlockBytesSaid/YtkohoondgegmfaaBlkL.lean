/- Two lists of entries that are the same; the law of BlockBytes, walked. Conditions: texts that can be. -/
import Derived.RangeFuncNested
import Derived.RangeFuncBound
import Derived.RangeFuncCalls
import Derived.RangeFuncLeaves
import Derived.Shelf.Abstract
import Derived.Shelf.RegionOpen
import Derived.WalkKit
import Derived.OwnWalkIn
import Derived.TacticsInMore
import Derived.LoopNIn
import Derived.LoopIn
import Derived.Lib.Hide
import Derived.Outline
import Derived.RegionTactic
import Derived.BigRegion
import Derived.WalkLawsBesides
import Derived.WalkSpells
import Derived.Deep.QuietTactic
import Derived.BigQuiet
import Derived.Deep.RegionHeld3
import Derived.Deep.DeepCutAuto
import Derived.Deep.CutBlock
import Derived.StillTailTactics
import Derived.WalkSmall
import Derived.Test.YtkohoondgegmfaaBlkK
namespace Go.Proofs.Ytkohoondgegmfaa
open Go.RowKit Go.Sed
set_option maxHeartbeats 1000000
set_option maxRecDepth 100000
theorem same_yes (A1 A2 : Option Addr) (c1 c2 : Nat) (l : List E4) (w : World) (hll : l.length ≤ maxLen) (h1 : Rd w 4 A1 l.length (l.flatMap e4c)) (h2 : Rd w 4 A2 l.length (l.flatMap e4c)) :
    Calls Try.prog 11 #[.slice A1 l.length c1, .slice A2 l.length c2] w fun e w' => e = .returned (.bool true) ∧ Below w.heap.size w w' := by
  unfold maxLen at hll
  go_enter Try.func11, Try.ntmps11
  go_wp2_with fail
  go_loopw [5] (fun i wr => ∃ k : Nat, k ≤ l.length ∧ i = .int .i64 k ∧ Below w.heap.size w wr) (fun i _ => l.length - (intOf i).toNat)
  case atStart => exact ⟨0, Nat.zero_le _, rfl, Below.refl _ _⟩
  case round =>
    obtain ⟨k, hk, rfl, hB⟩ := hrel
    by_cases hlt : k < l.length
    · obtain ⟨e, he⟩ : ∃ e, l[k]? = some e := ⟨_, List.getElem?_eq_getElem hlt⟩
      obtain ⟨u, s, kk, v⟩ := e
      obtain ⟨g1, o1, hA⟩ : ∃ g o, A1 = some ⟨g, o, none⟩ := by
        obtain ⟨b, o, e, _⟩ := h1.2 (by omega)
        exact ⟨b, o, e⟩
      subst hA
      obtain ⟨g2, o2, hA⟩ : ∃ g o, A2 = some ⟨g, o, none⟩ := by
        obtain ⟨b, o, e, _⟩ := h2.2 (by omega)
        exact ⟨b, o, e⟩
      subst hA
      have q0 : wr.cell? ⟨g1, o1 + k * 4, none⟩ = some (.string u) := (h1.keep hB).elem e4c_len he (j := 0) rfl
      have q1 : wr.cell? ⟨g1, o1 + k * 4 + 1, none⟩ = some (.int .u64 s) := (h1.keep hB).elem e4c_len he (j := 1) rfl
      have q2 : wr.cell? ⟨g1, o1 + k * 4 + 2, none⟩ = some (.int .i64 kk) := (h1.keep hB).elem e4c_len he (j := 2) rfl
      have q3 : wr.cell? ⟨g1, o1 + k * 4 + 3, none⟩ = some (.string v) := (h1.keep hB).elem e4c_len he (j := 3) rfl
      have p0 : wr.cell? ⟨g2, o2 + k * 4, none⟩ = some (.string u) := (h2.keep hB).elem e4c_len he (j := 0) rfl
      have p1 : wr.cell? ⟨g2, o2 + k * 4 + 1, none⟩ = some (.int .u64 s) := (h2.keep hB).elem e4c_len he (j := 1) rfl
      have p2 : wr.cell? ⟨g2, o2 + k * 4 + 2, none⟩ = some (.int .i64 kk) := (h2.keep hB).elem e4c_len he (j := 2) rfl
      have p3 : wr.cell? ⟨g2, o2 + k * 4 + 3, none⟩ = some (.string v) := (h2.keep hB).elem e4c_len he (j := 3) rfl
      go_wp2_with fail
      go_quiet (fail)
      go_wp2_with fail
      go_roundw
      case rel => exact ⟨k + 1, by omega, by go_num, below_drewN hB _⟩
      case measure => simp only [intOf]; omega
    · go_wp2_with fail
      go_ret
      exact ⟨rfl, hB⟩
theorem run_make_row {t e : TypeId} {z : Value} {size bytes : Nat} (ht : Try.prog.underlying t = some (.slice e)) (hinfo : (Try.prog.info? e).map (fun i => (i.zero, i.size, i.bytes)) = some (some z, size, bytes)) (a b : Int) (na nb : Nat) (ha : a = na) (hb : b = nb) (hab : na ≤ nb) (hby : bytes * nb ≤ 281474976710656) (h63 : nb ≤ 9223372036854775807) (w : World) :
    (Instr.makeSlice t (.int .i64 a) (.int .i64 b)).run Try.prog w = .ok (.slice (some ⟨w.heap.size, 0, none⟩) na nb) (w.alloc (.cells (madeCells z.cells (nb * size)) e)) := by
  obtain ⟨i, hi, hz0, hz1, hz2⟩ := info_parts hinfo
  subst ha hb
  have := run_make (P := Try.prog) w t e i z ht hi hz0 .i64 .i64 na nb (by omega) (by omega) (by rw [hz2, ← Int.natCast_mul]; omega) (by omega)
  rw [this, hz1]
  rw [Int.toNat_natCast, Int.toNat_natCast]
theorem OW.made {w : World} {size k nb : Nat} {cs : Array Value} {e : TypeId} (hk : k = w.heap.size) (hc : cs.size = nb * size) (hm : nb ≤ maxLen) : OW (w.alloc (.cells cs e)) w.heap.size size (.slice (some ⟨k, 0, none⟩) 0 nb) 0 [] :=
  OW.of_block (T := e) (Nat.le_of_eq hk.symm) (Bl.new' hk) (Nat.zero_le _) hm hc (by simp)
theorem infoEntry : (Try.prog.info? 48).map (fun i => (i.zero, i.size, i.bytes)) = some (some (.agg #[.string ByteArray.empty, .int .u64 0, .int .i64 0, .string ByteArray.empty]), 4, 48) := by kernel_rfl
theorem e4_one (l : List E4) : ∀ u ∈ l.flatMap e4c, u.oneCell' = true := by
  intro u hu
  obtain ⟨a, -, h⟩ := List.mem_flatMap.1 hu
  simp [e4c] at h
  rcases h with rfl | rfl | rfl | rfl <;> rfl
theorem conv_own {w W : World} {base n : Nat} {xs : List Int} {A : Option Addr} {c : Nat} (h : OW w base 1 (.slice A n c) n (vb xs)) (hB : Below w.heap.size w W) :
    (convert 23 9 (.slice A n c)).run Try.prog W = .ok (.string (strOfNums xs)) W :=
  conv_rd Try.underlying23 Try.underlying5 xs (h.rd.keep hB) Try.underlying9
theorem bld_none : bldE 0 1 [] = 0 ∧ bldB 0 1 [] = [0, 0, 0, 0, 1, 0, 0, 0] := by
  have h : blk 1 [] = [0, 0, 0, 0, 1, 0, 0, 0] := by decide
  have h1 := bld_ok (how := 0) (rs := 1) (l := []) ⟨.inl rfl, by omega, by omega⟩ (by simp) rfl (by rw [show (1 : Int).toNat = 1 from rfl, h]; simp)
  rw [show (1 : Int).toNat = 1 from rfl, h] at h1
  exact h1
theorem str_none : strOfNums [0, 0, 0, 0, 1, 0, 0, 0] = { data := #[0, 0, 0, 0, 1, 0, 0, 0] } := by decide
theorem bytes_walk (how rs : Int) (A : Option Addr) (c : Nat) (l : List E4) (w : World) (hll : l.length * 48 ≤ 140737488351232) (hr : Rd w 4 A l.length (l.flatMap e4c)) (hfit : Fit l) :
    Calls Try.prog 3 #[.int .i64 how, .int .i64 rs, .slice A l.length c] w fun e w' => e = .returned (.bool true) ∧ Below w.heap.size w w' := by
  have hll2 : l.length ≤ maxLen := by unfold maxLen; omega
  have hmk := run_make_row Try.underlying22 infoEntry 0 ((l.length : Int) + 1) 0 (l.length + 1) rfl (by omega) (by omega) (by omega) (by omega)
  replace hfit := Lib.hid hfit
  go_enter Try.func3, Try.ntmps3
  go_upto_region 2 with (first
    | (at_builtin; refine wpList_append_ow rfl _ _ 22 rfl w.heap.size 48 Try.underlying22 infoEntry rfl (by decide) _ 0 [] rfl (OW.made rfl (size_madeCells _ _) (by unfold maxLen; omega)) A l.length c (l.flatMap e4c) rfl (hr.alloc _) (e4_one l) (by omega) (by omega) (by simp) ?_; intro v1 w1 ho1 hg1 hc1; rw [Nat.zero_add, List.nil_append] at ho1; have hB1 := Lib.hid (below_grow ((Below.refl w.heap.size w).alloc (Nat.le_refl _) _) (by simp) (OW.made rfl (size_madeCells _ _) (by unfold maxLen; omega)) (Nat.le_refl _) hg1); clear hg1 hc1))
  obtain ⟨A1, c1, rfl, hr1, -⟩ := ho1.shape
  replace hr1 := Lib.hid hr1
  have hr0 := Lib.hid hr
  clear hr ho1 hmk
  obtain ⟨bE, hbE⟩ : ∃ x, bldE how rs l = x := ⟨_, rfl⟩
  obtain ⟨bB, hbB⟩ : ∃ x, bldB how rs l = x := ⟨_, rfl⟩
  obtain ⟨sE, hsE⟩ : ∃ x, sizE rs l = x := ⟨_, rfl⟩
  obtain ⟨sN, hsN⟩ : ∃ x, sizN rs l = x := ⟨_, rfl⟩
  have k1 := Lib.hid (fun W h => build_any how rs A1 c1 l W hll2 h hfit.out)
  have k2 := Lib.hid (fun W h => rbuild_any how rs A c l W hll2 h hfit.out)
  have k3 := Lib.hid (fun W h => size_any rs A1 c1 l W hll2 h hfit.out)
  have k4 := Lib.hid (fun W h => rsize_any rs A c l W hll2 h hfit.out)
  have k5 := Lib.hid (fun W => build_any 0 1 none 0 [] W (by simp) (Rd.nil _ _ _) (fun e he => by cases he))
  rw [hbE, hbB] at k1 k2
  rw [hsE, hsN] at k3 k4
  rw [bld_none.1, bld_none.2] at k5
  clear hbE hbB hsE hsN hfit
  go_upto_region 7 with (first
    | (go_at_call 8; refine (k2.out _ (hr0.out.keep hB2.out)).mono ?_; rintro e w3 ⟨v3, rfl, ho3, hB3⟩; rw [vb_len] at ho3; obtain ⟨A3, c3, rfl, -⟩ := ho3.shape; replace ho3 := Lib.hid ho3; have hBB := Lib.hid hB3; replace hB3 := Lib.hid (below_then hB2.out hB3))
    | (go_at_call 7; have _t := hB2; refine (k5.out _).mono ?_; rintro e w6 ⟨v6, rfl, ho6, hB6⟩; rw [vb_len] at ho6; obtain ⟨A6, c6, rfl, -⟩ := ho6.shape; replace ho6 := Lib.hid ho6; have hBF := Lib.hid hB6; replace hB6 := Lib.hid (below_then hB5.out hB6))
    | (go_at_call 7; refine (k1.out _ hr1.out).mono ?_; rintro e w2 ⟨v2, rfl, ho2, hB2⟩; rw [vb_len] at ho2; obtain ⟨A2, c2, rfl, -⟩ := ho2.shape; replace ho2 := Lib.hid ho2; have hBA := Lib.hid hB2; replace hB2 := Lib.hid (below_then hB1.out hB2))
    | (go_at_call 9; refine (k3.out _ (hr1.out.keep (below_then hBA.out hBB.out))).mono ?_; rintro e w4 ⟨rfl, hB4⟩; have hBC := Lib.hid hB4; replace hB4 := Lib.hid (below_then hB3.out hB4))
    | (go_at_call 10; refine (k4.out _ (hr0.out.keep hB4.out)).mono ?_; rintro e w5 ⟨rfl, hB5⟩; have hBD := Lib.hid hB5; replace hB5 := Lib.hid (below_then hB4.out hB5)))
  have hx2 := ho2.out
  have hx3 := ho3.out
  clear k1 k2 k3 k4 k5
  have hcv1 : (convert 23 9 (.slice A2 bB.length c2)).run Try.prog w6 = .ok (.string (strOfNums bB)) w6 := conv_own hx2 (below_then hBB.out (below_then hBC.out (below_then hBD.out hBF.out)))
  have hcv2 : (convert 23 9 (.slice A3 bB.length c3)).run Try.prog w6 = .ok (.string (strOfNums bB)) w6 := conv_own hx3 (below_then hBC.out (below_then hBD.out hBF.out))
  obtain ⟨S, hS⟩ : ∃ S, strOfNums bB = S := ⟨_, rfl⟩
  rw [hS] at hcv1 hcv2
  clear hS hx2 hx3
  have hy1 := Lib.hid (hr1.out.keep (below_then hBA.out (below_then hBB.out (below_then hBC.out (below_then hBD.out hBF.out)))))
  have hy0 := Lib.hid (hr0.out.keep hB6.out)
  have hlen8 : ([0, 0, 0, 0, 1, 0, 0, 0] : List Int).length = 8 := rfl
  go_wp2_with (first
    | (go_at_call 11; refine (same_yes _ _ _ _ l _ hll2 hy1.out hy0.out).mono ?_; rintro e w7 ⟨rfl, hB7⟩; have hcv3 : (convert 23 9 (.slice A6 8 c6)).run Try.prog w7 = .ok (.string { data := #[0, 0, 0, 0, 1, 0, 0, 0] }) w7 := by { rw [← str_none]; exact conv_own ho6.out hB7 }; replace hB7 := Lib.hid (below_then hB6.out hB7)))
  go_ret
  exact ⟨rfl, hB7.out⟩
end Go.Proofs.Ytkohoondgegmfaa
