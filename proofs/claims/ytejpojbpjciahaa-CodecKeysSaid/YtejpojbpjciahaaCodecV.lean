/- Contracts of layer 1 (codec): the document's bytes of a key; the law of keys. -/
import Derived.Test.YtejpojbpjciahaaProg
import Derived.RangeFuncNested
import Derived.RangeFuncBound
import Derived.RangeFuncCalls
import Derived.RangeFuncLeaves
import Derived.Shelf.Abstract
import Derived.Shelf.RegionOpen
import Derived.WalkKit
import Derived.OwnWalkIn
import Derived.TacticsInMore
import Derived.LoopNIn
import Derived.LoopIn
import Derived.Lib.Hide
import Derived.Outline
import Derived.RegionTactic
import Derived.BigRegion
import Derived.WalkLawsBesides
import Derived.WalkSpells
import Derived.Deep.QuietTactic
import Derived.BigQuiet
import Derived.Deep.RegionHeld3
import Derived.Lib.Bytealg
import Derived.Lib.ConvBytes
import Derived.Laws.BytesArg
import Derived.Test.YtejpojbpjciahaaSed
import Derived.Test.YtejpojbpjciahaaOwn
import Derived.Deep.DeepCutAuto
import Derived.Deep.CutBlock
import Derived.Laws.Bits64b
import Derived.Test.YtejpojbpjciahaaCodecK
namespace Go.Proofs.Ytejpojbpjciahaa
open Go.RowKit Go.Sed
set_option maxHeartbeats 1000000
theorem rfixed_any (n : Int) (w : World) :
    Calls Try.prog 31 #[.int .u64 n, .int .i64 8] w fun e w' => ∃ v, e = .returned v ∧ OW w' w.heap.size 1 v 8 ((fixL n 8).map (Value.int .u8)) ∧ Below w.heap.size w w' := by
  go_enter Try.func31, Try.ntmps31
  go_wp2
  go_loopw [5, 6] (fun v i wr => ∃ k : Nat, k ≤ 8 ∧ i = .int .i64 k ∧ OW wr w.heap.size 1 v k ((fixL n k).map (Value.int .u8)) ∧ Below w.heap.size w wr) (fun _ i _ => 8 - (intOf i).toNat)
  case atStart => exact ⟨0, Nat.zero_le _, rfl, OW.empty (Nat.le_refl _) (Bl.new' rfl), (Below.refl _ _).alloc (Nat.le_refl _) _⟩
  case round =>
    obtain ⟨k, hk, rfl, hown, hB⟩ := hrel
    by_cases hlt : k < 8
    · have hsh := run_shr (P := Try.prog) (kx := .u64) (ky := .u64) n (8 * (k : Int)) (8 * k) (by omega) (by show _ ≤ 64; omega)
      have hwr : IntKind.u64.wrap (8 * (k : Int)) = 8 * k := by simp [IntKind.wrap, IntKind.bits, IntKind.signed]; omega
      have hsz := hB.size
      obtain ⟨A0, c0, rfl, -⟩ := hown.shape
      go_wp2_with (at_builtin; refine wpList_append_ow rfl _ _ 22 rfl w.heap.size 5 Try.underlying22 infoByte rfl (by decide) _ k _ rfl (hown.alloc _) _ 1 1 [.int .u8 (n / 2 ^ (8 * k) % 256)] rfl (rd_one rfl _ _) (by intro u hu; simp at hu; subst hu; rfl) (by unfold maxLen; omega) (by omega) (by simp; omega) ?_; intro v' w3 hown' hgr _; have hB3 : Below w.heap.size w w3 := below_grow (hB.alloc hB.size _) (by simp; omega) (hown.alloc _) (Nat.le_refl _) hgr; clear hgr)
      go_roundw
      case rel => exact ⟨k + 1, by omega, by go_num, by rw [fixL_succ, List.map_append]; exact hown', hB3⟩
      case measure => simp [intOf]; omega
    · obtain rfl : k = 8 := by omega
      go_wp2
      go_ret
      exact ⟨_, rfl, hown, hB⟩
theorem rencode_no (u : ByteArray) (s k : Int) (w : World) (hu : u.size ≤ maxLen) (hc : (chkK u s k == 0) = false) :
    Calls Try.prog 15 #[.agg #[.string u, .int .u64 s, .int .i64 k]] w fun e w' => e = .returned (.tuple #[.slice none 0 0, .int .i64 (chkK u s k)]) ∧ Below w.heap.size w w' := by
  go_enter Try.func15, Try.ntmps15
  go_wp2_with (go_at_call 19; refine (rcheck_any u s k _ hu).mono ?_; rintro e w' ⟨rfl, hB⟩)
  go_ret2
  exact ⟨rfl, ((Below.refl _ _).alloc (Nat.le_refl _) _).trans (hB.mono (by simp))⟩
theorem rencode_ok (u : ByteArray) (s k : Int) (w : World) (hc : chkK u s k = 0) :
    Calls Try.prog 15 #[.agg #[.string u, .int .u64 s, .int .i64 k]] w (OwnRes w (bcells u ++ (fixL (packK s k) 8).map (Value.int .u8)) 0) := by
  obtain ⟨g1, g2, g3, g4⟩ := chkK_ok hc
  have hu : u.size ≤ maxLen := by unfold maxLen; omega
  have hcv := fun (W : World) => Lib.run_convert_string_bytes (P := Try.prog) W 9 22 5 u Try.underlying9 Try.underlying22 Try.underlying5
  replace hc := Lib.hid hc
  go_enter Try.func15, Try.ntmps15
  go_wp2_with (go_at_call 19; refine (rcheck_any u s k _ hu).mono ?_; rintro e w1 ⟨rfl, hB⟩; rw [hc.out])
  have b0 : Bl w1 w.heap.size (.cells #[.string u, .int .u64 s, .int .i64 k] 30 (0, 0)) := (Bl.new' (W := w) rfl).keep hB
  have c0 : w1.cell? ⟨w.heap.size, 0, none⟩ = some (.string u) := b0.cell 0
  have c1 : w1.cell? ⟨w.heap.size, 1, none⟩ = some (.int .u64 s) := b0.cell 1
  have c2 : w1.cell? ⟨w.heap.size, 2, none⟩ = some (.int .i64 k) := b0.cell 2
  have hsz : w.heap.size < w1.heap.size := b0.lt
  clear b0
  have hL : (bcells u ++ (fixL (packK s k) 8).map (Value.int .u8)).length = u.size + 8 := by simp [bcells_len, fixL_len]
  have h8 : u.size + 8 ≤ maxLen := by unfold maxLen; omega
  have s3 : ∀ w', Below w1.heap.size w1 w' → Below w1.heap.size w1 w' ∧ w'.cell? ⟨w.heap.size, 0, none⟩ = some (.string u) ∧ w'.cell? ⟨w.heap.size, 1, none⟩ = some (.int .u64 s) ∧ w'.cell? ⟨w.heap.size, 2, none⟩ = some (.int .i64 k) :=
    fun w' h => ⟨h, cell_keep h c0, cell_keep h c1, cell_keep h c2⟩
  rw [show Op.convert 9 22 (Operand.tmp 11) = id (Op.convert 9 22 (Operand.tmp 11)) from rfl]
  go_region_held3 (fun w' => Below w1.heap.size w1 w' ∧ w'.cell? ⟨w.heap.size, 0, none⟩ = some (.string u) ∧ w'.cell? ⟨w.heap.size, 1, none⟩ = some (.int .u64 s) ∧ w'.cell? ⟨w.heap.size, 2, none⟩ = some (.int .i64 k))
    ((refine s3 _ ?_; first | exact (Below.refl _ _).drew | exact below_then (by first | assumption | exact (Below.refl _ _).drew | exact And.left (by assumption)) (conv_below _ _ _) | exact below_then (by first | assumption | exact (Below.refl _ _).drew | exact And.left (by assumption)) hB2 | exact below_thenGrown (by first | assumption | exact (Below.refl _ _).drew | exact And.left (by assumption)) hgr (by intro k hk; replace hk := Option.some.inj hk; have hs := hB2.size; (try simp only [World.size_drew, Lib.bytesWorld_size] at hk hs); omega)))
    (first
      | (go_at_call 31; refine (rfixed_any _ _).mono ?_; rintro e w2 ⟨v2, rfl, hF, hB2⟩; obtain ⟨A2, c2, rfl, hF2, -⟩ := hF.shape)
      | (refine step_conv rfl 9 22 (Operand.tmp 11) rfl (hcv _) ?_)
      | (refine step_append_ow rfl _ _ 22 rfl w.heap.size 5 Try.underlying22 infoByte rfl (by decide) _ _ (bcells u) rfl (by first | exact conv_own _ _ _ _ (by have := hB2.size; simp at this; omega) hu | exact (conv_own _ _ _ _ (by simp; omega) hu).keep hB2) _ _ _ ((fixL (packK s k) 8).map (Value.int .u8)) rfl (by first | exact hF2 | exact hF2.keep (conv_below _ _ _)) (ints_one _ _) h8 (by omega) (by have := hB2.size; (try rw [Lib.bytesWorld_size]); (try rw [Lib.bytesWorld_size] at this); (try simp at this); omega) ?_; intro v' w3 hown hgr _))
  all_goals go_wp2
  all_goals go_ret2
  all_goals exact ⟨_, rfl, by rw [hL]; exact hown, (((Below.refl _ _).alloc (Nat.le_refl _) _).trans (hB.mono (by simp))).trans (Below.mono (B := w1.heap.size) (by first | assumption | exact (Below.refl _ _).drew | exact And.left (by assumption)) (by omega))⟩
/-- a text's bytes, as numbers. -/
def bI (u : ByteArray) : List Int := u.data.toList.map fun b => (b.toNat : Int)
theorem bI_len (u : ByteArray) : (bI u).length = u.size := by simp only [bI, List.length_map, Array.length_toList]; rfl
theorem bI_cells (u : ByteArray) : bcells u = (bI u).map (Value.int .u8) := by simp [bcells, bI]
theorem bI_back (u : ByteArray) : strOfNums (bI u) = u := by
  refine ba_ext ?_
  rw [strOfNums_data, bI, List.map_map]
  conv => rhs; rw [← List.map_id u.data.toList]
  refine List.map_congr_left fun b _ => ?_
  simp
def encL (u : ByteArray) (s k : Int) : List Int := bI u ++ fixL (packK s k) 8
theorem encL_len (u : ByteArray) (s k : Int) : (encL u s k).length = u.size + 8 := by simp [encL, bI_len, fixL_len]
def encS (u : ByteArray) (s k : Int) : ByteArray := if chkK u s k = 0 then strOfNums (encL u s k) else ByteArray.empty
def EncRes (w : World) (u : ByteArray) (s k : Int) (e : Ending) (w' : World) : Prop :=
  ∃ v, e = .returned (.tuple #[v, .int .i64 (chkK u s k)]) ∧ (∀ W, Below w'.heap.size w' W → (convert 22 9 v).run Try.prog W = .ok (.string (encS u s k)) W) ∧
    (chkK u s k = 0 → ∃ A c, v = .slice A (u.size + 8) c ∧ u.size + 8 ≤ c ∧ RI w' .u8 A (encL u s k)) ∧ Below w.heap.size w w'
theorem encRes_no {w w' : World} {u : ByteArray} {s k : Int} {e : Ending} (hc : (chkK u s k == 0) = false) (h : e = .returned (.tuple #[.slice none 0 0, .int .i64 (chkK u s k)]) ∧ Below w.heap.size w w') : EncRes w u s k e w' := by
  have hc' : ¬ chkK u s k = 0 := by rw [beq_eq_false_iff_ne] at hc; exact hc
  refine ⟨_, h.1, fun W _ => ?_, fun h0 => absurd h0 hc', h.2⟩
  unfold encS
  rw [if_neg hc']
  exact run_convert_bytes_nil W _ _ Try.underlying22 Try.underlying5 _ _ _ Try.underlying9
theorem encRes_ok {w w' : World} {u : ByteArray} {s k : Int} {e : Ending} (hc : chkK u s k = 0) (h : OwnRes w (bcells u ++ (fixL (packK s k) 8).map (Value.int .u8)) 0 e w') : EncRes w u s k e w' := by
  obtain ⟨v, he, hown, hB⟩ := h
  rw [bI_cells, ← List.map_append] at hown
  have hL : ((bI u ++ fixL (packK s k) 8).map (Value.int .u8)).length = u.size + 8 := by rw [List.length_map]; exact encL_len u s k
  rw [hL] at hown
  obtain ⟨A, c, rfl, hr, hnc, -⟩ := hown.shape
  refine ⟨_, by rw [hc]; exact he, fun W hW => ?_, fun _ => ⟨A, c, rfl, hnc, ?_⟩, hB⟩
  · unfold encS
    rw [if_pos hc]
    exact conv_rd (P := Try.prog) Try.underlying22 Try.underlying5 (encL u s k) (hr.keep hW) Try.underlying9
  · refine ri_of_rd ?_
    rw [encL_len]
    exact hr
theorem enc_any (u : ByteArray) (s k : Int) (w : World) (hu : u.size ≤ maxLen) : Calls Try.prog 14 #[.agg #[.string u, .int .u64 s, .int .i64 k]] w (EncRes w u s k) := by
  by_cases hc : chkK u s k = 0
  · exact (encode_ok u s k w hc).mono fun e w' h => encRes_ok hc h
  · have hc' : (chkK u s k == 0) = false := by rw [beq_eq_false_iff_ne]; exact hc
    exact (encode_no u s k w hu hc').mono fun e w' h => encRes_no hc' h
theorem renc_any (u : ByteArray) (s k : Int) (w : World) (hu : u.size ≤ maxLen) : Calls Try.prog 15 #[.agg #[.string u, .int .u64 s, .int .i64 k]] w (EncRes w u s k) := by
  by_cases hc : chkK u s k = 0
  · exact (rencode_ok u s k w hc).mono fun e w' h => encRes_ok hc h
  · have hc' : (chkK u s k == 0) = false := by rw [beq_eq_false_iff_ne]; exact hc
    exact (rencode_no u s k w hu hc').mono fun e w' h => encRes_no hc' h
/-- numbers out of their bytes. -/
theorem or64 (a b : Nat) (i : Nat) (hb : b < 2 ^ i) (h : a * 2 ^ i + b < 18446744073709551616) : Go.bits .or .u64 ((a * 2 ^ i : Nat) : Int) (b : Int) = ((a * 2 ^ i + b : Nat) : Int) := by
  rw [bits_or_u64_nat _ _ (by omega) (by omega), Nat.mul_comm, ← Nat.two_pow_add_eq_or_of_lt hb]
theorem pack_eq (s k : Int) (hs : 0 ≤ s ∧ s ≤ 72057594037927935) (hk : 0 ≤ k ∧ k ≤ 2) : packK s k = s * 256 + k := by
  obtain ⟨a, rfl⟩ := Int.eq_ofNat_of_zero_le hs.1
  obtain ⟨b, rfl⟩ := Int.eq_ofNat_of_zero_le hk.1
  unfold packK
  rw [IntKind.wrap_u64, IntKind.wrap_u64, show (a : Int) * 256 % 18446744073709551616 = ((a * 2 ^ 8 : Nat) : Int) by omega, show (b : Int) % 18446744073709551616 = (b : Int) by omega, or64 a b 8 (by omega) (by omega)]
  omega
theorem fixL_at (n : Int) (i : Nat) (h : i < 8) : (fixL n 8).getD i 0 = n / 2 ^ (8 * i) % 256 := by
  rw [List.getD_eq_getElem?_getD]; simp [fixL, h]
theorem rdF_fix (x : Nat) (hx : x < 18446744073709551616) : ∀ i, i ≤ 8 → rdF (fixL x 8) i = ((x / 2 ^ (8 * (8 - i)) : Nat) : Int)
  | 0, _ => by simp [rdF]; omega
  | i + 1, h => by
    have ih := rdF_fix x hx i (by omega)
    rw [rdF, ih, fixL_len, fixL_at _ _ (by omega)]
    have e1 : 8 * (8 - i) = 8 * (8 - (i + 1)) + 8 := by omega
    have e2 : 8 - 1 - i = 8 - (i + 1) := by omega
    obtain ⟨q, hq⟩ : ∃ q, 8 * (8 - (i + 1)) = q := ⟨_, rfl⟩
    obtain ⟨y, hy⟩ : ∃ y, x / 2 ^ q = y := ⟨_, rfl⟩
    have hle : y ≤ x := by rw [← hy]; exact Nat.div_le_self _ _
    rw [e1, e2, hq, Nat.pow_add, ← Nat.div_div_eq_div_mul, hy]
    have e3 : (x : Int) / 2 ^ q = (y : Int) := by rw [← hy]; push_cast; rfl
    rw [e3, IntKind.wrap_u64, show ((y / 2 ^ 8 : Nat) : Int) * 2 ^ 8 % 18446744073709551616 = ((y / 2 ^ 8 * 2 ^ 8 : Nat) : Int) by omega, show (y : Int) % 256 % 18446744073709551616 = ((y % 256 : Nat) : Int) by omega, or64 _ _ 8 (by omega) (by omega)]
    congr 1; omega
theorem decV_enc (u : ByteArray) (s k : Int) (hs : 0 ≤ s) (hc : chkK u s k = 0) : decV (encL u s k) = .tuple #[.agg #[.string u, .int .u64 s, .int .i64 k], .int .i64 0] := by
  obtain ⟨g1, g2, g3, g4⟩ := chkK_ok hc
  have hp := pack_eq s k ⟨hs, g2⟩ ⟨g3, g4⟩
  have h8 : (encL u s k).length - 8 = (bI u).length := by rw [encL_len, bI_len]; omega
  have hU : decU (encL u s k) = u := by
    unfold decU
    rw [h8, encL, List.take_left', bI_back]
    rfl
  have hN : decN (encL u s k) = s * 256 + k := by
    unfold decN
    rw [h8, encL, List.drop_left' rfl, hp]
    obtain ⟨x, hx⟩ := Int.eq_ofNat_of_zero_le (show 0 ≤ s * 256 + k by omega)
    rw [hx]
    have := rdF_fix x (by omega) 8 (Nat.le_refl _)
    simpa using this
  have hS : decS (encL u s k) = s := by unfold decS; rw [hN]; omega
  have hK : decK (encL u s k) = k := by
    unfold decK
    rw [hN]
    obtain ⟨x, hx⟩ := Int.eq_ofNat_of_zero_le (show 0 ≤ s * 256 + k by omega)
    rw [hx, show (255 : Int) = ((255 : Nat) : Int) from rfl, bits_and_u64_nat _ _ (by omega) (by decide), show 255 = 2 ^ 8 - 1 from rfl, Nat.and_two_pow_sub_one_eq_mod]
    unfold wrap64; omega
  unfold decV
  rw [if_neg (by rw [encL_len]; omega), hU, hS, hK, if_pos hc]
theorem decV_form (l : List Int) : ∃ (u : ByteArray) (s k e : Int), decV l = .tuple #[.agg #[.string u, .int .u64 s, .int .i64 k], .int .i64 e] := by
  unfold decV
  split
  · exact ⟨_, _, _, _, rfl⟩
  · split <;> exact ⟨_, _, _, _, rfl⟩
theorem keys_walk (u : ByteArray) (s k : Int) (p : Option Addr) (c : Nat) (l : List Int) (w : World) (hu : u.size ≤ maxLen) (hs : 0 ≤ s) (hp : RI w .u8 p l) (hl : l.length ≤ 140737488351232) (hlc : l.length ≤ c) :
    Calls Try.prog 4 #[.agg #[.string u, .int .u64 s, .int .i64 k], .slice p l.length c] w fun e w' => e = .returned (.bool true) ∧ Below w.heap.size w w' := by
  have hml : l.length ≤ maxLen := by unfold maxLen; omega
  obtain ⟨U, S, K, E, hd⟩ := decV_form l
  replace hd := Lib.hid hd
  obtain ⟨T, hT⟩ : ∃ T, encS u s k = T := ⟨_, rfl⟩
  obtain ⟨C, hC⟩ : ∃ C, chkK u s k = C := ⟨_, rfl⟩
  replace hT := Lib.hid hT
  replace hC := Lib.hid hC
  go_enter Try.func4, Try.ntmps4
  have kb : Bl (w.alloc (.cells #[.string u, .int .u64 s, .int .i64 k] 30 (0, 0))) w.heap.size (.cells #[.string u, .int .u64 s, .int .i64 k] 30 (0, 0)) := Bl.new' rfl
  have kB : Below w.heap.size w (w.alloc (.cells #[.string u, .int .u64 s, .int .i64 k] 30 (0, 0))) := (Below.refl _ _).alloc (Nat.le_refl _) _
  go_wp2_with (first
    | (go_at_call 14; refine (enc_any _ _ _ _ hu).mono ?_; rintro e w1 ⟨v1, rfl, hv1, ho1, hB1⟩; rw [hC.out] at ho1 ⊢; rw [hT.out] at hv1; replace hv1 := Lib.hid hv1; replace ho1 := Lib.hid ho1; replace kb := kb.keep hB1; replace kB := kB.trans (hB1.mono kB.size); have k0 := kb.cell 0; have k1 := kb.cell 1; have k2 := kb.cell 2)
    | (go_at_call 15; refine (renc_any _ _ _ _ hu).mono ?_; rintro e w2 ⟨v2, rfl, hv2, -, hB2⟩; rw [hC.out]; rw [hT.out] at hv2; replace hv2 := Lib.hid hv2; clear k0 k1 k2; replace kb := kb.keep hB2; replace kB := kB.trans (hB2.mono kB.size))
    | (at_builtin; refine wpList_append_ow rfl _ _ 22 rfl w2.heap.size 5 Try.underlying22 infoByte rfl (by decide) _ 0 [] rfl (OW.empty (Nat.le_refl _) (Bl.new' rfl)) _ _ _ (l.map (Value.int .u8)) rfl (((rd_of_ri hp).keep kB).keep ((Below.refl _ _).alloc (Nat.le_refl _) _)) (ints_one _ _) (by rw [Nat.zero_add]; exact hml) (by omega) (by simp) ?_; intro v' w3 hown hgr _; obtain ⟨A3, c3, rfl, hr3, hc3, -⟩ := hown.shape; rw [Nat.zero_add] at hc3; rw [Nat.zero_add, List.nil_append] at hr3; have hB3 : Below w2.heap.size w2 w3 := below_grow ((Below.refl _ _).alloc (Nat.le_refl _) _) (by simp) (OW.empty (T := 5) (size := 1) (Nat.le_refl _) (Bl.new' rfl)) (Nat.le_refl _) hgr; clear hown hgr; rw [Nat.zero_add]; replace kb := kb.keep hB3; replace kB := kB.trans (hB3.mono kB.size))
    | (go_at_call 16; refine (decode_any _ _ l _ (ri_of_rd hr3) hml hc3).mono ?_; rintro e w4 ⟨rfl, hB4⟩; rw [hd.out]; replace kb := (kb.keep hB4).alloc (.cells #[.string U, .int .u64 S, .int .i64 K] 30 (0, 0)); replace kB := (kB.trans (hB4.mono kB.size)); have kB := kB.alloc kB.size (.cells #[.string U, .int .u64 S, .int .i64 K] 30 (0, 0)); have db := (Bl.new' (W := w4) (o := .cells #[.string U, .int .u64 S, .int .i64 K] 30 (0, 0)) rfl))
    | (go_at_call 17; refine (rdecode_any _ _ l _ (hp.keep kB) hml hlc).mono ?_; rintro e w5 ⟨rfl, hB5⟩; rw [hd.out])
    )
  have d1 := below_then (below_then hB2 hB3) hB4
  have d2 := below_then hB3 hB4
  have d3 := below_then (d1.alloc d1.size (.cells #[.string U, .int .u64 S, .int .i64 K] 30 (0, 0))) hB5
  have d4 := below_then (d2.alloc d2.size (.cells #[.string U, .int .u64 S, .int .i64 K] 30 (0, 0))) hB5
  replace d3 := d3.alloc d3.size (.cells #[.string U, .int .u64 S, .int .i64 K] 30 (0, 0))
  replace d4 := d4.alloc d4.size (.cells #[.string U, .int .u64 S, .int .i64 K] 30 (0, 0))
  replace kb := (kb.keep hB5).alloc (.cells #[.string U, .int .u64 S, .int .i64 K] 30 (0, 0))
  replace db := (db.keep hB5).alloc (.cells #[.string U, .int .u64 S, .int .i64 K] 30 (0, 0))
  have eb := (Bl.new' (W := w5) (o := .cells #[.string U, .int .u64 S, .int .i64 K] 30 (0, 0)) rfl)
  replace kB := kB.trans (hB5.mono kB.size)
  replace kB := kB.alloc kB.size (.cells #[.string U, .int .u64 S, .int .i64 K] 30 (0, 0))
  obtain ⟨W5, hW5⟩ : ∃ W5, w5.alloc (.cells #[.string U, .int .u64 S, .int .i64 K] 30 (0, 0)) = W5 := ⟨_, rfl⟩
  rw [hW5] at d3 d4 kb db eb kB ⊢
  clear hW5 d1 d2 hB2 hB3 hB4 hB5 hB1
  have hcells : ∀ W, Below W5.heap.size W5 W → Below W5.heap.size W5 W ∧ W.cell? ⟨w.heap.size, 0, none⟩ = some (.string u) ∧ W.cell? ⟨w.heap.size, 1, none⟩ = some (.int .u64 s) ∧ W.cell? ⟨w.heap.size, 2, none⟩ = some (.int .i64 k) ∧ W.cell? ⟨w4.heap.size, 0, none⟩ = some (.string U) ∧ W.cell? ⟨w4.heap.size, 1, none⟩ = some (.int .u64 S) ∧ W.cell? ⟨w4.heap.size, 2, none⟩ = some (.int .i64 K) ∧ W.cell? ⟨w5.heap.size, 0, none⟩ = some (.string U) ∧ W.cell? ⟨w5.heap.size, 1, none⟩ = some (.int .u64 S) ∧ W.cell? ⟨w5.heap.size, 2, none⟩ = some (.int .i64 K) :=
    fun W h => ⟨h, cell_keep h (kb.cell 0), cell_keep h (kb.cell 1), cell_keep h (kb.cell 2), cell_keep h (db.cell 0), cell_keep h (db.cell 1), cell_keep h (db.cell 2), cell_keep h (eb.cell 0), cell_keep h (eb.cell 1), cell_keep h (eb.cell 2)⟩
  have hcv1 : ∀ W, Below W5.heap.size W5 W → (convert 22 9 v1).run Try.prog W = .ok (.string T) W := fun W h => hv1.out W (d3.trans (h.mono d3.size))
  have hcv2 : ∀ W, Below W5.heap.size W5 W → (convert 22 9 v2).run Try.prog W = .ok (.string T) W := fun W h => hv2.out W (d4.trans (h.mono d4.size))
  go_cut [63] (fun x wx => x = .bool false ∧ Below W5.heap.size W5 wx)
  case first =>
    obtain ⟨hB0, p0, p1, p2, q0, q1, q2, r0, r1, r2⟩ := hcells W5 (Below.refl _ _)
    go_region_held3 (fun W => Below W5.heap.size W5 W ∧ W.cell? ⟨w.heap.size, 0, none⟩ = some (.string u) ∧ W.cell? ⟨w.heap.size, 1, none⟩ = some (.int .u64 s) ∧ W.cell? ⟨w.heap.size, 2, none⟩ = some (.int .i64 k) ∧ W.cell? ⟨w4.heap.size, 0, none⟩ = some (.string U) ∧ W.cell? ⟨w4.heap.size, 1, none⟩ = some (.int .u64 S) ∧ W.cell? ⟨w4.heap.size, 2, none⟩ = some (.int .i64 K) ∧ W.cell? ⟨w5.heap.size, 0, none⟩ = some (.string U) ∧ W.cell? ⟨w5.heap.size, 1, none⟩ = some (.int .u64 S) ∧ W.cell? ⟨w5.heap.size, 2, none⟩ = some (.int .i64 K))
      ((refine hcells _ ?_; first | exact (Below.refl _ _).drew | exact below_then (by first | assumption | exact (Below.refl _ _).drew | exact And.left (by assumption)) hBo | assumption | exact And.left (by assumption)))
      ((first
        | (go_at_call 18; refine (check_any _ _ _ _ hu).mono ?_; rintro e wo ⟨rfl, hBo⟩; rw [hC.out])
        | (go_at_call 19; refine (rcheck_any _ _ _ _ hu).mono ?_; rintro e wo ⟨rfl, hBo⟩; rw [hC.out])))
    all_goals go_wp2_with fail
    all_goals go_meet
    all_goals exact ⟨rfl, by first | assumption | exact (Below.refl _ _).drew | exact And.left (by assumption)⟩
  case rest =>
    obtain ⟨rfl, hB6⟩ := hcut
    obtain ⟨-, p0, p1, p2, -⟩ := hcells _ hB6
    replace kB := kB.trans (hB6.mono kB.size)
    by_cases h0 : C = 0
    · subst h0
      obtain ⟨A1, c1, rfl, hc1, hr1⟩ := ho1.out rfl
      replace hr1 := hr1.keep (d3.trans (hB6.mono d3.size))
      have hlen := encL_len u s k
      have hdv := decV_enc u s k hs hC.out
      replace hlen := Lib.hid hlen
      replace hdv := Lib.hid hdv
      have hum : u.size + 8 ≤ maxLen := by
        have := (chkK_ok hC.out).1
        unfold maxLen; omega
      clear hcv1 hcv2 ho1 hcells
      go_wp2_with (first
        | (go_at_call 16; rw [← hlen.out]; refine (decode_any _ _ (encL u s k) _ hr1 (by rw [hlen.out]; exact hum) (by rw [hlen.out]; exact hc1)).mono ?_; rintro e w7 ⟨rfl, hB7⟩; rw [hdv.out]; have k0 := cell_keep hB7 p0; have k1 := cell_keep hB7 p1; have k2 := cell_keep hB7 p2; have kl := cell_lt k0; clear p0 p1 p2; replace kB := kB.trans (hB7.mono kB.size); have kB := kB.alloc kB.size (.cells #[.string u, .int .u64 s, .int .i64 k] 30 (0, 0)))
        | (go_at_call 13; refine (lives_any _).mono ?_; rintro e wo ⟨rfl, hBo⟩))
      go_ret
      exact ⟨rfl, kB.trans (hBo.mono kB.size)⟩
    · have h0' : (C == 0) = false := by rw [beq_eq_false_iff_ne]; exact h0
      go_wp2_with (go_at_call 13; refine (lives_any _).mono ?_; rintro e wo ⟨rfl, hBo⟩)
      go_ret
      exact ⟨rfl, kB.trans (hBo.mono kB.size)⟩
end Go.Proofs.Ytejpojbpjciahaa
