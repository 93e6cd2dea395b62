/- Contracts of layer 1 (codec): the table, long sums, the document's sums. -/
import Derived.Test.YtejpojbpjciahaaProg
import Derived.RangeFuncNested
import Derived.RangeFuncBound
import Derived.RangeFuncCalls
import Derived.RangeFuncLeaves
import Derived.Shelf.Abstract
import Derived.Shelf.RegionOpen
import Derived.WalkKit
import Derived.OwnWalkIn
import Derived.TacticsInMore
import Derived.LoopNIn
import Derived.LoopIn
import Derived.Lib.Hide
import Derived.Outline
import Derived.RegionTactic
import Derived.BigRegion
import Derived.WalkLawsBesides
import Derived.WalkSpells
import Derived.Deep.QuietTactic
import Derived.BigQuiet
import Derived.Deep.RegionHeld3
import Derived.Lib.Bytealg
import Derived.Lib.ConvBytes
import Derived.Laws.BytesArg
import Derived.Test.YtejpojbpjciahaaSed
import Derived.Test.YtejpojbpjciahaaOwn
import Derived.Test.YtejpojbpjciahaaCodecM
namespace Go.Proofs.Ytejpojbpjciahaa
open Go.RowKit Go.Sed
set_option maxHeartbeats 1000000
theorem infoU32 : (Try.prog.info? 23).map (fun i => (i.zero, i.size, i.bytes)) = some (some (.int .u32 0), 1, 4) := by kernel_rfl
/-- the table's rows. -/
def tabL (n : Nat) : List Int := (List.range n).map fun i : Nat => crcN 8 (i : Int)
theorem tabL_len (n : Nat) : (tabL n).length = n := by simp [tabL]
theorem tabL_succ (n : Nat) : tabL (n + 1) = tabL n ++ [crcN 8 (n : Int)] := by simp [tabL, List.range_succ]
def zTab (k : Nat) : Array Value := ci .u32 (tabL k ++ List.replicate (256 - k) 0)
theorem infoTab : (Try.prog.info? 61).map (·.zero) = some (some (.agg (zTab 0))) := by kernel_rfl
theorem zTab_get {w : World} {b k : Nat} {T : TypeId} (hb : Bl w b (.cells (zTab k) T (0, 0))) (hk : k ≤ 256) (i : Nat) (hi : i < 256) : w.cell? ⟨b, i, none⟩ = some (.int .u32 ((tabL k ++ List.replicate (256 - k) 0)[i]?.getD 0)) :=
  hb.int i (by simp [tabL_len]; omega)
theorem zTab_set {w : World} {b k : Nat} {T : TypeId} (hb : Bl w b (.cells (zTab k) T (0, 0))) (hk : k < 256) : Bl (w.setCell ⟨b, k, none⟩ (.int .u32 (crcN 8 (k : Int)))) b (.cells (zTab (k + 1)) T (0, 0)) := by
  have hs := set_mid (tabL k) 256 (crcN 8 (k : Int)) (by rw [tabL_len]; exact hk)
  rw [tabL_len, ← tabL_succ] at hs
  have := Bl.setInt hb k (crcN 8 (k : Int))
  unfold zTab
  rw [← hs]
  exact this
theorem zTab_all {w : World} {b : Nat} {T : TypeId} (hb : Bl w b (.cells (zTab 256) T (0, 0))) : Bl w b (.cells (ci .u32 (tabL 256)) T (0, 0)) := by
  unfold zTab at hb; simpa using hb
set_option maxRecDepth 100000 in
theorem table_any (w : World) : Calls Try.prog 28 #[] w fun e w' => e = .returned (.pointer (some ⟨w.heap.size, 0, none⟩)) ∧ Bl w' w.heap.size (.cells (ci .u32 (tabL 256)) 61 (0, 0)) ∧ Below w.heap.size w w' := by
  have hz := run_zero infoTab
  go_enter Try.func28, Try.ntmps28
  go_wp2
  go_loopw [4] (fun i wr => ∃ k : Nat, k ≤ 256 ∧ i = .int .i64 k ∧ Bl wr w.heap.size (.cells (zTab k) 61 (0, 0)) ∧ Below w.heap.size w wr) (fun i _ => 256 - (intOf i).toNat)
  case atStart => exact ⟨0, Nat.zero_le _, rfl, Bl.new' rfl, (Below.refl _ _).alloc (Nat.le_refl _) _⟩
  case round =>
    clear hz
    obtain ⟨k, hk, rfl, hb, hB⟩ := hrel
    by_cases hlt : k < 256
    · replace hb := Lib.hid hb
      go_wp2
      go_loopw [3, 9] (fun r i wq => ∃ j : Nat, j ≤ 8 ∧ i = .int .i64 j ∧ r = .int .u32 (crcN j (k : Int)) ∧ wq = wr) (fun _ i _ => 8 - (intOf i).toNat)
      case atStart => exact ⟨0, Nat.zero_le _, rfl, rfl, rfl⟩
      case round =>
        obtain ⟨j, hj, rfl, rfl, rfl⟩ := hrel
        by_cases hlt' : j < 8
        · go_wp2
          go_roundw
          case rel => exact ⟨j + 1, by omega, by go_num, rfl, trivial⟩
          case measure => simp [intOf]; omega
        · obtain rfl : j = 8 := by omega
          have c1 := zTab_get hb.out hk k hlt
          have f1 := hb.out.frozen k
          go_wp2
          go_roundw
          case rel =>
            exact ⟨k + 1, by omega, by go_num, zTab_set hb.out hlt, hB.setCell (Nat.le_refl _) _⟩
          case measure => simp [intOf]; omega
    · obtain rfl : k = 256 := by omega
      replace hb := Lib.hid hb
      go_wp2
      go_ret
      exact ⟨rfl, zTab_all hb.out, hB⟩
theorem tabL_get (i : Nat) (h : i < 256) : (tabL 256)[i]?.getD 0 = crcN 8 (i : Int) := by simp [tabL, h]
theorem u8_idx (r x : Int) : ∃ j : Nat, Go.bits .xor .u8 (r % 256) x = (j : Int) ∧ j < 256 := by
  have h : 0 ≤ Go.bits .xor .u8 (r % 256) x ∧ Go.bits .xor .u8 (r % 256) x < 256 := by
    unfold Go.bits
    have hw : ∀ n, IntKind.u8.wrap n = n % 256 := fun n => by simp [IntKind.wrap, IntKind.bits, IntKind.signed]
    rw [hw]; omega
  exact ⟨(Go.bits .xor .u8 (r % 256) x).toNat, by omega, by omega⟩
set_option maxRecDepth 100000 in
theorem sum_long (p : Option Addr) (l : List Int) (c : Nat) (w : World) (hp : RI w .u8 p l) (hx : ∀ k (h : k < l.length), 0 ≤ l[k] ∧ l[k] < 256) (hl : ¬ l.length < 64) (hm : l.length ≤ maxLen) :
    Calls Try.prog 7 #[.slice p l.length c] w fun e w' => e = .returned (.int .u32 (crcE (crcL l))) ∧ Below w.heap.size w w' := by
  have hm63 : l.length ≤ 9223372036854775807 := hm
  go_enter Try.func7, Try.ntmps7
  go_wp2_with (go_at_call 28; refine (table_any _).mono ?_; rintro e w1 ⟨rfl, hT, hB⟩)
  have hp1 := hp.keep hB
  replace hT := Lib.hid hT
  replace hp1 := Lib.hid hp1
  go_loopw [3, 38] (fun r i wr => ∃ k : Nat, k ≤ l.length ∧ i = .int .i64 k ∧ r = .int .u32 (crcL (l.take k)) ∧ wr = w1) (fun _ i _ => l.length - (intOf i).toNat)
  case atStart => exact ⟨0, Nat.zero_le _, rfl, rfl, rfl⟩
  case round =>
    obtain ⟨k, hk, rfl, rfl, rfl⟩ := hrel
    by_cases hlt : k < l.length
    · obtain ⟨b, o, rfl, hc⟩ := hp1.out k hlt
      obtain ⟨j, hj, hj2⟩ := u8_idx (crcL (l.take k)) l[k]
      have c1 := hT.out.int j (by rw [tabL_len]; exact hj2)
      rw [tabL_get j hj2] at c1
      have hte := tab_eq (crcL (l.take k)) l[k] (crcL_in _) (hx k hlt)
      rw [show IntKind.u8.wrap (crcL (l.take k)) = crcL (l.take k) % 256 by simp [IntKind.wrap, IntKind.bits, IntKind.signed], hj] at hte
      replace hte := Lib.hid hte
      have hj3 : (j : Int) < 256 := by omega
      go_wp2
      go_roundw
      case rel => exact ⟨k + 1, by omega, by go_num, by rw [crcL_take l k hlt, ← hte.out]; rfl, trivial⟩
      case measure => simp [intOf]; omega
    · obtain rfl : k = l.length := by omega
      go_wp2
      go_ret
      exact ⟨rfl, hB⟩
def crcRN : Nat → Int → Int
  | 0, r => r
  | n + 1, r => crcR (crcRN n r)
theorem crcRN_eq (r : Int) (h : 0 ≤ r ∧ r < 4294967296) : ∀ n, crcRN n r = crcN n r
  | 0 => rfl
  | n + 1 => by
    unfold crcRN crcN
    rw [crcRN_eq r h n]
    exact crcR_eq _ (crcN_in r h n).1 (crcN_in r h n).2
theorem rsum_any (p : Option Addr) (l : List Int) (c : Nat) (w : World) (hp : RI w .u8 p l) (hm : l.length ≤ maxLen) :
    Calls Try.prog 8 #[.slice p l.length c] w fun e w' => e = .returned (.int .u32 (crcE (crcL l))) ∧ w = w' := by
  have hm63 : l.length ≤ 9223372036854775807 := hm
  go_enter Try.func8, Try.ntmps8
  go_wp2
  go_loopw [3, 4, 5, 6] (fun r i _ _ wr => ∃ k : Nat, k ≤ l.length ∧ i = .int .i64 k ∧ r = .int .u32 (crcL (l.take k)) ∧ wr = w) (fun _ i _ _ _ => l.length - (intOf i).toNat)
  case atStart => exact ⟨0, Nat.zero_le _, rfl, rfl, rfl⟩
  case round =>
    obtain ⟨k, hk, rfl, rfl, rfl⟩ := hrel
    by_cases hlt : k < l.length
    · obtain ⟨b, o, rfl, hc⟩ := hp k hlt
      go_wp2
      go_loopw [3, 5, 6] (fun r i _ wq => ∃ j : Nat, j ≤ 8 ∧ i = .int .i64 j ∧ r = .int .u32 (crcN j (Go.bits .xor .u32 (crcL (l.take k)) (l[k] % 4294967296))) ∧ wq = wr) (fun _ i _ _ => 8 - (intOf i).toNat)
      case atStart => exact ⟨0, Nat.zero_le _, rfl, rfl, rfl⟩
      case round =>
        obtain ⟨j, hj, rfl, rfl, rfl⟩ := hrel
        by_cases hlt' : j < 8
        · have hst := crcR_eq (crcN j (Go.bits .xor .u32 (crcL (l.take k)) (l[k] % 4294967296))) (crcN_in _ (bits32_in _ _ _) _).1 (crcN_in _ (bits32_in _ _ _) _).2
          unfold crcR at hst
          by_cases ho : Go.bits .and .u32 (crcN j (Go.bits .xor .u32 (crcL (l.take k)) (l[k] % 4294967296))) 1 = 1
          all_goals
            first | rw [if_pos ho] at hst | rw [if_neg ho] at hst
            replace hst := Lib.hid hst
            go_wp2
            go_roundw
            case rel => exact ⟨j + 1, by omega, by go_num, by rw [show crcN (j + 1) _ = crcI (crcN j _) from rfl, ← hst.out]; rfl, trivial⟩
            case measure => simp [intOf]; omega
        · obtain rfl : j = 8 := by omega
          go_wp2
          go_roundw
          case rel => exact ⟨k + 1, by omega, by go_num, by rw [crcL_take l k hlt]; rfl, trivial⟩
          case measure => simp [intOf]; omega
    · obtain rfl : k = l.length := by omega
      go_wp2
      go_ret
      exact ⟨rfl, rfl⟩
theorem sum_any (p : Option Addr) (l : List Int) (c : Nat) (w : World) (hp : RI w .u8 p l) (hx : ∀ k (h : k < l.length), 0 ≤ l[k] ∧ l[k] < 256) (hm : l.length ≤ maxLen) :
    Calls Try.prog 7 #[.slice p l.length c] w fun e w' => e = .returned (.int .u32 (crcE (crcL l))) ∧ Below w.heap.size w w' := by
  by_cases hl : l.length < 64
  · refine (sum_short p l c w hp hl).mono ?_
    rintro e w' ⟨rfl, rfl⟩
    exact ⟨rfl, Below.refl _ _⟩
  · exact sum_long p l c w hp hx hl hm
theorem sums_walk (p : Option Addr) (l : List Int) (c : Nat) (n : Int) (w : World) (hp : RI w .u8 p l) (hx : ∀ k (h : k < l.length), 0 ≤ l[k] ∧ l[k] < 256) (hn : 0 ≤ n ∧ n < 4294967296) (hl : l.length ≤ 140737488351232) :
    Calls Try.prog 3 #[.slice p l.length c, .int .u32 n] w fun e w' => e = .returned (.bool true) ∧ Below w.heap.size w w' := by
  have hm : IntKind.u32.wrap (Go.bits .or .u32 (n / 2 ^ 15) (IntKind.u32.wrap (n * 2 ^ 17)) + 2726488792) = maskI n := by unfold maskI rotI; rw [or32_comm]
  have hu : Go.bits .or .u32 (IntKind.u32.wrap (n - 2726488792) / 2 ^ 17) (IntKind.u32.wrap (IntKind.u32.wrap (n - 2726488792) * 2 ^ 15)) = unmaskI n := by unfold unmaskI rotI; rw [or32_comm]
  have hum := unmask_mask n hn.1 hn.2
  have hml : l.length ≤ maxLen := by unfold maxLen; omega
  replace hm := Lib.hid hm
  replace hu := Lib.hid hu
  replace hum := Lib.hid hum
  go_enter Try.func3, Try.ntmps3
  go_wp2_with (first
    | (at_builtin; refine wpList_append_ow rfl _ _ 22 rfl w.heap.size 5 Try.underlying22 infoByte rfl (by decide) _ 0 [] rfl (OW.empty (Nat.le_refl _) (Bl.new' rfl)) _ _ _ (l.map (Value.int .u8)) rfl ((rd_of_ri hp).keep ((Below.refl _ _).alloc (Nat.le_refl _) _)) (ints_one _ _) (by rw [Nat.zero_add]; exact hml) (by omega) (by simp) ?_; intro v' w1 hown hgr _; obtain ⟨A1, c1, rfl, hr1, -⟩ := hown.shape; rw [Nat.zero_add, List.nil_append] at hr1; have hB1 : Below w.heap.size w w1 := below_grow ((Below.refl _ _).alloc (Nat.le_refl _) _) (by simp) (OW.empty (T := 5) (size := 1) (Nat.le_refl _) (Bl.new' rfl)) (Nat.le_refl _) hgr; clear hown hgr; rw [Nat.zero_add])
    | (go_at_call 7; refine (sum_any _ l _ _ (ri_of_rd hr1) hx hml).mono ?_; rintro e w2 ⟨rfl, hB2⟩; replace hB2 := below_then hB1 hB2)
    | (go_at_call 8; refine (rsum_any _ l _ _ (hp.keep hB2) hml).mono ?_; rintro e w' ⟨rfl, rfl⟩)
    | (go_at_call 9; refine (mask_any _ _).mono ?_; rintro e w' ⟨rfl, rfl⟩)
    | (go_at_call 11; refine (unmask_any _ _).mono ?_; rintro e w' ⟨rfl, rfl⟩; try rw [hum.out])
    | (go_at_call 10; refine (rmask_any _ _).mono ?_; rintro e w' ⟨rfl, rfl⟩; rw [hm.out])
    | (go_at_call 12; refine (runmask_any _ _).mono ?_; rintro e w' ⟨rfl, rfl⟩; rw [hu.out])
    | (go_at_call 13; refine (lives_any _).mono ?_; rintro e w3 ⟨rfl, hB3⟩))
  go_ret
  exact ⟨rfl, below_then hB2 hB3⟩
end Go.Proofs.Ytejpojbpjciahaa
