/- Contracts of layer 1 (codec): internal keys out of bytes. -/
import Derived.Test.YtejpojbpjciahaaProg
import Derived.RangeFuncNested
import Derived.RangeFuncBound
import Derived.RangeFuncCalls
import Derived.RangeFuncLeaves
import Derived.Shelf.Abstract
import Derived.Shelf.RegionOpen
import Derived.WalkKit
import Derived.OwnWalkIn
import Derived.TacticsInMore
import Derived.LoopNIn
import Derived.LoopIn
import Derived.Lib.Hide
import Derived.Outline
import Derived.RegionTactic
import Derived.BigRegion
import Derived.WalkLawsBesides
import Derived.WalkSpells
import Derived.Deep.QuietTactic
import Derived.BigQuiet
import Derived.Deep.RegionHeld3
import Derived.Lib.Bytealg
import Derived.Lib.ConvBytes
import Derived.Laws.BytesArg
import Derived.Test.YtejpojbpjciahaaSed
import Derived.Test.YtejpojbpjciahaaOwn
import Derived.Test.YtejpojbpjciahaaCodecD
namespace Go.Proofs.Ytejpojbpjciahaa
open Go.RowKit Go.Sed
set_option maxHeartbeats 1000000
attribute [local go_sem] Oper.semAt_some
/-- a number, read from its last byte on: after i bytes. -/
def rdF (l : List Int) : Nat → Int
  | 0 => 0
  | i + 1 => Go.bits .or .u64 (IntKind.u64.wrap (rdF l i * 2 ^ 8)) (l.getD (l.length - 1 - i) 0 % 18446744073709551616)
theorem back_in (lp n bx : Nat) (p : Option Addr) (c : Nat) (l : List Int) (m : Nat) (hm : l.length = m) (hl : m ≤ 9223372036854775807) (J : Nat → World → Prop)
    (hJ : ∀ i W, J i W → W.cell? ⟨bx, 0, none⟩ = some (.slice p m c) ∧ RI W .u8 p l)
    (hR : ∀ i k W (hk : k < l.length), k + 1 + i = m → J i W → YieldAt Fence.wide (n - 1) Try.prog lp #[.int .i64 (k : Int), .int .u8 l[k]] W fun e W' => e = .returned (.bool true) ∧ J (i + 1) W')
    (W : World) (h0 : J 0 W) :
    CallsIn Fence.wide n Try.prog 48 #[.func (.yield lp) #[] #[], .pointer (some ⟨bx, 0, none⟩)] W
      fun e W' => (∃ v, e = .returned v) ∧ J m W' := by
  obtain ⟨c1, -⟩ := hJ 0 W h0
  refine callsIn_of_wp Try.func48 rfl trivial ?_ rfl
  simp only [Try.ntmps48, List.size_toArray, List.length_cons, List.length_nil, Nat.reduceAdd, Nat.reduceSub, Array.replicate_succ, Array.replicate_zero, List.push_toArray, List.append_toArray, List.nil_append, List.cons_append]
  gi_wp2
  gi_loopw [3] (fun p wr => ∃ i : Nat, i ≤ m ∧ p = .int .i64 ((m : Int) - 1 - i) ∧ J i wr) (fun p _ => (intOf p + 1).toNat)
  case atStart => exact ⟨0, Nat.zero_le _, by go_num, h0⟩
  case round =>
    clear c1
    obtain ⟨i, hi, rfl, hj⟩ := hrel
    by_cases hlt : i < m
    · obtain ⟨k, hk⟩ : ∃ k, k + 1 + i = m := ⟨m - 1 - i, by omega⟩
      rw [show (m : Int) - 1 - i = (k : Int) by omega]
      have hk2 : k < l.length := by omega
      obtain ⟨fn, tmps, assign, body, hy, hR'⟩ := hR i k wr hk2 hk hj
      obtain ⟨c1, c2⟩ := hJ i wr hj
      obtain ⟨b, o, rfl, c3⟩ := c2 k hk2
      have hk0 : (0 : Int) ≤ k := by omega
      have hk1 : (k : Int) < m := by omega
      replace hm := Lib.hid hm
      gi_wp2
      refine ⟨fun h => by simp [Fence.wide] at h, hR'.mono ?_⟩
      clear hy hR' c1 c2 c3
      rintro e W' ⟨rfl, hj'⟩
      dsimp only
      gi_wp2
      go_roundw
      case rel => exact ⟨i + 1, by omega, by go_num, hj'⟩
      case measure => simp [intOf]
    · obtain rfl : i = m := by omega
      rw [show (i : Int) - 1 - i = -1 by omega]
      gi_wp2
      go_end0
      exact ⟨⟨_, rfl⟩, hj⟩
def MR (p : Option Addr) (c : Nat) (l : List Int) (w : World) (r : Loop) (i : Nat) (W : World) : Prop :=
  Below w.heap.size w W ∧ Bl W w.heap.size (.cells #[.int .u64 (rdF l i)] 28 (0, 0)) ∧ Bl W (w.heap.size + 1) (.cells #[.slice p 8 c] 22 (0, 0)) ∧
  Bl W (w.heap.size + 1 + 1) (.deferred (some [])) ∧ Bl W (w.heap.size + 1 + 1 + 1) (.loop r)
theorem backward_any (p : Option Addr) (c : Nat) (m : Nat) (w : World) :
    Calls Try.prog 46 #[.slice p m c] w fun e w' => e = .returned (.func (.func 48) #[] #[.pointer (some ⟨w.heap.size, 0, none⟩)]) ∧ w' = w.alloc (.cells #[.slice p m c] 22) := by
  go_enter Try.func46, Try.ntmps46
  go_wp2
  go_ret
  exact ⟨rfl, rfl⟩
theorem read8_any (p : Option Addr) (c : Nat) (l : List Int) (w : World) (hl : l.length = 8) (hp : RI w .u8 p l) (hc : 8 ≤ c) :
    Calls Try.prog 41 #[.slice p 8 c, .int .i64 8] w fun e w' => e = .returned (.tuple #[.int .u64 (rdF l 8), .int .i64 0]) ∧ Below w.heap.size w w' := by
  refine (callsIn_wide (n := 3)).1 ?_
  refine callsIn_of_wp_marks Try.func41 rfl trivial ?_ rfl
  simp only [Try.ntmps41, List.size_toArray, List.length_cons, List.length_nil, Nat.reduceAdd, Nat.reduceSub, Array.replicate_succ, Array.replicate_zero, List.push_toArray, List.append_toArray, List.nil_append, List.cons_append]
  gi_wp2_with (refine ⟨trivial, ?_⟩; gi_at_call 46; refine (callsIn_wide.2 (backward_any _ _ _ _)).mono ?_; rintro e w' ⟨rfl, rfl⟩)
  refine rf_law rfl (enters_of Try.func48 (by kernel_rfl) rfl) ?_
  intro fn r hr
  simp only [World.size_alloc] at hr ⊢
  refine (back_in (w.heap.size + 1 + 1 + 1) (3 - 1) (w.heap.size + 1) p c l 8 hl (by omega) (fun i => MR p c l w r i) ?hJ ?hR _ ?h0).mono ?_
  case hJ => exact fun i W h => ⟨h.2.2.1.cell 0, hp.keep h.1⟩
  case h0 =>
    refine ⟨?_, ?_, ?_, ?_, ?_⟩
    · repeat (first | exact Below.refl _ _ | refine Below.alloc ?_ (by (try simp only [World.size_alloc]); omega) _)
    all_goals repeat (first | exact Bl.new' (by simp only [World.size_alloc]) | refine Bl.alloc ?_ _)
  case hR =>
    rintro i k W hk hi ⟨h1, h2, h3, h4, h5⟩
    refine yield_law2 h5 (by rw [hr.out]) (by rw [hr.out]) (by rw [hr.out]) (by rw [hr.out]) ?_
    gi_wp2
    refine ⟨r, h5, by rw [hr.out], ?_⟩
    have k1 := below_put h1 (r := w.heap.size + 1 + 1 + 1) (by omega) (.loop { r with state := .busy })
    have k2 := h2.put (.loop { r with state := .busy }) (r := w.heap.size + 1 + 1 + 1) (by omega)
    have k3 := h3.put (.loop { r with state := .busy }) (r := w.heap.size + 1 + 1 + 1) (by omega)
    have k4 := h4.put (.loop { r with state := .busy }) (r := w.heap.size + 1 + 1 + 1) (by omega)
    have k5 := h5.putSame (.loop { r with state := .busy })
    obtain ⟨W2, hW2⟩ : ∃ W2, W.putObj (w.heap.size + 1 + 1 + 1) (.loop { r with state := .busy }) = W2 := ⟨_, rfl⟩
    rw [hW2] at k1 k2 k3 k4 k5 ⊢
    clear h1 h2 h3 h4 h5 hW2
    have c2 := k2.cell1
    have f2 := k2.frozen 0
    have hx : rdF l (i + 1) = Go.bits .or .u64 (IntKind.u64.wrap (rdF l i * 2 ^ 8)) (l[k] % 18446744073709551616) := by
      rw [rdF, show l.length - 1 - i = k by omega, List.getD_eq_getElem?_getD, List.getElem?_eq_getElem hk]; rfl
    replace hx := Lib.hid hx
    gi_wp2
    have k5' := k5.set (b := w.heap.size) (i := 0) (.int .u64 (Go.bits .or .u64 (IntKind.u64.wrap (rdF l i * 2 ^ 8)) (l[k] % 18446744073709551616))) (by omega)
    refine round_normal k5' ?_
    refine ⟨rfl, ?_⟩
    rw [show ({ ({ r with state := .busy } : Loop) with state := .ready, pending := none } : Loop) = r from by rw [hr.out]]
    refine ⟨below_put (k1.setCell (by simp) _) (by omega) _, ?_, (k3.set _ (by omega)).put _ (by omega), (k4.set _ (by omega)).put _ (by omega), (k5.set _ (by omega)).putSame _⟩
    rw [hx.out]
    exact (k2.setSame1 _).put _ (by omega)
  rintro e W' ⟨⟨v, rfl⟩, ⟨h1, h2, h3, h4, h5⟩⟩
  refine ⟨_, rfl, r, h5, by rw [hr.out]; simp, ?_⟩
  rw [show r.pending = none from by rw [hr.out]]
  dsimp only
  have k1 := below_put h1 (r := w.heap.size + 1 + 1 + 1) (by omega) (.loop { r with state := .exhausted })
  have k2 := h2.put (.loop { r with state := .exhausted }) (r := w.heap.size + 1 + 1 + 1) (by omega)
  have k4 := h4.put (.loop { r with state := .exhausted }) (r := w.heap.size + 1 + 1 + 1) (by omega)
  have hpn : r.pending = none := by rw [hr.out]
  obtain ⟨W3, hW3⟩ : ∃ W3, W'.putObj (w.heap.size + 1 + 1 + 1) (.loop { r with state := .exhausted }) = W3 := ⟨_, rfl⟩
  have hW4 := hW3
  rw [hpn] at hW4
  rw [hW3] at k1 k2 k4
  rw [hW4]
  clear hW3 hW4 hpn h1 h2 h3 h4 h5
  have c2 := k2.cell1
  gi_wp2
  refine ⟨by simp, .inl ⟨_, _, rfl, run_takeDeferred k4, ?_⟩⟩
  refine ⟨_, results_tmp2 rfl _ _ _, rfl, below_put k1 (by omega) _⟩
theorem readfixed64_any (p : Option Addr) (c : Nat) (l : List Int) (w : World) (hl : l.length = 8) (hp : RI w .u8 p l) (hc : 8 ≤ c) :
    Calls Try.prog 32 #[.slice p 8 c] w fun e w' => e = .returned (.tuple #[.int .u64 (rdF l 8), .int .i64 0]) ∧ Below w.heap.size w w' := by
  go_enter Try.func32, Try.ntmps32
  go_wp2_with (go_at_call 41; refine (read8_any p c l _ hl hp hc).mono ?_; rintro e w' ⟨rfl, hB⟩)
  go_ret2
  exact ⟨rfl, hB⟩
theorem rreadfixed_any (p : Option Addr) (c : Nat) (l : List Int) (w : World) (hl : l.length = 8) (hp : RI w .u8 p l) :
    Calls Try.prog 33 #[.slice p 8 c, .int .i64 8] w fun e w' => e = .returned (.tuple #[.int .u64 (rdF l 8), .int .i64 0]) ∧ w = w' := by
  go_enter Try.func33, Try.ntmps33
  go_wp2
  go_loopw [6, 7] (fun n i wr => ∃ k : Nat, k ≤ 8 ∧ i = .int .i64 (7 - (k : Int)) ∧ n = .int .u64 (rdF l k) ∧ wr = w) (fun _ i _ => (intOf i + 1).toNat)
  case atStart => exact ⟨0, Nat.zero_le _, rfl, rfl, rfl⟩
  case round =>
    obtain ⟨i, hi, rfl, rfl, rfl⟩ := hrel
    by_cases hlt : i < 8
    · obtain ⟨k, hk⟩ : ∃ k, k + 1 + i = 8 := ⟨7 - i, by omega⟩
      have hk2 : k < l.length := by omega
      obtain ⟨b, o, rfl, hc⟩ := hp k hk2
      rw [show 7 - (i : Int) = (k : Int) by omega]
      have hk0 : (0 : Int) ≤ k := by omega
      have hk1 : (k : Int) < 8 := by omega
      have hx : rdF l (i + 1) = Go.bits .or .u64 (IntKind.u64.wrap (rdF l i * 256)) (IntKind.u64.wrap (l[k]?.getD 0)) := by
        rw [rdF, show l.length - 1 - i = k by omega, List.getD_eq_getElem?_getD, show ∀ n, IntKind.u64.wrap n = n % 18446744073709551616 from fun n => by simp [IntKind.wrap, IntKind.bits, IntKind.signed]]; rfl
      replace hx := Lib.hid hx
      go_wp2
      go_roundw
      case rel => exact ⟨i + 1, by omega, by go_num, by rw [hx.out], trivial⟩
      case measure => simp [intOf]
    · obtain rfl : i = 8 := by omega
      go_wp2
      go_ret2
      exact ⟨rfl, rfl⟩
theorem rcheck_any (u : ByteArray) (s k : Int) (w : World) (hu : u.size ≤ maxLen) :
    Calls Try.prog 19 #[.agg #[.string u, .int .u64 s, .int .i64 k]] w fun e w' => e = .returned (.int .i64 (chkK u s k)) ∧ Below w.heap.size w w' := by
  unfold maxLen at hu
  unfold chkK
  by_cases h1 : 1024 < u.size
  · rw [if_pos h1]
    go_enter Try.func19, Try.ntmps19
    go_wp2
    go_ret
    exact ⟨rfl, (Below.refl _ _).alloc (Nat.le_refl _) _⟩
  · rw [if_neg h1]
    by_cases h2 : 72057594037927935 < s
    · rw [if_pos h2]
      go_enter Try.func19, Try.ntmps19
      go_wp2
      go_ret
      exact ⟨rfl, (Below.refl _ _).alloc (Nat.le_refl _) _⟩
    · rw [if_neg h2]
      by_cases h3 : k < 0
      · rw [if_pos h3]
        go_enter Try.func19, Try.ntmps19
        go_wp2
        go_ret
        exact ⟨rfl, (Below.refl _ _).alloc (Nat.le_refl _) _⟩
      · rw [if_neg h3]
        by_cases h4 : 2 < k
        · rw [if_pos h4]
          go_enter Try.func19, Try.ntmps19
          go_wp2
          go_ret
          exact ⟨rfl, (Below.refl _ _).alloc (Nat.le_refl _) _⟩
        · rw [if_neg h4]
          go_enter Try.func19, Try.ntmps19
          go_wp2
          go_ret
          exact ⟨rfl, (Below.refl _ _).alloc (Nat.le_refl _) _⟩
/-- what the document reads out of at least eight bytes. -/
def decU (l : List Int) : ByteArray := strOfNums (l.take (l.length - 8))
def decN (l : List Int) : Int := rdF (l.drop (l.length - 8)) 8
def decS (l : List Int) : Int := decN l / 2 ^ 8
def decK (l : List Int) : Int := wrap64 (Go.bits .and .u64 (decN l) 255)
def decV (l : List Int) : Value :=
  if l.length < 8 then .tuple #[.agg #[.string ⟨#[]⟩, .int .u64 0, .int .i64 0], .int .i64 4]
  else if chkK (decU l) (decS l) (decK l) = 0 then .tuple #[.agg #[.string (decU l), .int .u64 (decS l), .int .i64 (decK l)], .int .i64 0]
  else .tuple #[.agg #[.string ⟨#[]⟩, .int .u64 0, .int .i64 0], .int .i64 3]
theorem results_key {fn : Func} {p q : Tmp} (h : fn.results = #[.cell p 30, .tmp q]) (tmps : Array Value) (w : World) (b : Nat) (x0 x1 x2 : Value) (T : TypeId) (hp : tmps.getD p undef = .pointer (some ⟨b, 0, none⟩))
    (hb : Bl w b (.cells #[x0, x1, x2] T (0, 0))) : (results fn tmps).run Try.prog w = .ok (.tuple #[.agg #[x0, x1, x2], tmps.getD q undef]) w := by
  have c0 : w.cell? ⟨b, 0, none⟩ = some x0 := hb.cell 0
  have c1 : w.cell? ⟨b, 1, none⟩ = some x1 := hb.cell 1
  have c2 : w.cell? ⟨b, 2, none⟩ = some x2 := hb.cell 2
  simp only [results, h]
  have hp' : tmps[p]?.getD undef = .pointer (some ⟨b, 0, none⟩) := by simpa using hp
  simp [Sem.run_bind, Result.andThen, hp', go_sem, c0, c1, c2]
theorem decode_any (p : Option Addr) (c : Nat) (l : List Int) (w : World) (hp : RI w .u8 p l) (hm : l.length ≤ maxLen) (hc : l.length ≤ c) :
    Calls Try.prog 16 #[.slice p l.length c] w fun e w' => e = .returned (decV l) ∧ Below w.heap.size w w' := by
  unfold decV
  by_cases h8 : l.length < 8
  · rw [if_pos h8]
    go_enter Try.func16, Try.ntmps16
    go_wp2
    refine bodyPost_ret (results_key rfl _ _ _ _ _ _ _ rfl (Bl.new' rfl)) rfl ⟨rfl, (Below.refl _ _).alloc (Nat.le_refl _) _⟩
  · rw [if_neg h8]
    have g1 : (l.length : Int) - 8 = ((l.length - 8 : Nat) : Int) := by omega
    have g2 : (0 : Int) ≤ ((l.length - 8 : Nat) : Int) := by omega
    obtain ⟨n, hn⟩ : ∃ n, l.length - 8 = n := ⟨_, rfl⟩
    rw [hn] at g1 g2
    obtain ⟨x, hx⟩ : ∃ x, decN l = x := ⟨_, rfl⟩
    have hU : decU l = strOfNums (l.take n) := by unfold decU; rw [hn]
    have hS : decS l = x / 256 := by unfold decS; rw [hx]; rfl
    have hK : decK l = wrap64 (Go.bits .and .u64 x 255) := by unfold decK; rw [hx]
    rw [hU, hS, hK]
    clear hU hS hK
    obtain ⟨ck, hck⟩ : ∃ ck, chkK (strOfNums (l.take n)) (x / 256) (wrap64 (Go.bits .and .u64 x 255)) = ck := ⟨_, rfl⟩
    rw [hck]
    replace hck := Lib.hid hck
    have hl8 : n + 8 = l.length := by omega
    have hcn : n ≤ c := by omega
    have g3 : (n : Int) ≤ c := by omega
    have g4 : (n : Int) ≤ l.length := by omega
    have hne : ¬ c = n := by omega
    have hw : wrap64 (n : Int) = n := by have : l.length ≤ 9223372036854775807 := hm; unfold wrap64; omega
    obtain ⟨b, o, rfl, -⟩ := hp 0 (by omega)
    have hR1 : RI w .u8 (some ⟨b, o + n, none⟩) (l.drop n) := by
      intro i hi
      rw [List.length_drop] at hi
      refine ⟨b, o + n, rfl, ?_⟩
      have := hp.at (i := n + i) (by omega)
      rw [Nat.add_assoc, this, List.getD_eq_getElem?_getD, List.getD_eq_getElem?_getD, List.getElem?_drop]
    have hR2 : Rd w 1 (some ⟨b, o, none⟩) n ((l.take n).map (Value.int .u8)) := by
      have h := rd_of_ri (w := w) (k := .u8) (p := some ⟨b, o, none⟩) (l := l.take n) (fun i hi => by
        rw [List.length_take] at hi
        refine ⟨b, o, rfl, ?_⟩
        have := hp.at (i := i) (by omega)
        rw [this, List.getD_eq_getElem?_getD, List.getD_eq_getElem?_getD, List.getElem?_take, if_pos (by omega)])
      rw [List.length_take, show min n l.length = n by omega] at h
      exact h
    have hx' : rdF (l.drop n) 8 = x := by rw [← hx]; unfold decN; rw [hn]
    replace hx' := Lib.hid hx'
    have hlt := (cell_lt (hp.at (i := 0) (by omega)))
    have hlm : (l.length : Int) ≤ 9223372036854775807 := by unfold maxLen at hm; omega
    by_cases h0 : ck = 0
    · subst h0
      rw [if_pos rfl]
      go_enter Try.func16, Try.ntmps16
      go_wp2_with (first
        | (go_at_call 32; rw [show l.length - n = 8 by omega]; refine (readfixed64_any _ _ (l.drop n) _ (by simp; omega) (hR1.keep ((Below.refl _ _).alloc (Nat.le_refl _) _)) (by omega)).mono ?_; rintro e w1 ⟨rfl, hB1⟩; rw [hx'.out]; have b0 := (Bl.new' (W := w) (o := .cells #[.string ⟨#[]⟩, .int .u64 0, .int .i64 0] 30 (0, 0)) rfl).keep hB1; have hB2 := ((Below.refl w.heap.size w).alloc (Nat.le_refl _) (.cells #[.string ⟨#[]⟩, .int .u64 0, .int .i64 0] 30 (0, 0))).trans (hB1.mono (by simp)); have hcv := conv_rd (P := Try.prog) (n := n) (c := c) Try.underlying22 Try.underlying5 (l.take n) (hR2.keep hB2) Try.underlying9)
        | (go_at_call 18; refine (check_any _ _ _ _ (by rw [strOfNums_size, List.length_take]; omega)).mono ?_; rintro e w2 ⟨rfl, hB3⟩; rw [hck.out]; have hB4 := hB2.trans (((Below.refl w.heap.size w1).alloc hB2.size _).trans (hB3.mono (by have := hB2.size; simp; omega))); replace b0 := (b0.alloc _).keep hB3; have d0 := ((Bl.new' (W := w1) (o := .cells #[.string (strOfNums (l.take n)), .int .u64 (x / 256), .int .i64 (wrap64 (Go.bits .and .u64 x 255))] 30 (0, 0)) rfl).keep hB3); have b00 := b0.cell 0; have b01 := b0.cell 1; have b02 := b0.cell 2; have f0 := b0.frozen 0; have f1 := b0.frozen 1; have f2 := b0.frozen 2; have d00 := d0.cell 0; have d01 := d0.cell 1; have d02 := d0.cell 2))
      refine bodyPost_ret (results_key rfl _ _ w.heap.size (.string (strOfNums (l.take n))) (.int .u64 (x / 256)) (.int .i64 (wrap64 (Go.bits .and .u64 x 255))) _ rfl (((b0.setSame 0 _).setSame 1 _).setSame 2 _)) rfl ⟨rfl, ((hB4.setCell (Nat.le_refl _) _).setCell (Nat.le_refl _) _).setCell (Nat.le_refl _) _⟩
    · rw [if_neg h0]
      have h0' : (ck == 0) = false := by rw [beq_eq_false_iff_ne]; exact h0
      go_enter Try.func16, Try.ntmps16
      go_wp2_with (first
        | (go_at_call 32; rw [show l.length - n = 8 by omega]; refine (readfixed64_any _ _ (l.drop n) _ (by simp; omega) (hR1.keep ((Below.refl _ _).alloc (Nat.le_refl _) _)) (by omega)).mono ?_; rintro e w1 ⟨rfl, hB1⟩; rw [hx'.out]; have b0 := (Bl.new' (W := w) (o := .cells #[.string ⟨#[]⟩, .int .u64 0, .int .i64 0] 30 (0, 0)) rfl).keep hB1; have hB2 := ((Below.refl w.heap.size w).alloc (Nat.le_refl _) (.cells #[.string ⟨#[]⟩, .int .u64 0, .int .i64 0] 30 (0, 0))).trans (hB1.mono (by simp)); have hcv := conv_rd (P := Try.prog) (n := n) (c := c) Try.underlying22 Try.underlying5 (l.take n) (hR2.keep hB2) Try.underlying9)
        | (go_at_call 18; refine (check_any _ _ _ _ (by rw [strOfNums_size, List.length_take]; omega)).mono ?_; rintro e w2 ⟨rfl, hB3⟩; rw [hck.out]; have hB4 := hB2.trans (((Below.refl w.heap.size w1).alloc hB2.size _).trans (hB3.mono (by have := hB2.size; simp; omega))); replace b0 := (b0.alloc _).keep hB3; have d0 := ((Bl.new' (W := w1) (o := .cells #[.string (strOfNums (l.take n)), .int .u64 (x / 256), .int .i64 (wrap64 (Go.bits .and .u64 x 255))] 30 (0, 0)) rfl).keep hB3); have b00 := b0.cell 0; have b01 := b0.cell 1; have b02 := b0.cell 2; have f0 := b0.frozen 0; have f1 := b0.frozen 1; have f2 := b0.frozen 2; have d00 := d0.cell 0; have d01 := d0.cell 1; have d02 := d0.cell 2))
      refine bodyPost_ret (results_key rfl _ _ w.heap.size (.string ⟨#[]⟩) (.int .u64 0) (.int .i64 0) _ rfl (((b0.setSame 0 _).setSame 1 _).setSame 2 _)) rfl ⟨rfl, ((hB4.setCell (Nat.le_refl _) _).setCell (Nat.le_refl _) _).setCell (Nat.le_refl _) _⟩
theorem rdecode_any (p : Option Addr) (c : Nat) (l : List Int) (w : World) (hp : RI w .u8 p l) (hm : l.length ≤ maxLen) (hc : l.length ≤ c) :
    Calls Try.prog 17 #[.slice p l.length c] w fun e w' => e = .returned (decV l) ∧ Below w.heap.size w w' := by
  unfold decV
  have hml : l.length ≤ 9223372036854775807 := hm
  have hw8 : wrap64 ((l.length : Int) - 8) = (l.length : Int) - 8 := by unfold wrap64; omega
  by_cases h8 : l.length < 8
  · rw [if_pos h8]
    have h80 : (l.length : Int) - 8 < 0 := by omega
    go_enter Try.func17, Try.ntmps17
    go_wp2
    refine bodyPost_ret (results_key rfl _ _ _ _ _ _ _ rfl (Bl.new' rfl)) rfl ⟨rfl, (Below.refl _ _).alloc (Nat.le_refl _) _⟩
  · rw [if_neg h8]
    have g1 : (l.length : Int) - 8 = ((l.length - 8 : Nat) : Int) := by omega
    have g2 : (0 : Int) ≤ ((l.length - 8 : Nat) : Int) := by omega
    obtain ⟨n, hn⟩ : ∃ n, l.length - 8 = n := ⟨_, rfl⟩
    rw [hn] at g1 g2
    obtain ⟨x, hx⟩ : ∃ x, decN l = x := ⟨_, rfl⟩
    have hU : decU l = strOfNums (l.take n) := by unfold decU; rw [hn]
    have hS : decS l = x / 256 := by unfold decS; rw [hx]; rfl
    have hK : decK l = wrap64 (Go.bits .and .u64 x 255) := by unfold decK; rw [hx]
    rw [hU, hS, hK]
    clear hU hS hK
    obtain ⟨ck, hck⟩ : ∃ ck, chkK (strOfNums (l.take n)) (x / 256) (wrap64 (Go.bits .and .u64 x 255)) = ck := ⟨_, rfl⟩
    rw [hck]
    replace hck := Lib.hid hck
    have hl8 : n + 8 = l.length := by omega
    have hcn : n ≤ c := by omega
    have g3 : (n : Int) ≤ c := by omega
    have g4 : (n : Int) ≤ l.length := by omega
    have hne : ¬ c = n := by omega
    have hw : wrap64 (n : Int) = n := by have : l.length ≤ 9223372036854775807 := hm; unfold wrap64; omega
    obtain ⟨b, o, rfl, -⟩ := hp 0 (by omega)
    have hR1 : RI w .u8 (some ⟨b, o + n, none⟩) (l.drop n) := by
      intro i hi
      rw [List.length_drop] at hi
      refine ⟨b, o + n, rfl, ?_⟩
      have := hp.at (i := n + i) (by omega)
      rw [Nat.add_assoc, this, List.getD_eq_getElem?_getD, List.getD_eq_getElem?_getD, List.getElem?_drop]
    have hR2 : Rd w 1 (some ⟨b, o, none⟩) n ((l.take n).map (Value.int .u8)) := by
      have h := rd_of_ri (w := w) (k := .u8) (p := some ⟨b, o, none⟩) (l := l.take n) (fun i hi => by
        rw [List.length_take] at hi
        refine ⟨b, o, rfl, ?_⟩
        have := hp.at (i := i) (by omega)
        rw [this, List.getD_eq_getElem?_getD, List.getD_eq_getElem?_getD, List.getElem?_take, if_pos (by omega)])
      rw [List.length_take, show min n l.length = n by omega] at h
      exact h
    have hx' : rdF (l.drop n) 8 = x := by rw [← hx]; unfold decN; rw [hn]
    replace hx' := Lib.hid hx'
    have hlt := (cell_lt (hp.at (i := 0) (by omega)))
    have hlm : (l.length : Int) ≤ 9223372036854775807 := by unfold maxLen at hm; omega
    by_cases h0 : ck = 0
    · subst h0
      rw [if_pos rfl]
      go_enter Try.func17, Try.ntmps17
      go_wp2_with (first
        | (go_at_call 33; rw [show l.length - n = 8 by omega]; refine (rreadfixed_any _ _ (l.drop n) _ (by simp; omega) (hR1.keep ((Below.refl _ _).alloc (Nat.le_refl _) _))).mono ?_; rintro e w1 ⟨rfl, hw1⟩; have hB1 : Below (w.alloc (.cells #[.string ⟨#[]⟩, .int .u64 0, .int .i64 0] 30 (0, 0))).heap.size (w.alloc (.cells #[.string ⟨#[]⟩, .int .u64 0, .int .i64 0] 30 (0, 0))) w1 := hw1 ▸ Below.refl _ _; clear hw1; rw [hx'.out]; have b0 := (Bl.new' (W := w) (o := .cells #[.string ⟨#[]⟩, .int .u64 0, .int .i64 0] 30 (0, 0)) rfl).keep hB1; have hB2 := ((Below.refl w.heap.size w).alloc (Nat.le_refl _) (.cells #[.string ⟨#[]⟩, .int .u64 0, .int .i64 0] 30 (0, 0))).trans (hB1.mono (by simp)); have hcv := conv_rd (P := Try.prog) (n := n) (c := c) Try.underlying22 Try.underlying5 (l.take n) (hR2.keep hB2) Try.underlying9)
        | (go_at_call 19; refine (rcheck_any _ _ _ _ (by rw [strOfNums_size, List.length_take]; omega)).mono ?_; rintro e w2 ⟨rfl, hB3⟩; rw [hck.out]; have hB4 := hB2.trans (((Below.refl w.heap.size w1).alloc hB2.size _).trans (hB3.mono (by have := hB2.size; simp; omega))); replace b0 := (b0.alloc _).keep hB3; have d0 := ((Bl.new' (W := w1) (o := .cells #[.string (strOfNums (l.take n)), .int .u64 (x / 256), .int .i64 (wrap64 (Go.bits .and .u64 x 255))] 30 (0, 0)) rfl).keep hB3); have b00 := b0.cell 0; have b01 := b0.cell 1; have b02 := b0.cell 2; have f0 := b0.frozen 0; have f1 := b0.frozen 1; have f2 := b0.frozen 2; have d00 := d0.cell 0; have d01 := d0.cell 1; have d02 := d0.cell 2))
      refine bodyPost_ret (results_key rfl _ _ w.heap.size (.string (strOfNums (l.take n))) (.int .u64 (x / 256)) (.int .i64 (wrap64 (Go.bits .and .u64 x 255))) _ rfl (((b0.setSame 0 _).setSame 1 _).setSame 2 _)) rfl ⟨rfl, ((hB4.setCell (Nat.le_refl _) _).setCell (Nat.le_refl _) _).setCell (Nat.le_refl _) _⟩
    · rw [if_neg h0]
      have h0' : (ck == 0) = false := by rw [beq_eq_false_iff_ne]; exact h0
      go_enter Try.func17, Try.ntmps17
      go_wp2_with (first
        | (go_at_call 33; rw [show l.length - n = 8 by omega]; refine (rreadfixed_any _ _ (l.drop n) _ (by simp; omega) (hR1.keep ((Below.refl _ _).alloc (Nat.le_refl _) _))).mono ?_; rintro e w1 ⟨rfl, hw1⟩; have hB1 : Below (w.alloc (.cells #[.string ⟨#[]⟩, .int .u64 0, .int .i64 0] 30 (0, 0))).heap.size (w.alloc (.cells #[.string ⟨#[]⟩, .int .u64 0, .int .i64 0] 30 (0, 0))) w1 := hw1 ▸ Below.refl _ _; clear hw1; rw [hx'.out]; have b0 := (Bl.new' (W := w) (o := .cells #[.string ⟨#[]⟩, .int .u64 0, .int .i64 0] 30 (0, 0)) rfl).keep hB1; have hB2 := ((Below.refl w.heap.size w).alloc (Nat.le_refl _) (.cells #[.string ⟨#[]⟩, .int .u64 0, .int .i64 0] 30 (0, 0))).trans (hB1.mono (by simp)); have hcv := conv_rd (P := Try.prog) (n := n) (c := c) Try.underlying22 Try.underlying5 (l.take n) (hR2.keep hB2) Try.underlying9)
        | (go_at_call 19; refine (rcheck_any _ _ _ _ (by rw [strOfNums_size, List.length_take]; omega)).mono ?_; rintro e w2 ⟨rfl, hB3⟩; rw [hck.out]; have hB4 := hB2.trans (((Below.refl w.heap.size w1).alloc hB2.size _).trans (hB3.mono (by have := hB2.size; simp; omega))); replace b0 := (b0.alloc _).keep hB3; have d0 := ((Bl.new' (W := w1) (o := .cells #[.string (strOfNums (l.take n)), .int .u64 (x / 256), .int .i64 (wrap64 (Go.bits .and .u64 x 255))] 30 (0, 0)) rfl).keep hB3); have b00 := b0.cell 0; have b01 := b0.cell 1; have b02 := b0.cell 2; have f0 := b0.frozen 0; have f1 := b0.frozen 1; have f2 := b0.frozen 2; have d00 := d0.cell 0; have d01 := d0.cell 1; have d02 := d0.cell 2))
      refine bodyPost_ret (results_key rfl _ _ w.heap.size (.string ⟨#[]⟩) (.int .u64 0) (.int .i64 0) _ rfl (((b0.setSame 0 _).setSame 1 _).setSame 2 _)) rfl ⟨rfl, ((hB4.setCell (Nat.le_refl _) _).setCell (Nat.le_refl _) _).setCell (Nat.le_refl _) _⟩
end Go.Proofs.Ytejpojbpjciahaa
