/- A step on the way to the laws of layer 6 (bloom): contracts of Go functions over the translation; no condition but those that each theorem names. -/
import Derived.Test.YtakgmkgipjfolaaProg
import Derived.RangeFuncNested
import Derived.RangeFuncBound
import Derived.RangeFuncCalls
import Derived.RangeFuncLeaves
import Derived.Shelf.Abstract
import Derived.Shelf.RegionOpen
import Derived.WalkKit
import Derived.OwnWalkIn
import Derived.TacticsInMore
import Derived.LoopNIn
import Derived.LoopIn
import Derived.Lib.Hide
import Derived.Outline
import Derived.Test.YtakgmkgipjfolaaSed
import Derived.Test.YtakgmkgipjfolaaB
namespace Go.Proofs.Ytakgmkgipjfolaa
open Go.RowKit Go.Sed
set_option maxHeartbeats 1000000
attribute [local go_sem] Oper.semAt_some
/-- one bit, in the walk's words. -/
def bitN (l : List Int) (q : Nat) : Int := Go.bits .and .u8 (l[q / 8]?.getD 0 / 2 ^ (q % 8)) 1
/-- the i-th place of a key with hash h among m. -/
def posN (h m : Int) (i : Nat) : Nat := (pA h i % m).toNat
theorem results_cell_run {fn : Func} {p : Tmp} {ty : TypeId} (h : fn.results = #[.cell p ty]) (tmps : Array Value) (P : Program) (w : World) :
    (results fn tmps).run P w = ((asAddr (tmps.getD p undef)).run P w).andThen fun a w₁ => (loadVar ty a).run P w₁ := by
  simp only [results, h]
  simp [Sem.run_bind, Result.andThen]
def MJ (l : List Int) (sl : Value) (n : Nat) (h : Int) (w : World) (r : Loop) (i k : Nat) (W : World) : Prop :=
  Below w.heap.size w W ∧ one W w.heap.size sl 25 ∧ one W (w.heap.size + 1) (.bool false) 4 ∧
  PC (w.heap.size + 1 + 1) (w.heap.size + 1 + 1 + 1 + 1) (w.heap.size + 1 + 1 + 1) (w.heap.size + 1 + 1 + 1 + 1 + 1) n (8 * ((l.length : Int) - 1)) h i W ∧
  Bl W (w.heap.size + 1 + 1 + 1 + 1 + 1 + 1) (.deferred (some [])) ∧ Bl W (w.heap.size + 1 + 1 + 1 + 1 + 1 + 1 + 1) (.loop r) ∧
  ∀ j, j < k → (bitN l (posN h (8 * ((l.length : Int) - 1)) j) == 0) = false
def MX (l : List Int) (n : Nat) (h : Int) (w : World) (r : Loop) (W : World) : Prop :=
  Below w.heap.size w W ∧ one W (w.heap.size + 1) (.bool false) 4 ∧ Bl W (w.heap.size + 1 + 1 + 1 + 1 + 1 + 1) (.deferred (some [])) ∧
  Bl W (w.heap.size + 1 + 1 + 1 + 1 + 1 + 1 + 1) (.loop { r with state := .done, pending := some .ret }) ∧
  ∃ j, j < n ∧ (bitN l (posN h (8 * ((l.length : Int) - 1)) j) == 0) = true
theorem MJ.put {l : List Int} {sl : Value} {n : Nat} {h : Int} {w : World} {r : Loop} {i k : Nat} {W : World} (m : MJ l sl n h w r i k W) (r' : Loop) :
    MJ l sl n h w r' i k (W.putObj (w.heap.size + 1 + 1 + 1 + 1 + 1 + 1 + 1) (.loop r')) := by
  obtain ⟨h1, h2, h3, h4, h5, h6, h7⟩ := m
  exact ⟨below_put h1 (by omega) _, h2.put _ (by omega), h3.put _ (by omega), h4.put _ (by omega) (by omega) (by omega) (by omega), h5.put _ (by omega), h6.putSame _, h7⟩
def mayV (l : List Int) (s : ByteArray) : Bool :=
  if isB l = true ∧ l.length ≤ 16777216 then decide (∀ j, j < (l[l.length - 1]?.getD 0).toNat → (bitN l (posN (hashI s) (8 * ((l.length : Int) - 1)) j) == 0) = false) else true
theorem may_yes (b o : Nat) (c : Nat) (l : List Int) (s : ByteArray) (w : World) (hs : s.size ≤ maxLen) (hl : l.length ≤ 140737488351232) (hc : RI w .u8 (some ⟨b, o, none⟩) l) (his : isB l = true) (h2 : l.length ≤ 16777216) :
    Calls Try.prog 8 #[.slice (some ⟨b, o, none⟩) l.length c, .string s] w fun e w' => e = .returned (.bool (mayV l s)) ∧ Below w.heap.size w w' := by
  have g1 : 8 < l.length := by simp [isB] at his; omega
  have hlast := hc.at (i := l.length - 1) (by omega)
  have hbd : 1 ≤ l[l.length - 1]?.getD 0 ∧ l[l.length - 1]?.getD 0 ≤ 30 := by simp [isB] at his; omega
  have hblt := cell_lt hlast
  replace his := Lib.hid his
  refine (callsIn_wide (n := 3)).1 ?_
  refine callsIn_of_wp_marks Try.func8 rfl trivial ?_ rfl
  simp only [Try.ntmps8, List.size_toArray, List.length_cons, List.length_nil, Nat.reduceAdd, Nat.reduceSub, Array.replicate_succ, Array.replicate_zero, List.push_toArray, List.append_toArray, List.nil_append, List.cons_append]
  gi_wp2_with (first
    | (refine ⟨trivial, ?_⟩; gi_at_call 11; refine (callsIn_wide.2 (is_any (some ⟨b, o, none⟩) c l _ hl (hc.keep (((Below.refl _ _).alloc (Nat.le_refl _) _).alloc (by simp) _)))).mono ?_; rintro e w' ⟨rfl, rfl⟩; rw [his.out])
    | (refine ⟨trivial, ?_⟩; gi_at_call 10; refine (callsIn_wide.2 (probes_any s _ _ _ hs)).mono ?_; rintro e w' ⟨rfl, rfl⟩))
  obtain ⟨n, hn⟩ : ∃ n : Nat, l[l.length - 1]?.getD 0 = n := ⟨(l[l.length - 1]?.getD 0).toNat, by omega⟩
  rw [hn] at hbd ⊢
  have hn1 : 1 ≤ n := by omega
  have hn2 : n ≤ 30 := by omega
  replace hn := Lib.hid hn
  clear hbd hlast
  refine rf_law rfl (enters_of Try.func13 (by kernel_rfl) rfl) ?_
  intro fn r hr
  simp only [World.size_alloc] at hr ⊢
  refine (probes1_in (w.heap.size + 1 + 1 + 1 + 1 + 1 + 1 + 1) (3 - 1) (w.heap.size + 1 + 1) (w.heap.size + 1 + 1 + 1 + 1) (w.heap.size + 1 + 1 + 1) (w.heap.size + 1 + 1 + 1 + 1 + 1) n
    (8 * ((l.length : Int) - 1)) (hashI s) (by omega) (by omega) (by omega)
    (fun i => MJ l (.slice (some ⟨b, o, none⟩) l.length c) n (hashI s) w r i i) (fun i => MJ l (.slice (some ⟨b, o, none⟩) l.length c) n (hashI s) w r i (i + 1)) (MX l n (hashI s) w r) ?hJ ?hR ?hS _ ?h0).mono ?_
  case hJ => exact fun i W h => h.2.2.2.1
  case hS =>
    rintro i W ⟨h1, h2, h3, ⟨p1, p2, p3, p4⟩, h5, h6, h7⟩
    refine ⟨⟨p1, p2, p3, p4⟩, h1.setCell (by simp; omega) _, h2.set _ (by omega), h3.set _ (by omega), ⟨p1.set _ (by omega), p2.setSame _, p3.set _ (by omega), p4.set _ (by omega)⟩, h5.set _ (by omega), h6.set _ (by omega), h7⟩
  case h0 =>
    refine ⟨?_, ?_, ?_, ⟨?_, ?_, ?_, ?_⟩, ?_, ?_, by omega⟩
    · repeat (first | exact Below.refl _ _ | refine Below.alloc ?_ (by (try simp only [World.size_alloc]); omega) _)
    all_goals (try unfold one)
    all_goals repeat (first | exact Bl.new' (by simp only [World.size_alloc]) | refine Bl.alloc ?_ _)
  case hR =>
    rintro i W hi ⟨h1, h2, h3, h4, h5, h6, h7⟩
    have hbits := pA_bd (hashI s) i
    obtain ⟨q, hq⟩ : ∃ q : Nat, pA (hashI s) i % (8 * ((l.length : Int) - 1)) = q := ⟨(pA (hashI s) i % (8 * ((l.length : Int) - 1))).toNat, by rw [Int.toNat_of_nonneg]; exact Int.emod_nonneg _ (by omega)⟩
    have hq1 : q < 8 * (l.length - 1) := by
      have := Int.emod_lt_of_pos (pA (hashI s) i) (b := 8 * ((l.length : Int) - 1)) (by omega)
      omega
    refine yield_law1 h6 (by rw [hr.out]) (by rw [hr.out]) (by rw [hr.out]) (by rw [hr.out]) ?_
    rw [hq]
    gi_wp2
    refine ⟨r, h6, by rw [hr.out], ?_⟩
    have hm := MJ.put ⟨h1, h2, h3, h4, h5, h6, h7⟩ { r with state := .busy }
    obtain ⟨W2, hW2⟩ : ∃ W2, W.putObj (w.heap.size + 1 + 1 + 1 + 1 + 1 + 1 + 1) (.loop { r with state := .busy }) = W2 := ⟨_, rfl⟩
    rw [hW2] at hm ⊢
    clear h1 h2 h3 h4 h5 h6 hW2
    have hm' := hm
    obtain ⟨h1, h2, h3, h4, h5, h6, -⟩ := hm
    have hcell := (hc.keep h1).at (i := q / 8) (by omega)
    have c2 := h2.cell
    have c3 := h3.cell
    have f3 := h3.frozen
    have hqp : posN (hashI s) (8 * ((l.length : Int) - 1)) i = q := by unfold posN; rw [hq]; rfl
    clear hq
    have hx : (bitN l q == 0) = true ∨ (bitN l q == 0) = false := by cases (bitN l q == 0) <;> simp
    rcases hx with hx | hx
    · have hx' : (bitN l (posN (hashI s) (8 * ((l.length : Int) - 1)) i) == 0) = true := by rw [hqp]; exact hx
      clear hqp
      unfold bitN at hx
      replace hx' := Lib.hid hx'
      gi_wp2
      exact round_ret (h6.set _ (by omega)) (.inr ⟨rfl, below_put (h1.setCell (by simp) _) (by omega) _, (h3.setSame _).put _ (by omega), (h5.set _ (by omega)).put _ (by omega), (h6.set _ (by omega)).putSame _, i, hi, hx'.out⟩)
    · have hx' : (bitN l (posN (hashI s) (8 * ((l.length : Int) - 1)) i) == 0) = false := by rw [hqp]; exact hx
      clear hqp
      unfold bitN at hx
      replace hx' := Lib.hid hx'
      gi_wp2
      refine round_normal h6 (.inl ⟨rfl, ?_⟩)
      have hm2 := hm'.put r
      rw [show ({ ({ r with state := .busy } : Loop) with state := .ready, pending := none } : Loop) = r from by rw [hr.out]]
      refine ⟨hm2.1, hm2.2.1, hm2.2.2.1, hm2.2.2.2.1, hm2.2.2.2.2.1, hm2.2.2.2.2.2.1, fun j hj => ?_⟩
      by_cases e : j = i
      · rw [e]; exact hx'.out
      · exact h7 j (by omega)
  rintro e W' ⟨⟨v, rfl⟩, (⟨h1, h2, h3, h4, h5, h6, h7⟩ | ⟨h1, h3, h5, h6, j, hj, h7⟩)⟩
  · refine ⟨_, rfl, r, h6, by rw [hr.out]; simp, ?_⟩
    rw [show r.pending = none from by rw [hr.out]]
    dsimp only
    have k1 := below_put h1 (r := w.heap.size + 1 + 1 + 1 + 1 + 1 + 1 + 1) (by omega) (.loop { r with state := .exhausted })
    have k3 := h3.put (.loop { r with state := .exhausted }) (r := w.heap.size + 1 + 1 + 1 + 1 + 1 + 1 + 1) (by omega)
    have k5 := h5.put (.loop { r with state := .exhausted }) (r := w.heap.size + 1 + 1 + 1 + 1 + 1 + 1 + 1) (by omega)
    have hpn : r.pending = none := by rw [hr.out]
    obtain ⟨W3, hW3⟩ : ∃ W3, W'.putObj (w.heap.size + 1 + 1 + 1 + 1 + 1 + 1 + 1) (.loop { r with state := .exhausted }) = W3 := ⟨_, rfl⟩
    have hW4 := hW3
    rw [hpn] at hW4
    rw [hW3] at k1 k3 k5
    rw [hW4]
    clear hW3 hW4 hpn h1 h3 h5 h6 h4 h2
    have c3 := k3.cell
    have f3 := k3.frozen
    gi_wp2
    refine ⟨by simp, .inl ⟨_, _, rfl, run_takeDeferred (k5.set _ (by omega)), ?_⟩⟩
    refine ⟨.bool true, ?_, ?_, below_put (k1.setCell (by simp) _) (by omega) _⟩
    have c4 := ((k3.setSame (.bool true)).put (r := w.heap.size + 1 + 1 + 1 + 1 + 1 + 1) (.deferred none) (by omega)).cell
    rw [results_cell_run rfl]
    · simp [go_sem, c4]
    · have : mayV l s = true := by
        unfold mayV; rw [if_pos ⟨his.out, h2⟩, hn.out]; exact decide_eq_true h7
      rw [this]
  · refine ⟨_, rfl, _, h6, by simp, ?_⟩
    dsimp only
    have k1 := below_put h1 (r := w.heap.size + 1 + 1 + 1 + 1 + 1 + 1 + 1) (by omega) (.loop { r with state := .exhausted, pending := some .ret })
    have k3 := h3.put (.loop { r with state := .exhausted, pending := some .ret }) (r := w.heap.size + 1 + 1 + 1 + 1 + 1 + 1 + 1) (by omega)
    have k5 := h5.put (.loop { r with state := .exhausted, pending := some .ret }) (r := w.heap.size + 1 + 1 + 1 + 1 + 1 + 1 + 1) (by omega)
    obtain ⟨W3, hW3⟩ : ∃ W3, W'.putObj (w.heap.size + 1 + 1 + 1 + 1 + 1 + 1 + 1) (.loop { r with state := .exhausted, pending := some .ret }) = W3 := ⟨_, rfl⟩
    rw [hW3] at k1 k3 k5
    rw [hW3]
    clear hW3 h1 h3 h5 h6
    have c3 := k3.cell
    gi_wp2
    refine ⟨by simp, .inl ⟨_, _, rfl, run_takeDeferred k5, ?_⟩⟩
    refine ⟨.bool false, ?_, ?_, below_put k1 (by omega) _⟩
    · have c4 := (k3.put (r := w.heap.size + 1 + 1 + 1 + 1 + 1 + 1) (.deferred none) (by omega)).cell
      rw [results_cell_run rfl]
      simp [go_sem, c4]
    · have : mayV l s = false := by
        unfold mayV; rw [if_pos ⟨his.out, h2⟩, hn.out]
        refine decide_eq_false fun hall => ?_
        have := hall j (by omega)
        rw [h7] at this; cases this
      rw [this]
theorem may_no (p : Option Addr) (c : Nat) (l : List Int) (s : ByteArray) (w : World) (hl : l.length ≤ 140737488351232) (hc : RI w .u8 p l) (h : ¬ (isB l = true ∧ l.length ≤ 16777216)) :
    Calls Try.prog 8 #[.slice p l.length c, .string s] w fun e w' => e = .returned (.bool (mayV l s)) ∧ Below w.heap.size w w' := by
  have hv : mayV l s = true := by unfold mayV; rw [if_neg h]
  rw [hv]
  clear hv
  refine (callsIn_wide (n := 3)).1 ?_
  refine callsIn_of_wp_marks Try.func8 rfl trivial ?_ rfl
  simp only [Try.ntmps8, List.size_toArray, List.length_cons, List.length_nil, Nat.reduceAdd, Nat.reduceSub, Array.replicate_succ, Array.replicate_zero, List.push_toArray, List.append_toArray, List.nil_append, List.cons_append]
  cases hi : isB l with
  | true =>
    have h2 : ¬ l.length ≤ 16777216 := by rw [hi] at h; simpa using h
    clear h
    replace hi := Lib.hid hi
    gi_wp2_with (refine ⟨trivial, ?_⟩; gi_at_call 11; refine (callsIn_wide.2 (is_any p c l _ hl (hc.keep (((Below.refl _ _).alloc (Nat.le_refl _) _).alloc (by simp) _)))).mono ?_; rintro e w' ⟨rfl, rfl⟩; rw [hi.out])
    refine ⟨.bool true, ?_, rfl, ?_⟩
    · rw [results_cell_run rfl]
      simp [go_sem]
    · exact (((Below.refl _ _).alloc (Nat.le_refl _) _).alloc (by simp) _)
  | false =>
    clear h
    replace hi := Lib.hid hi
    gi_wp2_with (refine ⟨trivial, ?_⟩; gi_at_call 11; refine (callsIn_wide.2 (is_any p c l _ hl (hc.keep (((Below.refl _ _).alloc (Nat.le_refl _) _).alloc (by simp) _)))).mono ?_; rintro e w' ⟨rfl, rfl⟩; rw [hi.out])
    refine ⟨.bool true, ?_, rfl, ?_⟩
    · rw [results_cell_run rfl]
      simp [go_sem]
    · exact (((Below.refl _ _).alloc (Nat.le_refl _) _).alloc (by simp) _)
theorem may_any (p : Option Addr) (c : Nat) (l : List Int) (s : ByteArray) (w : World) (hs : s.size ≤ maxLen) (hl : l.length ≤ 140737488351232) (hc : RI w .u8 p l) :
    Calls Try.prog 8 #[.slice p l.length c, .string s] w fun e w' => e = .returned (.bool (mayV l s)) ∧ Below w.heap.size w w' := by
  by_cases h : isB l = true ∧ l.length ≤ 16777216
  · have g1 : 8 < l.length := by have := h.1; simp [isB] at this; omega
    obtain ⟨b, o, rfl, -⟩ := hc 0 (by omega)
    exact may_yes b o c l s w hs hl hc h.1 h.2
  · exact may_no p c l s w hl hc h
end Go.Proofs.Ytakgmkgipjfolaa
