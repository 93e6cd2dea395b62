/- A step on the way to the laws of layer 6 (bloom): contracts of Go functions over the translation; no condition but those that each theorem names. -/
import Derived.Test.YtakgmkgipjfolaaProg
import Derived.RangeFuncNested
import Derived.RangeFuncBound
import Derived.RangeFuncCalls
import Derived.RangeFuncLeaves
import Derived.Shelf.Abstract
import Derived.Shelf.RegionOpen
import Derived.WalkKit
import Derived.OwnWalkIn
import Derived.TacticsInMore
import Derived.LoopNIn
import Derived.LoopIn
import Derived.Lib.Hide
import Derived.Outline
import Derived.Test.YtakgmkgipjfolaaSed
import Derived.Test.YtakgmkgipjfolaaC
namespace Go.Proofs.Ytakgmkgipjfolaa
open Go.RowKit Go.Sed
set_option maxHeartbeats 1000000
attribute [local go_sem] Oper.semAt_some
/-- strings that a slice's place holds. -/
def RS (w : World) (p : Option Addr) (l : List ByteArray) : Prop :=
  ∀ i, i < l.length → ∃ b o, p = some ⟨b, o, none⟩ ∧ w.cell? ⟨b, o + i, none⟩ = some (.string (l.getD i ByteArray.empty))
def markOf (r : Nat) : Deferred := { target := .collected r, args := #[] }
/-- what the loop over the keys keeps. -/
def GK (w : World) (sz : Nat) (F : List Int) (rs : List Nat) (W : World) : Prop :=
  Below w.heap.size w W ∧ F.length = sz + 1 ∧ Bl W w.heap.size (.cells (ci .u8 F) 5 (0, 0)) ∧ one W (w.heap.size + 1) (.slice (some ⟨w.heap.size, 0, none⟩) (sz + 1) (sz + 1)) 25 ∧
  rs.Nodup ∧ ∀ r, r ∈ rs → w.heap.size + 1 < r ∧ Bl W r (.deferred (some []))
def setB (F : List Int) (q : Nat) : List Int := F.set (q / 8) (Go.bits .or .u8 (F[q / 8]?.getD 0) (2 ^ (q % 8) % 256))
def setN (F : List Int) (h m : Int) : Nat → List Int
  | 0 => F
  | i + 1 => setB (setN F h m i) (posN h m i)
def setK (m : Int) (n : Nat) (F : List Int) (s : ByteArray) : List Int := setN F (hashI s) m n
/-- the marks of loops over functions, all of them without calls. -/
theorem leaves_marks {n : Nat} {fn : Func} {tmps : Array Value} {R : Ending → World → Prop} {u : FrameMode} {B : Nat} (hu : u ≠ .run) :
    ∀ (rs : List Nat) (W : World), rs.Nodup → (∀ r, r ∈ rs → B ≤ r ∧ Bl W r (.deferred (some []))) →
    (∀ W', Below B W W' → LeavesInM Fence.wide n Try.prog fn tmps R [] u W') → LeavesInM Fence.wide n Try.prog fn tmps R (rs.map markOf) u W
  | [], W, _, _, h => h W (Below.refl _ _)
  | r :: rs, W, hn, hr, h => by
    have hr0 := hr r (by simp)
    refine ⟨hu, .inl ⟨r, _, rfl, run_takeDeferred hr0.2, ?_⟩⟩
    refine leaves_marks hu rs _ (List.nodup_cons.1 hn).2 (fun r' h' => ⟨(hr r' (by simp [h'])).1, ((hr r' (by simp [h'])).2).put _ (fun e => (List.nodup_cons.1 hn).1 (e ▸ h'))⟩) ?_
    exact fun W' hb => h W' ((below_put (Below.refl B W) hr0.1 _).trans hb)
/-- what the loop over one key's places keeps; H: the heap's size where it begins. -/
def GB (w : World) (sz : Nat) (rs : List Nat) (H n : Nat) (h : Int) (r : Loop) (i : Nat) (F : List Int) (W : World) : Prop :=
  GK w sz F rs W ∧ PC H (H + 1 + 1) (H + 1) (H + 1 + 1 + 1) n (8 * sz) h i W ∧ Bl W (H + 1 + 1 + 1 + 1) (.deferred (some [])) ∧ Bl W (H + 1 + 1 + 1 + 1 + 1) (.loop r)
theorem GK.put {w : World} {sz : Nat} {F : List Int} {rs : List Nat} {W : World} (g : GK w sz F rs W) {k : Nat} (o : Obj) (h1 : w.heap.size + 1 < k) (h2 : k ∉ rs) : GK w sz F rs (W.putObj k o) :=
  ⟨below_put g.1 (by omega) _, g.2.1, g.2.2.1.put _ (by omega), g.2.2.2.1.put _ (by omega), g.2.2.2.2.1, fun r hr => ⟨(g.2.2.2.2.2 r hr).1, (g.2.2.2.2.2 r hr).2.put _ (fun e => h2 (e ▸ hr))⟩⟩
theorem GK.set {w : World} {sz : Nat} {F : List Int} {rs : List Nat} {W : World} (g : GK w sz F rs W) {k i : Nat} (v : Value) (h1 : w.heap.size + 1 < k) (h2 : k ∉ rs) : GK w sz F rs (W.setCell ⟨k, i, none⟩ v) :=
  ⟨g.1.setCell (by simp; omega) _, g.2.1, g.2.2.1.set _ (by omega), g.2.2.2.1.set _ (by omega), g.2.2.2.2.1, fun r hr => ⟨(g.2.2.2.2.2 r hr).1, (g.2.2.2.2.2 r hr).2.set _ (fun e => h2 (e ▸ hr))⟩⟩
theorem GK.alloc {w : World} {sz : Nat} {F : List Int} {rs : List Nat} {W : World} (g : GK w sz F rs W) (o : Obj) : GK w sz F rs (W.alloc o) :=
  ⟨g.1.alloc g.1.size _, g.2.1, g.2.2.1.alloc _, Bl.alloc g.2.2.2.1 _, g.2.2.2.2.1, fun r hr => ⟨(g.2.2.2.2.2 r hr).1, (g.2.2.2.2.2 r hr).2.alloc _⟩⟩
theorem GK.notin {w : World} {sz : Nat} {F : List Int} {rs : List Nat} {W : World} (g : GK w sz F rs W) {k : Nat} (h : W.heap.size ≤ k) : k ∉ rs :=
  fun hk => by have := (g.2.2.2.2.2 k hk).2.lt; omega
theorem GK.wr {w : World} {sz : Nat} {F : List Int} {rs : List Nat} {W : World} (g : GK w sz F rs W) (j : Nat) (v : Int) : GK w sz (F.set j v) rs (W.setCell ⟨w.heap.size, j, none⟩ (.int .u8 v)) :=
  ⟨g.1.setCell (Nat.le_refl _) _, by simp [g.2.1], g.2.2.1.setInt j v, g.2.2.2.1.set _ (by omega), g.2.2.2.2.1, fun r hr => ⟨(g.2.2.2.2.2 r hr).1, (g.2.2.2.2.2 r hr).2.set _ (by have := (g.2.2.2.2.2 r hr).1; omega)⟩⟩
def szOf (bits : Int) (len : Nat) : Nat := (if (bits * (len : Int) + 7) / 8 < 8 then 8 else (bits * (len : Int) + 7) / 8).toNat
/-- the filter's bytes. -/
def buildF (keys : List ByteArray) (bits : Int) : List Int :=
  (keys.foldl (setK (8 * (szOf bits keys.length : Int)) (cnt bits).toNat) (List.replicate (szOf bits keys.length + 1) 0)).set (szOf bits keys.length) (cnt bits)
theorem build_any (p : Option Addr) (c : Nat) (keys : List ByteArray) (bits : Int) (w : World) (hb1 : 1 ≤ bits) (hb2 : bits ≤ 64) (hl : keys.length ≤ 1048576) (hk : RS w p keys) (hks : ∀ k ∈ keys, k.size ≤ maxLen) :
    Calls Try.prog 6 #[.slice p keys.length c, .int .i64 bits] w fun e w' => e = .returned (.tuple #[.slice (some ⟨w.heap.size, 0, none⟩) (szOf bits keys.length + 1) (szOf bits keys.length + 1), .int .i64 0]) ∧ Bl w' w.heap.size (.cells (ci .u8 (buildF keys bits)) 5 (0, 0)) ∧ Below w.heap.size w w' := by
  have hc1 : 1 ≤ cnt bits ∧ cnt bits ≤ 30 := by unfold cnt; rw [if_neg (by omega), if_neg (by omega)]; (repeat' split) <;> omega
  have hcm : ((cnt bits : Int) == 0) = false := by rw [beq_eq_false_iff_ne]; omega
  obtain ⟨n, hcn⟩ : ∃ n : Nat, cnt bits = n := ⟨(cnt bits).toNat, by omega⟩
  rw [hcn] at hc1 hcm
  replace hcn := Lib.hid hcn
  have h8 : 0 ≤ bits * (keys.length : Int) := Int.mul_nonneg (by omega) (by omega)
  have h9 : bits * (keys.length : Int) ≤ 64 * 1048576 := Int.mul_le_mul hb2 (by omega) (by omega) (by omega)
  obtain ⟨sz, hsz, hsz2⟩ : ∃ sz : Nat, (if (bits * (keys.length : Int) + 7) / 8 < 8 then 8 else (bits * (keys.length : Int) + 7) / 8) = sz ∧ szOf bits keys.length = sz := by
    refine ⟨_, ?_, rfl⟩
    unfold szOf; split <;> omega
  have hszb : 8 ≤ sz ∧ sz ≤ 9000000 := by omega
  have hbF : buildF keys bits = (keys.foldl (setK (8 * (sz : Int)) n) (List.replicate (sz + 1) 0)).set sz n := by unfold buildF; rw [hsz2, hcn.out]; simp
  rw [hbF, hsz2]
  clear hbF hsz2
  have hinfo : (Try.prog.info? 5).map (fun i => (i.zero, i.size, i.bytes)) = some (some (.int .u8 0), 1, 1) := by kernel_rfl
  have hmk := run_make_ints (t := 25) Try.underlying25 hinfo ((sz : Int) + 1) (sz + 1) (by omega) (by omega) (by omega)
  clear hinfo
  refine (callsIn_wide (n := 3)).1 ?_
  refine callsIn_of_wp_marks Try.func6 rfl trivial ?_ rfl
  simp only [Try.ntmps6, List.size_toArray, List.length_cons, List.length_nil, Nat.reduceAdd, Nat.reduceSub, Array.replicate_succ, Array.replicate_zero, List.push_toArray, List.append_toArray, List.nil_append, List.cons_append]
  gi_wp2_with (refine ⟨trivial, ?_⟩; gi_at_call 9; refine (callsIn_wide.2 (count_any _ _)).mono ?_; rintro e w' ⟨rfl, rfl⟩; rw [hcn.out])
  obtain ⟨W0, hW0⟩ : ∃ W0, W0 = ((w.alloc (Obj.cells (ci IntKind.u8 (List.replicate (sz + 1) 0)) 5)).alloc
    (Obj.cells #[Value.slice (some { block := w.heap.size, off := 0 }) (sz + 1) (sz + 1)] 25)) := ⟨_, rfl⟩
  rw [← hW0]
  refine wpIn_loop (fun a W => ∃ (k : Nat) (rs : List Nat) (u9 u10 u11 u32 u33 u34 u35 u36 u37 u38 u39 u40 u41 u42 u43 u44 u45 u46 u47 u48 u49 u50 u51 u52 : Value), k ≤ keys.length ∧
    GK w sz ((keys.take k).foldl (setK (8 * sz) n) (List.replicate (sz + 1) 0)) rs W ∧
    a = { tmps := #[Value.slice p keys.length c, Value.int IntKind.i64 bits, undef, undef, Value.slice none 0 0,
        Value.int IntKind.i64 0, Value.int IntKind.i64 n, Value.int IntKind.i64 sz,
        Value.pointer (some { block := w.heap.size + 1, off := 0 }), u9, u10, u11, Value.int IntKind.i64 bits,
        Value.int IntKind.i64 n, Value.int IntKind.i64 n, Value.bool false,
        Value.slice p keys.length c, Value.int IntKind.i64 keys.length, Value.bool (decide (1048576 < (keys.length : Int))),
        Value.int IntKind.i64 bits, Value.slice p keys.length c, Value.int IntKind.i64 keys.length,
        Value.int IntKind.i64 (bits * keys.length), Value.int IntKind.i64 (bits * keys.length + 7),
        Value.int IntKind.i64 ((bits * keys.length + 7) / 8), Value.int IntKind.i64 sz, Value.int IntKind.i64 sz,
        Value.int IntKind.i64 (sz + 1), Value.slice (some { block := w.heap.size, off := 0 }) (sz + 1) (sz + 1),
        Value.slice p keys.length c, Value.int IntKind.i64 keys.length, Value.int IntKind.i64 k, u32, u33, u34, u35, u36, u37, u38, u39, u40, u41, u42, u43, u44, u45, u46, u47, u48, u49, u50, u51, u52, undef, undef, undef, undef, undef, undef], defers := rs.map markOf }) (fun a _ => keys.length - (intOf (a.tmps.getD 31 undef)).toNat) ?h0 ?round
  case h0 =>
    refine ⟨0, [], undef, undef, undef, undef, undef, undef, undef, undef, undef, undef, undef, undef, undef, undef, undef, undef, undef, undef, undef, undef, undef, undef, undef, undef, Nat.zero_le _, ?_, rfl⟩
    refine ⟨?_, by simp, ?_, ?_, by simp, by simp⟩
    · rw [hW0]; exact (((Below.refl _ _).alloc (Nat.le_refl _) _).alloc (by simp) _)
    · rw [hW0]; exact (Bl.new' (by simp)).alloc _
    · rw [hW0]; exact Bl.new' (by simp)
  case round =>
    clear hW0
    rintro _ W ⟨k, rs, u9, u10, u11, u32, u33, u34, u35, u36, u37, u38, u39, u40, u41, u42, u43, u44, u45, u46, u47, u48, u49, u50, u51, u52, hk1, hG, rfl⟩
    by_cases hlt : k < keys.length
    · obtain ⟨b, o, rfl, hcell⟩ := hk k hlt
      have hkm := hks keys[k] (List.getElem_mem hlt)
      replace hcell := cell_keep hG.1 hcell
      rw [show keys.getD k ByteArray.empty = keys[k] by simp [hlt]] at hcell
      have hH : w.heap.size + 2 ≤ W.heap.size := by have := hG.2.2.2.1.lt; omega
      gi_wp2_with (refine ⟨trivial, ?_⟩; gi_at_call 10; refine (callsIn_wide.2 (probes_any keys[k] _ _ _ hkm)).mono ?_; rintro e w' ⟨rfl, rfl⟩)
      refine rf_law rfl (enters_of Try.func13 (by kernel_rfl) rfl) ?_
      intro fn r hr
      simp only [World.size_alloc] at hr ⊢
      obtain ⟨F, hF⟩ : ∃ F, F = (keys.take k).foldl (setK (8 * sz) n) (List.replicate (sz + 1) 0) := ⟨_, rfl⟩
      rw [← hF] at hG
      refine (probes1_in (W.heap.size + 1 + 1 + 1 + 1 + 1) (3 - 1) W.heap.size (W.heap.size + 1 + 1) (W.heap.size + 1) (W.heap.size + 1 + 1 + 1) n (8 * sz) (hashI keys[k]) (by omega) (by omega) (by omega)
        (fun i => GB w sz rs W.heap.size n (hashI keys[k]) r i (setN F (hashI keys[k]) (8 * sz) i)) (fun i => GB w sz rs W.heap.size n (hashI keys[k]) r i (setN F (hashI keys[k]) (8 * sz) (i + 1))) (fun _ => False) ?hJ ?hR ?hS _ ?h0).mono ?_
      case hJ => exact fun i W h => h.2.1
      case hS =>
        rintro i W3 ⟨g, ⟨p1, p2, p3, p4⟩, h5, h6⟩
        exact ⟨⟨p1, p2, p3, p4⟩, g.set _ (by omega) (hG.notin (by omega)), ⟨p1.set _ (by omega), p2.setSame _, p3.set _ (by omega), p4.set _ (by omega)⟩, h5.set _ (by omega), h6.set _ (by omega)⟩
      case h0 =>
        refine ⟨(((((hG.alloc _).alloc _).alloc _).alloc _).alloc _).alloc _, ⟨?_, ?_, ?_, ?_⟩, ?_, ?_⟩
        all_goals (try unfold one)
        all_goals repeat (first | exact Bl.new' (by simp only [World.size_alloc]) | exact Bl.new' rfl | refine Bl.alloc ?_ _)
      case hR =>
        rintro i W3 hi ⟨g, pc, h5, h6⟩
        have hbits := pA_bd (hashI keys[k]) i
        obtain ⟨q, hq⟩ : ∃ q : Nat, pA (hashI keys[k]) i % (8 * (sz : Int)) = q := ⟨(pA (hashI keys[k]) i % (8 * (sz : Int))).toNat, by rw [Int.toNat_of_nonneg]; exact Int.emod_nonneg _ (by omega)⟩
        have hq1 : q < 8 * sz := by
          have := Int.emod_lt_of_pos (pA (hashI keys[k]) i) (b := 8 * (sz : Int)) (by omega)
          omega
        refine yield_law1 h6 (by rw [hr.out]) (by rw [hr.out]) (by rw [hr.out]) (by rw [hr.out]) ?_
        rw [hq]
        gi_wp2
        refine ⟨r, h6, by rw [hr.out], ?_⟩
        have g' := g.put (k := W.heap.size + 1 + 1 + 1 + 1 + 1) (.loop { r with state := .busy }) (by omega) (hG.notin (by omega))
        have pc' := pc.put (r := W.heap.size + 1 + 1 + 1 + 1 + 1) (.loop { r with state := .busy }) (by omega) (by omega) (by omega) (by omega)
        have h5' := h5.put (r := W.heap.size + 1 + 1 + 1 + 1 + 1) (.loop { r with state := .busy }) (by omega)
        have h6' := h6.putSame (.loop { r with state := .busy })
        obtain ⟨W2, hW2⟩ : ∃ W2, W3.putObj (W.heap.size + 1 + 1 + 1 + 1 + 1) (.loop { r with state := .busy }) = W2 := ⟨_, rfl⟩
        rw [hW2] at g' pc' h5' h6' ⊢
        clear g pc h5 h6 hW2
        have hqp : posN (hashI keys[k]) (8 * (sz : Int)) i = q := by unfold posN; rw [hq]; rfl
        clear hq
        obtain ⟨F2, hF2⟩ : ∃ F2, setN F (hashI keys[k]) (8 * (sz : Int)) i = F2 := ⟨_, rfl⟩
        have hgoal : setN F (hashI keys[k]) (8 * (sz : Int)) (i + 1) = setB F2 q := by rw [← hF2, ← hqp]; rfl
        rw [hF2] at g'
        rw [hgoal]
        clear hgoal hF2 hqp
        have hFl := g'.2.1
        have cF := g'.2.2.1.int (q / 8) (by omega)
        have fF := g'.2.2.1.frozen (q / 8)
        have cb := g'.2.2.2.1.cell
        replace hFl := Lib.hid hFl
        clear hF
        gi_wp2
        refine round_normal (h6'.set _ (by omega)) (.inl ⟨rfl, ?_⟩)
        rw [show ({ ({ r with state := .busy } : Loop) with state := .ready, pending := none } : Loop) = r from by rw [hr.out]]
        exact ⟨(g'.wr (q / 8) _).put _ (by omega) (hG.notin (by omega)), (pc'.set _ (by omega) (by omega) (by omega) (by omega)).put _ (by omega) (by omega) (by omega) (by omega), (h5'.set _ (by omega)).put _ (by omega), (h6'.set _ (by omega)).putSame _⟩
      rintro e W3 ⟨⟨v, rfl⟩, (⟨g, pc, h5, h6⟩ | hx)⟩
      · refine ⟨_, rfl, r, h6, by rw [hr.out]; simp, ?_⟩
        rw [show r.pending = none from by rw [hr.out]]
        dsimp only
        have g' := g.put (k := W.heap.size + 1 + 1 + 1 + 1 + 1) (.loop { r with state := .exhausted }) (by omega) (hG.notin (by omega))
        have h5' := h5.put (r := W.heap.size + 1 + 1 + 1 + 1 + 1) (.loop { r with state := .exhausted }) (by omega)
        have hpn : r.pending = none := by rw [hr.out]
        rw [hpn] at g' h5'
        obtain ⟨W2, hW2⟩ : ∃ W2, W3.putObj (W.heap.size + 1 + 1 + 1 + 1 + 1) (.loop { r with state := .exhausted, pending := none }) = W2 := ⟨_, rfl⟩
        rw [hW2] at g' h5' ⊢
        clear g pc h5 h6 hW2 hpn
        gi_wp2
        refine ⟨⟨k + 1, (W.heap.size + 1 + 1 + 1 + 1) :: rs, _, _, _, _, _, _, _, _, _, _, _, _, _, _, _, _, _, _, _, _, _, _, _, _, by omega, ?_, rfl⟩, ?_⟩
        · have he : (keys.take (k + 1)).foldl (setK (8 * (sz : Int)) n) (List.replicate (sz + 1) 0) = setN F (hashI keys[k]) (8 * (sz : Int)) n := by
            rw [List.take_succ_eq_append_getElem hlt, List.foldl_append, ← hF]; rfl
          rw [he]
          obtain ⟨g1, g2, g3, g4, g5, g6⟩ := g'
          refine ⟨g1, g2, g3, g4, List.nodup_cons.2 ⟨hG.notin (by omega), g5⟩, fun r hr => ?_⟩
          rcases List.mem_cons.1 hr with rfl | hr
          · exact ⟨by omega, h5'⟩
          · exact g6 r hr
        · simp [intOf]; omega
      · exact hx.elim
    · obtain rfl : k = keys.length := by omega
      rw [List.take_length] at hG
      obtain ⟨F, hF⟩ : ∃ F, F = keys.foldl (setK (8 * sz) n) (List.replicate (sz + 1) 0) := ⟨_, rfl⟩
      rw [← hF] at hG
      have hFl := hG.2.1
      have fF := hG.2.2.1.frozen sz
      have cF := hG.2.2.1.int sz (by omega)
      have cb := hG.2.2.2.1.cell
      replace hFl := Lib.hid hFl
      replace hF := Lib.hid hF
      gi_wp2
      have hG' := hG.wr sz ((n : Int))
      refine leaves_marks (B := w.heap.size + 1) (by simp) rs _ hG'.2.2.2.2.1 (fun r hr => ⟨by have := (hG'.2.2.2.2.2 r hr).1; omega, (hG'.2.2.2.2.2 r hr).2⟩) ?_
      intro W' hb
      refine ⟨_, results_tmp2 rfl _ _ _, rfl, ?_, hG'.1.trans (hb.mono (by omega))⟩
      rw [← hF.out]
      exact hG'.2.2.1.below hb (by omega)
theorem build_long (p : Option Addr) (c : Nat) (m : Nat) (bits : Int) (w : World) (hb1 : 1 ≤ bits) (hb2 : bits ≤ 64) (hl : 1048576 < m) (hl2 : m ≤ 140737488351232) :
    Calls Try.prog 6 #[.slice p m c, .int .i64 bits] w fun e w' => e = .returned (.tuple #[.slice none 0 0, .int .i64 2]) ∧ w = w' := by
  have hc1 : 1 ≤ cnt bits ∧ cnt bits ≤ 30 := by unfold cnt; rw [if_neg (by omega), if_neg (by omega)]; (repeat' split) <;> omega
  have hcm : ((cnt bits : Int) == 0) = false := by rw [beq_eq_false_iff_ne]; omega
  refine (callsIn_wide (n := 3)).1 ?_
  refine callsIn_of_wp_marks Try.func6 rfl trivial ?_ rfl
  simp only [Try.ntmps6, List.size_toArray, List.length_cons, List.length_nil, Nat.reduceAdd, Nat.reduceSub, Array.replicate_succ, Array.replicate_zero, List.push_toArray, List.append_toArray, List.nil_append, List.cons_append]
  gi_wp2_with (refine ⟨trivial, ?_⟩; gi_at_call 9; refine (callsIn_wide.2 (count_any _ _)).mono ?_; rintro e w' ⟨rfl, rfl⟩)
  exact ⟨_, results_tmp2 rfl _ _ _, rfl, rfl⟩
end Go.Proofs.Ytakgmkgipjfolaa
