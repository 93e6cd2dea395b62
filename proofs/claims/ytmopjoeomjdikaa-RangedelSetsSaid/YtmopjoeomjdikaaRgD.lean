/- Tombstones cut into fragments. Conditions: what each theorem names. -/
import Derived.RangeFuncNested
import Derived.RangeFuncBound
import Derived.RangeFuncCalls
import Derived.RangeFuncLeaves
import Derived.Shelf.Abstract
import Derived.Shelf.RegionOpen
import Derived.WalkKit
import Derived.OwnWalkIn
import Derived.TacticsInMore
import Derived.LoopNIn
import Derived.LoopIn
import Derived.Lib.Hide
import Derived.Outline
import Derived.RegionTactic
import Derived.BigRegion
import Derived.WalkLawsBesides
import Derived.WalkSpells
import Derived.Deep.QuietTactic
import Derived.BigQuiet
import Derived.Deep.RegionHeld3
import Derived.Deep.DeepCutAuto
import Derived.Deep.CutBlock
import Derived.StillTailTactics
import Derived.WalkSmall
import Derived.Test.YtmopjoeomjdikaaRgC
namespace Go.Proofs.Ytmopjoeomjdikaa
open Go.RowKit Go.Sed Go.Sort
set_option maxHeartbeats 2000000
set_option maxRecDepth 100000
def fcs (p : Fg × Value) : List Value := [.string p.1.b, .string p.1.e, p.2]
theorem fcs_len (p : Fg × Value) : (fcs p).length = 3 := rfl
/-- fragments in memory, of the call's own. -/
def FL (w : World) (base : Nat) (v : Value) (F : List Fg) : Prop :=
  ∃ G : List (Fg × Value), G.map (·.1) = F ∧ OW w base 3 v F.length (G.flatMap fcs) ∧ ∀ p ∈ G, OW w base 1 p.2 p.1.q.length (u64C p.1.q) ∧ ∀ k, p.2.ownBlock = some k → v.ownBlock ≠ some k
theorem compact_len {α : Type} [Inhabited α] [DecidableEq α] (l : List α) : (Lib.compact l).length ≤ l.length := by
  unfold Lib.compact Lib.compactUpTo
  rw [List.length_map]
  refine Nat.le_trans (List.length_filter_le _ _) ?_
  rw [List.length_range]; exact Nat.le_refl _
theorem FL.keep {w w' : World} {base : Nat} {v : Value} {F : List Fg} (h : FL w base v F) (hB : RowKit.Below w.heap.size w w') : FL w' base v F := by
  obtain ⟨G, h1, h2, h3⟩ := h
  exact ⟨G, h1, h2.keep hB, fun p hp => ⟨(h3 p hp).1.keep hB, (h3 p hp).2⟩⟩
theorem FL.more {w : World} {base base' : Nat} {v : Value} {F : List Fg} (h : FL w base v F) (hb : base' ≤ base) : FL w base' v F := by
  obtain ⟨G, h1, h2, h3⟩ := h
  exact ⟨G, h1, h2.more hb, fun p hp => ⟨(h3 p hp).1.more hb, (h3 p hp).2⟩⟩
theorem frag1_len (how : Int) (L : List Tb) (a b : ByteArray) : (frag1 how L a b).length ≤ 1 := by unfold frag1; split <;> simp
theorem fragsN_len (how : Int) (L : List Tb) (C : List ByteArray) : ∀ n : Nat, (fragsN how L C n).length ≤ n
  | 0 => by simp [fragsN]
  | n + 1 => by
    have h := fragsN_len how L C n
    unfold fragsN at *
    rw [List.range_succ, List.flatMap_append, List.length_append]
    have := frag1_len how L (C.getD n .empty) (C.getD (n + 1) .empty)
    simp only [List.flatMap_cons, List.flatMap_nil, List.append_nil]
    omega
theorem FL.nil (w : World) (base : Nat) : FL w base (.slice none 0 0) [] := ⟨[], rfl, OW.nil _ _ _, fun p hp => by cases hp⟩
theorem FL.push {w w' : World} {B z : Nat} {v v' u : Value} {f : Fg} {F : List Fg} {G : List (Fg × Value)} (h1 : G.map (·.1) = F) (h2 : OW w B 3 v F.length (G.flatMap fcs)) (h3 : ∀ p ∈ G, OW w B 1 p.2 p.1.q.length (u64C p.1.q) ∧ ∀ k, p.2.ownBlock = some k → v.ownBlock ≠ some k)
    (hu : OW w B 1 u f.q.length (u64C f.q)) (hub : ∀ k, u.ownBlock = some k → v.ownBlock ≠ some k) (ho : OW w' B 3 v' (F.length + 1) (G.flatMap fcs ++ fcs (f, u))) (hf : Fr (fun q => v.ownBlock = some q) w w') (hz : w.heap.size ≤ z) (hv : v'.ownBlock = v.ownBlock ∨ v'.ownBlock = some z) : FL w' B v' (F ++ [f]) := by
  have hn : ∀ x : Value, ∀ n xs, OW w B 1 x n xs → (∀ k, x.ownBlock = some k → v.ownBlock ≠ some k) → OW w' B 1 x n xs ∧ ∀ k, x.ownBlock = some k → v'.ownBlock ≠ some k := by
    intro x n xs hx ha
    refine ⟨hx.fr hf (fun k hk hk2 => ha k hk hk2), fun k hk hk2 => ?_⟩
    rcases hv with e | e
    · exact ha k hk (e ▸ hk2)
    · rw [e] at hk2
      injection hk2 with hk2
      have := (hx.lt k hk).2
      omega
  refine ⟨G ++ [(f, u)], by rw [List.map_append, h1]; rfl, ?_, fun p hp => ?_⟩
  · rw [List.flatMap_append, List.length_append]
    simpa using ho
  · rcases List.mem_append.1 hp with hp | hp
    · exact hn _ _ _ (h3 p hp).1 (h3 p hp).2
    · rw [List.mem_singleton] at hp
      subst hp
      exact hn _ _ _ hu hub
theorem liveT_snoc (how : Int) (l : List Tb) (k : Nat) (t : Tb) (ht : l[k]? = some t) : liveT how (l.take (k + 1)) = liveT how (l.take k) ++ (if cmpH how t.b t.e < 0 then [t] else []) := by
  unfold liveT
  rw [List.take_add_one, ht, List.filter_append]
  by_cases h : cmpH how t.b t.e < 0 <;> simp [h]
def selT (how : Int) (L : List Tb) (a b : ByteArray) (m : Nat) : List Int := ((L.take m).filter (covT how a b)).map Tb.s
theorem selT_snoc (how : Int) (L : List Tb) (a b : ByteArray) (m : Nat) (t : Tb) (ht : L[m]? = some t) : selT how L a b (m + 1) = selT how L a b m ++ (if covT how a b t = true then [t.s] else []) := by
  unfold selT
  rw [List.take_add_one, ht, List.filter_append, List.map_append]
  by_cases h : covT how a b t = true <;> simp [h]
theorem selT_len (how : Int) (L : List Tb) (a b : ByteArray) (m : Nat) : (selT how L a b m).length ≤ L.length := by
  unfold selT
  rw [List.length_map]
  refine Nat.le_trans (List.length_filter_le _ _) ?_
  rw [List.length_take]; omega
theorem selT_all (how : Int) (L : List Tb) (a b : ByteArray) (m : Nat) (hm : L.length ≤ m) : Lib.compact (sortI (selT how L a b m)) = seqsT how L a b := by
  unfold selT seqsT
  rw [List.take_of_length_le hm]
theorem liveT_len (how : Int) (l : List Tb) : (liveT how l).length ≤ l.length := List.length_filter_le _ _
theorem endsT_len (l : List Tb) : (endsT l).length = l.length * 2 := by unfold endsT; exact flat_len _ 2 (fun _ => rfl) l
theorem split_no (how : Int) (l : List Tb) (A : Option Addr) (c : Nat) (w : World) (hr : Rd w 3 A l.length (l.flatMap tc)) (hs : ∀ t ∈ l, t.b.size ≤ maxLen ∧ t.e.size ≤ maxLen) (hl : l.length ≤ maxLen) (hc : (chkT how l == 0) = false) :
    Calls Try.prog 7 #[.int .i64 how, .slice A l.length c] w fun e w' => e = .returned (.tuple #[.slice none 0 0, .int .i64 (chkT how l)]) ∧ Below w.heap.size w w' := by
  obtain ⟨w1, hw1⟩ : ∃ w1, w.alloc (.cells #[.int .i64 how] 3) = w1 := ⟨_, rfl⟩
  have hB : Below w.heap.size w w1 := by rw [← hw1]; exact (Below.refl _ _).alloc (Nat.le_refl _) _
  have b0 : Bl w1 w.heap.size (.cells #[.int .i64 how] 3 (0, 0)) := by rw [← hw1]; exact Bl.new' rfl
  have c0 : w1.cell? ⟨w.heap.size, 0, none⟩ = some (.int .i64 how) := b0.cell 0
  have hck := check_any how l A c w1 (hr.keep hB) hs hl
  obtain ⟨n, hn⟩ : ∃ n, l.length = n := ⟨_, rfl⟩
  obtain ⟨e, he⟩ : ∃ e, chkT how l = e := ⟨_, rfl⟩
  rw [hn] at hck ⊢
  rw [he] at hck hc ⊢
  have hz : w1.heap.size = w.heap.size + 1 := by rw [← hw1]; simp
  replace hw1 := Lib.hid hw1
  have hne : (e != 0) = true := by simp [bne, hc]
  clear hr hs hl b0 he hn
  go_enter Try.func7, Try.ntmps7
  go_wp2_with (go_at_call 30; rw [hw1.out]; refine hck.mono ?_; rintro e2 w2 ⟨rfl, hB2⟩; replace hB2 := Lib.hid hB2)
  go_ret2
  exact ⟨rfl, hB.trans (hB2.out.mono (by omega))⟩
theorem split_yes (how : Int) (l : List Tb) (A : Option Addr) (c : Nat) (w : World) (hr : Rd w 3 A l.length (l.flatMap tc)) (hs : ∀ t ∈ l, t.b.size ≤ maxLen ∧ t.e.size ≤ maxLen) (hc : chkT how l = 0) (hl : l.length ≤ 1024) :
    Calls Try.prog 7 #[.int .i64 how, .slice A l.length c] w fun e w' => ∃ v, e = .returned (.tuple #[v, .int .i64 0]) ∧ FL w' w.heap.size v (splitT how l) ∧ Below w.heap.size w w' := by
  obtain ⟨w1, hw1⟩ : ∃ w1, w.alloc (.cells #[.int .i64 how] 3) = w1 := ⟨_, rfl⟩
  have hB : Below w.heap.size w w1 := by rw [← hw1]; exact (Below.refl _ _).alloc (Nat.le_refl _) _
  have b0 : Bl w1 w.heap.size (.cells #[.int .i64 how] 3 (0, 0)) := by rw [← hw1]; exact Bl.new' rfl
  have c0 : w1.cell? ⟨w.heap.size, 0, none⟩ = some (.int .i64 how) := b0.cell 0
  have hck := check_any how l A c w1 (hr.keep hB) hs (by unfold maxLen; omega)
  obtain ⟨n, hn⟩ : ∃ n, l.length = n := ⟨_, rfl⟩
  rw [hn] at hck ⊢
  rw [hc] at hck
  have hz : w1.heap.size = w.heap.size + 1 := by rw [← hw1]; simp
  replace hw1 := Lib.hid hw1
  have hmf : ∀ (fn : Fn) (first cap : Array Value) (w : World), (Instr.makeFunc fn first cap).run Try.prog w = .ok (.func fn first cap) w := fun _ _ _ _ => rfl
  obtain ⟨hb, hhb⟩ : ∃ hb, w.heap.size = hb := ⟨_, rfl⟩
  clear hs hc
  replace hB := Lib.hid hB
  replace hr := Lib.hid hr
  replace hhb := Lib.hid hhb
  go_enter Try.func7, Try.ntmps7
  go_wp2_with (go_at_call 30; rw [hw1.out]; refine hck.mono ?_; rintro e2 w2 ⟨rfl, hB2⟩; have d0 := cell_keep hB2 c0; replace hB2 := Lib.hid hB2)
  obtain ⟨B, hBe⟩ : ∃ B, w2.heap.size = B := ⟨_, rfl⟩
  have hB2w : RowKit.Below w.heap.size w w2 := hB.out.trans (hB2.out.mono (by omega))
  have hBz : w.heap.size < B := by have := hB2.out.size; omega
  have hord := Lib.hid (fun x y W (hW : RowKit.Below w2.heap.size w2 W) => order_any how x y w.heap.size W (cell_keep hW d0))
  replace hBe := Lib.hid hBe
  replace hB2w := Lib.hid hB2w
  go_loopw [8, 9, 26] (fun v8 v9 i wr => ∃ k : Nat, k ≤ n ∧ i = .int .i64 k ∧ OW wr B 1 v8 ((liveT how (l.take k)).length * 2) (stC (endsT (liveT how (l.take k)))) ∧ OW wr B 3 v9 (liveT how (l.take k)).length ((liveT how (l.take k)).flatMap tc) ∧ (∀ q, v8.ownBlock = some q → v9.ownBlock ≠ some q) ∧ RowKit.Below w2.heap.size w2 wr) (fun _ _ i _ => n - (intOf i).toNat)
  case atStart => exact ⟨0, Nat.zero_le _, rfl, OW.nil _ _ _, OW.nil _ _ _, by simp [Value.ownBlock], RowKit.Below.refl _ _⟩
  case round =>
    obtain ⟨k, hk, rfl, ho8, ho9, hap, hBr⟩ := hrel
    have hBr := Lib.hid hBr
    by_cases hlt : k < n
    · obtain ⟨t, ht⟩ : ∃ t, l[k]? = some t := ⟨_, List.getElem?_eq_getElem (by omega)⟩
      have hsn := liveT_snoc how l k t ht
      obtain ⟨L, hL⟩ : ∃ L, liveT how (l.take k) = L := ⟨_, rfl⟩
      have hLn : L.length ≤ 1024 := by
        rw [← hL]
        refine Nat.le_trans (liveT_len _ _) ?_
        rw [List.length_take]; omega
      rw [hL] at ho8 ho9 hsn
      have hrw := hr.out.keep (hB2w.out.trans (hBr.out.mono (by have := hBe.out; omega)))
      obtain ⟨g, o, rfl, -⟩ := hr.out.2 (by omega)
      obtain ⟨e0, e1, e2⟩ := Rd.tb hrw ht
      clear hrw
      obtain ⟨q, hq⟩ : ∃ q, cmpH how t.b t.e = q := ⟨_, rfl⟩
      have hcl := Lib.hid (fun W (hW : RowKit.Below w2.heap.size w2 W) => hq ▸ hord.out t.b t.e W hW)
      rw [hq] at hsn
      replace hsn := Lib.hid hsn
      clear hL hq
      replace ho8 := Lib.hid ho8
      replace ho9 := Lib.hid ho9
      obtain ⟨oT, hoT⟩ : ∃ oT, Obj.cells #[.string t.b, .string t.e, .int .u64 t.s] 38 (0, 0) = oT := ⟨_, rfl⟩
      replace hoT := Lib.hid hoT
      by_cases hq0 : q < 0
      · go_wp2_with (first
          | (go_at_call 31; refine (hcl.out _ (hBr.out.alloc hBr.out.size _)).mono ?_; rintro e w' ⟨rfl, rfl⟩)
          | (at_builtin; (refine wpList_append_ow rfl (.tmp 37) (.tmp 42) 23 rfl B 9 rfl infoStr rfl (by decide) _ _ _ rfl ((ho8.out.alloc _).alloc _) _ 2 _ [.string t.b, .string t.e] rfl (rd_new (by simp) _ _ 2 1 rfl) (by intro u hu; simp at hu; rcases hu with rfl | rfl <;> rfl) (by unfold maxLen; omega) (by omega) (by have := hBe.out; have := hBr.out.size; simp; omega) ?_); rintro v8n w8 ho8n hg8 hn8
             have hf8 : Fr (fun q => u8.ownBlock = some q) (wr.alloc oT) w8 := (by rw [← hoT.out]; exact ((Fr.refl _ _).alloc _).grown hg8 (fun q hq _ => hq))
             have hF8 : Fr (fun q => u8.ownBlock = some q) wr w8 := (((Fr.refl _ wr).alloc oT).then hf8 (fun q _ hq => hq))
             have hT8 : Bl w8 wr.heap.size oT := (Bl.new' rfl).fr hf8 (fun e => by have := (ho8.out.lt _ e).2; omega)
             rw [← hoT.out] at hT8
             have r0 : w8.cell? ⟨wr.heap.size, 0, none⟩ = some (.string t.b) := hT8.cell 0
             have r1 : w8.cell? ⟨wr.heap.size, 1, none⟩ = some (.string t.e) := hT8.cell 1
             have r2 : w8.cell? ⟨wr.heap.size, 2, none⟩ = some (.int .u64 t.s) := hT8.cell 2
             replace hn8 := Lib.hid (show v8n.ownBlock = u8.ownBlock ∨ v8n.ownBlock = some (wr.heap.size + 1 + 1) from hn8.imp (fun h => h) (fun h => h.trans (by simp)))
             clear hT8 hf8 hg8
             replace hF8 := Lib.hid hF8
             replace ho8n := Lib.hid ho8n)
          | (at_builtin; (refine wpList_append_ow rfl (.tmp 44) (.tmp 46) 22 rfl B 38 rfl infoTomb rfl (by decide) _ _ _ rfl ((ho9.out.fr hF8.out (fun q h9 h8 => hap q h8 h9)).alloc _) _ 1 _ (tc t) rfl (rd_new rfl _ _ 1 3 rfl) (by intro u hu; exact tc_one [t] u (by simpa using hu)) (by unfold maxLen; omega) (by omega) (by have := hBe.out; have := hBr.out.size; have := hF8.out.size; simp; omega) ?_); rintro v9n w9 ho9n hg9 hn9
             have hF9 : Fr (fun q => u9.ownBlock = some q) w8 w9 := ((Fr.refl _ _).alloc _).grown hg9 (fun q hq _ => hq)
             replace hn9 := Lib.hid (show v9n.ownBlock = u9.ownBlock ∨ v9n.ownBlock = some (w8.heap.size + 1) from hn9.imp (fun h => h) (fun h => h.trans (by simp)))
             clear hg9 r0 r1 r2
             replace hF9 := Lib.hid hF9
             replace ho9n := Lib.hid ho9n))
        go_roundw
        case measure => simp only [intOf]; omega
        case rel =>
          have hbz := hBr.out.size
          have hbe := hBe.out
          have e9 : ∀ q, v8n.ownBlock = some q → ¬ u9.ownBlock = some q := by
            intro q h8 h9
            rcases hn8.out with e | e
            · exact hap q (e ▸ h8) h9
            · rw [e] at h8
              injection h8 with h8
              have := (ho9.out.lt q h9).2
              omega
          refine ⟨k + 1, by omega, by go_num, ?_⟩
          rw [hsn.out, if_pos hq0]
          refine ⟨?_, ?_, fun q h8 h9 => ?_, ?_⟩
          · have := ho8n.out.fr hF9.out e9
            rw [List.length_append, endsT, List.flatMap_append, stC, List.map_append]
            simpa [Nat.add_mul, stC, endsT] using this
          · have := ho9n.out
            rw [List.length_append, List.flatMap_append]
            simpa using this
          · rcases hn9.out with e | e
            · exact e9 q h8 (e ▸ h9)
            · rw [e] at h9
              injection h9 with h9
              have := (ho8n.out.lt q h8).2
              omega
          · refine Fr.thenBelow (Fr.thenBelow hBr.out hF8.out (Nat.le_refl _) (fun i hi e => ?_)) hF9.out (Nat.le_refl _) (fun i hi e => ?_)
            · have := (ho8.out.lt i e).1; omega
            · have := (ho9.out.lt i e).1; omega
      · have hf := (if_neg hq0 : (if q < 0 then [t] else []) = [])
        go_wp2_with (first
          | (go_at_call 31; refine (hcl.out _ (hBr.out.alloc hBr.out.size _)).mono ?_; rintro e w' ⟨rfl, rfl⟩))
        go_roundw
        case measure => simp only [intOf]; omega
        case rel =>
          refine ⟨k + 1, by omega, by go_num, ?_⟩
          rw [hsn.out, hf, List.append_nil]
          exact ⟨ho8.out.alloc _, ho9.out.alloc _, hap, hBr.out.alloc hBr.out.size _⟩
    · obtain rfl : k = n := by omega
      rw [List.take_of_length_le (by omega)] at ho8 ho9
      obtain ⟨L, hL⟩ : ∃ L, liveT how l = L := ⟨_, rfl⟩
      rw [hL] at ho8 ho9
      have hLn : L.length ≤ 1024 := by
        rw [← hL]
        exact Nat.le_trans (liveT_len _ _) hl
      obtain ⟨A8, c8, rfl, -⟩ := ho8.shape
      obtain ⟨A9, c9, rfl, -⟩ := ho9.shape
      have hso := Lib.hid (sortS_any how w.heap.size B (L.length * 2) c8 A8 (endsT L) wr)
      replace ho8 := Lib.hid ho8
      replace ho9 := Lib.hid ho9
      have bw := (b0.keep hB2.out).keep hBr.out
      obtain ⟨C, hC⟩ : ∃ C, Lib.compact (sortB how (endsT L)) = C := ⟨_, rfl⟩
      have hCl : cutsT how l = C := by unfold cutsT; rw [hL, hC]
      have hsp : splitT how l = fragsN how L C (C.length - 1) := by unfold splitT; rw [hCl, hL]
      have hcp := Lib.hid (compS_any B (L.length * 2) c8 A8 (sortB how (endsT L)))
      rw [hC] at hcp
      replace hsp := Lib.hid hsp
      go_wp2_with (first
        | (go_at_call 33; refine (hso.out bw hBz ho8.out (by omega)).mono ?_; rintro e w3 ⟨rfl, ho3, hf3⟩)
        | (go_at_call 34; refine (hcp.out w3 ho3).mono ?_; rintro e w4 ⟨rfl, ho4, hf4⟩; replace ho4 := Lib.hid ho4; replace hf4 := Lib.hid hf4; replace hf3 := Lib.hid hf3; clear ho3))
      have hB4 := Lib.hid (Fr.thenBelow (Fr.thenBelow hBr.out hf3.out (Nat.le_refl _) (fun i hi e => by have := (ho8.out.lt i e).1; have := hBe.out; omega)) hf4.out (Nat.le_refl _) (fun i hi e => by have := (ho8.out.lt i e).1; have := hBe.out; omega))
      have ho9b := Lib.hid ((ho9.out.fr hf3.out (fun q h9 h8 => hap q h8 h9)).fr hf4.out (fun q h9 h8 => hap q h8 h9))
      have hCn : C.length ≤ 2048 := by
        rw [← hC]
        refine Nat.le_trans (compact_len _) ?_
        unfold sortB
        rw [List.length_mergeSort, endsT_len]; omega
      clear hf3 hf4 ho8 ho9 hso hcp hBr
      go_loopw [12, 13] (fun v i wr => ∃ k : Nat, k ≤ C.length - 1 ∧ i = .int .i64 (k + 1) ∧ FL wr w4.heap.size v (fragsN how L C k) ∧ RowKit.Below w4.heap.size w4 wr) (fun _ i _ => C.length - (intOf i).toNat)
      case atStart => exact ⟨0, Nat.zero_le _, rfl, FL.nil _ _, RowKit.Below.refl _ _⟩
      case round =>
        obtain ⟨j, hj, rfl, hFL, hBj⟩ := hrel
        obtain ⟨wo, hwo⟩ : ∃ wo, wo = wr := ⟨_, rfl⟩
        subst hwo
        obtain ⟨G, hG, hoG, hpG⟩ := hFL
        by_cases hlt : j + 1 < C.length
        · obtain ⟨a, ha⟩ : ∃ a, C[j]? = some a := ⟨_, List.getElem?_eq_getElem (by omega)⟩
          obtain ⟨b, hb2⟩ : ∃ b, C[j + 1]? = some b := ⟨_, List.getElem?_eq_getElem (by omega)⟩
          have hr4 := (ho4.out.keep hBj).rd
          obtain ⟨g8, o8, rfl, -⟩ := hr4.2 (by omega)
          have q0 : wo.cell? ⟨g8, o8 + j, none⟩ = some (.string a) := hr4.cellAt (by unfold stC; rw [List.getElem?_map, ha]; rfl)
          have q1 : wo.cell? ⟨g8, o8 + (j + 1), none⟩ = some (.string b) := hr4.cellAt (by unfold stC; rw [List.getElem?_map, hb2]; rfl)
          have hfn := Lib.hid (fragsN_succ how L C j a b ha hb2)
          have hFn := fragsN_len how L C j
          obtain ⟨F, hF⟩ : ∃ F, fragsN how L C j = F := ⟨_, rfl⟩
          rw [hF] at hG hoG hFn
          replace hF := Lib.hid hF
          replace hBj := Lib.hid hBj
          replace hoG := Lib.hid hoG
          replace hpG := Lib.hid hpG
          clear hr4 ha hb2
          have i1 : IntKind.i64.wrap ((j : Int) + 1 - 1) = (j : Int) := by simp [IntKind.wrap, IntKind.bits, IntKind.signed]; omega
          have i2 : IntKind.i64.wrap (j : Int) = (j : Int) := by simp [IntKind.wrap, IntKind.bits, IntKind.signed]; omega
          have i3 : (0 : Int) ≤ (j : Int) := by omega
          have i4 : (j : Int) < (C.length : Int) := by omega
          have i5 : (0 : Int) ≤ (j : Int) + 1 := by omega
          have i6 : (j : Int) + 1 < (C.length : Int) := by omega
          have i7 : ((j : Int) + 1).toNat = j + 1 := by omega
          have i8 : ((j : Int) + 1 - 1).toNat = j := by omega
          go_upto_region 20 with fail
          have hg8 : g8 < wo.heap.size := cell_lt q0
          have hcells : ∀ W, RowKit.Below wo.heap.size wo W → W.cell? ⟨g8, o8 + j, none⟩ = some (.string a) ∧ W.cell? ⟨g8, o8 + (j + 1), none⟩ = some (.string b) ∧ RowKit.Below wo.heap.size wo W := fun W hW => ⟨cell_keep hW q0, cell_keep hW q1, hW⟩
          go_region_held3 (fun w' => w'.cell? ⟨g8, o8 + j, none⟩ = some (.string a) ∧ w'.cell? ⟨g8, o8 + (j + 1), none⟩ = some (.string b) ∧ RowKit.Below wo.heap.size wo w') ((refine hcells _ ?_; first | exact RowKit.Below.refl _ _ | exact (RowKit.Below.refl _ _).drew | exact (RowKit.Below.refl _ _).alloc (Nat.le_refl _) _ | exact ((RowKit.Below.refl _ _).alloc (Nat.le_refl _) _).drew)) ((first | fail))
          go_wp2_with fail
          obtain ⟨w5, hw5⟩ : ∃ w5, (wo.alloc (.cells #[.string a, .string b, .slice none 0 0] 34)).drew = w5 := ⟨_, rfl⟩
          have hB5 : RowKit.Below wo.heap.size wo w5 := by rw [← hw5]; exact ((RowKit.Below.refl _ _).alloc (Nat.le_refl _) _).drew
          have b5 : Bl w5 wo.heap.size (.cells #[.string a, .string b, .slice none 0 0] 34 (0, 0)) := by rw [← hw5]; exact (Bl.new' rfl).drew
          have z5 : w5.heap.size = wo.heap.size + 1 := by rw [← hw5]; exact (Array.size_push _)
          rw [hw5]
          replace hw5 := Lib.hid hw5
          obtain ⟨fb, hfb⟩ : ∃ fb, wo.heap.size = fb := ⟨_, rfl⟩
          rw [hfb] at b5 z5
          rw [hfb]
          have hB45 : RowKit.Below w4.heap.size w4 w5 := hBj.out.trans (hB5.mono hBj.out.size)
          have hB25 : RowKit.Below w2.heap.size w2 w5 := hB4.out.trans (hB45.mono hB4.out.size)
          have r9 := (ho9b.out.keep hB45).rd
          have hz4 : w4.heap.size ≤ fb := by rw [← hfb]; exact hBj.out.size
          have hz2 : w2.heap.size ≤ fb := Nat.le_trans hB4.out.size hz4
          have h9lo : ∀ ad, A9 = some ad → ad.block < fb := fun ad e => by have := (ho9b.out.lt ad.block (by subst e; rfl)).2; omega
          clear q0 q1 hcells i1 i2
          replace hB5 := Lib.hid hB5
          replace hB45 := Lib.hid hB45
          replace hB25 := Lib.hid hB25
          replace r9 := Lib.hid r9
          replace h9lo := Lib.hid h9lo
          go_loopw [72] (fun i wr => ∃ (m : Nat) (u : Value), m ≤ L.length ∧ i = .int .i64 m ∧ Bl wr fb (.cells #[.string a, .string b, u] 34 (0, 0)) ∧ OW wr w5.heap.size 1 u (selT how L a b m).length (u64C (selT how L a b m)) ∧ Fr (fun q => q = fb) w5 wr) (fun i _ => L.length - (intOf i).toNat)
          case atStart => exact ⟨0, _, Nat.zero_le _, rfl, b5, OW.nil _ _ _, Fr.refl _ _⟩
          case round =>
            clear b5
            obtain ⟨m, u, hm, rfl, hbf, hou, hFf⟩ := hrel
            by_cases hml : m < L.length
            · obtain ⟨t, ht⟩ : ∃ t, L[m]? = some t := ⟨_, List.getElem?_eq_getElem hml⟩
              have hss := selT_snoc how L a b m t ht
              have hsl := selT_len how L a b m
              have r9r := r9.out.fr hFf (fun ad e h => by have := h9lo.out ad e; omega)
              obtain ⟨g9, o9, rfl, -⟩ := r9r.2 (by omega)
              obtain ⟨e0, e1, e2⟩ := Rd.tb r9r ht
              clear r9r ht
              have hBw := Lib.hid (Fr.thenBelow hB25.out hFf (by omega) (fun i hi e => by omega))
              have f0 : wr.cell? ⟨fb, 0, none⟩ = some (.string a) := hbf.cell 0
              have f1 : wr.cell? ⟨fb, 1, none⟩ = some (.string b) := hbf.cell 1
              have f2 : wr.cell? ⟨fb, 2, none⟩ = some u := hbf.cell 2
              have fz : wr.frozen? ⟨fb, 2, none⟩ = false := hbf.frozen 2
              have hfl := hbf.lt
              have hfne : fb ≠ wr.heap.size := by omega
              obtain ⟨p1, hp1⟩ : ∃ p, cmpH how t.b a = p := ⟨_, rfl⟩
              obtain ⟨p2, hp2⟩ : ∃ p, cmpH how b t.e = p := ⟨_, rfl⟩
              have hc1 := Lib.hid (fun W (hW : RowKit.Below w2.heap.size w2 W) => hp1 ▸ hord.out t.b a W hW)
              have hc2 := Lib.hid (fun W (hW : RowKit.Below w2.heap.size w2 W) => hp2 ▸ hord.out b t.e W hW)
              have hcv : covT how a b t = (decide (p1 ≤ 0) && decide (p2 ≤ 0)) := by unfold covT; rw [hp1, hp2]
              rw [hcv] at hss
              clear hp1 hp2 hcv
              obtain ⟨S, hS⟩ : ∃ S, selT how L a b m = S := ⟨_, rfl⟩
              rw [hS] at hss hou hsl
              clear hS
              replace hss := Lib.hid hss
              replace hou := Lib.hid hou
              replace hbf := Lib.hid hbf
              replace hFf := Lib.hid hFf
              by_cases hq1 : p1 ≤ 0
              · by_cases hq2 : p2 ≤ 0
                · go_wp2_with (first
                    | (go_at_call 31; (with_reducible refine (hc1.out _ (hBw.out.alloc hBw.out.size _)).mono ?_); rintro e w' ⟨rfl, rfl⟩)
                    | (go_at_call 31; (with_reducible refine (hc2.out _ (hBw.out.alloc hBw.out.size _)).mono ?_); rintro e w' ⟨rfl, rfl⟩)
                    | (at_builtin; refine wpList_append_ow rfl (.tmp 93) (.tmp 96) 32 rfl w5.heap.size 36 rfl infoU64 rfl (by decide) _ _ _ rfl ((hou.out.alloc _).alloc _) _ 1 _ [.int .u64 t.s] rfl (rd_new (by simp) _ _ 1 1 rfl) (by intro u hu; simp at hu; subst hu; rfl) (by unfold maxLen; omega) (by omega) (by have := hFf.out.size; simp; omega) ?_; rintro un w6 hon hgn hnn
                       have hf6 : Fr (fun q => u.ownBlock = some q) wr w6 := (((Fr.refl _ _).alloc _).alloc _).grown hgn (fun q hq _ => hq)
                       have hF6 : Fr (fun q => q = fb) w5 w6 := hFf.out.then hf6 (fun q hq e => by have := (hou.out.lt q e).1; omega)
                       have hb6 := hbf.out.fr hf6 (fun e => by have := (hou.out.lt _ e).1; omega)
                       have h62 : w6.cell? ⟨fb, 2, none⟩ = some u := hb6.cell 2
                       have h6z : w6.frozen? ⟨fb, 2, none⟩ = false := hb6.frozen 2
                       clear hgn hnn hf6
                       obtain ⟨An, cn, rfl, -⟩ := hon.shape
                       replace hF6 := Lib.hid hF6
                       replace hb6 := Lib.hid hb6
                       replace hon := Lib.hid hon))
                  go_roundw
                  case measure => simp only [intOf]; omega
                  case rel =>
                    refine ⟨m + 1, .slice An (S.length + 1) cn, by omega, by go_num, by simpa using hb6.out.setSame 2 (.slice An (S.length + 1) cn), ?_, hF6.out.set _ (fun _ => rfl)⟩
                    rw [hss.out]
                    have h8 := hon.out.set (b := fb) (i := 2) (.slice An (S.length + 1) cn) (fun e => by have := (hon.out.lt _ e).1; omega)
                    have e8 : (decide (p1 ≤ 0) && decide (p2 ≤ 0)) = true := by rw [decide_eq_true hq1, decide_eq_true hq2]; rfl
                    rw [if_pos e8, List.length_append, u64C, List.map_append]
                    exact h8
                · have e8 : (decide (p1 ≤ 0) && decide (p2 ≤ 0)) = false := by rw [decide_eq_false hq2, Bool.and_false]
                  replace e8 := Lib.hid e8
                  go_wp2_with (first
                    | (go_at_call 31; (with_reducible refine (hc1.out _ (hBw.out.alloc hBw.out.size _)).mono ?_); rintro e w' ⟨rfl, rfl⟩)
                    | (go_at_call 31; (with_reducible refine (hc2.out _ (hBw.out.alloc hBw.out.size _)).mono ?_); rintro e w' ⟨rfl, rfl⟩))
                  go_roundw
                  case measure => simp only [intOf]; omega
                  case rel =>
                    refine ⟨m + 1, u, by omega, by go_num, hbf.out.alloc _, ?_, hFf.out.alloc _⟩
                    rw [hss.out, e8.out, if_neg (by decide), List.append_nil]
                    exact hou.out.alloc _
              · have e8 : (decide (p1 ≤ 0) && decide (p2 ≤ 0)) = false := by rw [decide_eq_false hq1, Bool.false_and]
                replace e8 := Lib.hid e8
                go_wp2_with (first
                  | (go_at_call 31; (with_reducible refine (hc1.out _ (hBw.out.alloc hBw.out.size _)).mono ?_); rintro e w' ⟨rfl, rfl⟩))
                go_roundw
                case measure => simp only [intOf]; omega
                case rel =>
                  refine ⟨m + 1, u, by omega, by go_num, hbf.out.alloc _, ?_, hFf.out.alloc _⟩
                  rw [hss.out, e8.out, if_neg (by decide), List.append_nil]
                  exact hou.out.alloc _
            · obtain rfl : m = L.length := by omega
              obtain ⟨S, hS⟩ : ∃ S, selT how L a b L.length = S := ⟨_, rfl⟩
              have hsl := selT_len how L a b L.length
              have hsq := selT_all how L a b L.length (Nat.le_refl _)
              rw [hS] at hou hsl hsq
              clear hS
              obtain ⟨Au, cu, rfl, -⟩ := hou.shape
              have hsu := Lib.hid (sortU_any w5.heap.size S.length cu Au S)
              have hcu := Lib.hid (compU_any w5.heap.size S.length cu Au (sortI S))
              rw [hsq] at hcu
              obtain ⟨q, hq⟩ : ∃ q, seqsT how L a b = q := ⟨_, rfl⟩
              rw [hq] at hcu
              have f0 : wr.cell? ⟨fb, 2, none⟩ = some (.slice Au S.length cu) := hbf.cell 2
              replace hou := Lib.hid hou
              replace hbf := Lib.hid hbf
              replace hFf := Lib.hid hFf
              replace hsq := Lib.hid hsq
              replace hq := Lib.hid hq
              by_cases hq0 : 0 < q.length
              · have d1 : decide ((0 : Int) < (q.length : Int)) = true := decide_eq_true (by omega)
                go_wp2_with (first
                  | (go_at_call 35; refine (hsu.out wr hou.out (by omega)).mono ?_; rintro e w6 ⟨rfl, ho6, hf6⟩; have hb6 := hbf.out.fr hf6 (fun e => by have := (hou.out.lt _ e).1; omega); have g0 : w6.cell? ⟨fb, 2, none⟩ = some (.slice Au S.length cu) := hb6.cell 2)
                  | (go_at_call 37; refine (hcu.out w6 ho6).mono ?_; rintro e w7 ⟨rfl, ho7, hf7⟩; have hb7 := hb6.fr hf7 (fun e => by have := (hou.out.lt _ e).1; omega); have g1 : w7.cell? ⟨fb, 2, none⟩ = some (.slice Au S.length cu) := hb7.cell 2; have gz : w7.frozen? ⟨fb, 2, none⟩ = false := hb7.frozen 2; have hF7 := ((hFf.out.then hf6 (fun q hq e => by have := (hou.out.lt q e).1; omega)).then hf7 (fun q hq e => by have := (hou.out.lt q e).1; omega)).set (k := fb) (i := 2) (.slice Au q.length cu) (fun _ => rfl)
                     have hB7 := Lib.hid (Fr.thenBelow hB5.out hF7 (Nat.le_refl _) (fun i hi e => by omega))
                     have hoq := Lib.hid (ho7.set (b := fb) (i := 2) (.slice Au q.length cu) (fun e => by have := (ho7.lt _ e).1; omega))
                     have hbq : Bl (w7.setCell ⟨fb, 2, none⟩ (.slice Au q.length cu)) fb (.cells #[.string a, .string b, .slice Au q.length cu] 34 (0, 0)) := by simpa using hb7.setSame 2 (.slice Au q.length cu)
                     have k0 : (w7.setCell ⟨fb, 2, none⟩ (.slice Au q.length cu)).cell? ⟨fb, 0, none⟩ = some (.string a) := hbq.cell 0
                     have k1 : (w7.setCell ⟨fb, 2, none⟩ (.slice Au q.length cu)).cell? ⟨fb, 1, none⟩ = some (.string b) := hbq.cell 1
                     have k2 : (w7.setCell ⟨fb, 2, none⟩ (.slice Au q.length cu)).cell? ⟨fb, 2, none⟩ = some (.slice Au q.length cu) := hbq.cell 2
                     clear ho6 hb6 hb7 hf6 hf7 ho7 hF7 hbq)
                  | (at_builtin; refine wpList_append_ow rfl (.tmp 111) (.tmp 113) 24 rfl w4.heap.size 34 rfl infoFrag rfl (by decide) _ _ _ rfl ((hoG.out.keep hB7.out).alloc _) _ 1 _ (fcs (⟨a, b, q⟩, .slice Au q.length cu)) rfl (rd_new (w := w7.setCell ⟨fb, 2, none⟩ (.slice Au q.length cu)) (by simp) _ _ 1 3 rfl) (by intro u hu; simp [fcs] at hu; rcases hu with rfl | rfl | rfl <;> rfl) (by unfold maxLen; omega) (by omega) (by have := hBj.out.size; have := hB7.out.size; simp; simp at this; omega) ?_; rintro vn w9 hvn hgn hnn
                     have hf9 : Fr (fun q => u12.ownBlock = some q) (w7.setCell ⟨fb, 2, none⟩ (.slice Au q.length cu)) w9 := ((Fr.refl _ _).alloc _).grown hgn (fun q hq _ => hq)
                     have hnv : vn.ownBlock = u12.ownBlock ∨ vn.ownBlock = some ((w7.setCell ⟨fb, 2, none⟩ (.slice Au q.length cu)).heap.size + 1) := hnn.imp (fun h => h) (fun h => h.trans (by simp))
                     have hFL9 := Lib.hid (FL.push (f := ⟨a, b, q⟩) hG (hoG.out.keep hB7.out) (fun p hp => ⟨(hpG.out p hp).1.keep hB7.out, (hpG.out p hp).2⟩) (hoq.out.more (by have := hB5.out.size; have := hBj.out.size; omega)) (fun q hq e => by have := (hoq.out.lt q hq).1; have := (hoG.out.lt q e).2; omega) hvn hf9 (Nat.le_succ _) hnv)
                     have hB9 := Lib.hid (Fr.thenBelow (hBj.out.trans (hB7.out.mono hBj.out.size)) hf9 (Nat.le_refl _) (fun i hi e => by have := (hoG.out.lt i e).1; omega))
                     clear hgn hnn hvn hf9 hnv k0 k1 k2))
                go_roundw
                case measure => simp only [intOf]; omega
                case rel =>
                  refine ⟨j + 1, by omega, by go_num, ?_, hB9.out⟩
                  rw [hfn.out, hF.out, frag1, hq.out, if_pos hq0]
                  exact hFL9.out
              · have d1 : decide ((0 : Int) < (q.length : Int)) = false := decide_eq_false (by omega)
                go_wp2_with (first
                  | (go_at_call 35; refine (hsu.out wr hou.out (by omega)).mono ?_; rintro e w6 ⟨rfl, ho6, hf6⟩; have hb6 := hbf.out.fr hf6 (fun e => by have := (hou.out.lt _ e).1; omega); have g0 : w6.cell? ⟨fb, 2, none⟩ = some (.slice Au S.length cu) := hb6.cell 2)
                  | (go_at_call 37; refine (hcu.out w6 ho6).mono ?_; rintro e w7 ⟨rfl, ho7, hf7⟩; have hb7 := hb6.fr hf7 (fun e => by have := (hou.out.lt _ e).1; omega); have g1 : w7.cell? ⟨fb, 2, none⟩ = some (.slice Au S.length cu) := hb7.cell 2; have gz : w7.frozen? ⟨fb, 2, none⟩ = false := hb7.frozen 2; have hF7 := ((hFf.out.then hf6 (fun q hq e => by have := (hou.out.lt q e).1; omega)).then hf7 (fun q hq e => by have := (hou.out.lt q e).1; omega)).set (k := fb) (i := 2) (.slice Au q.length cu) (fun _ => rfl)
                     have hB7 := Lib.hid (Fr.thenBelow hB5.out hF7 (Nat.le_refl _) (fun i hi e => by omega))
                     have hoq := Lib.hid (ho7.set (b := fb) (i := 2) (.slice Au q.length cu) (fun e => by have := (ho7.lt _ e).1; omega))
                     have hbq : Bl (w7.setCell ⟨fb, 2, none⟩ (.slice Au q.length cu)) fb (.cells #[.string a, .string b, .slice Au q.length cu] 34 (0, 0)) := by simpa using hb7.setSame 2 (.slice Au q.length cu)
                     have k0 : (w7.setCell ⟨fb, 2, none⟩ (.slice Au q.length cu)).cell? ⟨fb, 0, none⟩ = some (.string a) := hbq.cell 0
                     have k1 : (w7.setCell ⟨fb, 2, none⟩ (.slice Au q.length cu)).cell? ⟨fb, 1, none⟩ = some (.string b) := hbq.cell 1
                     have k2 : (w7.setCell ⟨fb, 2, none⟩ (.slice Au q.length cu)).cell? ⟨fb, 2, none⟩ = some (.slice Au q.length cu) := hbq.cell 2
                     clear ho6 hb6 hb7 hf6 hf7 ho7 hF7 hbq))
                go_roundw
                case measure => simp only [intOf]; omega
                case rel =>
                  refine ⟨j + 1, by omega, by go_num, ?_, hBj.out.trans (hB7.out.mono hBj.out.size)⟩
                  rw [hfn.out, hF.out, frag1, hq.out, if_neg hq0, List.append_nil]
                  exact ⟨G, hG, hoG.out.keep hB7.out, fun p hp => ⟨(hpG.out p hp).1.keep hB7.out, (hpG.out p hp).2⟩⟩
        · obtain rfl : j = C.length - 1 := by omega
          have hFL := Lib.hid (show FL wo w.heap.size u12 (splitT how l) from hsp.out ▸ FL.more ⟨G, hG, hoG, hpG⟩ (by have := hB4.out.size; have := hBe.out; omega))
          have d1 : decide ((((C.length - 1 : Nat) : Int) + 1) < (C.length : Int)) = false := decide_eq_false (by omega)
          have hBe2 := Lib.hid (hB2w.out.trans ((hB4.out.trans (hBj.mono hB4.out.size)).mono (by have := hBe.out; omega)))
          go_wp2_with fail
          go_ret2
          exact ⟨_, rfl, hFL.out, hBe2.out⟩
end Go.Proofs.Ytmopjoeomjdikaa
