/- A set is made, and asked for a whole range. Conditions: what each theorem names. -/
import Derived.RangeFuncNested
import Derived.RangeFuncBound
import Derived.RangeFuncCalls
import Derived.RangeFuncLeaves
import Derived.Shelf.Abstract
import Derived.Shelf.RegionOpen
import Derived.WalkKit
import Derived.OwnWalkIn
import Derived.TacticsInMore
import Derived.LoopNIn
import Derived.LoopIn
import Derived.Lib.Hide
import Derived.Outline
import Derived.RegionTactic
import Derived.BigRegion
import Derived.WalkLawsBesides
import Derived.WalkSpells
import Derived.Deep.QuietTactic
import Derived.BigQuiet
import Derived.Deep.RegionHeld3
import Derived.Deep.DeepCutAuto
import Derived.Deep.CutBlock
import Derived.StillTailTactics
import Derived.WalkSmall
import Derived.Test.YtmopjoeomjdikaaRgF
namespace Go.Proofs.Ytmopjoeomjdikaa
open Go.RowKit Go.Sed Go.Sort
set_option maxHeartbeats 2000000
set_option maxRecDepth 100000
theorem cuts_len (how : Int) (l : List Tb) : (cutsT how l).length ≤ l.length * 2 := by
  unfold cutsT
  refine Nat.le_trans (compact_len _) ?_
  unfold sortB
  rw [List.length_mergeSort, endsT_len]
  have := liveT_len how l
  omega
theorem seqs_len (how : Int) (L : List Tb) (a b : ByteArray) : (seqsT how L a b).length ≤ L.length := by
  unfold seqsT
  refine Nat.le_trans (compact_len _) ?_
  unfold sortI
  rw [List.length_mergeSort, List.length_map]
  exact List.length_filter_le _ _
theorem split_fo (how : Int) (l : List Tb) (hl : l.length ≤ 1024) : FO how (splitT how l) := by
  obtain ⟨h1, h2⟩ := splitT_rises how l
  refine ⟨h1, h2, fun f hf => ?_, ?_, fun f hf => ?_⟩
  · obtain ⟨j, a, b, _, _, rfl, _⟩ := splitT_mem hf
    exact (seqsT_ok how _ a b).1
  · have := fragsN_len how (liveT how l) (cutsT how l) ((cutsT how l).length - 1)
    have h3 := cuts_len how l
    unfold splitT
    omega
  · obtain ⟨j, a, b, _, _, rfl, _⟩ := splitT_mem hf
    have h3 := seqs_len how (liveT how l) a b
    have h4 := liveT_len how l
    simp only
    omega
theorem FL.shape {w : World} {base : Nat} {v : Value} {F : List Fg} (h : FL w base v F) : ∃ (A : Option Addr) (c : Nat) (G : List (Fg × Value)), v = .slice A F.length c ∧ G.map (·.1) = F ∧ Rd w 3 A F.length (G.flatMap fcs) ∧ ∀ p ∈ G, ∃ B d, p.2 = .slice B p.1.q.length d ∧ Rd w 1 B p.1.q.length (u64C p.1.q) := by
  obtain ⟨G, h1, h2, h3⟩ := h
  obtain ⟨A, c, hv, hr, -⟩ := h2.shape
  refine ⟨A, c, G, hv, h1, hr, fun p hp => ?_⟩
  obtain ⟨B, d, e, r, -⟩ := (h3 p hp).1.shape
  exact ⟨B, d, e, r⟩
theorem new_no (how : Int) (l : List Tb) (A : Option Addr) (c : Nat) (w : World) (hr : Rd w 3 A l.length (l.flatMap tc)) (hs : ∀ t ∈ l, t.b.size ≤ maxLen ∧ t.e.size ≤ maxLen) (hl : l.length ≤ maxLen) (hc : (chkT how l == 0) = false) :
    Calls Try.prog 13 #[.int .i64 how, .slice A l.length c] w fun e w' => e = .returned (.tuple #[.pointer none, .int .i64 (chkT how l)]) ∧ Below w.heap.size w w' := by
  have hsp := Lib.hid (split_no how l A c w hr hs hl hc)
  obtain ⟨n, hn⟩ : ∃ n, l.length = n := ⟨_, rfl⟩
  obtain ⟨e, he⟩ : ∃ e, chkT how l = e := ⟨_, rfl⟩
  rw [hn] at hsp ⊢
  rw [he] at hsp hc ⊢
  have hne : (e != 0) = true := by simp [bne, hc]
  clear hr hs hl hn he
  go_enter Try.func13, Try.ntmps13
  go_wp2_with (go_at_call 7; refine hsp.out.mono ?_; rintro e2 w2 ⟨rfl, hB2⟩)
  go_ret2
  exact ⟨rfl, hB2⟩
theorem new_yes (how : Int) (l : List Tb) (A : Option Addr) (c : Nat) (w : World) (hr : Rd w 3 A l.length (l.flatMap tc)) (hs : ∀ t ∈ l, t.b.size ≤ maxLen ∧ t.e.size ≤ maxLen) (hc : chkT how l = 0) (hl : l.length ≤ 1024) :
    Calls Try.prog 13 #[.int .i64 how, .slice A l.length c] w fun e w' => ∃ hb : Nat, e = .returned (.tuple #[.pointer (some ⟨hb, 0, none⟩), .int .i64 0]) ∧ ST w' hb how (splitT how l) ∧ Below w.heap.size w w' := by
  have hsp := Lib.hid (split_yes how l A c w hr hs hc hl)
  obtain ⟨n, hn⟩ : ∃ n, l.length = n := ⟨_, rfl⟩
  rw [hn] at hsp ⊢
  obtain ⟨F, hF⟩ : ∃ F, splitT how l = F := ⟨_, rfl⟩
  rw [hF] at hsp ⊢
  clear hr hs hl hn hF hc
  go_enter Try.func13, Try.ntmps13
  go_wp2_with (go_at_call 7; refine hsp.out.mono ?_; rintro e2 w2 ⟨v, rfl, hFL, hB2⟩; obtain ⟨Av, cv, G, rfl, hG, hrG, hqG⟩ := hFL.shape; replace hFL := Lib.hid hFL; replace hqG := Lib.hid hqG; replace hrG := Lib.hid hrG; replace hG := Lib.hid hG)
  go_ret2
  have hB3 : Below w2.heap.size w2 (w2.alloc (.cells #[.int .i64 how, .slice Av F.length cv] 76)) := (Below.refl _ _).alloc (Nat.le_refl _) _
  have b3 : Bl (w2.alloc (.cells #[.int .i64 how, .slice Av F.length cv] 76)) w2.heap.size (.cells #[.int .i64 how, .slice Av F.length cv] 76 (0, 0)) := Bl.new' rfl
  exact ⟨w2.heap.size, rfl, ⟨Av, cv, G, hG.out, b3.cell 0, b3.cell 1, hrG.out.keep hB3, fun p hp => by obtain ⟨B, d, e, r⟩ := hqG.out p hp; exact ⟨B, d, e, r.keep hB3⟩⟩, below_then hB2 hB3⟩
/-- whether all is hidden from a key on. -/
def wholeL (how : Int) (e : ByteArray) (below s : Int) : List Fg → ByteArray → Bool
  | [], b => if cmpH how b e < 0 then false else true
  | f :: r, b => if cmpH how b e < 0 then (if 0 < cmpH how f.b b then false else if uptoQ f.q s ≤ below then false else wholeL how e below s r f.e) else true
theorem wholeL_nil (how : Int) (e : ByteArray) (below s : Int) (b : ByteArray) : wholeL how e below s [] b = if cmpH how b e < 0 then false else true := rfl
theorem wholeL_cons (how : Int) (e : ByteArray) (below s : Int) (f : Fg) (r : List Fg) (b : ByteArray) : wholeL how e below s (f :: r) b = if cmpH how b e < 0 then (if 0 < cmpH how f.b b then false else if uptoQ f.q s ≤ below then false else wholeL how e below s r f.e) else true := rfl
theorem whole_any (how : Int) (F : List Fg) (b0 e : ByteArray) (below s : Int) (hb : Nat) (w : World) (h : ST w hb how F) (ho : FO how F) :
    Calls Try.prog 25 #[.pointer (some ⟨hb, 0, none⟩), .string b0, .string e, .int .u64 below, .int .u64 s] w fun ee w' => ∃ k : Nat, AtF how F b0 k ∧ ee = .returned (.bool (wholeL how e below s (F.drop k) b0)) ∧ Below w.heap.size w w' := by
  have hat := Lib.hid (at_any how F b0 hb w h ho)
  have hst := Lib.hid (fun W (hW : Below w.heap.size w W) => h.keep hW)
  have hcm := Lib.hid (fun x y W => compare_any how x y W)
  have hup := Lib.hid (fun (f : Fg) (hf : f ∈ F) A c W (hW : Rd W 1 A f.q.length (u64C f.q)) => upto_any f.q s c A W hW (by have := ho.qlen f hf; omega) (ho.fall f hf))
  have hln := ho.len
  clear h ho
  go_enter Try.func25, Try.ntmps25
  go_wp2_with (first
    | (go_at_call 48; refine hat.out.mono ?_; rintro e w1 ⟨k0, rfl, hk, hB1⟩))
  go_loopw [1, 11] (fun vb vi wr => ∃ (k : Nat) (b : ByteArray), vb = .string b ∧ vi = .int .i64 k ∧ k ≤ F.length ∧ wholeL how e below s (F.drop k0) b0 = wholeL how e below s (F.drop k) b ∧ Below w.heap.size w wr) (fun _ vi _ => F.length + 1 - (intOf vi).toNat)
  case atStart => exact ⟨k0, b0, rfl, rfl, hk.1, rfl, hB1⟩
  case round =>
    obtain ⟨k, b, rfl, rfl, hkn, hwl, hB⟩ := hrel
    obtain ⟨A, c, G, hG, c0, c1, hr, hq⟩ := hst.out wr hB
    obtain ⟨n, hn⟩ : ∃ n, F.length = n := ⟨_, rfl⟩
    rw [hn] at c1 hr hln hkn
    have hc1 := Lib.hid (fun W => hcm.out b e W)
    obtain ⟨x, hx⟩ : ∃ x, cmpH how b e = x := ⟨_, rfl⟩
    rw [hx] at hc1
    replace hB := Lib.hid hB
    replace hn := Lib.hid hn
    by_cases hx0 : x < 0
    · by_cases hlt : k < n
      · obtain ⟨f, hf⟩ : ∃ f, F[k]? = some f := ⟨_, List.getElem?_eq_getElem (by have := hn.out; omega)⟩
        obtain ⟨p, hp⟩ : ∃ p, G[k]? = some p := ⟨_, List.getElem?_eq_getElem (by have := hn.out; rw [← hG, List.length_map] at this; omega)⟩
        obtain rfl : f = p.1 := by
          rw [← hG, List.getElem?_map, hp] at hf
          exact (Option.some.inj hf).symm
        have hGl : G.length = n := by rw [← hn.out, ← hG, List.length_map]
        obtain ⟨g, o, rfl, -⟩ := hr.2 (by omega)
        rw [← hGl] at hr
        have e0 : wr.cell? ⟨g, o + k * 3, none⟩ = some (.string p.1.b) := hr.elem fcs_len hp (j := 0) rfl
        have e1 : wr.cell? ⟨g, o + k * 3 + 1, none⟩ = some (.string p.1.e) := hr.elem fcs_len hp (j := 1) rfl
        obtain ⟨Bq, dq, hp2, hrq⟩ := hq p (List.mem_of_getElem? hp)
        have e2 : wr.cell? ⟨g, o + k * 3 + 2, none⟩ = some (.slice Bq p.1.q.length dq) := by rw [← hp2]; exact hr.elem fcs_len hp (j := 2) rfl
        have hup2 := Lib.hid (fun W (hW : Below wr.heap.size wr W) => hup.out p.1 (List.mem_of_getElem? hf) Bq dq W (hrq.keep hW))
        obtain ⟨z, hz⟩ : ∃ z, uptoQ p.1.q s = z := ⟨_, rfl⟩
        rw [hz] at hup2
        have hcb := Lib.hid (fun W => hcm.out p.1.b b W)
        obtain ⟨y, hy⟩ : ∃ y, cmpH how p.1.b b = y := ⟨_, rfl⟩
        rw [hy] at hcb
        rw [drop_at hf, wholeL_cons] at hwl
        rw [hx, if_pos hx0, hy, hz] at hwl
        have i0 : (0 : Int) ≤ (k : Int) := by omega
        have i1 : (k : Int) < (n : Int) := by omega
        have i2 : ((k : Int) == (n : Int)) = false := by rw [beq_eq_false_iff_ne]; omega
        have hcells : ∀ W, Below wr.heap.size wr W → W.cell? ⟨hb, 0, none⟩ = some (.int .i64 how) ∧ W.cell? ⟨hb, 1, none⟩ = some (.slice (some ⟨g, o, none⟩) n c) ∧ W.cell? ⟨g, o + k * 3, none⟩ = some (.string p.1.b) ∧ W.cell? ⟨g, o + k * 3 + 2, none⟩ = some (.slice Bq p.1.q.length dq) := fun W hW => ⟨cell_keep hW c0, cell_keep hW c1, cell_keep hW e0, cell_keep hW e2⟩
        clear hr hp hp2 hq hG hrq hGl
        replace hf := Lib.hid hf
        replace hx := Lib.hid hx
        replace hy := Lib.hid hy
        replace hz := Lib.hid hz
        replace hk := Lib.hid hk
        by_cases hy0 : 0 < y
        · rw [if_pos hy0] at hwl
          replace hwl := Lib.hid hwl
          go_upto_region 4 with (first
            | (go_at_call 32; refine (hc1.out _).mono ?_; rintro e w' ⟨rfl, rfl⟩))
          go_quiet ((go_at_call 32; exact Calls.quiet_of_same ((hcb.out _).mono fun _ _ ⟨h1, h2⟩ => ⟨h1, h2.symm⟩)))
          go_wp2_with fail
          go_ret
          exact ⟨k0, hk.out, by rw [hwl.out]; rfl, below_drewN hB.out _⟩
        · rw [if_neg hy0] at hwl
          have hy1 : decide (0 < y) = false := decide_eq_false hy0
          by_cases hz0 : z ≤ below
          · rw [if_pos hz0] at hwl
            replace hwl := Lib.hid hwl
            go_upto_region 4 with (first
              | (go_at_call 32; refine (hc1.out _).mono ?_; rintro e w' ⟨rfl, rfl⟩))
            go_quiet ((first
              | (go_at_call 32; exact Calls.quiet_of_same ((hcb.out _).mono fun _ _ ⟨h1, h2⟩ => ⟨h1, h2.symm⟩))
              | (go_at_call 38; exact Calls.quiet_of (hup2.out _ (below_drewN (Below.refl _ _) _)))))
            go_wp2_with fail
            go_ret
            exact ⟨k0, hk.out, by rw [hwl.out]; rfl, below_drewN hB.out _⟩
          · rw [if_neg hz0] at hwl
            replace hwl := Lib.hid hwl
            go_upto_region 4 with (first
              | (go_at_call 32; refine (hc1.out _).mono ?_; rintro e w' ⟨rfl, rfl⟩))
            go_quiet ((first
              | (go_at_call 32; exact Calls.quiet_of_same ((hcb.out _).mono fun _ _ ⟨h1, h2⟩ => ⟨h1, h2.symm⟩))
              | (go_at_call 38; exact Calls.quiet_of (hup2.out _ (below_drewN (Below.refl _ _) _)))))
            go_wp2_with fail
            go_roundw
            case measure => have := hn.out; simp only [intOf]; omega
            case rel => exact ⟨k + 1, p.1.e, rfl, by go_num, by have := hn.out; omega, hwl.out, below_drewN hB.out _⟩
      · have hd : F.drop k = [] := List.drop_of_length_le (by have := hn.out; omega)
        rw [hd, wholeL_nil, hx, if_pos hx0] at hwl
        have i2 : ((k : Int) == (n : Int)) = true := by rw [beq_iff_eq]; omega
        clear hr hq hG hlt hkn
        replace hwl := Lib.hid hwl
        replace hx := Lib.hid hx
        replace hk := Lib.hid hk
        go_upto_region 4 with (first
          | (go_at_call 32; refine (hc1.out _).mono ?_; rintro e w' ⟨rfl, rfl⟩))
        go_quiet (fail)
        go_wp2_with fail
        go_ret
        exact ⟨k0, hk.out, by rw [hwl.out]; rfl, below_drewN hB.out _⟩
    · have hres : wholeL how e below s (F.drop k0) b0 = true := by
        rw [hwl]
        cases hd : F.drop k with
        | nil => rw [wholeL_nil, hx, if_neg hx0]
        | cons f r => rw [wholeL_cons, hx, if_neg hx0]
      clear hwl hG hr hq
      replace hres := Lib.hid hres
      replace hx := Lib.hid hx
      replace hk := Lib.hid hk
      go_wp2_with (first
        | (go_at_call 32; refine (hc1.out _).mono ?_; rintro e w' ⟨rfl, rfl⟩))
      go_ret
      exact ⟨k0, hk.out, by rw [hres.out]; rfl, hB.out⟩
end Go.Proofs.Ytmopjoeomjdikaa
