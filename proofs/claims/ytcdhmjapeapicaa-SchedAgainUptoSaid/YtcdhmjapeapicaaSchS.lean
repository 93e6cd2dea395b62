/- Tasks that are lists, taken in. Conditions: what each theorem names. -/
import Derived.RangeFuncNested
import Derived.RangeFuncBound
import Derived.RangeFuncCalls
import Derived.RangeFuncLeaves
import Derived.Shelf.Abstract
import Derived.Shelf.RegionOpen
import Derived.WalkKit
import Derived.OwnWalkIn
import Derived.TacticsInMore
import Derived.LoopNIn
import Derived.LoopIn
import Derived.Lib.Hide
import Derived.Outline
import Derived.RegionTactic
import Derived.BigRegion
import Derived.WalkLawsBesides
import Derived.WalkSpells
import Derived.Deep.QuietTactic
import Derived.BigQuiet
import Derived.Deep.RegionHeld3
import Derived.Deep.DeepCutAuto
import Derived.Deep.CutBlock
import Derived.StillTailTactics
import Derived.WalkSmall
import Derived.Test.YtcdhmjapeapicaaProg
import Derived.Test.YtcdhmjapeapicaaFr
import Derived.Test.YtcdhmjapeapicaaMp
import Derived.Defers
import Derived.Recover
import Derived.Test.YtcdhmjapeapicaaSchR
import Derived.Deep.LoopGhost
import Derived.Test.YtcdhmjapeapicaaSchF
import Derived.Test.YtcdhmjapeapicaaArg
import Derived.Lib.SliceRun
namespace Go.Proofs.Ytcdhmjapeapicaa
open Go.RowKit Go.Sed Go.Maps
set_option maxHeartbeats 1000000
set_option maxRecDepth 100000
theorem mkstep_any (xb i : Nat) (p : Option Addr) (n c : Nat) (W : World) :
    Calls Try.prog 31 #[.pointer (some ⟨xb, 0, none⟩), .int .i64 i, .slice p n c] W fun e w' => e = .returned (stepV W.heap.size (W.heap.size + 3) (W.heap.size + 2) (W.heap.size + 1)) ∧ Below W.heap.size W w' ∧ w'.heap.size = W.heap.size + 4 ∧
      Bl w' W.heap.size (.cells #[.pointer (some ⟨xb, 0, none⟩)] 37 (0, 0)) ∧ Bl w' (W.heap.size + 1) (.cells #[.int .i64 i] 3 (0, 0)) ∧ Bl w' (W.heap.size + 2) (.cells #[.slice p n c] 47 (0, 0)) ∧ Bl w' (W.heap.size + 3) (.cells #[.int .i64 (0 : Nat)] 3 (0, 0)) := by
  have hmf : ∀ (fn : Fn) (first cap : Array Value) (w : World), (Instr.makeFunc fn first cap).run Try.prog w = .ok (.func fn first cap) w := fun _ _ _ _ => rfl
  go_enter Try.func31, Try.ntmps31
  go_wp2_with fail
  go_ret
  refine ⟨rfl, (((((Below.refl _ _).alloc (Nat.le_refl _) _).alloc (by simp) _).alloc (by simp; omega) _).alloc (by simp; omega) _), by simp, ?_, ?_, ?_, ?_⟩
  · exact (((Bl.new' rfl).alloc _).alloc _).alloc _
  · exact ((Bl.new' (by simp)).alloc _).alloc _
  · exact (Bl.new' (by simp)).alloc _
  · exact Bl.new' (by simp)
theorem PX.spawn {W W1 W2 : World} {base b mb xb x i X A L T c : Nat} {dv v v' : Value} {s : SS} {tv : Value} {told : List Int} {bad : Bool} {ats : List Nat} {ls : List (List (Int × Int))} {tag : Nat → Nat} {l : List (Int × Int)} {p : Option Addr} (h : PX W base b mb xb dv v s tv told bad ats ls tag) (hi : s.ts.length = i)
    (hB : Below W.heap.size W W1) (hX : Bl W1 X (.cells #[.pointer (some ⟨xb, 0, none⟩)] 37 (0, 0))) (hT : Bl W1 T (.cells #[.int .i64 i] 3 (0, 0))) (hL : Bl W1 L (.cells #[.slice p l.length c] 47 (0, 0))) (hA : Bl W1 A (.cells #[.int .i64 (0 : Nat)] 3 (0, 0)))
    (zX : W.heap.size ≤ X) (zA : W.heap.size ≤ A) (zL : W.heap.size ≤ L) (zT : W.heap.size ≤ T) (nX : X ≠ A) (nL : L ≠ A) (nT : T ≠ A) (hrd : Rd W 2 p l.length (l.flatMap dsC)) (hp : ∀ q, p = some q → 0 < l.length → tag q.block = 3 ∧ q.block < W.heap.size)
    {nm : Value} (hS : SH W2 base b mb v' { s with bs := s.bs ++ [x], ts := s.ts ++ [{ nm := nm, st := stepV X A L T, kd := 0, on := 0, si := 0, od := 0, fl := false }] }) (hf : Fr (foot b mb v s) W1 W2) (hx : W1.heap.size ≤ x) (hv : v'.ownBlock = v.ownBlock ∨ ∃ k, v'.ownBlock = some k ∧ W1.heap.size ≤ k) :
    ∃ tag', PX W2 base b mb xb dv v' { s with bs := s.bs ++ [x], ts := s.ts ++ [{ nm := nm, st := stepV X A L T, kd := 0, on := 0, si := 0, od := 0, fl := false }] } tv told bad (ats ++ [0]) (ls ++ [l]) tag' ∧ ∀ k, k < W.heap.size → tag' k = tag k := by
  let tag' : Nat → Nat := fun k => if k < W.heap.size then tag k else if k = A then 4 + i else if k < W1.heap.size then 3 else 0
  have htag : ∀ k, k < W.heap.size → tag' k = tag k := fun k hk => if_pos hk
  have h1 := (h.retag htag).keep hB
  have hz := hB.size
  have t3 : ∀ {k : Nat}, W.heap.size ≤ k → k ≠ A → k < W1.heap.size → tag' k = 3 := fun a c d => by
    show (if _ < W.heap.size then _ else if _ = A then _ else if _ < W1.heap.size then 3 else 0) = 3
    rw [if_neg (by omega), if_neg c, if_pos d]
  have tA : tag' A = 4 + i := by
    show (if A < W.heap.size then _ else if A = A then 4 + i else _) = 4 + i
    rw [if_neg (by omega), if_pos rfl]
  have t0 : ∀ {k : Nat}, W1.heap.size ≤ k → tag' k = 0 := fun {k} a => by
    have hAl := hA.lt
    show (if k < W.heap.size then _ else if k = A then _ else if k < W1.heap.size then 3 else 0) = 0
    rw [if_neg (by omega), if_neg (by omega), if_neg (by omega)]
  have hFt : ∀ k, foot b mb v s k → tag' k = 0 := h1.fT
  refine ⟨tag', ⟨hS, h1.x.fr hf (fun f => by have := hFt _ f; have := h1.xT; omega), h1.told.fr hf (fun k e f => by have := hFt _ f; have := h1.tT k e; omega), ?_, h1.xT, h1.tT, h1.xlo, by simp [h.len], by simp [h.lena], ?_⟩, htag⟩
  · intro k hk
    rcases hk with e | e | e | e
    · exact hFt k (.inl e)
    · exact hFt k (.inr (.inl e))
    · rcases List.mem_append.1 e with e | e
      · exact hFt k (.inr (.inr (.inl e)))
      · simp at e; subst e; exact t0 hx
    · rcases hv with hv | ⟨j, hv, hj⟩
      · rw [hv] at e; exact hFt k (.inr (.inr (.inr e)))
      · rw [hv] at e; injection e with e; subst e; exact t0 hj
  · intro j t ht
    simp only at ht
    by_cases hj : j < s.ts.length
    · rw [List.getElem?_append_left hj] at ht
      obtain ⟨X2, A2, L2, T2, l2, at2, a1, a2, a3, a4⟩ := h1.tk j t ht
      exact ⟨X2, A2, L2, T2, l2, at2, a1, by rw [List.getElem?_append_left (by rw [h.len]; exact hj)]; exact a2, by rw [List.getElem?_append_left (by rw [h.lena]; exact hj)]; exact a3, a4.fr hf (fun k hk _ => by have := hFt k hk; omega)⟩
    · have hjl := (List.getElem?_eq_some_iff.1 ht).1
      simp at hjl
      obtain rfl : j = s.ts.length := by omega
      rw [List.getElem?_append_right (Nat.le_refl _), Nat.sub_self] at ht
      simp only [List.getElem?_cons_zero, Option.some.injEq] at ht
      subst ht
      have hlo := h.sh.lob
      have hbl := h.sh.ld.lt
      have hTX : TX W1 base xb s.ts.length 0 l tag' X A L T := by
        rw [hi]
        exact ⟨hX, hA, ⟨p, c, hL, hrd.keep hB, fun q e h0 => ⟨by rw [htag _ (hp q e h0).2]; exact (hp q e h0).1, Nat.lt_of_lt_of_le (hp q e h0).2 hz⟩⟩, hT, t3 zX nX hX.lt, tA, t3 zL nL hL.lt, t3 zT nT hT.lt, by omega⟩
      exact ⟨X, A, L, T, l, 0, rfl, by rw [List.getElem?_append_right (Nat.le_of_eq h.len), h.len, Nat.sub_self]; rfl, by rw [List.getElem?_append_right (Nat.le_of_eq h.lena), h.lena, Nat.sub_self]; rfl, hTX.fr hf (fun k hk _ => by have := hFt k hk; omega)⟩
/-- lists of lists of what is done, in memory. -/
structure DL (w : World) (vs : List Value) (ls : List (List (Int × Int))) : Prop where
  len : vs.length = ls.length
  at' : ∀ (i : Nat) (l : List (Int × Int)), ls[i]? = some l → ∃ p c, vs[i]? = some (.slice p l.length c) ∧ Rd w 2 p l.length (l.flatMap dsC) ∧ ∀ q, p = some q → 0 < l.length → q.block < w.heap.size
/-- tasks as they begin. -/
def newT (ts : List Tk) : Prop := ∀ t ∈ ts, t.kd = 0 ∧ t.on = 0 ∧ t.si = 0 ∧ t.od = 0 ∧ t.fl = false
theorem begins_gen (tg0 : Nat → Nat) (A : Option Addr) (c : Nat) (vs : List Value) (ls : List (List (Int × Int))) (w : World) (hr : Rd w 1 A ls.length vs) (hd : DL w vs ls) (h30 : ∀ (i : Nat) (l : List (Int × Int)) (p : Option Addr) (c : Nat) (q : Addr), ls[i]? = some l → vs[i]? = some (.slice p l.length c) → p = some q → 0 < l.length → tg0 q.block = 3) (hll : ls.length ≤ maxLen) :
    Calls Try.prog 15 #[.slice A ls.length c] w fun e w' => ∃ (b mb xb : Nat) (dv v : Value) (s : SS) (tag : Nat → Nat), e = .returned (.pointer (some ⟨xb, 0, none⟩)) ∧
      PX w' w.heap.size b mb xb dv v s (.slice none 0 0) [] false (List.replicate (min ls.length 64) 0) (ls.take 64) tag ∧ newT s.ts ∧ s.lk = [] ∧ s.steps = 0 ∧ s.wishes = 0 ∧ s.within = false ∧ s.ts.length = min ls.length 64 ∧ (∀ k, k < w.heap.size → tag k = tg0 k) ∧ Below w.heap.size w w' := by
  unfold maxLen at hll
  go_enter Try.func15, Try.ntmps15
  go_upto_region 2 with (first
    | (go_at_call 9; refine (new_any _).mono ?_; rintro e w2 ⟨b, mb, rfl, hS2, hB2⟩; replace hS2 := Lib.hid hS2; replace hB2 := Lib.hid hB2; unfold ptr))
  obtain ⟨w3, hw3⟩ : ∃ w3, (w2.alloc (.cells #[.slice none 0 0, .slice none 0 0, .int .i64 0, .int .i64 0, .slice none 0 0] 61)).alloc (.cells #[.pointer (some ⟨b, 0, none⟩), .pointer (some ⟨w2.heap.size, 0, none⟩), .slice none 0 0, .bool false] 41) = w3 := ⟨_, rfl⟩
  have hB3 : Below w2.heap.size w2 w3 := by rw [← hw3]; exact ((Below.refl _ _).alloc (Nat.le_refl _) _).alloc (by simp) _
  have hx3 : Bl w3 (w2.heap.size + 1) (.cells #[ptr b, .pointer (some ⟨w2.heap.size, 0, none⟩), .slice none 0 0, .bool false] 41 (0, 0)) := by rw [← hw3]; exact Bl.new' (by simp)
  rw [hw3]
  obtain ⟨xb, hxb⟩ : ∃ xb, w2.heap.size + 1 = xb := ⟨_, rfl⟩
  rw [hxb] at hx3 ⊢
  have hz2 := hB2.out.size
  have hW3 := Lib.hid (below_then hB2.out hB3)
  have hlo := hS2.out.lo
  have hx0 : PX w3 w.heap.size b mb xb (.pointer (some ⟨w2.heap.size, 0, none⟩)) (.slice none 0 0) S0 (.slice none 0 0) [] false [] [] (fun k => if k < w.heap.size then tg0 k else if k = xb then 1 else 0) := by
    refine ⟨hS2.out.keep hB3, hx3, OW.nil _ _ _, fun k hk => ?_, ?_, fun k e => by simp [Value.ownBlock] at e, by omega, rfl, rfl, fun i t ht => by simp [S0] at ht⟩
    · have := hlo k hk
      show (if k < w.heap.size then tg0 k else if k = xb then 1 else 0) = 0
      rw [if_neg (by omega), if_neg (by omega)]
    · show (if xb < w.heap.size then tg0 xb else if xb = xb then 1 else 0) = 1
      rw [if_neg (by omega), if_pos rfl]
  have e0 : w3.cell? ⟨xb, 0, none⟩ = some (ptr b) := hx3.cell 0
  unfold ptr at e0
  replace hx0 := Lib.hid hx0
  replace hd := Lib.hid hd
  replace h30 := Lib.hid h30
  clear hw3 hx3 hS2 hB3 hlo
  go_wp2_with fail
  clear e0
  go_loopw [4] (fun i wr => ∃ (k : Nat) (s : SS) (v : Value) (tag : Nat → Nat), i = .int .i64 k ∧ k ≤ ls.length ∧ k ≤ 64 ∧ PX wr w.heap.size b mb xb (.pointer (some ⟨w2.heap.size, 0, none⟩)) v s (.slice none 0 0) [] false (List.replicate k 0) (ls.take k) tag ∧ (∀ j, j < w.heap.size → tag j = tg0 j) ∧ newT s.ts ∧ s.lk = [] ∧ s.steps = 0 ∧ s.wishes = 0 ∧ s.within = false ∧ s.ts.length = k ∧ Below w.heap.size w wr) (fun i _ => ls.length - (intOf i).toNat)
  case atStart => exact ⟨0, S0, _, _, rfl, Nat.zero_le _, by omega, hx0.out, fun j hj => if_pos hj, fun t ht => by simp [S0] at ht, rfl, rfl, rfl, rfl, rfl, hW3.out⟩
  case round =>
    obtain ⟨k, s, v, tag, rfl, hk, hk64, hP, htag, hnew, hs0, hs1, hs2, hs3, hs4, hB⟩ := hrel
    by_cases hlt : k < ls.length
    · by_cases hlt2 : k < 64
      · obtain ⟨l, hl⟩ : ∃ l, ls[k]? = some l := ⟨_, List.getElem?_eq_getElem hlt⟩
        obtain ⟨p, pc, hv, hrd, hpb⟩ := hd.out.at' k l hl
        have h3q : ∀ q, p = some q → 0 < l.length → tg0 q.block = 3 := fun q e h0 => h30.out k l p pc q hl hv e h0
        replace h3q := Lib.hid h3q
        obtain ⟨g1, o1, u1, rfl, hu1, r1⟩ := (hr.keep hB).at1 hlt
        obtain rfl : u1 = .slice p l.length pc := by rw [hv] at hu1; exact (Option.some.inj hu1).symm
        have r1' : wr.drew.cell? ⟨g1, o1 + k, none⟩ = some (.slice p l.length pc) := r1
        have x0 : wr.cell? ⟨xb, 0, none⟩ = some (.pointer (some ⟨b, 0, none⟩)) := hP.x.cell 0
        have x0' : wr.drew.cell? ⟨xb, 0, none⟩ = some (.pointer (some ⟨b, 0, none⟩)) := x0
        have hmk := Lib.hid (fun W => mkstep_any xb k p l.length pc W)
        have hbl : s.bs.length < 64 := by have := hP.sh.len; omega
        have htk : ls.take (k + 1) = ls.take k ++ [l] := by rw [List.take_add_one, hl]; rfl
        have hrp : List.replicate (k + 1) (0 : Nat) = List.replicate k 0 ++ [0] := by rw [List.replicate_succ']
        have hwz := hB.size
        replace htk := Lib.hid htk
        replace hrp := Lib.hid hrp
        replace hP := Lib.hid hP
        replace hB := Lib.hid hB
        replace htag := Lib.hid htag
        replace hnew := Lib.hid hnew
        replace hrd := Lib.hid hrd
        replace hpb := Lib.hid hpb
        clear hu1 hv hl
        go_upto_region 7 with (fail)
        rw [show Op.load 24 (Operand.tmp 30) = id (Op.load 24 (Operand.tmp 30)) from rfl, show Op.load 47 (Operand.tmp 36) = id (Op.load 47 (Operand.tmp 36)) from rfl]
        go_region_held3 (fun _ => True) (exact trivial) ((first
          | (go_at_call 31; refine (hmk.out _).mono ?_; rintro e w5 ⟨rfl, hB5, hz5, bX, bT, bL, bA⟩; have y0 : w5.cell? ⟨xb, 0, none⟩ = some (.pointer (some ⟨b, 0, none⟩)) := cell_keep hB5 x0'; have hB5' := Lib.hid (show Below wr.heap.size wr w5 from below_then (Below.refl _ _).drew hB5); replace bX := Lib.hid bX; replace bT := Lib.hid bT; replace bL := Lib.hid bL; replace bA := Lib.hid bA; clear hB5)
          | (go_at_call 10; refine (spawn_any _ b mb _ { data := #[116] } _ v s w5 (hP.out.sh.keep hB5'.out) hbl).mono ?_; rintro e w6 ⟨v6, x6, rfl, hS6, hf6, hx6, hv6⟩; obtain ⟨tag6, hP6, ht6⟩ := hP.out.spawn hs4 hB5'.out bX.out bT.out bL.out bA.out (by simp) (by simp) (by simp) (by simp) (by simp) (by simp) (by simp) ((hrd.out.keep hB.out)) (fun q e h0 => ⟨(htag.out _ (hpb.out q e h0)).trans (h3q.out q e h0), Nat.lt_of_lt_of_le (hpb.out q e h0) hwz⟩) hS6 hf6 hx6 hv6; replace hP6 := Lib.hid hP6; replace ht6 := Lib.hid ht6; have hf6' := Lib.hid hf6; clear hS6 hf6 hx6 hv6)))
        all_goals go_wp2_with fail
        all_goals go_roundw
        all_goals (first
          | (simp only [intOf]; omega)
          | (refine ⟨k + 1, { s with bs := s.bs ++ [x6], ts := s.ts ++ [{ nm := .string { data := #[116] }, st := stepV wr.drew.heap.size (wr.drew.heap.size + 3) (wr.drew.heap.size + 2) (wr.drew.heap.size + 1), kd := 0, on := 0, si := 0, od := 0, fl := false }] }, v6, tag6, by go_num, by omega, by omega, by rw [hrp.out, htk.out]; exact hP6.out, fun j hj => by rw [ht6.out j (by omega)]; exact htag.out j hj, fun t ht => ?_, hs0, hs1, hs2, hs3, by simp only [List.length_append, List.length_singleton]; omega, (hB.out.trans (hB5'.out.mono hB.out.size)).trans (hf6'.out.below (by have := hB5'.out.size; omega) (fun q hq hfq => by have := (hP.out.sh.lo q hfq).1; omega))⟩
             rcases List.mem_append.1 ht with e | e
             · exact hnew.out t e
             · simp at e; subst e; exact ⟨rfl, rfl, rfl, rfl, rfl⟩))
      · obtain rfl : k = 64 := by omega
        have hm : min ls.length 64 = 64 := by omega
        replace hP := Lib.hid hP
        replace hB := Lib.hid hB
        replace hm := Lib.hid hm
        go_wp2_with fail
        go_ret
        exact ⟨b, mb, xb, _, v, s, tag, rfl, by rw [hm.out]; exact hP.out, hnew, hs0, hs1, hs2, hs3, by rw [hm.out]; exact hs4, htag, hB.out⟩
    · obtain rfl : k = ls.length := by omega
      have hm : min ls.length 64 = ls.length := by omega
      have ht : ls.take 64 = ls := List.take_of_length_le (by omega)
      rw [List.take_length] at hP
      replace hP := Lib.hid hP
      replace hB := Lib.hid hB
      replace hm := Lib.hid hm
      replace ht := Lib.hid ht
      go_wp2_with fail
      go_ret
      exact ⟨b, mb, xb, _, v, s, tag, rfl, by rw [hm.out, ht.out]; exact hP.out, hnew, hs0, hs1, hs2, hs3, by rw [hm.out]; exact hs4, htag, hB.out⟩
theorem begins_any (A : Option Addr) (c : Nat) (vs : List Value) (ls : List (List (Int × Int))) (w : World) (hr : Rd w 1 A ls.length vs) (hd : DL w vs ls) (hll : ls.length ≤ maxLen) :
    Calls Try.prog 15 #[.slice A ls.length c] w fun e w' => ∃ (b mb xb : Nat) (dv v : Value) (s : SS) (tag : Nat → Nat), e = .returned (.pointer (some ⟨xb, 0, none⟩)) ∧
      PX w' w.heap.size b mb xb dv v s (.slice none 0 0) [] false (List.replicate (min ls.length 64) 0) (ls.take 64) tag ∧ newT s.ts ∧ s.lk = [] ∧ s.steps = 0 ∧ s.wishes = 0 ∧ s.within = false ∧ s.ts.length = min ls.length 64 ∧ (∀ k, k < w.heap.size → tag k = 3) ∧ Below w.heap.size w w' :=
  begins_gen (fun _ => 3) A c vs ls w hr hd (fun _ _ _ _ _ _ _ _ _ => rfl) hll
end Go.Proofs.Ytcdhmjapeapicaa
