/- The law of rates: its walk. -/
import Derived.Test.YtefeompdhalgcaaProg
import Derived.RangeFuncNested
import Derived.RangeFuncBound
import Derived.RangeFuncCalls
import Derived.RangeFuncLeaves
import Derived.Shelf.Abstract
import Derived.Shelf.RegionOpen
import Derived.WalkKit
import Derived.OwnWalkIn
import Derived.TacticsInMore
import Derived.LoopNIn
import Derived.LoopIn
import Derived.Lib.Hide
import Derived.Outline
import Derived.RegionTactic
import Derived.BigRegion
import Derived.WalkLawsBesides
import Derived.WalkSpells
import Derived.Deep.QuietTactic
import Derived.BigQuiet
import Derived.Deep.RegionHeld3
import Derived.Lib.Bytealg
import Derived.Lib.ConvBytes
import Derived.Laws.BytesArg
import Derived.Test.YtefeompdhalgcaaSed
import Derived.Test.YtefeompdhalgcaaOwn
import Derived.Deep.DeepCutAuto
import Derived.Deep.CutBlock
import Derived.StillTailTactics
import Derived.WalkSmall
import Derived.Test.YtefeompdhalgcaaStallF
import Derived.Test.YtefeompdhalgcaaArg
namespace Go.Proofs.Ytefeompdhalgcaa
open Go.RowKit Go.Sed
set_option maxHeartbeats 1000000
/-- an act: its kind, who, how many, urgent? -/
abbrev A4 := Int × Int × Int × Bool
def fa (l : List A4) : List Value := l.flatMap fun a => [.int .i64 a.1, .int .i64 a.2.1, .int .u64 a.2.2.1, .bool a.2.2.2]
theorem fa_cells {w : World} {p : Option Addr} {l : List A4} (h : Rd w 4 p l.length (fa l)) {k : Nat} {a : A4} (hk : l[k]? = some a) :
    ∃ b o, p = some ⟨b, o, none⟩ ∧ w.cell? ⟨b, o + k * 4, none⟩ = some (.int .i64 a.1) ∧ w.cell? ⟨b, o + k * 4 + 1, none⟩ = some (.int .i64 a.2.1) ∧ w.cell? ⟨b, o + k * 4 + 2, none⟩ = some (.int .u64 a.2.2.1) ∧ w.cell? ⟨b, o + k * 4 + 3, none⟩ = some (.bool a.2.2.2) := by
  have hl := (List.getElem?_eq_some_iff.1 hk).1
  obtain ⟨b, o, rfl, hc⟩ := h.2 (by omega)
  refine ⟨b, o, rfl, ?_, ?_, ?_, ?_⟩
  · exact hc (k * 4 + 0) _ (by unfold fa; rw [flat_at _ 4 (fun _ => rfl) l k 0 a hk (by decide)]; rfl)
  · exact hc (k * 4 + 1) _ (by unfold fa; rw [flat_at _ 4 (fun _ => rfl) l k 1 a hk (by decide)]; rfl)
  · exact hc (k * 4 + 2) _ (by unfold fa; rw [flat_at _ 4 (fun _ => rfl) l k 2 a hk (by decide)]; rfl)
  · exact hc (k * 4 + 3) _ (by unfold fa; rw [flat_at _ 4 (fun _ => rfl) l k 3 a hk (by decide)]; rfl)
theorem fa_at {w : World} {b o : Nat} {l : List A4} (h : Rd w 4 (some ⟨b, o, none⟩) l.length (fa l)) {k : Nat} {a : A4} (hk : l[k]? = some a) :
    w.cell? ⟨b, o + k * 4, none⟩ = some (.int .i64 a.1) ∧ w.cell? ⟨b, o + k * 4 + 1, none⟩ = some (.int .i64 a.2.1) ∧ w.cell? ⟨b, o + k * 4 + 2, none⟩ = some (.int .u64 a.2.2.1) ∧ w.cell? ⟨b, o + k * 4 + 3, none⟩ = some (.bool a.2.2.2) := by
  obtain ⟨b', o', e, h⟩ := fa_cells h hk
  simp only [Option.some.injEq, Addr.mk.injEq, and_true] at e
  obtain ⟨rfl, rfl⟩ := e
  exact h
theorem u64_wf {i : Int} (h : 0 ≤ i ∧ i < 18446744073709551616) : (Lit.int .u64 i).wf = true := by
  simp [Lit.wf, IntKind.min, IntKind.max, IntKind.signed, IntKind.bits]; omega
/-- an entry of the map. -/
def ent (a : A3) : Int × Lit := (a.1, .int .u64 a.2.1)
structure RJ (w0 : World) (b bm : Nat) (r bu : Int) (vw : Value) (k : Nat) (le : Int) (U O : List A3) (row : Int) (went : List Int) (W : World) : Prop where
  lx : LX W b r bu le U O row (fun x => x < b ∨ x = bm ∨ vw.ownBlock = some x)
  mp : Mp Try.prog 3 29 W bm ((U ++ O).map ent)
  wow : OW W (b + 1) 1 vw went.length (went.map (Value.int .u64))
  ne : vw.ownBlock ≠ some bm
  below : Below w0.heap.size w0 W
  base : w0.heap.size ≤ b ∧ b < bm
  pl : RP r bu k le U O row went
theorem RJ.lt {w0 W : World} {b bm : Nat} {r bu le row : Int} {vw : Value} {k : Nat} {U O : List A3} {went : List Int} (h : RJ w0 b bm r bu vw k le U O row went W) : ∀ x, (x < b ∨ x = bm ∨ vw.ownBlock = some x) → x < W.heap.size := by
  rintro x (hx | rfl | hx)
  · have := h.lx.lt; omega
  · exact h.mp.lt
  · exact (h.wow.lt _ hx).2
theorem RJ.keep {w0 W W' : World} {b bm : Nat} {r bu le row : Int} {vw : Value} {k : Nat} {U O : List A3} {went : List Int} (h : RJ w0 b bm r bu vw k le U O row went W) (hB : Below W.heap.size W W') : RJ w0 b bm r bu vw k le U O row went W' :=
  ⟨h.lx.keep hB, h.mp.keep hB, h.wow.keep hB, h.ne, h.below.trans (hB.mono h.below.size), h.base, h.pl⟩
theorem RJ.mid {w0 W W' : World} {b bm : Nat} {r bu le row : Int} {vw : Value} {k : Nat} {U O : List A3} {went : List Int} (h : RJ w0 b bm r bu vw k le U O row went W) (hf : Fr (fun x => ¬ (x < b ∨ x = bm ∨ vw.ownBlock = some x)) W W') :
    Mp Try.prog 3 29 W' bm ((U ++ O).map ent) ∧ OW W' (b + 1) 1 vw went.length (went.map (Value.int .u64)) ∧ Below w0.heap.size w0 W' :=
  ⟨h.mp.fr hf (fun e => e (.inr (.inl rfl))), h.wow.fr hf (fun x e e' => e' (.inr (.inr e))), h.below.trans (hf.below h.below.size (fun i hi e => e (.inl (by have := h.base; omega))))⟩
theorem RJ.fresh {w0 W : World} {b bm : Nat} {r bu le row : Int} {vw : Value} {k : Nat} {U O : List A3} {went : List Int} (h : RJ w0 b bm r bu vw k le U O row went W) : ∀ p, p ∈ (U ++ O).map ent → p.1 ≠ (k : Int) := by
  intro p hp
  simp only [List.mem_map] at hp
  obtain ⟨a, ha, rfl⟩ := hp
  have := h.pl.all a ha
  simp only [ent]; omega
theorem ent_perm (k n : Int) (ur : Bool) (U O : List A3) : ((k, Lit.int .u64 n) :: (U ++ O).map ent).Perm (((if ur then U ++ [(k, n, ur)] else U) ++ (if ur then O else O ++ [(k, n, ur)])).map ent) := by
  have : ((if ur then U ++ [(k, n, ur)] else U) ++ (if ur then O else O ++ [(k, n, ur)])).Perm ((k, n, ur) :: (U ++ O)) := by
    cases ur
    · simp only [Bool.false_eq_true, if_false]
      rw [← List.append_assoc]
      exact List.perm_append_singleton _ _
    · simp only [if_true]
      rw [List.append_assoc]
      exact List.perm_middle
  exact (this.map ent).symm
theorem RJ.put {w0 W W' W'' : World} {b bm : Nat} {r bu le row n : Int} {vw : Value} {k : Nat} {U O : List A3} {went : List Int} {ur : Bool} (h : RJ w0 b bm r bu vw k le U O row went W) (hf : Fr (fun x => ¬ (x < b ∨ x = bm ∨ vw.ownBlock = some x)) W W')
    (hl : LX W' b r bu le (if ur then U ++ [((k : Int), n, ur)] else U) (if ur then O else O ++ [((k : Int), n, ur)]) row (fun x => x < b ∨ x = bm ∨ vw.ownBlock = some x)) (hm : Mp Try.prog 3 29 W'' bm (((k : Int), Lit.int .u64 n) :: (U ++ O).map ent)) (hg : W'.grownBy W'' (some bm))
    (hn : 0 ≤ n ∧ n ≤ bu) (hl2 : U.length + O.length < 4096) : RJ w0 b bm r bu vw (k + 1) le (if ur then U ++ [((k : Int), n, ur)] else U) (if ur then O else O ++ [((k : Int), n, ur)]) row went W'' := by
  obtain ⟨-, h2, h3⟩ := h.mid hf
  have hF : Fr (fun x => x = bm) W' W'' := (Fr.refl _ _).grown hg (fun x e _ => by simpa using e.symm)
  refine ⟨hl.fr hF (fun x _ e => .inr (.inl e)), hm.perm (ent_perm _ _ _ _ _), h2.fr hF (fun x e e' => h.ne (by rw [e, e'])), h.ne, h3.trans (hF.below h3.size (fun i hi e => by have := h.base; omega)), h.base, h.pl.ask n ur hn hl2⟩
theorem RJ.next {w0 W : World} {b bm : Nat} {r bu le row : Int} {vw : Value} {k : Nat} {U O : List A3} {went : List Int} (h : RJ w0 b bm r bu vw k le U O row went W) : RJ w0 b bm r bu vw (k + 1) le U O row went W :=
  ⟨h.lx, h.mp, h.wow, h.ne, h.below, h.base, h.pl.next⟩
/-- among those who go: j of them are struck out. -/
structure KJ (w0 : World) (b bm : Nat) (r bu : Int) (vw vo : Value) (g : List A3) (j : Nat) (le : Int) (U O : List A3) (row : Int) (went : List Int) (W : World) : Prop where
  lx : LX W b r bu le U O row (fun x => x < b ∨ x = bm ∨ vw.ownBlock = some x)
  mp : Mp Try.prog 3 29 W bm ((g.drop j ++ (U ++ O)).map ent)
  wow : OW W (b + 1) 1 vw went.length (went.map (Value.int .u64))
  who : OW W (b + 1) 1 vo g.length (g.map fun a => Value.int .i64 a.1)
  ne : vw.ownBlock ≠ some bm
  nw : vo.ownBlock ≠ some bm
  below : Below w0.heap.size w0 W
  base : w0.heap.size ≤ b ∧ b < bm
theorem KJ.alloc {w0 W : World} {b bm : Nat} {r bu le row : Int} {vw vo : Value} {j : Nat} {U O g : List A3} {went : List Int} (h : KJ w0 b bm r bu vw vo g j le U O row went W) (o : Obj) :
    KJ w0 b bm r bu vw vo g j le U O row went (W.alloc o) := by
  have hB : Below W.heap.size W (W.alloc o) := (Below.refl _ _).alloc (Nat.le_refl _) _
  exact ⟨h.lx.keep hB, h.mp.keep hB, h.wow.keep hB, h.who.keep hB, h.ne, h.nw, h.below.trans (hB.mono h.below.size), h.base⟩
theorem infoU64 : (Try.prog.info? 29).map (fun i => (i.zero, i.size, i.bytes)) = some (some (.int .u64 0), 1, 8) := by kernel_rfl
theorem RJ.step {w0 W W' : World} {b bm : Nat} {r bu le le' row row' : Int} {vw vo : Value} {k : Nat} {U O U' O' g : List A3} {went : List Int} (h : RJ w0 b bm r bu vw k le U O row went W) (hf : Fr (fun x => ¬ (x < b ∨ x = bm ∨ vw.ownBlock = some x)) W W')
    (hl : LX W' b r bu le' U' O' row' (fun x => (x < b ∨ x = bm ∨ vw.ownBlock = some x) ∨ vo.ownBlock = some x)) (ho : OW W' W.heap.size 1 vo (g.map (·.1)).length ((g.map (·.1)).map (Value.int .i64))) (hp : (U ++ O).Perm (g ++ (U' ++ O'))) :
    KJ w0 b bm r bu vw vo g 0 le' U' O' row' went W' := by
  obtain ⟨h1, h2, h3⟩ := h.mid hf
  have hbm := h.mp.lt
  have hlb := h.lx.lt
  refine ⟨hl.mono (fun x _ e => .inl e), h1.perm (hp.map ent), h2, ?_, h.ne, ?_, h3, h.base⟩
  · have := ho.more (base' := b + 1) (by omega)
    simpa [List.map_map, Function.comp_def] using this
  · intro e
    have := (ho.lt _ e).1
    omega
theorem KJ.del {w0 W W' : World} {b bm : Nat} {r bu le row : Int} {vw vo : Value} {j : Nat} {U O g : List A3} {went : List Int} (h : KJ w0 b bm r bu vw vo g j le U O row went W) (hm : Mp Try.prog 3 29 W' bm ((g.drop (j + 1) ++ (U ++ O)).map ent)) (hg : W.grownBy W' (some bm)) :
    KJ w0 b bm r bu vw vo g (j + 1) le U O row went W' := by
  have hF : Fr (fun x => x = bm) W W' := (Fr.refl _ _).grown hg (fun x e _ => by simpa using e.symm)
  exact ⟨h.lx.fr hF (fun x _ e => .inr (.inl e)), hm, h.wow.fr hF (fun x e e' => h.ne (by rw [e, e'])), h.who.fr hF (fun x e e' => h.nw (by rw [e, e'])), h.ne, h.nw, h.below.trans (hF.below h.below.size (fun i hi e => by have := h.base; omega)), h.base⟩
theorem KJ.done {w0 W W' : World} {b bm : Nat} {r bu le row x : Int} {vw vw' vo : Value} {k : Nat} {U O g : List A3} {went : List Int} (h : KJ w0 b bm r bu vw vo g g.length le U O row went W)
    (hown : OW W' (b + 1) 1 vw' (went.length + 1) (went.map (Value.int .u64) ++ [Value.int .u64 x])) (hg : W.grownBy W' vw.ownBlock) (hc : vw'.ownBlock = vw.ownBlock ∨ vw'.ownBlock = some W.heap.size) (hp : RP r bu k le U O row (went ++ [x])) :
    RJ w0 b bm r bu vw' k le U O row (went ++ [x]) W' := by
  have hF : Fr (fun x => vw.ownBlock = some x) W W' := (Fr.refl _ _).grown hg (fun x e _ => e)
  have hlt := h.wow.lt
  have hbm := h.mp.lt
  refine ⟨((h.lx.mono (A' := fun x => (x < b ∨ x = bm ∨ vw.ownBlock = some x) ∨ W.heap.size ≤ x) ?_).fr hF ?_).mono ?_, ?_, by simpa using hown, ?_, h.below.trans (hF.below h.below.size (fun i hi e => by have := (hlt _ e).1; have := h.base; omega)), h.base, hp⟩
  · rintro y hy (e | e)
    · exact e
    · omega
  · exact fun y hy e => .inl (.inr (.inr e))
  · rintro y hy (e | e | e)
    · exact .inl (.inl e)
    · exact .inl (.inr (.inl e))
    · rcases hc with hc | hc
      · exact .inl (.inr (.inr (hc ▸ e)))
      · rw [hc] at e; simp only [Option.some.injEq] at e; exact .inr (by omega)
  · have := h.mp.fr hF h.ne
    simpa using this
  · intro e
    rcases hc with hc | hc
    · exact h.ne (hc ▸ e)
    · rw [hc] at e; simp only [Option.some.injEq] at e; omega
theorem drop_cons {α : Type} {l : List α} {j : Nat} {a : α} (h : l[j]? = some a) : l.drop j = a :: l.drop (j + 1) := by
  obtain ⟨hl, rfl⟩ := List.getElem?_eq_some_iff.1 h
  exact List.drop_eq_getElem_cons hl
theorem gs_append (a b : List A3) : gs (a ++ b) = gs a + gs b := by simp [gs]
theorem gs_take {g : List A3} {j : Nat} {a : A3} (h : g[j]? = some a) : gs (g.take (j + 1)) = gs (g.take j) + a.2.1 := by
  obtain ⟨hl, rfl⟩ := List.getElem?_eq_some_iff.1 h
  rw [List.take_succ_eq_append_getElem hl, gs_append]
  congr 1
  simp [gs]
theorem gs_le {g : List A3} (h : ∀ a, a ∈ g → 0 ≤ a.2.1) (j : Nat) : gs (g.take j) ≤ gs g := by
  have h1 : gs g = gs (g.take j) + gs (g.drop j) := by
    conv => lhs; rw [← List.take_append_drop j g]
    exact gs_append _ _
  have := gs_nonneg (g := g.drop j) (fun a ha => h a (List.mem_of_mem_drop ha))
  omega
theorem zero64 (w : World) : (zeroValue 29).run Try.prog w = .ok (.int .u64 0) w := by kernel_rfl
theorem zero64d : plainElem (H := Unit) Try.prog 29 (.int .u64 0) = some (.lit (.int .u64 0), []) := plainElem_int Try.underlying29 rfl
set_option maxRecDepth 100000 in
theorem rate_walk (r bu : Int) (p : Option Addr) (c : Nat) (acts : List A4) (w : World) (hr : 0 ≤ r ∧ r ≤ 4294967295) (hb : 0 ≤ bu ∧ bu ≤ 4294967295) (ha : Rd w 4 p acts.length (fa acts)) (hc : acts.length ≤ c) (hn : acts.length ≤ 1048576)
    (hby : ∀ a, a ∈ acts → 0 ≤ a.2.2.1 ∧ a.2.2.1 < 18446744073709551616) :
    Calls Try.prog 3 #[.int .u32 r, .int .u32 bu, .slice p acts.length c] w fun e w' => e = .returned (.bool true) ∧ Below w.heap.size w w' := by
  by_cases hok : r = 0 ∨ bu = 0 ∨ bu < r
  · go_enter Try.func3, Try.ntmps3
    go_wp2_with (first
      | (go_at_call 8; refine (lives_any _).mono ?_; rintro e wo ⟨rfl, hBo⟩)
      | (go_at_call 9; refine (new_no _ _ _ hok).mono ?_; rintro e wo ⟨rfl, rfl⟩))
    go_ret
    exact ⟨rfl, hBo⟩
  · have h1 : (r == 0) = false := by rw [beq_eq_false_iff_ne]; omega
    have h2 : (bu == 0) = false := by rw [beq_eq_false_iff_ne]; omega
    have h3 : r ≤ bu := by omega
    clear hok
    have hmm := @run_makeMap Try.prog
    replace hby := Lib.hid hby
    replace ha := Lib.hid ha
    go_enter Try.func3, Try.ntmps3
    go_wp2_with (first
      | (go_at_call 8; refine (lives_any _).mono ?_; rintro e wo ⟨rfl, hBo⟩)
      | (go_at_call 9; refine (lx_new _ _ _ h1 h2 h3).mono ?_; rintro e wl ⟨rfl, hll, hBl⟩))
    have hj0 : RJ w wo.heap.size wl.heap.size r bu (.slice none 0 0) 0 bu [] [] 0 [] (wl.alloc (.map #[] 0)) := by
      have hlt := hll.lt
      have hm0 := Mp.made (P := Try.prog) 3 29 wl wl.heap.size rfl
      refine ⟨(hll.mono ?_).keep ((Below.refl _ _).alloc (Nat.le_refl _) _), hm0, OW.nil _ _ _, by simp [Value.ownBlock], ((hBo.trans (hBl.mono hBo.size))).alloc (Nat.le_trans hBo.size hBl.size) _, ⟨hBo.size, hlt⟩, ?_⟩
      · rintro x hx (e | e | e)
        · exact e
        · omega
        · simp [Value.ownBlock] at e
      · exact ⟨by simp, by simp, ⟨by omega, by omega⟩, ⟨by omega, by omega⟩, by simp, by simp, fun j hj => by simp at hj; subst hj; simp⟩
    replace hj0 := Lib.hid hj0
    have hrb := Lib.hid (And.intro hr hb)
    go_loopw [10, 11, 12, 13, 14, 15, 16, 17, 18] (fun vw vi _ _ _ _ _ _ _ wr => ∃ k le U O row went, vi = .int .i64 (k : Nat) ∧ k ≤ acts.length ∧ RJ w wo.heap.size wl.heap.size r bu vw k le U O row went wr) (fun _ vi _ _ _ _ _ _ _ _ => acts.length - (intOf vi).toNat)
    case atStart => exact ⟨0, _, _, _, _, _, rfl, Nat.zero_le _, hj0.out⟩
    case round =>
      clear hj0 hBl hBo hll
      obtain ⟨k, le, U, O, row, went, rfl, hk, hj⟩ := hrel
      obtain ⟨pw, cw, rfl, -⟩ := hj.wow.shape
      by_cases hlt : k < acts.length
      · obtain ⟨⟨a1, a2, a3, a4⟩, hak⟩ : ∃ a, acts[k]? = some a := ⟨acts[k], List.getElem?_eq_getElem hlt⟩
        obtain ⟨pb, po, rfl, q0, -, q2, q3⟩ := fa_cells (ha.out.keep hj.below) hak
        have hkz : (0 : Int) ≤ (k : Int) := by omega
        by_cases hk0 : a1 = 0
        · subst hk0
          by_cases hok : a3 ≤ bu ∧ U.length + O.length < 4096
          · have hj1 := Lib.hid (hj.keep (Below.refl _ _).drew)
            replace hj := Lib.hid hj
            go_wp2_with fail
            go_still_tail 19, (by kernel_rfl)
            change wpList _ _ _ _ _ wr.drew
            go_wp2_with fail
            refine (lx_ask _ r bu le U O row _ _ _ _ _ hj1.out.lx hj1.out.lt hok.2 hok.1).mono ?_
            rintro e w3 ⟨rfl, hl3, hf3⟩
            have hmd := hj1.out.mid hf3
            clear q0 q2 q3
            obtain ⟨q0, -, q2, q3⟩ := fa_at (ha.out.keep hmd.2.2) hak
            have hb3 : 0 ≤ a3 ∧ a3 < 18446744073709551616 := hby.out _ (List.mem_of_getElem? hak)
            replace hl3 := Lib.hid hl3
            replace hf3 := Lib.hid hf3
            replace hmd := Lib.hid hmd
            replace hak := Lib.hid hak
            go_wp2_with (at_mapUpdate; go_loud (refine wpList_mp_put _ rfl _ _ _ 30 rfl 3 29 Try.underlying3 Try.underlying30 _ _ rfl hmd.out.1 (by have := hok.2; simp only [List.length_map, List.length_append]; unfold maxLen; omega) _ (by omega) hj1.out.fresh _ (.int .u64 a3) rfl rfl (plainElem_int Try.underlying29 (u64_wf hb3)) ?_; intro w4 hm4 hg4; have hj4 := Lib.hid (hj1.out.put hf3.out hl3.out hm4 hg4 ⟨hb3.1, hok.1⟩ hok.2); obtain ⟨q0, -, q2, q3⟩ := fa_at (ha.out.keep hj4.out.below) hak.out; clear hm4 hg4))
            go_roundw
            case rel => exact ⟨k + 1, _, _, _, _, _, by go_num, by omega, hj4.out⟩
            case measure => simp [intOf]; omega
          · have hlong : bu < a3 ∨ U.length + O.length = 4096 := by have := hj.pl.len; omega
            have hj1 := Lib.hid (hj.keep (Below.refl _ _).drew)
            replace hj := Lib.hid hj
            clear hok
            go_wp2_with fail
            go_still_tail 19, (by kernel_rfl)
            change wpList _ _ _ _ _ wr.drew
            go_wp2_with fail
            refine (lx_long _ r bu le U O row _ _ _ _ _ hj1.out.lx hj1.out.pl.len hlong).mono ?_
            rintro e w3 ⟨rfl, hl3, hB3⟩
            have hj4 := Lib.hid ((hj1.out.keep hB3).next)
            clear q0 q2 q3
            obtain ⟨q0, -, -, -⟩ := fa_at (ha.out.keep hj4.out.below) hak
            clear hl3 hB3
            replace hak := Lib.hid hak
            go_wp2_with fail
            go_roundw
            case rel => exact ⟨k + 1, _, _, _, _, _, by go_num, by omega, hj4.out⟩
            case measure => simp [intOf]; omega
        · have hk0' : (a1 == 0) = false := beq_eq_false_iff_ne.2 hk0
          have hj1 := Lib.hid (hj.keep (Below.refl _ _).drew)
          replace hj := Lib.hid hj
          by_cases hk1 : a1 = 1
          · subst hk1
            clear hk0 hk0'
            go_wp2_with fail
            go_quiet (fail)
            have hjq := Lib.hid (hj.out.keep (below_drewN (Below.refl _ _) nq))
            have q0' : (wr.drewN nq).cell? ⟨pb, po + k * 4, none⟩ = some (.int .i64 1) := q0
            obtain ⟨wq, hwq⟩ : ∃ wq, wr.drewN nq = wq := ⟨_, rfl⟩
            rw [hwq] at hjq q0' ⊢
            clear hwq hj1 hj q0 q2 q3 hak
            go_wp2_with fail
            obtain ⟨g, le', U', O', row', hrun, hperm, hp', hg, hgs⟩ := hjq.out.pl.step hrb.out.1 hrb.out.2
            refine (lx_stepTo hrun hjq.out.lx hjq.out.lt hjq.out.pl.len (by omega) (by omega) (by have := hjq.out.pl.leb; omega) hjq.out.pl.rowb (fun a h => by have := hjq.out.pl.all a (by simpa using h); omega)).mono ?_
            rintro e w3 ⟨po3, co3, rfl, ho3, hl3, hf3⟩
            have kj0 := Lib.hid (hjq.out.step hf3 hl3 ho3 hperm)
            rw [List.length_map] at kj0 ⊢
            have kk : (k : Int) < 9223372036854775807 := by omega
            have hgl : g.length ≤ 4096 := by have h1 := hperm.length_eq; have h2 := hjq.out.pl.len; simp only [List.length_append] at h1; omega
            clear hrun hl3 hf3 ho3 hperm hjq q0'
            replace hp' := Lib.hid hp'
            replace hg := Lib.hid hg
            replace hgs := Lib.hid hgs
            go_wp2_with fail
            obtain ⟨wn, hwn⟩ : ∃ wn, w3 = wn := ⟨_, rfl⟩
            go_loopw [12, 14, 15, 16] (fun vs vj _ _ w2 => ∃ j : Nat, vj = .int .i64 (j : Nat) ∧ j ≤ g.length ∧ vs = .int .u64 (gs (g.take j)) ∧ KJ w wo.heap.size wl.heap.size r bu (.slice pw went.length cw) (.slice po3 g.length co3) g j le' U' O' row' went w2) (fun _ vj _ _ _ => g.length - (intOf vj).toNat)
            case atStart => exact ⟨0, rfl, Nat.zero_le _, rfl, kj0.out⟩
            case round =>
              clear kj0 hwn
              obtain ⟨j, rfl, hjl, rfl, hkj⟩ := hrel
              by_cases hjt : j < g.length
              · obtain ⟨ga, hga⟩ : ∃ ga, g[j]? = some ga := ⟨g[j], List.getElem?_eq_getElem hjt⟩
                obtain ⟨b3, o3, rfl, hc3⟩ := hkj.who.rd.2 (by omega)
                have z3 : wr.cell? ⟨b3, o3 + j, none⟩ = some (.int .i64 ga.1) := hc3 j _ (by simp [hga])
                have hm3 : Mp Try.prog 3 29 wr wl.heap.size ((ga.1, .int .u64 ga.2.1) :: ((g.drop (j + 1) ++ (U' ++ O')).map ent)) := by
                  have := hkj.mp
                  rw [drop_cons hga] at this; exact this
                have hgb := hg.out ga (List.mem_of_getElem? hga)
                have hgt := gs_take hga
                have hgt0 : 0 ≤ gs (g.take j) := gs_nonneg (fun a ha => (hg.out a (List.mem_of_mem_take ha)).1)
                have hgt1 : gs (g.take j) + ga.2.1 ≤ bu := by
                  have h1 : gs (g.take (j + 1)) ≤ gs g := gs_le (fun a ha => (hg.out a ha).1) _
                  have := hgs.out; omega
                have hjz : (0 : Int) ≤ (j : Int) := by omega
                have hgt2 := hgb.2.1
                have hgt3 := hgb.1
                replace hkj := Lib.hid hkj
                obtain ⟨g1, g2, g3⟩ := ga
                obtain ⟨S0, hS0⟩ : ∃ S0, gs (g.take j) = S0 := ⟨_, rfl⟩
                rw [hS0] at hgt hgt0 hgt1 ⊢
                simp only at hgt hgt0 hgt1 hgt2 hgt3 hgb z3
                have hnot : ¬ bu < g2 := by omega
                have hS1 : S0 + g2 < 18446744073709551616 := by omega
                have hS2 : 0 ≤ S0 + g2 := by omega
                have hk1 := hgb.2.2
                replace hgt := Lib.hid hgt
                clear hc3 hga hS0 hgb
                go_wp2_with (first
                  | (at_lookup; refine wpList_mp_has _ rfl _ _ 30 rfl 3 29 Try.underlying3 Try.underlying30 (zero64 _) _ zero64d _ _ _ _ rfl hm3 (by omega) rfl (yv := .int .u64 g2) rfl ?_)
                  | (at_delete; refine wpList_mp_del _ rfl _ _ 30 3 rfl 29 Try.underlying3 Try.underlying30 _ _ _ _ rfl hm3 (by omega) rfl ?_; intro w5 hm5 hg5; have hkj5 := Lib.hid (hkj.out.del hm5 hg5); clear hm5 hg5))
                go_roundw
                case rel => exact ⟨j + 1, by go_num, by omega, by rw [hgt.out], hkj5.out⟩
                case measure => simp [intOf]; omega
              · obtain rfl : j = g.length := by omega
                rw [List.take_length]
                have hgs0 : 0 ≤ gs g := gs_nonneg (fun a ha => (hg.out a ha).1)
                have hwl := hp'.out.wl
                have hwl2 : went.length ≤ 1048576 := by have := hp'.out.wl; simp at this; omega
                have hwz : (went.length : Int) ≤ 1048576 := by omega
                replace hkj := Lib.hid hkj
                replace hwl := Lib.hid hwl
                replace hwl2 := Lib.hid hwl2
                go_wp2_with (at_builtin; refine wpList_append_ow rfl _ _ 31 rfl (wo.heap.size + 1) 29 Try.underlying31 infoU64 rfl (by decide) _ went.length _ rfl (hkj.out.wow.alloc _) _ 1 1 [.int .u64 (gs g)] rfl (rd_one rfl _ _) (by intro u hu; simp at hu; subst hu; rfl) (by have := hwl2.out; unfold maxLen; omega) (by have := hwl2.out; omega) (by have := hkj.out.lx.lt; simp; omega) ?_; intro v' w8 hown hgr hc; have hj9 := Lib.hid (KJ.done (hkj.out.alloc _) hown hgr hc hp'.out); obtain ⟨A9, c9, rfl, -⟩ := hown.shape; clear hown hgr hc)
                have hW9 := Lib.hid hj9.out.wow
                rw [List.length_append, List.length_singleton] at hW9
                obtain ⟨b9, o9, rfl, hc9⟩ := hW9.out.rd.2 (by omega)
                replace hc9 := Lib.hid hc9
                go_loop [17, 18] (fun vt vk => ∃ j : Nat, j ≤ went.length + 1 ∧ vk = .int .i64 ((j : Int) - 1) ∧ vt = .int .u64 (((went ++ [gs g]).drop j).sum)) (fun _ vk => (intOf vk + 1).toNat)
                case atStart => exact ⟨went.length + 1, Nat.le_refl _, by congr 1; omega, by rw [List.drop_eq_nil_of_le (by simp)]; rfl⟩
                case round =>
                  obtain ⟨j, hj1, rfl, rfl⟩ := hrel
                  rcases j with _ | j
                  · clear hc9 hW9
                    rw [show ((0 : Nat) : Int) - 1 = -1 from rfl]
                    go_wp2_with fail
                    go_roundw
                    case rel => exact ⟨k + 1, _, _, _, _, _, by go_num, by omega, hj9.out⟩
                    case measure => simp [intOf]; omega
                  · rw [show ((j + 1 : Nat) : Int) - 1 = (j : Int) by omega]
                    obtain ⟨x, hx⟩ : ∃ x, (went ++ [gs g])[j]? = some x := ⟨_, List.getElem?_eq_getElem (by simp; omega)⟩
                    have z9 : w8.cell? ⟨b9, o9 + j, none⟩ = some (.int .u64 x) := hc9.out j _ (by rw [List.getElem?_map, hx]; rfl)
                    have hsuf := hj9.out.pl.suf j (by simp; omega)
                    rw [List.length_append, List.length_singleton] at hsuf
                    have hle9 := hj9.out.pl.leb
                    have hpos := hj9.out.pl.pos
                    have hx0 : 0 ≤ x := hpos x (List.mem_of_getElem? hx)
                    have hs0 : 0 ≤ ((went ++ [gs g]).drop (j + 1)).sum := sum_nonneg (fun y hy => hpos y (List.mem_of_mem_drop hy))
                    rw [drop_cons hx, List.sum_cons] at hsuf
                    have hstep : ((went ++ [gs g]).drop j).sum = ((went ++ [gs g]).drop (j + 1)).sum + x := by rw [drop_cons hx, List.sum_cons]; omega
                    obtain ⟨M, hM⟩ : ∃ M, ((went.length : Int) + 1 - j) * r = M := ⟨_, rfl⟩
                    have hM0 : 0 ≤ M := by rw [← hM]; exact Int.mul_nonneg (by omega) hr.1
                    have hM1 : M ≤ 1048577 * 4294967295 := by rw [← hM]; exact Int.mul_le_mul (by omega) hr.2 hr.1 (by omega)
                    rw [show (((went.length + 1 : Nat) : Int) - j) = (went.length : Int) + 1 - j by omega, hM] at hsuf
                    obtain ⟨sm, hsm⟩ : ∃ sm, ((went ++ [gs g]).drop (j + 1)).sum = sm := ⟨_, rfl⟩
                    rw [hsm] at hs0 hstep hsuf ⊢
                    have hjj : (j : Int) ≤ went.length := by omega
                    have hjz : (0 : Int) ≤ (j : Int) := by omega
                    have hnot : ¬ (bu + M < sm + x) := by omega
                    clear hsm hpos hc9 hW9 hx
                    replace hstep := Lib.hid hstep
                    replace hsuf := Lib.hid hsuf
                    go_wp2_with fail
                    go_round
                    case rel => exact ⟨j, by omega, by go_num, by rw [hstep.out]⟩
                    case measure => simp [intOf]
          · have hk1' : (a1 == 1) = false := beq_eq_false_iff_ne.2 hk1
            have hj4 := Lib.hid (hj.out.next)
            go_wp2_with fail
            go_quiet (fail)
            go_wp2_with fail
            go_roundw
            case rel => exact ⟨k + 1, _, _, _, _, _, by go_num, by omega, hj4.out.keep (below_drewN (Below.refl _ _) _)⟩
            case measure => simp [intOf]; omega
      · have hBw := hj.below
        replace hj := Lib.hid hj
        go_wp2_with (first
          | (go_at_call 12; refine (lx_waiting _ r bu le U O row _ _ hj.out.lx hj.out.pl.len hj.out.pl.rowb).mono ?_; rintro e w3 ⟨v3, rfl, ho3, hB3⟩; have hm3 := hj.out.mp.keep hB3; obtain ⟨A3, c3, rfl, -⟩ := ho3.shape; replace hm3 := Lib.hid hm3; clear ho3)
          | (at_len; refine wpList_mp_len _ rfl _ 30 rfl 3 29 Try.underlying30 _ _ rfl hm3.out _ rfl ?_))
        go_ret
        exact ⟨by simp, hBw.trans (hB3.mono hBw.size)⟩
end Go.Proofs.Ytefeompdhalgcaa
