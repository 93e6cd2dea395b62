/- The law of SchedOrder: one pick. Conditions: what each theorem names. -/
import Derived.RangeFuncNested
import Derived.RangeFuncBound
import Derived.RangeFuncCalls
import Derived.RangeFuncLeaves
import Derived.Shelf.Abstract
import Derived.Shelf.RegionOpen
import Derived.WalkKit
import Derived.OwnWalkIn
import Derived.TacticsInMore
import Derived.LoopNIn
import Derived.LoopIn
import Derived.Lib.Hide
import Derived.Outline
import Derived.RegionTactic
import Derived.BigRegion
import Derived.WalkLawsBesides
import Derived.WalkSpells
import Derived.Deep.QuietTactic
import Derived.BigQuiet
import Derived.Deep.RegionHeld3
import Derived.Deep.DeepCutAuto
import Derived.Deep.CutBlock
import Derived.StillTailTactics
import Derived.WalkSmall
import Derived.Test.YtcdhmjapeapicaaProg
import Derived.Test.YtcdhmjapeapicaaFr
import Derived.Test.YtcdhmjapeapicaaMp
import Derived.Defers
import Derived.Recover
import Derived.Test.YtcdhmjapeapicaaSchV
import Derived.Deep.LoopGhost
import Derived.Test.YtcdhmjapeapicaaSchF
import Derived.Test.YtcdhmjapeapicaaArg
import Derived.Lib.SliceRun
namespace Go.Proofs.Ytcdhmjapeapicaa
open Go.RowKit Go.Sed Go.Maps
set_option maxHeartbeats 1000000
set_option maxRecDepth 100000
theorem lk_nd {W : World} {base b mb : Nat} {v : Value} {s : SS} (h : SH W base b mb v s) : (s.lk.map (·.1)).Nodup := by
  have h1 := h.mp.nodup
  rw [List.map_map] at h1
  exact h1
theorem OI.who {Ls : List (List Nat)} {s : SS} {ats : List Nat} {hs : List (List Nat)} {rs : List Nat} {told : List Int} (o : OI Ls s ats hs rs told) (hnd : (s.lk.map (·.1)).Nodup) (hal : thoseI aliveB s.ts ≠ []) (q : Nat) :
    ∃ (n : Nat) (t : Tk) (L : List Nat) (a : Nat) (kd on : Int) (h : List Nat), (thoseI (mayB s) s.ts)[q % (thoseI (mayB s) s.ts).length]? = some (n : Int) ∧ s.ts[n]? = some t ∧ Ls[n]? = some L ∧ ats[n]? = some a ∧ mayB s t = true ∧ OT L a kd on h := by
  have hen : thoseI (mayB s) s.ts ≠ [] := fun e => hal (o.live hnd e)
  have hlen : 0 < (thoseI (mayB s) s.ts).length := List.length_pos_iff.2 hen
  obtain ⟨x, hx⟩ : ∃ x, (thoseI (mayB s) s.ts)[q % (thoseI (mayB s) s.ts).length]? = some x := ⟨_, List.getElem?_eq_getElem (Nat.mod_lt _ hlen)⟩
  have hm := List.mem_of_getElem? hx
  unfold thoseI at hm
  obtain ⟨n, hn, rfl⟩ := List.mem_map.1 hm
  obtain ⟨hn1, hn2⟩ := List.mem_filter.1 hn
  have hnl := List.mem_range.1 hn1
  have ht : s.ts[n]? = some s.ts[n] := List.getElem?_eq_getElem hnl
  rw [ht] at hn2
  obtain ⟨t', L, a, h, r, g1, g2, g3, g4, g5, hot, hrr⟩ := o.at' (i := n) (by rw [← o.lt]; exact hnl)
  exact ⟨n, _, L, a, _, _, h, hx, ht, g2, g3, hn2, hot⟩
/-- the tasks at work: so many picks are done. -/
def SO (W : World) (base b mb xb : Nat) (dv v : Value) (Ls : List (List Nat)) (tot j : Nat) (s : SS) (tv : Value) (told : List Int) : Prop :=
  ∃ ats hs rs tag, PX W base b mb xb dv v s tv told false ats (Ls.map progL) tag ∧ OI Ls s ats hs rs told ∧ j + sumN rs ≤ tot ∧ s.steps = j ∧ s.wishes = j ∧ s.within = false ∧ s.lk.length ≤ j ∧ told.length ≤ j ∧ (∀ L ∈ Ls, L.length ≤ 8) ∧ Ls.length ≤ 64 ∧ tot ≤ 1600 ∧ (∀ k, k < base → tag k = 3) ∧ base ≤ W.heap.size
theorem SO.keep {W W' : World} {base b mb xb tot j : Nat} {dv v : Value} {Ls : List (List Nat)} {s : SS} {tv : Value} {told : List Int} (h : SO W base b mb xb dv v Ls tot j s tv told) (hB : Below W.heap.size W W') : SO W' base b mb xb dv v Ls tot j s tv told := by
  obtain ⟨ats, hs, rs, tag, h1, h2, h3, h4, h5, h6, h7, h8, h9, h10, h11, h12, h13⟩ := h
  exact ⟨ats, hs, rs, tag, h1.keep hB, h2, h3, h4, h5, h6, h7, h8, h9, h10, h11, h12, Nat.le_trans h13 hB.size⟩
theorem SO.facts {W : World} {base b mb xb tot j : Nat} {dv v : Value} {Ls : List (List Nat)} {s : SS} {tv : Value} {told : List Int} (h : SO W base b mb xb dv v Ls tot j s tv told) :
    SH W base b mb v s ∧ Steady s ∧ s.bs.length ≤ 64 ∧ Bl W xb (.cells #[ptr b, dv, tv, .bool false] 41 (0, 0)) ∧ OW W base 1 tv told.length (told.map (Value.int .i64)) ∧ (∀ x ∈ told, x = 0) ∧ told.length ≤ 1600 ∧ j ≤ tot ∧ base ≤ W.heap.size := by
  obtain ⟨ats, hs, rs, tag, h1, h2, h3, h4, h5, h6, h7, h8, h9, h10, h11, h12, h13⟩ := h
  have e1 := h2.lt
  have e2 := h1.sh.len
  exact ⟨h1.sh, h2.steady (by omega), by omega, h1.x, h1.told, h2.told, by omega, by omega, h13⟩
theorem SO.dead {W : World} {base b mb xb tot j : Nat} {dv v : Value} {Ls : List (List Nat)} {s : SS} {tv : Value} {told : List Int} (h : SO W base b mb xb dv v Ls tot j s tv told) (hal : thoseI aliveB s.ts ≠ []) : deadL s = [] := by
  obtain ⟨ats, hs, rs, tag, h1, h2, -⟩ := h
  have hen : thoseI (mayB s) s.ts ≠ [] := fun e => hal (h2.live (lk_nd h1.sh) e)
  unfold deadL
  rw [if_neg hen]
theorem SO.pick {W : World} {base b mb xb tot j : Nat} {dv v : Value} {Ls : List (List Nat)} {s : SS} {tv : Value} {told : List Int} (h : SO W base b mb xb dv v Ls tot j s tv told) (hal : thoseI aliveB s.ts ≠ []) (q : Nat) :
    Calls Try.prog 13 #[ptr b, .int .i64 q] W fun e w' => ∃ (n : Nat) (s' : SS) (tv' : Value) (told' : List Int), e = .returned (.tuple #[.int .i64 n, .int .i64 0]) ∧ SO w' base b mb xb dv v Ls tot (j + 1) s' tv' told' ∧ j < tot ∧ Below base W w' := by
  obtain ⟨ats, hs, rs, tag, h1, h2, h3, h4, h5, h6, h7, h8, h9, h10, h11, h12, h13⟩ := h
  have hnd := lk_nd h1.sh
  obtain ⟨n, t, L, a, kd, on, hh, q1, q2, q3, q4, q5, q6⟩ := h2.who hnd hal q
  have hL8 := h9 L (List.mem_of_getElem? q3)
  have hpl := progL_len L
  have e1 := h2.lt
  have e2 := h1.sh.len
  obtain ⟨hs', rs', o', hsum, hlk', htl'⟩ := h2.pick hnd q2 q3 q4 q5 _ rfl
  refine (PX.pick base b mb xb n q a dv v s t tv told ats (Ls.map progL) tag (progL L) W h1 q1 q2 (by rw [List.getElem?_map, q3]; rfl) q4 h6 (h2.steady (by omega)) (by omega) (progL_simple L (h2.asc L (List.mem_of_getElem? q3)).2) q6.le (by omega) (by omega) (by omega) (by omega) (by omega)).mono ?_
  rintro e w' ⟨rfl, tv', tag', hP', htag, hf⟩
  have hsz := hf.size
  refine ⟨n, _, tv', _, rfl, ⟨_, hs', rs', tag', hP', o', by omega, ?_, ?_, rfl, by omega, by omega, h9, h10, h11, fun k hk => by rw [htag k (by omega)]; exact h12 k hk, by omega⟩, by omega, ?_⟩
  · show s.steps + 1 = ((j + 1 : Nat) : Int); omega
  · show s.wishes + 1 = ((j + 1 : Nat) : Int); omega
  · exact hf.below h13 (fun k hk hfk => by have := h12 k hk; omega)
end Go.Proofs.Ytcdhmjapeapicaa
