/- Entries as bytes, in plain words; the document's writer of a block. -/
import Derived.RangeFuncNested
import Derived.RangeFuncBound
import Derived.RangeFuncCalls
import Derived.RangeFuncLeaves
import Derived.Shelf.Abstract
import Derived.Shelf.RegionOpen
import Derived.WalkKit
import Derived.OwnWalkIn
import Derived.TacticsInMore
import Derived.LoopNIn
import Derived.LoopIn
import Derived.Lib.Hide
import Derived.Outline
import Derived.RegionTactic
import Derived.BigRegion
import Derived.WalkLawsBesides
import Derived.WalkSpells
import Derived.Deep.QuietTactic
import Derived.BigQuiet
import Derived.Deep.RegionHeld3
import Derived.Deep.DeepCutAuto
import Derived.Deep.CutBlock
import Derived.StillTailTactics
import Derived.WalkSmall
import Derived.Test.YtkohoondgegmfaaBlkE
import Derived.Test.YtkohoondgegmfaaArg
namespace Go.Proofs.Ytkohoondgegmfaa
open Go.RowKit Go.Sed
set_option maxHeartbeats 1000000
set_option maxRecDepth 100000
/-- an entry: a text, a number, a kind, a value. -/
def E4 : Type := ByteArray × Int × Int × ByteArray
def E4.enc (e : E4) : List Int := encL e.1 e.2.1 e.2.2.1
def E4.val (e : E4) : ByteArray := e.2.2.2
def e4c (e : E4) : List Value := [.string e.1, .int .u64 e.2.1, .int .i64 e.2.2.1, .string e.2.2.2]
theorem e4c_len (e : E4) : (e4c e).length = 4 := rfl
/-- an entry can be. -/
def E4.can (e : E4) : Prop := chkK e.1 e.2.1 e.2.2.1 = 0 ∧ e.val.size ≤ 16384
theorem E4.enc_le {e : E4} (h : e.can) : e.enc.length ≤ 2000 := by
  have h1 := (chkK_ok h.1).1
  unfold E4.enc
  rw [encL_len]; omega
/-- entries, written one by one. -/
def wrt (rs : Nat) : List E4 → Nat → List Int → List Int → List Int → List Int × List Int
  | [], _, _, B, W => (B, W)
  | e :: l, i, L, B, W => wrt rs l (i + 1) e.enc (B ++ entB (shr rs i L e.enc) e.enc e.val) (whl rs i B W)
def blk (rs : Nat) (l : List E4) : List Int := (wrt rs l 0 [] [] []).1 ++ endB (wrt rs l 0 [] [] []).2
theorem wrt_drop (rs : Nat) (l : List E4) (i : Nat) (e : E4) (L B W : List Int) (h : l[i]? = some e) : wrt rs (l.drop i) i L B W = wrt rs (l.drop (i + 1)) (i + 1) e.enc (B ++ entB (shr rs i L e.enc) e.enc e.val) (whl rs i B W) := by
  have hi := (List.getElem?_eq_some_iff.1 h).1
  rw [List.drop_eq_getElem_cons hi]
  have he : l[i] = e := (List.getElem?_eq_some_iff.1 h).2
  rw [he]; rfl
theorem entB_len {sh : Nat} {K : List Int} {s : ByteArray} (hsh : sh ≤ K.length) (hK : K.length ≤ 2000) (hs : s.size ≤ 16384) : (entB sh K s).length ≤ 19000 := by
  have h1 := varL_10 (n := sh) (Nat.lt_of_le_of_lt (Nat.le_trans hsh hK) (by decide))
  have h2 := varL_10 (n := K.length - sh) (Nat.lt_of_le_of_lt (Nat.le_trans (Nat.sub_le _ _) hK) (by decide))
  have h3 := varL_10 (n := s.size) (Nat.lt_of_le_of_lt hs (by decide))
  simp only [entB, List.length_append, List.length_drop, bI_len]
  omega
theorem shr_le (rs i : Nat) (L K : List Int) : shr rs i L K ≤ K.length := by
  unfold shr
  split
  · omega
  · rw [lcp_comm]; exact (lcp_le K L).1
/-- what holds of what is written, at every place. -/
structure WO (i : Nat) (L B W : List Int) : Prop where
  l : L.length ≤ 2000
  b : B.length ≤ 19000 * i
  w : W.length ≤ i
  wx : ∀ x ∈ W, 0 ≤ x ∧ x < 4294967296
theorem WO.start : WO 0 [] [] [] := ⟨by simp, by simp, by simp, fun x h => by cases h⟩
theorem WO.step {rs i : Nat} {L B W : List Int} {e : E4} (h : WO i L B W) (he : e.can) (hi : i < 70000) : WO (i + 1) e.enc (B ++ entB (shr rs i L e.enc) e.enc e.val) (whl rs i B W) := by
  have h1 := entB_len (sh := shr rs i L e.enc) (s := e.val) (shr_le rs i L e.enc) (E4.enc_le he) he.2
  have hb := h.b
  refine ⟨E4.enc_le he, by rw [List.length_append]; omega, ?_, ?_⟩
  · unfold whl
    have := h.w
    split
    · rw [List.length_append]; simp; omega
    · omega
  · intro x hx
    unfold whl at hx
    split at hx
    · rcases List.mem_append.1 hx with hx | hx
      · exact h.wx x hx
      · simp at hx; omega
    · exact h.wx x hx
end Go.Proofs.Ytkohoondgegmfaa
