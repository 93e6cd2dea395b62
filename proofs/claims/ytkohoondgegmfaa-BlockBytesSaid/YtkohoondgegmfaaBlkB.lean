/- A block's writer: its cells and its rows; the plain words of an entry. -/
import Derived.Test.YtkohoondgegmfaaFr
import Derived.Test.YtkohoondgegmfaaBlkA
namespace Go.Proofs.Ytkohoondgegmfaa
open Go.RowKit Go.Sed
set_option maxHeartbeats 1000000
/-- how many elements two lists begin with that are the same. -/
def lcp : List Int → List Int → Nat
  | a :: x, b :: y => if a = b then lcp x y + 1 else 0
  | [], _ => 0
  | _ :: _, [] => 0
theorem lcp_comm : ∀ x y, lcp x y = lcp y x
  | a :: x, b :: y => by
    simp only [lcp]
    by_cases h : a = b
    · rw [if_pos h, if_pos h.symm, lcp_comm x y]
    · rw [if_neg h, if_neg (fun e => h e.symm)]
  | [], [] => rfl
  | [], _ :: _ => rfl
  | _ :: _, [] => rfl
theorem lcp_le : ∀ x y, lcp x y ≤ x.length ∧ lcp x y ≤ y.length
  | a :: x, b :: y => by
    have := lcp_le x y
    simp only [lcp]
    split <;> simp <;> omega
  | [], _ => by simp [lcp]
  | _ :: _, [] => by simp [lcp]
theorem lcp_same : ∀ (x y : List Int) (k : Nat) (a b : Int), k ≤ lcp x y → x[k]? = some a → y[k]? = some b → a = b → k + 1 ≤ lcp x y
  | c :: x, d :: y, k, a, b, h, ha, hb, e => by
    simp only [lcp] at h ⊢
    rcases k with _ | k
    · simp only [List.getElem?_cons_zero, Option.some.injEq] at ha hb
      rw [if_pos (by rw [ha, hb, e])]; omega
    · split at h
      · rename_i he
        rw [if_pos he]
        simp only [List.getElem?_cons_succ] at ha hb
        have := lcp_same x y k a b (by omega) ha hb e
        omega
      · omega
  | [], _, k, a, b, h, ha, hb, e => by simp at ha
  | _ :: _, [], k, a, b, h, ha, hb, e => by simp at hb
theorem lcp_differ : ∀ (x y : List Int) (k : Nat) (a b : Int), k ≤ lcp x y → x[k]? = some a → y[k]? = some b → a ≠ b → lcp x y = k
  | c :: x, d :: y, k, a, b, h, ha, hb, e => by
    simp only [lcp] at h ⊢
    rcases k with _ | k
    · simp only [List.getElem?_cons_zero, Option.some.injEq] at ha hb
      rw [if_neg (by rw [ha, hb]; exact e)]
    · split at h
      · rename_i he
        rw [if_pos he]
        simp only [List.getElem?_cons_succ] at ha hb
        have := lcp_differ x y k a b (by omega) ha hb e
        omega
      · omega
  | [], _, k, a, b, h, ha, hb, e => by simp at ha
  | _ :: _, [], k, a, b, h, ha, hb, e => by simp at hb
/-- an entry's bytes. -/
def entB (sh : Nat) (K : List Int) (s : ByteArray) : List Int := varL sh ++ (varL (K.length - sh) ++ (varL s.size ++ (K.drop sh ++ bI s)))
def shr (rs n : Nat) (L K : List Int) : Nat := if n % rs = 0 then 0 else lcp L K
def whl (rs n : Nat) (B WL : List Int) : List Int := if n % rs = 0 then WL ++ [(B.length : Int)] else WL
theorem ow_other {W W1 W3 : World} {base s s' n n' : Nat} {x v v' : Value} {xs ys : List Value} (hB : Below W.heap.size W W1) (hx : OW W base s x n xs) (hv : OW W base s' v n' ys) (hd : ∀ k, x.ownBlock = some k → v.ownBlock ≠ some k)
    (hg : W1.grownBy W3 v.ownBlock) (hc : v'.ownBlock = v.ownBlock ∨ v'.ownBlock = some W1.heap.size) : OW W3 base s x n xs ∧ ∀ k, x.ownBlock = some k → v'.ownBlock ≠ some k := by
  have h1 := hx.keep hB
  refine ⟨h1.keepB hg.size (fun k e => hg.block k (h1.lt k e).2 (fun e2 => hd k e e2.symm)), fun k e e2 => ?_⟩
  rcases hc with hc | hc
  · exact hd k e (hc ▸ e2)
  · have h2 := (h1.lt k e).2
    rw [hc] at e2
    injection e2 with e2
    omega
/-- a writer, with its rows and one key. -/
structure WK (w0 W : World) (bw : Nat) (c : Array Value) (vl vb' vw kv : Value) (L B WL K : List Int) : Prop where
  ld : Bl W bw (.cells c 63 (0, 0))
  l : OW W (bw + 1) 1 vl L.length (vb L)
  b : OW W (bw + 1) 1 vb' B.length (vb B)
  w : OW W (bw + 1) 1 vw WL.length (WL.map (Value.int .i64))
  k : OW W (bw + 1) 1 kv K.length (vb K)
  lb : ∀ k, vl.ownBlock = some k → vb'.ownBlock ≠ some k
  lw : ∀ k, vl.ownBlock = some k → vw.ownBlock ≠ some k
  kb : ∀ k, kv.ownBlock = some k → vb'.ownBlock ≠ some k
  kw : ∀ k, kv.ownBlock = some k → vw.ownBlock ≠ some k
  bw' : ∀ k, vb'.ownBlock = some k → vw.ownBlock ≠ some k
  below : Below bw w0 W
theorem WK.keep {w0 W W' : World} {bw : Nat} {c : Array Value} {vl vb' vw kv : Value} {L B WL K : List Int} (h : WK w0 W bw c vl vb' vw kv L B WL K) (hB : Below W.heap.size W W') : WK w0 W' bw c vl vb' vw kv L B WL K :=
  ⟨h.ld.keep hB, h.l.keep hB, h.b.keep hB, h.w.keep hB, h.k.keep hB, h.lb, h.lw, h.kb, h.kw, h.bw', h.below.trans (hB.mono (Nat.le_of_lt h.ld.lt))⟩
theorem wk_ne {W : World} {bw s n : Nat} {v : Value} {xs : List Value} (h : OW W (bw + 1) s v n xs) : some bw ≠ v.ownBlock := fun e => by have := (h.lt bw e.symm).1; omega
theorem WK.set {w0 W : World} {bw : Nat} {c : Array Value} {vl vb' vw kv : Value} {L B WL K : List Int} (h : WK w0 W bw c vl vb' vw kv L B WL K) (i : Nat) (v : Value) : WK w0 (W.setCell ⟨bw, i, none⟩ v) bw (c.set! i v) vl vb' vw kv L B WL K :=
  ⟨h.ld.setSame i v, h.l.set v (fun e => wk_ne h.l e.symm), h.b.set v (fun e => wk_ne h.b e.symm), h.w.set v (fun e => wk_ne h.w e.symm), h.k.set v (fun e => wk_ne h.k e.symm), h.lb, h.lw, h.kb, h.kw, h.bw', h.below.setCell (Nat.le_refl _) v⟩
theorem WK.growB {w0 W W1 W3 : World} {bw : Nat} {c : Array Value} {vl vb' vw kv v' : Value} {L B WL K X : List Int} (h : WK w0 W bw c vl vb' vw kv L B WL K) (hB : Below W.heap.size W W1) (hown : OW W3 (bw + 1) 1 v' (B.length + X.length) (vb B ++ vb X))
    (hg : W1.grownBy W3 vb'.ownBlock) (hc : v'.ownBlock = vb'.ownBlock ∨ v'.ownBlock = some W1.heap.size) : WK w0 W3 bw c vl v' vw kv L (B ++ X) WL K := by
  have h1 := h.keep hB
  obtain ⟨l1, l2⟩ := ow_other hB h.l h.b h.lb hg hc
  obtain ⟨k1, k2⟩ := ow_other hB h.k h.b h.kb hg hc
  obtain ⟨w1, w2⟩ := ow_other hB h.w h.b (fun k e e2 => h.bw' k e2 e) hg hc
  refine ⟨?_, l1, by rw [List.length_append, vb, List.map_append]; exact hown, w1, k1, l2, h.lw, k2, h.kw, fun k e e2 => w2 k e2 e, ?_⟩
  · have h2 := h1.ld
    unfold Bl at h2 ⊢
    rw [hg.block bw (Bl.lt h1.ld) (wk_ne h1.b)]
    exact h2
  · exact h1.below.grown hg (Nat.le_of_lt h1.ld.lt) (fun k e => by have := (h1.b.lt k e).1; omega)
theorem WK.growW {w0 W W1 W3 : World} {bw : Nat} {c : Array Value} {vl vb' vw kv v' : Value} {L B WL K : List Int} {x : Int} (h : WK w0 W bw c vl vb' vw kv L B WL K) (hB : Below W.heap.size W W1) (hown : OW W3 (bw + 1) 1 v' (WL.length + 1) (WL.map (Value.int .i64) ++ [Value.int .i64 x]))
    (hg : W1.grownBy W3 vw.ownBlock) (hc : v'.ownBlock = vw.ownBlock ∨ v'.ownBlock = some W1.heap.size) : WK w0 W3 bw c vl vb' v' kv L B (WL ++ [x]) K := by
  have h1 := h.keep hB
  obtain ⟨l1, l2⟩ := ow_other hB h.l h.w h.lw hg hc
  obtain ⟨k1, k2⟩ := ow_other hB h.k h.w h.kw hg hc
  obtain ⟨b1, b2⟩ := ow_other hB h.b h.w h.bw' hg hc
  refine ⟨?_, l1, b1, by rw [List.length_append, List.map_append]; exact hown, k1, h.lb, l2, h.kb, k2, b2, ?_⟩
  · have h2 := h1.ld
    unfold Bl at h2 ⊢
    rw [hg.block bw (Bl.lt h1.ld) (wk_ne h1.w)]
    exact h2
  · exact h1.below.grown hg (Nat.le_of_lt h1.ld.lt) (fun k e => by have := (h1.w.lt k e).1; omega)
end Go.Proofs.Ytkohoondgegmfaa
