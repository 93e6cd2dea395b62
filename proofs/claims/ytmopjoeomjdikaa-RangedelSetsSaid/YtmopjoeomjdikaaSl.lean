/- Parts of a row, whatever the size of its elements; append at a guarded operation of a drawn region. No condition but those that each theorem names. -/
import Derived.Test.YtmopjoeomjdikaaFr
namespace Go.Sed
open Go.Proofs Go.RowKit
theorem rd_takeN {w : World} {size n k : Nat} {A : Option Addr} {xs : List Value} (h : Rd w size A n xs) (hk : k ≤ n) : Rd w size A k (xs.take (k * size)) := by
  have hl := h.1
  have hm := Nat.mul_le_mul_right size hk
  refine ⟨by rw [List.length_take]; omega, fun h0 => ?_⟩
  obtain ⟨b, o, rfl, hc⟩ := h.2 (by omega)
  refine ⟨b, o, rfl, fun j u hu => ?_⟩
  rw [List.getElem?_take] at hu
  split at hu
  · exact hc j u hu
  · cases hu
theorem rd_take {w : World} {n k : Nat} {A : Option Addr} {xs : List Value} (h : Rd w 1 A n xs) (hk : k ≤ n) : Rd w 1 A k (xs.take k) := by
  have := rd_takeN h hk
  rwa [Nat.mul_one] at this
theorem rd_dropN {w : World} {size n c sh : Nat} {A : Option Addr} {xs : List Value} (h : Rd w size A n xs) (hn : n ≤ c) (hs : sh ≤ n) : Rd w size (if c = sh then A else A.map (fun x => x.add (sh * size))) (n - sh) (xs.drop (sh * size)) := by
  refine ⟨by rw [List.length_drop, h.1, Nat.sub_mul], fun h0 => ?_⟩
  obtain ⟨b, o, rfl, hc⟩ := h.2 (by omega)
  rw [if_neg (by omega)]
  refine ⟨b, o + sh * size, by rw [Option.map_some, add_mk], fun j u hu => ?_⟩
  rw [List.getElem?_drop] at hu
  have := hc (sh * size + j) u hu
  rwa [← Nat.add_assoc] at this
theorem rd_drop {w : World} {n c sh : Nat} {A : Option Addr} {xs : List Value} (h : Rd w 1 A n xs) (hn : n ≤ c) (hs : sh ≤ n) : Rd w 1 (if c = sh then A else A.map (fun x => x.add sh)) (n - sh) (xs.drop sh) := by
  have := rd_dropN h hn hs
  rwa [Nat.mul_one] at this
theorem step_append_owg {P : Program} {w : World} {ops : Array Oper} {o : Oper} {a : Act} {K : Act → World → Prop} {Q : Exit → Act → World → Prop} {E : Prop} (hw : Region.wanted o (yielded ops a.tmps) = true) (s x : Operand) (t : TypeId)
    (ho : o.op = .call { callee := .builtin .append, args := #[s, x], argTypes := #[t, t] })
    (base : Nat) (e : TypeId) {z : Value} {size bytes : Nat} (ht : P.underlying t = some (.slice e)) (hinfo : (P.info? e).map (fun i => (i.zero, i.size, i.bytes)) = some (some z, size, bytes)) (hzs : z.cells.size = size) (hsz : 0 < size)
    (v : Value) (n : Nat) (xs : List Value) (hs : a.eval s = v) (hown : OW w base size v n xs)
    (A : Option Addr) (m c : Nat) (news : List Value) (hx : a.eval x = .slice A m c) (hr : Rd w size A m news) (h1 : ∀ u ∈ news, u.oneCell' = true)
    (h63 : n + m ≤ maxLen) (hbytes : (n + m) * bytes ≤ 140737488355328) (hbase : base ≤ w.heap.size)
    (h : ∀ v' w', OW w' base size v' (n + m) (xs ++ news) → w.grownBy w' v.ownBlock → (v'.ownBlock = v.ownBlock ∨ v'.ownBlock = some w.heap.size) → K (a.put o.dst v') w') :
    if Region.wanted o (yielded ops a.tmps) = true then Oper.wp P o a w K Q else E := by
  rw [if_pos hw]
  obtain ⟨v', w', hr, h2, h3, h4⟩ := run_append_ow (P := P) w base t o.type e ht hinfo hzs hsz v n xs hown A m c news hr h1 h63 hbytes hbase
  unfold Oper.wp execOp
  simp only [ho, resolve, invoke, builtin, Sem.run_bind, Sem.run_pure, Result.andThen_ok, List.map_toArray, List.map_cons, List.map_nil, hs, hx, hr]
  exact h v' w' h2 h3 h4
end Go.Sed
