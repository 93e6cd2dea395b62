/- append of a string's bytes onto a slice of the call's own. No condition but those that each theorem names. -/
import Derived.Test.YtcdhmjapeapicaaOwn
namespace Go.Sed
open Go.RowKit
variable {P : Program}
theorem run_firstCells_str (w : World) (size : Nat) (s : ByteArray) : (Builtin.firstCells size s.size (.string s)).run P w = .ok (bcells s).toArray w := by
  have h : s.extract 0 s.size = s := by simp
  simp only [Builtin.firstCells, h, Sem.run_pure]
  congr 1
  apply Array.ext'
  simp [bcells]
theorem run_append_grow_str (w : World) (t u ty e : TypeId) (i : TypeInfo) (z : Value) (ht : P.underlying t = some (.slice e)) (hu : P.underlying u = some .string) (hi : P.info? e = some i) (hz : i.zero = some z)
    (b : Addr) (sLen sCap : Nat) (olds : List Value) (hlo : olds.length = sLen * i.size) (holds : ∀ j v, olds[j]? = some v → w.cell? (b.add j) = some v) (s : ByteArray)
    (hg : sCap < sLen + s.size) (h63 : ((sLen + s.size : Nat) : Int) ≤ 9223372036854775807) (hfit : Builtin.nextslicecap (sLen + s.size) sCap * i.bytes ≤ 281474976710656) :
    (Builtin.append_ #[t, u] ty #[.slice (some b) sLen sCap, .string s]).run P w =
      .ok (.slice (some ⟨w.heap.size, 0, none⟩) (sLen + s.size) (grownCap w (sLen + s.size) sCap e))
        (w.drew.alloc (.cells (olds.toArray ++ (bcells s).toArray ++ Builtin.zeroCells z.cells (grownCap w (sLen + s.size) sCap e - (sLen + s.size))) e)) := by
  have hn : ¬ (sLen + s.size ≤ sCap) := by omega
  have h63' : ¬ (9223372036854775807 < ((sLen : Int) + (s.size : Int))) := by omega
  have h48' : ¬ (281474976710656 < Builtin.nextslicecap (sLen + s.size) sCap * i.bytes) := by omega
  have hf := run_firstCells_str (P := P) w.drew i.size s
  have hfo := run_firstCells_some (P := P) w.drew i.size sLen b sLen sCap olds hlo (by simpa using holds)
  simp [Builtin.append_, run_underlying ht, run_underlying hu, sizeOf, typeInfo, zeroValue, hi, hz, Builtin.lenOf, hn, h63', h48', Question.forced, hf, hfo, newRow, grownCap]
  congr 2
  apply Array.ext'
  simp [List.append_assoc]
theorem ba_ext0 {s : ByteArray} (h : s.size = 0) : s = ByteArray.empty := by
  have h1 : s.data.size = 0 := h
  cases s; simp only at h1; congr 1; exact Array.eq_empty_of_size_eq_zero h1
theorem run_append_ows (w : World) (base : Nat) (t u ty e : TypeId) {z : Value} {bytes : Nat} (ht : P.underlying t = some (.slice e)) (hu : P.underlying u = some .string)
    (hinfo : (P.info? e).map (fun i => (i.zero, i.size, i.bytes)) = some (some z, 1, bytes)) (hzs : z.cells.size = 1)
    (v : Value) (n : Nat) (xs : List Value) (hown : OW w base 1 v n xs) (s : ByteArray)
    (h63 : n + s.size ≤ maxLen) (hbytes : (n + s.size) * bytes ≤ 140737488355328) (hbase : base ≤ w.heap.size) :
    ∃ v' w', (Builtin.append_ #[t, u] ty #[v, .string s]).run P w = .ok v' w' ∧ OW w' base 1 v' (n + s.size) (xs ++ bcells s) ∧ w.grownBy w' v.ownBlock ∧ (v'.ownBlock = v.ownBlock ∨ v'.ownBlock = some w.heap.size) := by
  obtain ⟨i, hi, hz, hsize, hby⟩ := info_parts hinfo
  have hbl := bcells_len s
  have hlen : (xs ++ bcells s).length = (n + s.size) * 1 := by rw [List.length_append, hown.1, hbl]; omega
  have hsmall : n + s.size ≤ 9223372036854775807 := by simp only [maxLen] at h63; omega
  subst hby
  rcases hown.2 with ⟨rfl, rfl⟩ | ⟨g, o, cap, rfl, hbg, hgl, hnc, hcm, hcell, hfree⟩
  · have hx : xs = [] := List.eq_nil_of_length_eq_zero (by simpa using hown.1)
    subst hx
    by_cases hm : s.size = 0
    · refine ⟨.slice none 0 0, w, ?_, ?_, ⟨rfl, rfl, rfl, Nat.le_refl _, fun _ _ _ => rfl⟩, .inl rfl⟩
      · have hs0 : s = ByteArray.empty := by
          apply ba_ext0
          exact hm
        subst hs0
        simp [Builtin.append_, run_underlying ht, run_underlying hu, sizeOf, typeInfo, hi, Builtin.lenOf, Builtin.firstCells]
      · have hb0 : bcells s = [] := List.eq_nil_of_length_eq_zero (by rw [hbl]; exact hm)
        rw [hb0, hm]
        exact OW.nil w base 1
    · have hrun := run_append_nil_string (P := P) (w := w) t u ty e i z ht hu hi hz s (by omega) (by omega) (by have hb := hbytes; simp only [Nat.zero_add] at hb; omega)
      have hge := grownCap_ge w s.size 0 e
      have hgm := grownCap_le_maxLen w s.size 0 e (by omega)
      have hg := OW.grown (w := w) (e := e) (olds := []) (news := bcells s) hzs hbase (by rw [List.nil_append, hbl]; omega) hge hgm
      simp only [List.nil_append, Nat.zero_add] at hg ⊢
      refine ⟨_, _, hrun, ?_, ⟨rfl, rfl, rfl, by simp, fun k hk _ => heap_alloc_old w.drew _ k hk⟩, .inr rfl⟩
      have he : (s.data.map fun b => Value.int .u8 b.toNat) = (bcells s).toArray := by apply Array.ext'; simp [bcells]
      rw [he]
      simpa using hg
  · by_cases hroom : n + s.size ≤ cap
    · have hst := run_storeCells_cells (P := P) g (o + n * 1) (bcells s) 0 w
        (fun j hj => by
          have := (hfree (n + j) (by rw [hbl] at hj; omega)).1
          rwa [show o + n * 1 + 0 + j = o + (n + j) by omega])
        (fun j hj => by
          have := (hfree (n + j) (by rw [hbl] at hj; omega)).2
          rwa [show o + n * 1 + 0 + j = o + (n + j) by omega]) (bcells_one s)
      rw [Nat.add_zero] at hst
      have hrun : (Builtin.append_ #[t, u] ty #[.slice (some ⟨g, o, none⟩) n cap, .string s]).run P w = .ok (.slice (some ⟨g, o, none⟩) (n + s.size) cap) (w.setCells g (o + n * 1) (bcells s)) := by
        have hf := run_firstCells_str (P := P) w 1 s
        simp [Builtin.append_, run_underlying ht, run_underlying hu, sizeOf, typeInfo, hi, hsize, Builtin.lenOf, hroom, hf, add_mk]
        rw [Nat.mul_one] at hst
        rw [hst]
        simp
      have hsz2 := setCells_same g (bcells s) (o + n * 1) w
      refine ⟨_, _, hrun, ⟨hlen, .inr ⟨g, o, cap, rfl, hbg, by omega, hroom, hcm, ?_, ?_⟩⟩, ⟨hsz2.2.1, hsz2.2.2.1, hsz2.2.2.2, by omega, fun k hk he => setCells_other g (bcells s) _ w k (fun e => he (by simp [Value.ownBlock, e]))⟩, .inl rfl⟩
      · intro j u' hu'
        have hxl := hown.1
        by_cases hj : j < xs.length
        · rw [List.getElem?_append_left hj] at hu'
          rw [World.cell?_setCells_out _ _ _ _ _ (fun _ _ => .inl (by simp only; omega))]
          exact hcell j u' hu'
        · rw [List.getElem?_append_right (by omega)] at hu'
          have hj2 : j - xs.length < (bcells s).length := (List.getElem?_eq_some_iff.1 hu').1
          have := World.cell?_setCells_in g (bcells s) (o + n * 1) w (fun j hj => by
            have := (hfree (n + j) (by rw [hbl] at hj; omega)).1
            rwa [show o + n * 1 + j = o + (n + j) by omega]) (j - xs.length) hj2
          rw [show o + n * 1 + (j - xs.length) = o + j by omega] at this
          rw [this, ← hu', List.getElem?_eq_getElem hj2]
      · intro j hj
        obtain ⟨h1', h2'⟩ := hfree j hj
        refine ⟨?_, by rw [World.frozen?_setCells]; exact h2'⟩
        by_cases hin : o + n * 1 ≤ o + j ∧ o + j < o + n * 1 + (bcells s).length
        · have := World.cell?_setCells_in g (bcells s) (o + n * 1) w (fun j hj => by
            have := (hfree (n + j) (by rw [hbl] at hj; omega)).1
            rwa [show o + n * 1 + j = o + (n + j) by omega]) (j - n * 1) (by omega)
          rw [show o + n * 1 + (j - n * 1) = o + j by omega] at this
          rw [this]; rfl
        · rw [World.cell?_setCells_out _ _ _ _ _ (fun _ _ => by simp only; omega)]
          exact h1'
    · have holds : ∀ j u, xs[j]? = some u → w.cell? ((⟨g, o, none⟩ : Addr).add j) = some u := fun j u hu => by rw [add_mk]; exact hcell j u hu
      have hrun := run_append_grow_str (P := P) w t u ty e i z ht hu hi hz ⟨g, o, none⟩ n cap xs (by rw [hsize]; exact hown.1) holds s (by omega) (by omega) (growslice_fits (by omega) hbytes)
      have hge := grownCap_ge w (n + s.size) cap e
      have hgm := grownCap_le_maxLen w (n + s.size) cap e h63
      exact ⟨_, _, hrun, OW.grown (w := w) (e := e) hzs hbase hlen hge hgm, ⟨rfl, rfl, rfl, by simp, fun k hk _ => heap_alloc_old w.drew _ k hk⟩, .inr rfl⟩
theorem wpList_append_ows {w : World} {ops : Array Oper} {rest : List Oper} {o : Oper} {a : Act} {Q : Exit → Act → World → Prop} (hgd : o.guard = none) (s x : Operand) (t u : TypeId)
    (ho : o.op = .call { callee := .builtin .append, args := #[s, x], argTypes := #[t, u] })
    (base : Nat) (e : TypeId) {z : Value} {bytes : Nat} (ht : P.underlying t = some (.slice e)) (hu : P.underlying u = some .string) (hinfo : (P.info? e).map (fun i => (i.zero, i.size, i.bytes)) = some (some z, 1, bytes)) (hzs : z.cells.size = 1)
    (v : Value) (n : Nat) (xs : List Value) (hs : a.eval s = v) (hown : OW w base 1 v n xs) (str : ByteArray) (hx : a.eval x = .string str)
    (h63 : n + str.size ≤ maxLen) (hbytes : (n + str.size) * bytes ≤ 140737488355328) (hbase : base ≤ w.heap.size)
    (h : ∀ v' w', OW w' base 1 v' (n + str.size) (xs ++ bcells str) → w.grownBy w' v.ownBlock → (v'.ownBlock = v.ownBlock ∨ v'.ownBlock = some w.heap.size) → wpList P ops Q rest (a.put o.dst v') w') : wpList P ops Q (o :: rest) a w :=
  wpList_plain hgd fun K hK => by
    obtain ⟨v', w', hr, h2, h3, h4⟩ := run_append_ows (P := P) w base t u o.type e ht hu hinfo hzs v n xs hown str h63 hbytes hbase
    unfold Oper.wp execOp
    simp only [ho, resolve, invoke, builtin, Sem.run_bind, Sem.run_pure, Result.andThen_ok, List.map_toArray, List.map_cons, List.map_nil, hs, hx, hr]
    exact hK _ _ (h v' w' h2 h3 h4)
theorem step_append_ows {w : World} {ops : Array Oper} {o : Oper} {a : Act} {K : Act → World → Prop} {Q : Exit → Act → World → Prop} {E : Prop} (hgd : o.guard = none) (s x : Operand) (t u : TypeId)
    (ho : o.op = .call { callee := .builtin .append, args := #[s, x], argTypes := #[t, u] })
    (base : Nat) (e : TypeId) {z : Value} {bytes : Nat} (ht : P.underlying t = some (.slice e)) (hu : P.underlying u = some .string) (hinfo : (P.info? e).map (fun i => (i.zero, i.size, i.bytes)) = some (some z, 1, bytes)) (hzs : z.cells.size = 1)
    (v : Value) (n : Nat) (xs : List Value) (hs : a.eval s = v) (hown : OW w base 1 v n xs) (str : ByteArray) (hx : a.eval x = .string str)
    (h63 : n + str.size ≤ maxLen) (hbytes : (n + str.size) * bytes ≤ 140737488355328) (hbase : base ≤ w.heap.size)
    (h : ∀ v' w', OW w' base 1 v' (n + str.size) (xs ++ bcells str) → w.grownBy w' v.ownBlock → (v'.ownBlock = v.ownBlock ∨ v'.ownBlock = some w.heap.size) → K (a.put o.dst v') w') :
    if Region.wanted o (yielded ops a.tmps) = true then Oper.wp P o a w K Q else E := by
  have hw : Region.wanted o (yielded ops a.tmps) = true := by simp [Region.wanted, hgd]
  rw [if_pos hw]
  obtain ⟨v', w', hr, h2, h3, h4⟩ := run_append_ows (P := P) w base t u o.type e ht hu hinfo hzs v n xs hown str h63 hbytes hbase
  unfold Oper.wp execOp
  simp only [ho, resolve, invoke, builtin, Sem.run_bind, Sem.run_pure, Result.andThen_ok, List.map_toArray, List.map_cons, List.map_nil, hs, hx, hr]
  exact h v' w' h2 h3 h4
/-- a row without its first elements. -/
theorem rd_drop {w : World} {n c sh : Nat} {A : Option Addr} {xs : List Value} (h : Rd w 1 A n xs) (hn : n ≤ c) (hs : sh ≤ n) : Rd w 1 (if c = sh then A else A.map (fun x => x.add sh)) (n - sh) (xs.drop sh) := by
  have hl := h.1
  refine ⟨by rw [List.length_drop]; omega, fun h0 => ?_⟩
  obtain ⟨b, o, rfl, hc⟩ := h.2 (by omega)
  rw [if_neg (by omega)]
  refine ⟨b, o + sh, by simp [add_mk], fun j u hu => ?_⟩
  rw [List.getElem?_drop] at hu
  rw [Nat.add_assoc]
  exact hc _ u hu
end Go.Sed
