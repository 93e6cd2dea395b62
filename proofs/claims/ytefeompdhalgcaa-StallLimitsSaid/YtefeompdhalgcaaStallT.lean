/- The law of turns: its state, in plain lists. -/
import Derived.Test.YtefeompdhalgcaaStallF
namespace Go.Proofs.Ytefeompdhalgcaa
open Go.RowKit Go.Sed
/-- who goes, one behind the other. -/
def RunTo : List A3 → List A3 → List A3 → Int → List A3 → List A3 → Int → Prop
  | [], U, O, row, U', O', row' => U = U' ∧ O = O' ∧ row = row'
  | a :: g, U, O, row, U', O', row' => (ahI U O row = 1 ∧ ∃ O1, O = a :: O1 ∧ RunTo g U O1 0 U' O' row') ∨ (ahI U O row = 0 ∧ ∃ U1, U = a :: U1 ∧ RunTo g U1 O (if O.length = 0 then 0 else row + 1) U' O' row')
theorem RunTo.perm : ∀ (g : List A3) {U O : List A3} {row : Int} {U' O' : List A3} {row' : Int}, RunTo g U O row U' O' row' → (U ++ O).Perm (g ++ (U' ++ O'))
  | [], _, _, _, _, _, _, h => by obtain ⟨rfl, rfl, _⟩ := h; exact List.Perm.refl _
  | a :: g, _, _, _, _, _, _, h => by
    rcases h with ⟨_, O1, rfl, h⟩ | ⟨_, U1, rfl, h⟩
    · exact List.perm_middle.trans ((RunTo.perm g h).cons a)
    · exact (RunTo.perm g h).cons a
theorem runS_to : ∀ (f : Nat) (le : Int) (U O : List A3) (row : Int), ∃ g : List A3, (runS f le U O row).1 = g.map (·.1) ∧ RunTo g U O row (runS f le U O row).2.2.1 (runS f le U O row).2.2.2.1 (runS f le U O row).2.2.2.2 ∧ (0 ≤ le → 0 ≤ (runS f le U O row).2.1) ∧
      (runS f le U O row).2.1 = le - gs g ∧ (g = [] → f = 0 ∨ nx le U O row = none)
  | 0, le, U, O, row => ⟨[], rfl, ⟨rfl, rfl, rfl⟩, fun h => h, by simp [runS, gs], fun _ => .inl rfl⟩
  | f + 1, le, U, O, row => by
    cases h : nx le U O row with
    | none => rw [runS_none h]; exact ⟨[], rfl, ⟨rfl, rfl, rfl⟩, fun h => h, by simp [gs], fun _ => .inr rfl⟩
    | some x =>
      obtain ⟨a, le', U', O', row'⟩ := x
      obtain ⟨g, h1, h2, h4, h3, _⟩ := runS_to f le' U' O' row'
      have hr : runS (f + 1) le U O row = (a.1 :: (runS f le' U' O' row').1, (runS f le' U' O' row').2) := by
        conv => lhs; unfold runS
        rw [h]
      have hn := nx_some h
      rw [hr]
      refine ⟨a :: g, by rw [h1]; rfl, ?_, ?_, ?_, fun e => by cases e⟩
      · rcases hn.2.2 with ⟨ha, rfl, rfl, rfl⟩ | ⟨ha, rfl, rfl, rfl⟩
        · exact .inl ⟨ha, _, rfl, h2⟩
        · exact .inr ⟨ha, _, rfl, h2⟩
      · intro h0; apply h4; rw [hn.1]; omega
      · rw [h3, hn.1]; simp [gs]; omega
/-- each sort in the order of its asks. -/
structure TP (bu : Int) (k : Nat) (U O : List A3) : Prop where
  fu : ∀ a, a ∈ U → a.2.2 = true
  fo : ∀ a, a ∈ O → a.2.2 = false
  su : U.Pairwise fun a c => a.1 < c.1
  so : O.Pairwise fun a c => a.1 < c.1
  all : ∀ a, a ∈ U ∨ a ∈ O → 0 ≤ a.1 ∧ a.1 < k ∧ 0 ≤ a.2.1 ∧ a.2.1 ≤ bu
  len : U.length + O.length ≤ 4096
theorem TP.next {bu : Int} {k : Nat} {U O : List A3} (h : TP bu k U O) : TP bu (k + 1) U O := ⟨h.fu, h.fo, h.su, h.so, fun a ha => by have := h.all a ha; omega, h.len⟩
theorem TP.ask {bu : Int} {k : Nat} {U O : List A3} (h : TP bu k U O) (n : Int) (ur : Bool) (hn : 0 ≤ n ∧ n ≤ bu) (hl : U.length + O.length < 4096) : TP bu (k + 1) (if ur then U ++ [((k : Int), n, ur)] else U) (if ur then O else O ++ [((k : Int), n, ur)]) := by
  cases ur
  · simp only [Bool.false_eq_true, if_false]
    refine ⟨h.fu, ?_, h.su, ?_, ?_, by simp; omega⟩
    · intro a ha; simp at ha; rcases ha with ha | rfl; exact h.fo a ha; rfl
    · rw [List.pairwise_append]
      exact ⟨h.so, by simp, fun a ha c hc => by simp at hc; subst hc; have := h.all a (.inr ha); simp only; omega⟩
    · intro a ha
      have : (a ∈ U ∨ a ∈ O) ∨ a = ((k : Int), n, false) := by simp at ha; grind
      rcases this with ha | rfl
      · have := h.all a ha; omega
      · simp only; omega
  · simp only [if_true]
    refine ⟨?_, h.fo, ?_, h.so, ?_, by simp; omega⟩
    · intro a ha; simp at ha; rcases ha with ha | rfl; exact h.fu a ha; rfl
    · rw [List.pairwise_append]
      exact ⟨h.su, by simp, fun a ha c hc => by simp at hc; subst hc; have := h.all a (.inl ha); simp only; omega⟩
    · intro a ha
      have : (a ∈ U ∨ a ∈ O) ∨ a = ((k : Int), n, true) := by simp at ha; grind
      rcases this with ha | rfl
      · have := h.all a ha; omega
      · simp only; omega
/-- what the law counts, beside what the limiter counts. -/
structure TQ (bu : Int) (k : Nat) (U O : List A3) (row lrow lu lo : Int) : Prop where
  pl : TP bu k U O
  rowb : 0 ≤ row ∧ row ≤ 10
  lr : O.length ≠ 0 → lrow = row
  lr0 : 0 ≤ lrow ∧ lrow + U.length ≤ 4096
  lu : ∀ a, a ∈ U → lu < a.1
  lo : ∀ a, a ∈ O → lo < a.1
theorem TQ.goO {bu : Int} {k : Nat} {U O : List A3} {a : A3} {row lrow lu lo : Int} (h : TQ bu k U (a :: O) row lrow lu lo) : a.2.2 = false ∧ ¬ a.1 ≤ lo ∧ TQ bu k U O 0 0 lu a.1 := by
  have hs := List.pairwise_cons.1 h.pl.so
  refine ⟨h.pl.fo a (by simp), by have := h.lo a (by simp); omega, ⟨⟨h.pl.fu, fun c hc => h.pl.fo c (by simp [hc]), h.pl.su, hs.2, fun c hc => h.pl.all c (by simp; grind), by have := h.pl.len; simp at this; omega⟩, by omega, fun _ => rfl, by have := h.pl.len; simp at this; omega, h.lu, hs.1⟩⟩
theorem TQ.goU {bu : Int} {k : Nat} {U O : List A3} {a : A3} {row lrow lu lo : Int} (h : TQ bu k (a :: U) O row lrow lu lo) (hah : ahI (a :: U) O row = 0) :
    a.2.2 = true ∧ ¬ a.1 ≤ lu ∧ (0 < O.length → lrow < 10) ∧ TQ bu k U O (if O.length = 0 then 0 else row + 1) (lrow + 1) a.1 lo := by
  have hs := List.pairwise_cons.1 h.pl.su
  have h10 : O.length ≠ 0 → row < 10 := fun h0 => ah0_row hah h0
  refine ⟨h.pl.fu a (by simp), by have := h.lu a (by simp); omega, fun h0 => by rw [h.lr (by omega)]; exact h10 (by omega), ⟨⟨fun c hc => h.pl.fu c (by simp [hc]), h.pl.fo, hs.2, h.pl.so, fun c hc => h.pl.all c (by simp; grind), by have := h.pl.len; simp at this; omega⟩, ?_, ?_, by have := h.lr0; simp at this; omega, hs.1, h.lo⟩⟩
  · have := h.rowb
    split
    · omega
    · rename_i h0; have := h10 h0; omega
  · intro h0
    rw [if_neg h0, h.lr h0]
theorem nx_stuck {le row bu : Int} {U O : List A3} (h : nx le U O row = none) (hn : 0 < U.length + O.length) (hb : ∀ a, a ∈ U ∨ a ∈ O → a.2.1 ≤ bu) : le < bu := by
  rcases ah_cases U O row with ⟨_, rfl, rfl⟩ | ⟨h1, a, O', rfl⟩ | ⟨h1, a, U', rfl⟩
  · simp at hn
  · unfold nx at h
    rw [if_pos h1] at h
    have := hb a (by simp)
    by_cases h2 : le < a.2.1
    · omega
    · simp [h2] at h
  · unfold nx at h
    rw [if_neg (by rw [h1]; decide), if_pos h1] at h
    have := hb a (by simp)
    by_cases h2 : le < a.2.1
    · omega
    · simp [h2] at h
/-- a step of the limiter, as the law of turns sees it. -/
theorem turn_step {r bu le row lrow lu lo idle : Int} {k : Nat} {U O : List A3} (h : TQ bu k U O row lrow lu lo) (hr : 0 < r ∧ r ≤ 65535) (hb : 0 ≤ bu ∧ bu ≤ 65535) (hle : 0 ≤ le ∧ le ≤ bu) (hid : 0 ≤ idle) (hil : le = bu ∨ idle * r ≤ le) (hn : 0 < U.length + O.length) :
    ∃ g le' U' O' row', runS (U.length + O.length) (minI (plusI le r) bu) U O row = (g.map (·.1), le', U', O', row') ∧ RunTo g U O row U' O' row' ∧ (U ++ O).Perm (g ++ (U' ++ O')) ∧ (0 ≤ le' ∧ le' ≤ bu) ∧
      (g = [] → idle + 1 ≤ bu / r ∧ (le' = bu ∨ (idle + 1) * r ≤ le')) := by
  obtain ⟨g, h1, h2, h4, h3, h5⟩ := runS_to (U.length + O.length) (minI (plusI le r) bu) U O row
  have hm := minI_eq (plusI le r) bu
  have hp : plusI le r = le + r := by unfold plusI; rw [if_neg (by omega)]
  rw [hp] at hm h1 h2 h3 h4 h5 ⊢
  have hL : 0 ≤ minI (le + r) bu := by omega
  obtain ⟨res, hrun⟩ : ∃ res, runS (U.length + O.length) (minI (le + r) bu) U O row = res := ⟨_, rfl⟩
  rw [hrun] at h1 h2 h3 h4 ⊢
  obtain ⟨x, le', U', O', row'⟩ := res
  simp only at h1 h2 h3 h4
  subst h1
  have hperm := RunTo.perm g h2
  have hg0 : 0 ≤ gs g := gs_nonneg (fun a ha => by
    have hm : a ∈ U ++ O := hperm.mem_iff.2 (by simp [ha])
    exact (h.pl.all a (by simpa using hm)).2.2.1)
  refine ⟨g, le', U', O', row', rfl, h2, hperm, ⟨h4 hL, by omega⟩, ?_⟩
  intro hg
  have hst : nx (minI (le + r) bu) U O row = none := by rcases h5 hg with h | h; omega; exact h
  have hlt := nx_stuck hst hn (fun a ha => (h.pl.all a ha).2.2.2)
  have hgs : gs g = 0 := by rw [hg]; rfl
  have e1 : minI (le + r) bu = le + r := by omega
  have e2 : (idle + 1) * r = idle * r + r := by rw [Int.add_mul, Int.one_mul]
  have e3 : (idle + 1) * r ≤ bu := by omega
  exact ⟨by rw [Int.le_ediv_iff_mul_le hr.1]; exact e3, .inr (by omega)⟩
end Go.Proofs.Ytefeompdhalgcaa
