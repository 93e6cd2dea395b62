/-
  PROVED HERE: 'sediment/sedimentlaw06.BloomNone' returns true for every keys, bits and more, and leaves its arguments as they were (Rows.BloomNoneSaid). No condition.
-/
import Derived.Test.YtakgmkgipjfolaaRows
import Derived.ProofKit
import Derived.OpenShut
import Derived.ShutString
import Derived.ChangeOld
import Derived.SizedLaws
import Derived.Test.YtakgmkgipjfolaaProg
import Derived.RangeFuncNested
import Derived.RangeFuncBound
import Derived.RangeFuncCalls
import Derived.RangeFuncLeaves
import Derived.Shelf.Abstract
import Derived.Shelf.RegionOpen
import Derived.WalkKit
import Derived.OwnWalkIn
import Derived.TacticsInMore
import Derived.LoopNIn
import Derived.LoopIn
import Derived.Lib.Hide
import Derived.Outline
import Derived.Test.YtakgmkgipjfolaaSed
import Derived.Test.YtakgmkgipjfolaaG
import Derived.RegionTactic
import Derived.BigRegion
namespace Go.Proofs.Ytakgmkgipjfolaa
open Go.RowKit Go.Sed
set_option maxHeartbeats 1000000
theorem info9 : (Try.prog.info? 9).map (fun i => (i.zero, i.size, i.bytes)) = some (some (.string ByteArray.empty), 1, 16) := by kernel_rfl
theorem RS_of_Rd {w : World} {A : Option Addr} {keys : List ByteArray} (h : Rd w 1 A keys.length (keys.map Value.string)) : RS w A keys := by
  intro i hi
  obtain ⟨b, o, u, rfl, hu, hc⟩ := h.at1 hi
  refine ⟨b, o, rfl, ?_⟩
  rw [hc, ← hu]; simp [hi]
theorem none_walk (pk : Option Addr) (ck : Nat) (keys : List ByteArray) (a1 : Int) (pm : Option Addr) (cm : Nat) (more : List Int) (w : World)
    (hk : Rd w 1 pk keys.length (keys.map Value.string)) (hkn : keys.length * 16 ≤ 140737488351232) (hks : ∀ k ∈ keys, k.size ≤ maxLen) (hb0 : 0 ≤ a1 ∧ a1 ≤ 255)
    (hm : RI w .u16 pm more) (hmn : more.length * 2 ≤ 140737488351232) (hmr : ∀ i : Nat, 0 ≤ more[i]?.getD 0 ∧ more[i]?.getD 0 < 65536) :
    Calls Try.prog 3 #[.slice pk keys.length ck, .int .u8 a1, .slice pm more.length cm] w fun e w' => e = .returned (.bool true) ∧ Below w.heap.size w w' := by
  obtain ⟨bits, hbits⟩ : ∃ b : Int, 1 + a1 % 64 = b := ⟨_, rfl⟩
  have h1 : 1 ≤ bits := by omega
  have h2 : bits ≤ 64 := by omega
  replace hbits := Lib.hid hbits
  have hml : keys.length ≤ maxLen := by unfold maxLen; omega
  have hl2 : keys.length ≤ 140737488351232 := by omega
  replace hk := Lib.hid hk
  by_cases hlong : 1048576 < keys.length
  · go_enter Try.func3, Try.ntmps3
    go_wp2_with (first
      | (go_at_call 5; refine (lives_any _).mono ?_; rintro e w1 ⟨rfl, hB1⟩)
      | (at_builtin; refine wpList_append_rd rfl _ _ 22 rfl w.heap.size 9 Try.underlying22 info9 rfl (by decide) _ 0 [] rfl (World.ownsRow_made w1 #[] 0 hB1.size (by unfold maxLen; omega) rfl) _ _ _ _ rfl (hk.out.keep (hB1.trans ((Below.refl _ _).alloc hB1.size _))) (by simp [Value.oneCell']) (by simpa using hml) (by omega) (by simp; have := hB1.size; omega) ?_; intro v' w2 hown hgr; obtain ⟨A2, c2, rfl, hrd, hnc, hcm, hA2⟩ := ownsRow_shape hown; have hB2 := below_grown (hB1.alloc hB1.size _) (by simp; have := hB1.size; omega) (World.ownsRow_made (e := 9) (size := 1) w1 #[] 0 hB1.size (by unfold maxLen; omega) rfl) (Nat.le_refl _) hgr; clear hown hgr; rw [List.nil_append, Nat.zero_add] at hrd; replace hrd := Lib.hid hrd)
      | (go_at_call 6; rw [hbits.out]; refine (build_long A2 c2 _ bits _ h1 h2 hlong hl2).mono ?_; rintro e w3 ⟨rfl, rfl⟩))
    go_ret
    exact ⟨rfl, hB2⟩
  · obtain ⟨sz, hsz⟩ : ∃ sz, szOf bits keys.length = sz := ⟨_, rfl⟩
    obtain ⟨n, hn⟩ : ∃ n : Nat, cnt bits = n := ⟨(cnt bits).toNat, by have := cnt_bd bits h1 h2; omega⟩
    have hn1 : 1 ≤ n ∧ n ≤ 30 := by have := cnt_bd bits h1 h2; omega
    have hszb : 8 ≤ sz ∧ sz + 1 ≤ 16777216 := by
      have h8 : 0 ≤ bits * (keys.length : Int) := Int.mul_nonneg (by omega) (by omega)
      have h9 : bits * (keys.length : Int) ≤ 64 * 1048576 := Int.mul_le_mul h2 (by omega) (by omega) (by omega)
      rw [← hsz]; unfold szOf; split <;> omega
    have hH := holds_build keys bits h1 h2
    rw [hsz, hn, Int.toNat_natCast] at hH
    have hbl := fun A c W hk => build_any A c keys bits W h1 h2 (by omega) hk hks
    rw [hsz] at hbl
    replace hH := Lib.hid hH
    replace hbl := Lib.hid hbl
    clear hn hsz
    go_enter Try.func3, Try.ntmps3
    go_wp2_with (first
      | (go_at_call 5; refine (lives_any _).mono ?_; rintro e w1 ⟨rfl, hB1⟩)
      | (at_builtin; refine wpList_append_rd rfl _ _ 22 rfl w.heap.size 9 Try.underlying22 info9 rfl (by decide) _ 0 [] rfl (World.ownsRow_made w1 #[] 0 hB1.size (by unfold maxLen; omega) rfl) _ _ _ _ rfl (hk.out.keep (hB1.trans ((Below.refl _ _).alloc hB1.size _))) (by simp [Value.oneCell']) (by simpa using hml) (by omega) (by simp; have := hB1.size; omega) ?_; intro v' w2 hown hgr; obtain ⟨A2, c2, rfl, hrd, hnc, hcm, hA2⟩ := ownsRow_shape hown; have hB2 := below_grown (hB1.alloc hB1.size _) (by simp; have := hB1.size; omega) (World.ownsRow_made (e := 9) (size := 1) w1 #[] 0 hB1.size (by unfold maxLen; omega) rfl) (Nat.le_refl _) hgr; clear hown hgr; rw [List.nil_append, Nat.zero_add] at hrd; replace hrd := Lib.hid hrd)
      | (go_at_call 6; rw [hbits.out]; refine (hbl.out A2 c2 _ (RS_of_Rd hrd.out)).mono ?_; rintro e w3 ⟨rfl, hF, hB3⟩))
    have hB4 : Below w.heap.size w w3 := hB2.trans (hB3.mono hB2.size)
    have hfb : w.heap.size ≤ w2.heap.size := hB2.size
    have hlen := hH.out.len
    go_loopw [9] (fun i wr => ∃ (k : Nat) (F : List Int), k ≤ more.length ∧ i = .int .i64 k ∧ Holds keys sz n F ∧ Bl wr w2.heap.size (.cells (ci .u8 F) 5 (0, 0)) ∧ Below w.heap.size w wr) (fun i _ => more.length - (intOf i).toNat)
    case atStart => exact ⟨0, _, Nat.zero_le _, rfl, hH.out, hF, hB4⟩
    case round =>
      clear hB1 hB2 hB3 hB4 hF hrd hA2 hlen
      obtain ⟨k, F, hk1, rfl, hHF, hF, hB⟩ := hrel
      have hlen := Lib.hid hHF.len
      by_cases hlt : k < more.length
      · obtain ⟨pb, po, rfl, hcm⟩ := (hm.keep hB) k hlt
        obtain ⟨x, hx⟩ : ∃ x : Nat, more[k]?.getD 0 = x := ⟨(more[k]?.getD 0).toNat, by have := hmr k; omega⟩
        have hx2 : x < 65536 := by have := hmr k; omega
        rw [show more.getD k 0 = more[k]?.getD 0 by simp, hx] at hcm
        have cF := hF.int (x % sz) (by rw [hlen.out]; have := Nat.mod_lt x (show 0 < sz by omega); omega)
        have fF := hF.frozen (x % sz)
        have hmod : x % sz < sz := Nat.mod_lt x (by omega)
        clear hx
        go_wp2_with fail
        go_region
        go_wp2
        go_roundw
        case rel =>
          have hq := hHF.more (8 * (x % sz) + x % 8) (by omega)
          have he : setB F (8 * (x % sz) + x % 8) = F.set (x % sz) (Go.bits .or .u8 (F[x % sz]?.getD 0) (2 ^ (x % 8) % 256)) := by
            unfold setB
            rw [show (8 * (x % sz) + x % 8) / 8 = x % sz by omega, show (8 * (x % sz) + x % 8) % 8 = x % 8 by omega]
          rw [he] at hq
          exact ⟨k + 1, _, by omega, by go_num, hq, hF.setInt _ _, (hB.setCell (by simp; omega) _).drew⟩
        case measure => simp [intOf]; omega
      · obtain rfl : k = more.length := by omega
        have hch := Lib.hid (hHF.chk hszb.1 hszb.2 hn1.1 hn1.2)
        have hlF : F.length ≤ 140737488351232 := by rw [hlen.out]; omega
        have c7 : ∀ (W : World), Bl W w2.heap.size (.cells (ci .u8 F) 5 (0, 0)) → Calls Try.prog 7 #[.slice (some ⟨w2.heap.size, 0, none⟩) (sz + 1) (sz + 1)] W fun e w' => e = .returned (.int .i64 0) ∧ W = w' := by
          intro W hF
          have := check_any (some ⟨w2.heap.size, 0, none⟩) (sz + 1) F W hlF hF.RI
          rw [hlen.out, hch.out] at this; exact this
        have m8 : ∀ (W : World) (s : ByteArray), s ∈ keys → Bl W w2.heap.size (.cells (ci .u8 F) 5 (0, 0)) → Calls Try.prog 8 #[.slice (some ⟨w2.heap.size, 0, none⟩) (sz + 1) (sz + 1), .string s] W fun e w' => e = .returned (.bool true) ∧ Below W.heap.size W w' := by
          intro W s hs hF
          have := may_any (some ⟨w2.heap.size, 0, none⟩) (sz + 1) F s W (hks s hs) hlF hF.RI
          rw [hlen.out, hHF.may hszb.1 hszb.2 hn1.1 hn1.2 s hs] at this; exact this
        replace c7 := Lib.hid c7
        replace m8 := Lib.hid m8
        go_wp2_with (go_at_call 7; refine (c7.out _ hF).mono ?_; rintro e w4 ⟨rfl, rfl⟩)
        go_loopw [10] (fun i wr => ∃ (j : Nat), j ≤ keys.length ∧ i = .int .i64 j ∧ Bl wr w2.heap.size (.cells (ci .u8 F) 5 (0, 0)) ∧ Below w.heap.size w wr) (fun i _ => keys.length - (intOf i).toNat)
        case atStart => exact ⟨0, Nat.zero_le _, rfl, hF, hB⟩
        case round =>
          clear hF hB
          obtain ⟨j, hj1, rfl, hF, hB⟩ := hrel
          by_cases hlt : j < keys.length
          · obtain ⟨kb, ko, rfl, hcell⟩ := RS_of_Rd (hk.out.keep hB) j hlt
            rw [show keys.getD j ByteArray.empty = keys[j] by simp [hlt]] at hcell
            go_wp2_with (go_at_call 8; refine (m8.out _ keys[j] (List.getElem_mem hlt) hF).mono ?_; rintro e w4 ⟨rfl, hB4⟩)
            go_roundw
            case rel => exact ⟨j + 1, by omega, by go_num, hF.keep hB4, hB.trans (hB4.mono hB.size)⟩
            case measure => simp [intOf]; omega
          · go_wp2
            go_ret
            exact ⟨rfl, hB⟩
namespace bloomNone
open Go.ChangeShapes Go.WideShapes Go.ChangeAt Go.RowKit
open Go.ChangeMaps (open_string shut_string)
set_option linter.unusedVariables false
theorem own : ownKnob Try.prog.godebug = none := by kernel_rfl
theorem laidOut : laidOutB Try.prog = true := by kernel_rfl
set_option maxRecDepth 100000 in
theorem lifted (os : Os) (started : os.Started) (H : Type) (enc : TypeId × Value → H) :
    ReturnsInHanded {} Try.checked os 3 .any (Rows.bloomNoneSpec.pre6 enc Try.prog Try.f3 Rows.bloomNoneRow.domain false) (Rows.bloomNoneSpec.post enc Try.prog Try.f3 false true false false) := by
  refine returnsInHanded_of_change_sized (C := Try.checked) own started (by kernel_rfl) Try.func3
    (ChangeSpec.witness6 (enc := enc) (C := Try.checked) false ⟨#[], #[.slice none 0 0, .int .u8 0, .slice none 0 0], []⟩ 8 (by kernel_rfl) (by kernel_rfl) (by kernel_rfl) (by kernel_rfl)) ?_
  intro W base args ds gs before hval0 hW hcnd hsz0 _
  have hval : ∀ (j : Nat) t v, Try.f3.params[j]? = some t → args[j]? = some v → Value.okWide Try.prog W .any base t v := hval0
  have hW' := hW
  obtain ⟨p, q, hA0, hV, rfl, hfz, hnd⟩ := hW
  have hA : DataW.TrodAll enc Try.prog W 0 (fun _ => true) true Try.f3.params.toList args.toList ds p := hA0
  have hsz : (DataW.weightsEach Try.prog (Try.f3.params.toList ++ Rows.bloomNoneSpec.plain.varTypes Try.prog) (ds ++ gs)).all (· ≤ reachBytes) = true := hsz0
  rw [Try.params3] at hA hval hsz
  obtain ⟨v0, vs0, d0, ds0, p0, q0, hargs, rfl, rfl, h0, r0⟩ := trodAll_cons hA
  obtain ⟨v1, vs1, d1, ds1, p1, q1, rfl, rfl, rfl, h1, r1⟩ := trodAll_cons r0
  obtain ⟨v2, vs2, d2, ds2, p2, q2, rfl, rfl, rfl, h2, r2⟩ := trodAll_cons r1
  obtain ⟨rfl, rfl, rfl⟩ := trodAll_nil r2
  obtain rfl : args = #[v0, v1, v2] := by cases args; simp_all
  obtain ⟨rfl, rfl⟩ := trodVars_none hV
  have k0 := h0
  have lt0 : ∀ x ∈ p0, x.block < W.heap.size := by obtain ⟨m, hm⟩ := k0; exact DataW.trod_lt m _ _ _ hm
  have k1 := h1
  have lt1 : ∀ x ∈ p1, x.block < W.heap.size := by obtain ⟨m, hm⟩ := k1; exact DataW.trod_lt m _ _ _ hm
  have k2 := h2
  have lt2 : ∀ x ∈ p2, x.block < W.heap.size := by obtain ⟨m, hm⟩ := k2; exact DataW.trod_lt m _ _ _ hm
  clear hA0 hval0 hsz0
  simp only [List.append_nil] at hW'
  obtain ⟨pk, n, ck, rfl⟩ := okWide_slice Try.underlying22 (hval 0 22 v0 rfl rfl)
  obtain ⟨keys, rfl, hk, hks, hkn⟩ : ∃ keys : List ByteArray, n = keys.length ∧ Rd W 1 pk keys.length (keys.map Value.string) ∧ (∀ k ∈ keys, k.size ≤ maxLen) ∧ keys.length * 16 ≤ 140737488351232 := by
    obtain ⟨fuel, hf⟩ := h0
    rcases open_strings Try.underlying22 Try.underlying9 (by kernel_rfl) hf with ⟨hcs, hx⟩ | ⟨x, l, c, ss, hcs, _, hl, hm, hz, hx, hcell, hws⟩
    · simp [Value.cells] at hcs
      obtain ⟨rfl, rfl, rfl⟩ := hcs
      exact ⟨[], rfl, Rd.nil _ _ _, by simp, by simp⟩
    · simp [Value.cells] at hcs
      obtain ⟨rfl, rfl, rfl⟩ := hcs
      simp only [Prod.mk.injEq] at hx
      obtain ⟨rfl, rfl⟩ := hx
      have hb := sized_slice hsz (j := 0) (t := 22) (e := 9) rfl rfl Try.underlying22
      rw [show Try.prog.bytesOf 9 = 16 by kernel_rfl] at hb
      simp only [if_true] at hz
      simp only [strs, List.length_map, List.length_take, List.length_drop, reachBytes] at hb
      refine ⟨ss.take n, by simp; omega, ⟨by simp, fun h => ?_⟩, fun k hk => hws k (List.mem_of_mem_take hk), by simp; omega⟩
      obtain ⟨hs, hcell⟩ := row_at (xs := ss.map Value.string) (by simp; simp at h; omega) (fun i hi => by rw [hcell i (by simpa using hi)]; simp at hi; simp [hi])
      refine ⟨x.block, x.off, by rw [hs], fun j u hu => ?_⟩
      apply hcell j u
      simp only [List.map_take, List.getElem?_take] at hu
      split at hu
      · exact hu
      · cases hu
  obtain ⟨a1, rfl, rfl, rfl, w1⟩ := open_int Try.underlying5 (hval 1 5 v1 rfl rfl) h1
  obtain ⟨pm, m, cm, rfl⟩ := okWide_slice Try.underlying23 (hval 2 23 v2 rfl rfl)
  obtain ⟨more, rfl, hm, hmn, hmr⟩ : ∃ more : List Int, m = more.length ∧ RI W .u16 pm more ∧ more.length * 2 ≤ 140737488351232 ∧ (∀ i : Nat, 0 ≤ more[i]?.getD 0 ∧ more[i]?.getD 0 < 65536) := by
    obtain ⟨fuel, hf⟩ := h2
    rcases open_ints Try.underlying23 Try.underlying29 (by kernel_rfl) hf with ⟨hcs, hx⟩ | ⟨x, l, c, zs, hcs, _, hl, hm, hz, hx, hcell, hwz⟩
    · simp [Value.cells] at hcs
      obtain ⟨rfl, rfl, rfl⟩ := hcs
      exact ⟨[], rfl, fun i hi => by simp at hi, by simp, by simp⟩
    · simp [Value.cells] at hcs
      obtain ⟨rfl, rfl, rfl⟩ := hcs
      simp only [Prod.mk.injEq] at hx
      obtain ⟨rfl, rfl⟩ := hx
      have hb := sized_slice hsz (j := 2) (t := 23) (e := 29) rfl rfl Try.underlying23
      rw [show Try.prog.bytesOf 29 = 2 by kernel_rfl] at hb
      simp only [if_true] at hz
      simp only [lits, List.length_map, List.length_take, List.length_drop, reachBytes] at hb
      refine ⟨zs.take m, by simp; omega, fun i hi => ?_, by simp; omega, fun i => ?_⟩
      · simp only [List.length_take] at hi
        obtain ⟨hs, hcell⟩ := row_at (xs := zs.map (Value.int .u16)) (by simp; omega) (fun i hi => by rw [hcell i (by simpa using hi)]; simp at hi; simp [hi])
        refine ⟨x.block, x.off, by rw [hs], ?_⟩
        apply hcell i
        simp [show i < m by omega, show i < zs.length by omega]
      · by_cases hi : i < (zs.take m).length
        · rw [List.getElem?_eq_getElem hi]
          have := bounds_u16 (hwz _ (List.mem_of_mem_take (List.getElem_mem hi)))
          simp only [Option.getD_some]; omega
        · rw [List.getElem?_eq_none (by omega)]; simp
  refine (none_walk pk ck keys a1 pm cm more W hk hkn hks (bounds_u8 w1) hm hmn hmr).mono fun e W' ⟨he, bel⟩ => ?_
  subst he
  exact ⟨_, rfl, _, _, _, [], _, [], hW', trodAll_mk1 (shut_bool Try.underlying4 _), (trodAll_cons_mk (Below.trod laidOut (by kernel_rfl) (of_decide_eq_true (by kernel_rfl)) k0 bel lt0) (trodAll_cons_mk (Below.trod laidOut (by kernel_rfl) (of_decide_eq_true (by kernel_rfl)) k1 bel lt1) (trodAll_cons_mk (Below.trod laidOut (by kernel_rfl) (of_decide_eq_true (by kernel_rfl)) k2 bel lt2) trodAll_mk0))), rfl, bel.frame _, fun h => by cases h⟩
theorem over : Rows.bloomNoneRow.holds Try.pinned (OpenSpec.ofChange Rows.bloomNoneSpec) :=
  OpenClaim.holds_of_wide 3 Try.f3 rfl rfl rfl rfl rfl rfl rfl ⟨rfl, rfl, rfl, rfl, rfl⟩ rfl rfl rfl rfl rfl (by kernel_rfl) Try.func3 (by kernel_rfl)
    (of_decide_eq_true (by kernel_rfl)) (by unfold Func.isWrapper; first | (rw [if_pos (by decide +kernel)]; kernel_rfl) | (rw [if_neg (by decide +kernel)]; exact ⟨rfl, rfl⟩))
    (fun os started H enc _ => lifted os started H enc)
theorem proved : Rows.BloomNoneSaid := over
end bloomNone
end Go.Proofs.Ytakgmkgipjfolaa
