/- The library's sort and its compacting, at layer 9. Conditions: what each theorem names. -/
import Derived.RangeFuncNested
import Derived.RangeFuncBound
import Derived.RangeFuncCalls
import Derived.RangeFuncLeaves
import Derived.Shelf.Abstract
import Derived.Shelf.RegionOpen
import Derived.WalkKit
import Derived.OwnWalkIn
import Derived.TacticsInMore
import Derived.LoopNIn
import Derived.LoopIn
import Derived.Lib.Hide
import Derived.Outline
import Derived.RegionTactic
import Derived.BigRegion
import Derived.WalkLawsBesides
import Derived.WalkSpells
import Derived.Deep.QuietTactic
import Derived.BigQuiet
import Derived.Deep.RegionHeld3
import Derived.Deep.DeepCutAuto
import Derived.Deep.CutBlock
import Derived.StillTailTactics
import Derived.WalkSmall
import Derived.Test.YtmopjoeomjdikaaRgB
import Derived.Test.YtmopjoeomjdikaaRgL
import Derived.Test.YtmopjoeomjdikaaCpt
namespace Go.Proofs.Ytmopjoeomjdikaa
open Go.RowKit Go.Sed Go.Sort
set_option maxHeartbeats 1000000
set_option maxRecDepth 100000
theorem infoStr : (Try.prog.info? 9).map (fun i => (i.zero, i.size, i.bytes)) = some (some (.string .empty), 1, 16) := by kernel_rfl
theorem infoU64 : (Try.prog.info? 36).map (fun i => (i.zero, i.size, i.bytes)) = some (some (.int .u64 0), 1, 8) := by kernel_rfl
theorem infoFrag : (Try.prog.info? 34).map (fun i => (i.zero, i.size, i.bytes)) = some (some (.agg #[.string .empty, .string .empty, .slice none 0 0]), 3, 56) := by kernel_rfl
def stC (l : List ByteArray) : List Value := l.map Value.string
def u64C (l : List Int) : List Value := l.map (Value.int .u64)
theorem sortS_any (how : Int) (hb base n c : Nat) (A : Option Addr) (l : List ByteArray) (w : World) (hh : Bl w hb (.cells #[.int .i64 how] 3 (0, 0))) (hlo : hb < base) (h : OW w base 1 (.slice A n c) n (stC l)) (hn : n < 4611686018427387904) :
    Calls Try.prog 33 #[.slice A n c, .func (.func 31) #[] #[.pointer (some ⟨hb, 0, none⟩)]] w fun e w' => e = .returned (.tuple #[]) ∧ OW w' base 1 (.slice A n c) n (stC (sortB how l)) ∧ Fr (fun k => (Value.slice A n c).ownBlock = some k) w w' := by
  refine sort_ow (P := Try.prog) (ρ := Try.sortS_ren) Try.sortS Value.string (fun _ => rfl) (cmpH how) (swoB how) (totB how) 31 #[.pointer (some ⟨hb, 0, none⟩)] (enters_of Try.func31 (by kernel_rfl) rfl) base n c A l w h hn (fun W hW x y => ?_)
  have h1 := hh.fr hW (fun e => by have := (h.lt hb e).1; omega)
  exact order_any how x y hb W (h1.cell 0)
theorem sortU_any (base n c : Nat) (A : Option Addr) (l : List Int) (w : World) (h : OW w base 1 (.slice A n c) n (u64C l)) (hn : n < 4611686018427387904) :
    Calls Try.prog 35 #[.slice A n c, .func (.func 36) #[] #[]] w fun e w' => e = .returned (.tuple #[]) ∧ OW w' base 1 (.slice A n c) n (u64C (sortI l)) ∧ Fr (fun k => (Value.slice A n c).ownBlock = some k) w w' := by
  refine sort_ow (P := Try.prog) (ρ := Try.sortU_ren) Try.sortU (Value.int .u64) (fun _ => rfl) fallI swoI totI 36 #[] (enters_of Try.func36 (by kernel_rfl) rfl) base n c A l w h hn (fun W hW x y => ?_)
  exact falling_any x y W
theorem eqlStr (T : TypeId) : EqlAt Try.prog T Value.string (fun x y => decide (x = y)) := ⟨fun x y w => by rw [(EqlAt.string Try.prog T).1 x y w]; simp only [eq_ba], .string _ T⟩
theorem neqStr (T : TypeId) : NeqAt Try.prog T Value.string (fun x y => decide (x = y)) := ⟨fun x y w => by rw [(NeqAt.string Try.prog T).1 x y w]; simp only [eq_ba], .string _ T⟩
theorem compS_any (base n c : Nat) (A : Option Addr) (l : List ByteArray) (w : World) (h : OW w base 1 (.slice A n c) n (stC l)) :
    Calls Try.prog 34 #[.slice A n c] w fun e w' => e = .returned (.slice A (Lib.compact l).length c) ∧ OW w' base 1 (.slice A (Lib.compact l).length c) (Lib.compact l).length (stC (Lib.compact l)) ∧ Fr (fun k => (Value.slice A n c).ownBlock = some k) w w' := by
  rcases A with _ | ⟨b, o, x⟩
  · rcases h.2 with ⟨h1, h2⟩ | ⟨g, o, cap, h1, _⟩
    · subst h2
      injection h1 with _ _ h1
      subst h1
      obtain rfl : l = [] := List.eq_nil_of_length_eq_zero (by have := h.1; simpa [stC] using this)
      show Calls _ _ _ _ fun e w' => e = .returned (.slice none 0 0) ∧ OW w' base 1 (.slice none 0 0) 0 [] ∧ _
      go_enter Try.func34, Try.ntmps34
      go_wp2
      go_ret
      exact ⟨rfl, OW.nil _ _ _, Fr.refl _ _⟩
    · cases h1
  · have hx : x = none := by
      rcases h.2 with ⟨h1, _⟩ | ⟨g, o, cap, h1, _⟩
      · cases h1
      · injection h1 with h1; injection h1 with h1; injection h1
    subst hx
    refine (compact_ow (P := Try.prog) (ρ := Try.compS_ren) Try.compS Value.string (fun _ => rfl) (eqlStr _) (neqStr _) .empty Try.zeroValue9 base n c b o l w h).mono fun e w' ⟨he, ho, hf⟩ => ⟨he, ho, hf.mono (fun k _ e => by subst e; rfl)⟩
theorem compU_any (base n c : Nat) (A : Option Addr) (l : List Int) (w : World) (h : OW w base 1 (.slice A n c) n (u64C l)) :
    Calls Try.prog 37 #[.slice A n c] w fun e w' => e = .returned (.slice A (Lib.compact l).length c) ∧ OW w' base 1 (.slice A (Lib.compact l).length c) (Lib.compact l).length (u64C (Lib.compact l)) ∧ Fr (fun k => (Value.slice A n c).ownBlock = some k) w w' := by
  rcases A with _ | ⟨b, o, x⟩
  · rcases h.2 with ⟨h1, h2⟩ | ⟨g, o, cap, h1, _⟩
    · subst h2
      injection h1 with _ _ h1
      subst h1
      obtain rfl : l = [] := List.eq_nil_of_length_eq_zero (by have := h.1; simpa [u64C] using this)
      show Calls _ _ _ _ fun e w' => e = .returned (.slice none 0 0) ∧ OW w' base 1 (.slice none 0 0) 0 [] ∧ _
      go_enter Try.func37, Try.ntmps37
      go_wp2
      go_ret
      exact ⟨rfl, OW.nil _ _ _, Fr.refl _ _⟩
    · cases h1
  · have hx : x = none := by
      rcases h.2 with ⟨h1, _⟩ | ⟨g, o, cap, h1, _⟩
      · cases h1
      · injection h1 with h1; injection h1 with h1; injection h1
    subst hx
    refine (compact_ow (P := Try.prog) (ρ := Try.compU_ren) Try.compU (Value.int .u64) (fun _ => rfl) (.intD _ _ .u64) (.intD _ _ .u64) 0 Try.zeroValue36 base n c b o l w h).mono fun e w' ⟨he, ho, hf⟩ => ⟨he, ho, hf.mono (fun k _ e => by subst e; rfl)⟩
end Go.Proofs.Ytmopjoeomjdikaa
