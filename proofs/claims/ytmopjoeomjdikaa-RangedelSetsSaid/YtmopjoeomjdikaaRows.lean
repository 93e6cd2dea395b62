/-
  No cell of these rows narrows 'for every input' (looked for: loops, veiled, ifaces, maps, wideKeys, modest, calm, conditions, laid).
  DERIVED. THE GIVEN ROWS OF THIS SEAT. 4 by the template 'for every input the law returns true; each argument reads behind the call as it read before'; 0 by the template 'total and deterministic' (their statements: YtmopjoeomjdikaaTotals.lean).
  GIVEN WITH THE SEED: the statements are not yours to turn. If you find one false, say at which input.
  Laid BY PROGRAM, IN A SANDBOX (cutbox-rows.mjs): the forced cells as the released guide's own fill.sh prints them over the translation f96652eb1e372163… (all of the seat's roots in one cut). By AI agents, Wed Nov 11 2026. No macro, syntax, notation, axiom, sorry.
-/
import Derived.Test.YtmopjoeomjdikaaChecked
import GoSem.Claim
import GoSem.ClaimJoined
import GoSem.ClaimMapViews
import Derived.JoinedTies
import Derived.KernelRfl
namespace Go.Proofs.Ytmopjoeomjdikaa
/- THE CELL 'sum', in the pinned program and in every row, IS THE sha256 OF THE DUMP (.gsa) THAT YtmopjoeomjdikaaProg.lean LOADS. Nothing in Lean hashes anything: it is a label: what it is worth is what the hold of that sum in a sandbox is worth. -/
noncomputable def Try.pinned : Pinned := { name := "ytmopjoeomjdikaa", sum := "f96652eb1e3721632eaa49761522568b15c046c98882f74d03e67de1c32bae7f", checked := Try.checked }
namespace Rows
def none {H : Type} : Left H := { results := [], args := [] }

/-- 'sedimentlaw09.RangedelApart': WHATEVER THE INPUT: true; the input reads as it did. -/
def rangedelApartSpec : ChangeSpec := { name := "rangedelApart", fn := fun _ => fun
  | [d1, d2, d3] => { results := [.lit (.bool true)], args := [d1, d2, d3] }
  | _ => none }
def rangedelApartRow : OpenClaim := { program := "ytmopjoeomjdikaa", sum := "f96652eb1e3721632eaa49761522568b15c046c98882f74d03e67de1c32bae7f", func := "sediment/sedimentlaw09.RangedelApart", spec := "rangedelApart", inPlace := ["internal/bytealg.abigen_runtime_cmpstring"], unfollowed := true, recurses := true, apart := false }
def RangedelApartSaid : Prop := rangedelApartRow.holds Try.pinned (OpenSpec.ofChange rangedelApartSpec)

/-- ITS FALSE NEIGHBOUR: 'it returns false'. Refute it at one input. -/
def rangedelApartWrong : ChangeSpec := { name := "rangedelApart", fn := fun _ => fun
  | [d1, d2, d3] => { results := [.lit (.bool false)], args := [d1, d2, d3] }
  | _ => none }
def RangedelApartWrongFalsely : Prop := rangedelApartRow.holds Try.pinned (OpenSpec.ofChange rangedelApartWrong)

/-- 'sedimentlaw09.RangedelUnion': WHATEVER THE INPUT: true; the input reads as it did. -/
def rangedelUnionSpec : ChangeSpec := { name := "rangedelUnion", fn := fun _ => fun
  | [d1, d2, d3] => { results := [.lit (.bool true)], args := [d1, d2, d3] }
  | _ => none }
def rangedelUnionRow : OpenClaim := { program := "ytmopjoeomjdikaa", sum := "f96652eb1e3721632eaa49761522568b15c046c98882f74d03e67de1c32bae7f", func := "sediment/sedimentlaw09.RangedelUnion", spec := "rangedelUnion", inPlace := ["internal/bytealg.abigen_runtime_cmpstring"], unfollowed := true, recurses := true, apart := false }
def RangedelUnionSaid : Prop := rangedelUnionRow.holds Try.pinned (OpenSpec.ofChange rangedelUnionSpec)

/-- ITS FALSE NEIGHBOUR: 'it returns false'. Refute it at one input. -/
def rangedelUnionWrong : ChangeSpec := { name := "rangedelUnion", fn := fun _ => fun
  | [d1, d2, d3] => { results := [.lit (.bool false)], args := [d1, d2, d3] }
  | _ => none }
def RangedelUnionWrongFalsely : Prop := rangedelUnionRow.holds Try.pinned (OpenSpec.ofChange rangedelUnionWrong)

/-- 'sedimentlaw09.RangedelSplits': WHATEVER THE INPUT: true; the input reads as it did. -/
def rangedelSplitsSpec : ChangeSpec := { name := "rangedelSplits", fn := fun _ => fun
  | [d1, d2, d3] => { results := [.lit (.bool true)], args := [d1, d2, d3] }
  | _ => none }
def rangedelSplitsRow : OpenClaim := { program := "ytmopjoeomjdikaa", sum := "f96652eb1e3721632eaa49761522568b15c046c98882f74d03e67de1c32bae7f", func := "sediment/sedimentlaw09.RangedelSplits", spec := "rangedelSplits", inPlace := ["internal/bytealg.abigen_runtime_cmpstring"], unfollowed := true, recurses := true, apart := false }
def RangedelSplitsSaid : Prop := rangedelSplitsRow.holds Try.pinned (OpenSpec.ofChange rangedelSplitsSpec)

/-- ITS FALSE NEIGHBOUR: 'it returns false'. Refute it at one input. -/
def rangedelSplitsWrong : ChangeSpec := { name := "rangedelSplits", fn := fun _ => fun
  | [d1, d2, d3] => { results := [.lit (.bool false)], args := [d1, d2, d3] }
  | _ => none }
def RangedelSplitsWrongFalsely : Prop := rangedelSplitsRow.holds Try.pinned (OpenSpec.ofChange rangedelSplitsWrong)

/-- 'sedimentlaw09.RangedelSets': WHATEVER THE INPUT: true; the input reads as it did. -/
def rangedelSetsSpec : ChangeSpec := { name := "rangedelSets", fn := fun _ => fun
  | [d1, d2, d3] => { results := [.lit (.bool true)], args := [d1, d2, d3] }
  | _ => none }
def rangedelSetsRow : OpenClaim := { program := "ytmopjoeomjdikaa", sum := "f96652eb1e3721632eaa49761522568b15c046c98882f74d03e67de1c32bae7f", func := "sediment/sedimentlaw09.RangedelSets", spec := "rangedelSets", inPlace := ["internal/bytealg.abigen_runtime_cmpstring"], unfollowed := true, recurses := true, apart := false }
def RangedelSetsSaid : Prop := rangedelSetsRow.holds Try.pinned (OpenSpec.ofChange rangedelSetsSpec)

/-- ITS FALSE NEIGHBOUR: 'it returns false'. Refute it at one input. -/
def rangedelSetsWrong : ChangeSpec := { name := "rangedelSets", fn := fun _ => fun
  | [d1, d2, d3] => { results := [.lit (.bool false)], args := [d1, d2, d3] }
  | _ => none }
def RangedelSetsWrongFalsely : Prop := rangedelSetsRow.holds Try.pinned (OpenSpec.ofChange rangedelSetsWrong)

/- THE SECOND FORM. 'bulk': how many values and letters a reading holds, each counted each time it is reached (what is shared counts as often as it is met; a slice's spare places count too). A statement '..UptoSaid' is the law's where the arguments, and the package variables that the reading takes, are together of bulk at most 1048576: NARROWER than '..Said'. Prove '..Said' where nothing that the law and all that it calls make is longer than what came in: it says more and counts as full. Else prove '..UptoSaid'. A law counts once. -/
mutual
def uptoBulk {H : Type} : DataW H → Nat
  | .lit (.string bytes) => bytes.length + 1
  | .lit _ => 1
  | .nil => 1
  | .ptr d => uptoBulk d + 1
  | .slice elems spare => uptoBulkAll elems + uptoBulkAll spare + 1
  | .agg parts => uptoBulkAll parts + 1
  | .iface _ d => uptoBulk d + 1
  | .map entries => uptoBulkEntries entries + 1
  | .held _ => 1
def uptoBulkAll {H : Type} : List (DataW H) → Nat
  | [] => 0
  | d :: r => uptoBulk d + uptoBulkAll r
def uptoBulkEntries {H : Type} : List (Lit × DataW H) → Nat
  | [] => 0
  | x :: r => uptoBulkEntry x + uptoBulkEntries r
def uptoBulkEntry {H : Type} : Lit × DataW H → Nat
  | (.string bytes, d) => bytes.length + uptoBulk d + 1
  | (_, d) => uptoBulk d + 1
 end
def uptoSmall : (H : Type) → List (DataW H) → Bool := fun _ ds => decide (uptoBulkAll ds ≤ 1048576)
def OpenSpec.upto (s : _root_.Go.ChangeSpec) : _root_.Go.OpenSpec := { _root_.Go.OpenSpec.ofChange s with cond := some uptoSmall }

/-- 'sedimentlaw09.RangedelApart', WHERE WHAT IT READS IS OF BULK AT MOST 1048576: true; the input reads as it did. -/
def rangedelApartUptoRow : OpenClaim := { program := "ytmopjoeomjdikaa", sum := "f96652eb1e3721632eaa49761522568b15c046c98882f74d03e67de1c32bae7f", func := "sediment/sedimentlaw09.RangedelApart", spec := "rangedelApart", inPlace := ["internal/bytealg.abigen_runtime_cmpstring"], unfollowed := true, recurses := true, apart := false, narrowed := true }
def RangedelApartUptoSaid : Prop := rangedelApartUptoRow.holds Try.pinned (OpenSpec.upto rangedelApartSpec)

/-- 'sedimentlaw09.RangedelUnion', WHERE WHAT IT READS IS OF BULK AT MOST 1048576: true; the input reads as it did. -/
def rangedelUnionUptoRow : OpenClaim := { program := "ytmopjoeomjdikaa", sum := "f96652eb1e3721632eaa49761522568b15c046c98882f74d03e67de1c32bae7f", func := "sediment/sedimentlaw09.RangedelUnion", spec := "rangedelUnion", inPlace := ["internal/bytealg.abigen_runtime_cmpstring"], unfollowed := true, recurses := true, apart := false, narrowed := true }
def RangedelUnionUptoSaid : Prop := rangedelUnionUptoRow.holds Try.pinned (OpenSpec.upto rangedelUnionSpec)

/-- 'sedimentlaw09.RangedelSplits', WHERE WHAT IT READS IS OF BULK AT MOST 1048576: true; the input reads as it did. -/
def rangedelSplitsUptoRow : OpenClaim := { program := "ytmopjoeomjdikaa", sum := "f96652eb1e3721632eaa49761522568b15c046c98882f74d03e67de1c32bae7f", func := "sediment/sedimentlaw09.RangedelSplits", spec := "rangedelSplits", inPlace := ["internal/bytealg.abigen_runtime_cmpstring"], unfollowed := true, recurses := true, apart := false, narrowed := true }
def RangedelSplitsUptoSaid : Prop := rangedelSplitsUptoRow.holds Try.pinned (OpenSpec.upto rangedelSplitsSpec)

/-- 'sedimentlaw09.RangedelSets', WHERE WHAT IT READS IS OF BULK AT MOST 1048576: true; the input reads as it did. -/
def rangedelSetsUptoRow : OpenClaim := { program := "ytmopjoeomjdikaa", sum := "f96652eb1e3721632eaa49761522568b15c046c98882f74d03e67de1c32bae7f", func := "sediment/sedimentlaw09.RangedelSets", spec := "rangedelSets", inPlace := ["internal/bytealg.abigen_runtime_cmpstring"], unfollowed := true, recurses := true, apart := false, narrowed := true }
def RangedelSetsUptoSaid : Prop := rangedelSetsUptoRow.holds Try.pinned (OpenSpec.upto rangedelSetsSpec)

end Rows
end Go.Proofs.Ytmopjoeomjdikaa
