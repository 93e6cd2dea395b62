/-
  No cell of these rows narrows 'for every input' (looked for: loops, veiled, ifaces, maps, wideKeys, modest, calm, conditions, laid).
  DERIVED. THE GIVEN ROWS OF THIS SEAT. 2 by the template 'for every input the law returns true; each argument reads behind the call as it read before'; 0 by the template 'total and deterministic' (their statements: YtakgmkgipjfolaaTotals.lean).
  GIVEN WITH THE SEED: the statements are not yours to turn. If you find one false, say at which input.
  Laid BY PROGRAM, IN A SANDBOX (cutbox-rows.mjs): the forced cells as the released guide's own fill.sh prints them over the translation 8616c6208f7863d7… (all of the seat's roots in one cut). By AI agents, Wed Nov 11 2026. No macro, syntax, notation, axiom, sorry.
-/
import Derived.Test.YtakgmkgipjfolaaChecked
import GoSem.Claim
import GoSem.ClaimJoined
import GoSem.ClaimMapViews
import Derived.JoinedTies
import Derived.KernelRfl
namespace Go.Proofs.Ytakgmkgipjfolaa
/- THE CELL 'sum', in the pinned program and in every row, IS THE sha256 OF THE DUMP (.gsa) THAT YtakgmkgipjfolaaProg.lean LOADS. Nothing in Lean hashes anything: it is a label: what it is worth is what the hold of that sum in a sandbox is worth. -/
noncomputable def Try.pinned : Pinned := { name := "ytakgmkgipjfolaa", sum := "8616c6208f7863d7da48d40123820a6a4b108a5918fbab89b3b037f7b7fca559", checked := Try.checked }
namespace Rows
def none {H : Type} : Left H := { results := [], args := [] }

/-- 'sedimentlaw06.BloomNone': WHATEVER THE INPUT: true; the input reads as it did. -/
def bloomNoneSpec : ChangeSpec := { name := "bloomNone", fn := fun _ => fun
  | [d1, d2, d3] => { results := [.lit (.bool true)], args := [d1, d2, d3] }
  | _ => none }
def bloomNoneRow : OpenClaim := { program := "ytakgmkgipjfolaa", sum := "8616c6208f7863d7da48d40123820a6a4b108a5918fbab89b3b037f7b7fca559", func := "sediment/sedimentlaw06.BloomNone", spec := "bloomNone", unfollowed := true, recurses := true, apart := false }
def BloomNoneSaid : Prop := bloomNoneRow.holds Try.pinned (OpenSpec.ofChange bloomNoneSpec)

/-- ITS FALSE NEIGHBOUR: 'it returns false'. Refute it at one input. -/
def bloomNoneWrong : ChangeSpec := { name := "bloomNone", fn := fun _ => fun
  | [d1, d2, d3] => { results := [.lit (.bool false)], args := [d1, d2, d3] }
  | _ => none }
def BloomNoneWrongFalsely : Prop := bloomNoneRow.holds Try.pinned (OpenSpec.ofChange bloomNoneWrong)

/-- 'sedimentlaw06.BloomEmpty': WHATEVER THE INPUT: true; the input reads as it did. -/
def bloomEmptySpec : ChangeSpec := { name := "bloomEmpty", fn := fun _ => fun
  | [d1, d2] => { results := [.lit (.bool true)], args := [d1, d2] }
  | _ => none }
def bloomEmptyRow : OpenClaim := { program := "ytakgmkgipjfolaa", sum := "8616c6208f7863d7da48d40123820a6a4b108a5918fbab89b3b037f7b7fca559", func := "sediment/sedimentlaw06.BloomEmpty", spec := "bloomEmpty", unfollowed := true, recurses := true, apart := false }
def BloomEmptySaid : Prop := bloomEmptyRow.holds Try.pinned (OpenSpec.ofChange bloomEmptySpec)

/-- ITS FALSE NEIGHBOUR: 'it returns false'. Refute it at one input. -/
def bloomEmptyWrong : ChangeSpec := { name := "bloomEmpty", fn := fun _ => fun
  | [d1, d2] => { results := [.lit (.bool false)], args := [d1, d2] }
  | _ => none }
def BloomEmptyWrongFalsely : Prop := bloomEmptyRow.holds Try.pinned (OpenSpec.ofChange bloomEmptyWrong)

/- THE SECOND FORM. 'bulk': how many values and letters a reading holds, each counted each time it is reached (what is shared counts as often as it is met; a slice's spare places count too). A statement '..UptoSaid' is the law's where the arguments, and the package variables that the reading takes, are together of bulk at most 1048576: NARROWER than '..Said'. Prove '..Said' where nothing that the law and all that it calls make is longer than what came in: it says more and counts as full. Else prove '..UptoSaid'. A law counts once. -/
mutual
def uptoBulk {H : Type} : DataW H → Nat
  | .lit (.string bytes) => bytes.length + 1
  | .lit _ => 1
  | .nil => 1
  | .ptr d => uptoBulk d + 1
  | .slice elems spare => uptoBulkAll elems + uptoBulkAll spare + 1
  | .agg parts => uptoBulkAll parts + 1
  | .iface _ d => uptoBulk d + 1
  | .map entries => uptoBulkEntries entries + 1
  | .held _ => 1
def uptoBulkAll {H : Type} : List (DataW H) → Nat
  | [] => 0
  | d :: r => uptoBulk d + uptoBulkAll r
def uptoBulkEntries {H : Type} : List (Lit × DataW H) → Nat
  | [] => 0
  | x :: r => uptoBulkEntry x + uptoBulkEntries r
def uptoBulkEntry {H : Type} : Lit × DataW H → Nat
  | (.string bytes, d) => bytes.length + uptoBulk d + 1
  | (_, d) => uptoBulk d + 1
 end
def uptoSmall : (H : Type) → List (DataW H) → Bool := fun _ ds => decide (uptoBulkAll ds ≤ 1048576)
def OpenSpec.upto (s : _root_.Go.ChangeSpec) : _root_.Go.OpenSpec := { _root_.Go.OpenSpec.ofChange s with cond := some uptoSmall }

/-- 'sedimentlaw06.BloomNone', WHERE WHAT IT READS IS OF BULK AT MOST 1048576: true; the input reads as it did. -/
def bloomNoneUptoRow : OpenClaim := { program := "ytakgmkgipjfolaa", sum := "8616c6208f7863d7da48d40123820a6a4b108a5918fbab89b3b037f7b7fca559", func := "sediment/sedimentlaw06.BloomNone", spec := "bloomNone", unfollowed := true, recurses := true, apart := false, narrowed := true }
def BloomNoneUptoSaid : Prop := bloomNoneUptoRow.holds Try.pinned (OpenSpec.upto bloomNoneSpec)

/-- 'sedimentlaw06.BloomEmpty', WHERE WHAT IT READS IS OF BULK AT MOST 1048576: true; the input reads as it did. -/
def bloomEmptyUptoRow : OpenClaim := { program := "ytakgmkgipjfolaa", sum := "8616c6208f7863d7da48d40123820a6a4b108a5918fbab89b3b037f7b7fca559", func := "sediment/sedimentlaw06.BloomEmpty", spec := "bloomEmpty", unfollowed := true, recurses := true, apart := false, narrowed := true }
def BloomEmptyUptoSaid : Prop := bloomEmptyUptoRow.holds Try.pinned (OpenSpec.upto bloomEmptySpec)

end Rows
end Go.Proofs.Ytakgmkgipjfolaa
