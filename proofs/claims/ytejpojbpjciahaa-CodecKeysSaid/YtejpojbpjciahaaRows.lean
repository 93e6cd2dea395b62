/-
  No cell of these rows narrows 'for every input' (looked for: loops, veiled, ifaces, maps, wideKeys, modest, calm, conditions, laid).
  DERIVED. THE GIVEN ROWS OF THIS SEAT. 4 by the template 'for every input the law returns true; each argument reads behind the call as it read before'; 0 by the template 'total and deterministic' (their statements: YtejpojbpjciahaaTotals.lean).
  GIVEN WITH THE SEED: the statements are not yours to turn. If you find one false, say at which input.
  Laid BY PROGRAM, IN A SANDBOX (cutbox-rows.mjs): the forced cells as the released guide's own fill.sh prints them over the translation d2a17fb5092a588c… (all of the seat's roots in one cut). By AI agents, Wed Nov 11 2026. No macro, syntax, notation, axiom, sorry.
-/
import Derived.Test.YtejpojbpjciahaaChecked
import GoSem.Claim
import GoSem.ClaimJoined
import GoSem.ClaimMapViews
import Derived.JoinedTies
import Derived.KernelRfl
namespace Go.Proofs.Ytejpojbpjciahaa
/- THE CELL 'sum', in the pinned program and in every row, IS THE sha256 OF THE DUMP (.gsa) THAT YtejpojbpjciahaaProg.lean LOADS. Nothing in Lean hashes anything: it is a label: what it is worth is what the hold of that sum in a sandbox is worth. -/
noncomputable def Try.pinned : Pinned := { name := "ytejpojbpjciahaa", sum := "d2a17fb5092a588c2071f3881099f6c9729c328d2a42487fd5757f633dfaf0a7", checked := Try.checked }
namespace Rows
def none {H : Type} : Left H := { results := [], args := [] }

/-- 'sedimentlaw01.CodecSums': WHATEVER THE INPUT: true; the input reads as it did. -/
def codecSumsSpec : ChangeSpec := { name := "codecSums", fn := fun _ => fun
  | [d1, d2] => { results := [.lit (.bool true)], args := [d1, d2] }
  | _ => none }
def codecSumsRow : OpenClaim := { program := "ytejpojbpjciahaa", sum := "d2a17fb5092a588c2071f3881099f6c9729c328d2a42487fd5757f633dfaf0a7", func := "sediment/sedimentlaw01.CodecSums", spec := "codecSums", inPlace := ["internal/bytealg.abigen_runtime_cmpstring"], apart := false }
def CodecSumsSaid : Prop := codecSumsRow.holds Try.pinned (OpenSpec.ofChange codecSumsSpec)

/-- ITS FALSE NEIGHBOUR: 'it returns false'. Refute it at one input. -/
def codecSumsWrong : ChangeSpec := { name := "codecSums", fn := fun _ => fun
  | [d1, d2] => { results := [.lit (.bool false)], args := [d1, d2] }
  | _ => none }
def CodecSumsWrongFalsely : Prop := codecSumsRow.holds Try.pinned (OpenSpec.ofChange codecSumsWrong)

/-- 'sedimentlaw01.CodecKeys': WHATEVER THE INPUT: true; the input reads as it did. -/
def codecKeysSpec : ChangeSpec := { name := "codecKeys", fn := fun _ => fun
  | [d1, d2] => { results := [.lit (.bool true)], args := [d1, d2] }
  | _ => none }
def codecKeysRow : OpenClaim := { program := "ytejpojbpjciahaa", sum := "d2a17fb5092a588c2071f3881099f6c9729c328d2a42487fd5757f633dfaf0a7", func := "sediment/sedimentlaw01.CodecKeys", spec := "codecKeys", inPlace := ["internal/bytealg.abigen_runtime_cmpstring"], unfollowed := true, recurses := true, apart := false }
def CodecKeysSaid : Prop := codecKeysRow.holds Try.pinned (OpenSpec.ofChange codecKeysSpec)

/-- ITS FALSE NEIGHBOUR: 'it returns false'. Refute it at one input. -/
def codecKeysWrong : ChangeSpec := { name := "codecKeys", fn := fun _ => fun
  | [d1, d2] => { results := [.lit (.bool false)], args := [d1, d2] }
  | _ => none }
def CodecKeysWrongFalsely : Prop := codecKeysRow.holds Try.pinned (OpenSpec.ofChange codecKeysWrong)

/-- 'sedimentlaw01.CodecLaws': WHATEVER THE INPUT: true; the input reads as it did. -/
def codecLawsSpec : ChangeSpec := { name := "codecLaws", fn := fun _ => fun
  | [d1, d2] => { results := [.lit (.bool true)], args := [d1, d2] }
  | _ => none }
def codecLawsRow : OpenClaim := { program := "ytejpojbpjciahaa", sum := "d2a17fb5092a588c2071f3881099f6c9729c328d2a42487fd5757f633dfaf0a7", func := "sediment/sedimentlaw01.CodecLaws", spec := "codecLaws", inPlace := ["internal/bytealg.abigen_runtime_cmpstring"], apart := false }
def CodecLawsSaid : Prop := codecLawsRow.holds Try.pinned (OpenSpec.ofChange codecLawsSpec)

/-- ITS FALSE NEIGHBOUR: 'it returns false'. Refute it at one input. -/
def codecLawsWrong : ChangeSpec := { name := "codecLaws", fn := fun _ => fun
  | [d1, d2] => { results := [.lit (.bool false)], args := [d1, d2] }
  | _ => none }
def CodecLawsWrongFalsely : Prop := codecLawsRow.holds Try.pinned (OpenSpec.ofChange codecLawsWrong)

/-- 'sedimentlaw01.CodecOrders': WHATEVER THE INPUT: true; the input reads as it did. -/
def codecOrdersSpec : ChangeSpec := { name := "codecOrders", fn := fun _ => fun
  | [d1, d2, d3] => { results := [.lit (.bool true)], args := [d1, d2, d3] }
  | _ => none }
def codecOrdersRow : OpenClaim := { program := "ytejpojbpjciahaa", sum := "d2a17fb5092a588c2071f3881099f6c9729c328d2a42487fd5757f633dfaf0a7", func := "sediment/sedimentlaw01.CodecOrders", spec := "codecOrders", inPlace := ["internal/bytealg.abigen_runtime_cmpstring"], apart := false }
def CodecOrdersSaid : Prop := codecOrdersRow.holds Try.pinned (OpenSpec.ofChange codecOrdersSpec)

/-- ITS FALSE NEIGHBOUR: 'it returns false'. Refute it at one input. -/
def codecOrdersWrong : ChangeSpec := { name := "codecOrders", fn := fun _ => fun
  | [d1, d2, d3] => { results := [.lit (.bool false)], args := [d1, d2, d3] }
  | _ => none }
def CodecOrdersWrongFalsely : Prop := codecOrdersRow.holds Try.pinned (OpenSpec.ofChange codecOrdersWrong)

/- THE SECOND FORM. 'bulk': how many values and letters a reading holds, each counted each time it is reached (what is shared counts as often as it is met; a slice's spare places count too). A statement '..UptoSaid' is the law's where the arguments, and the package variables that the reading takes, are together of bulk at most 1048576: NARROWER than '..Said'. Prove '..Said' where nothing that the law and all that it calls make is longer than what came in: it says more and counts as full. Else prove '..UptoSaid'. A law counts once. -/
mutual
def uptoBulk {H : Type} : DataW H → Nat
  | .lit (.string bytes) => bytes.length + 1
  | .lit _ => 1
  | .nil => 1
  | .ptr d => uptoBulk d + 1
  | .slice elems spare => uptoBulkAll elems + uptoBulkAll spare + 1
  | .agg parts => uptoBulkAll parts + 1
  | .iface _ d => uptoBulk d + 1
  | .map entries => uptoBulkEntries entries + 1
  | .held _ => 1
def uptoBulkAll {H : Type} : List (DataW H) → Nat
  | [] => 0
  | d :: r => uptoBulk d + uptoBulkAll r
def uptoBulkEntries {H : Type} : List (Lit × DataW H) → Nat
  | [] => 0
  | x :: r => uptoBulkEntry x + uptoBulkEntries r
def uptoBulkEntry {H : Type} : Lit × DataW H → Nat
  | (.string bytes, d) => bytes.length + uptoBulk d + 1
  | (_, d) => uptoBulk d + 1
 end
def uptoSmall : (H : Type) → List (DataW H) → Bool := fun _ ds => decide (uptoBulkAll ds ≤ 1048576)
def OpenSpec.upto (s : _root_.Go.ChangeSpec) : _root_.Go.OpenSpec := { _root_.Go.OpenSpec.ofChange s with cond := some uptoSmall }

/-- 'sedimentlaw01.CodecSums', WHERE WHAT IT READS IS OF BULK AT MOST 1048576: true; the input reads as it did. -/
def codecSumsUptoRow : OpenClaim := { program := "ytejpojbpjciahaa", sum := "d2a17fb5092a588c2071f3881099f6c9729c328d2a42487fd5757f633dfaf0a7", func := "sediment/sedimentlaw01.CodecSums", spec := "codecSums", inPlace := ["internal/bytealg.abigen_runtime_cmpstring"], apart := false, narrowed := true }
def CodecSumsUptoSaid : Prop := codecSumsUptoRow.holds Try.pinned (OpenSpec.upto codecSumsSpec)

/-- 'sedimentlaw01.CodecKeys', WHERE WHAT IT READS IS OF BULK AT MOST 1048576: true; the input reads as it did. -/
def codecKeysUptoRow : OpenClaim := { program := "ytejpojbpjciahaa", sum := "d2a17fb5092a588c2071f3881099f6c9729c328d2a42487fd5757f633dfaf0a7", func := "sediment/sedimentlaw01.CodecKeys", spec := "codecKeys", inPlace := ["internal/bytealg.abigen_runtime_cmpstring"], unfollowed := true, recurses := true, apart := false, narrowed := true }
def CodecKeysUptoSaid : Prop := codecKeysUptoRow.holds Try.pinned (OpenSpec.upto codecKeysSpec)

/-- 'sedimentlaw01.CodecLaws', WHERE WHAT IT READS IS OF BULK AT MOST 1048576: true; the input reads as it did. -/
def codecLawsUptoRow : OpenClaim := { program := "ytejpojbpjciahaa", sum := "d2a17fb5092a588c2071f3881099f6c9729c328d2a42487fd5757f633dfaf0a7", func := "sediment/sedimentlaw01.CodecLaws", spec := "codecLaws", inPlace := ["internal/bytealg.abigen_runtime_cmpstring"], apart := false, narrowed := true }
def CodecLawsUptoSaid : Prop := codecLawsUptoRow.holds Try.pinned (OpenSpec.upto codecLawsSpec)

/-- 'sedimentlaw01.CodecOrders', WHERE WHAT IT READS IS OF BULK AT MOST 1048576: true; the input reads as it did. -/
def codecOrdersUptoRow : OpenClaim := { program := "ytejpojbpjciahaa", sum := "d2a17fb5092a588c2071f3881099f6c9729c328d2a42487fd5757f633dfaf0a7", func := "sediment/sedimentlaw01.CodecOrders", spec := "codecOrders", inPlace := ["internal/bytealg.abigen_runtime_cmpstring"], apart := false, narrowed := true }
def CodecOrdersUptoSaid : Prop := codecOrdersUptoRow.holds Try.pinned (OpenSpec.upto codecOrdersSpec)

end Rows
end Go.Proofs.Ytejpojbpjciahaa
