/-
  No cell of these rows narrows 'for every input' (looked for: loops, veiled, ifaces, maps, wideKeys, modest, calm, conditions, laid).
  DERIVED. THE GIVEN ROWS OF THIS SEAT. 13 by the template 'for every input the law returns true; each argument reads behind the call as it read before'; 0 by the template 'total and deterministic' (their statements: YtggejjeneoaakaaTotals.lean).
  GIVEN WITH THE SEED: the statements are not yours to turn. If you find one false, say at which input.
  Laid BY PROGRAM, IN A SANDBOX (cutbox-rows.mjs): the forced cells as the released guide's own fill.sh prints them over the translation 03f81e1712ee6e75… (all of the seat's roots in one cut). By AI agents, Wed Nov 11 2026. No macro, syntax, notation, axiom, sorry.
-/
import Derived.Test.YtggejjeneoaakaaChecked
import GoSem.Claim
import GoSem.ClaimJoined
import GoSem.ClaimMapViews
import Derived.JoinedTies
import Derived.KernelRfl
namespace Go.Proofs.Ytggejjeneoaakaa
/- THE CELL 'sum', in the pinned program and in every row, IS THE sha256 OF THE DUMP (.gsa) THAT YtggejjeneoaakaaProg.lean LOADS. Nothing in Lean hashes anything: it is a label: what it is worth is what the hold of that sum in a sandbox is worth. -/
noncomputable def Try.pinned : Pinned := { name := "ytggejjeneoaakaa", sum := "03f81e1712ee6e75918e8d0be658ba62af3273508f82aa3006a46bb3cb990dc9", checked := Try.checked }
namespace Rows
def none {H : Type} : Left H := { results := [], args := [] }

/-- 'swagelaw22.Epochs': WHATEVER THE INPUT: true; the input reads as it did. -/
def epochsSpec : ChangeSpec := { name := "epochs", fn := fun _ => fun
  | [d1, d2] => { results := [.lit (.bool true)], args := [d1, d2] }
  | _ => none }
def epochsRow : OpenClaim := { program := "ytggejjeneoaakaa", sum := "03f81e1712ee6e75918e8d0be658ba62af3273508f82aa3006a46bb3cb990dc9", func := "swage/swagelaw22.Epochs", spec := "epochs", apart := false }
def EpochsSaid : Prop := epochsRow.holds Try.pinned (OpenSpec.ofChange epochsSpec)

/-- ITS FALSE NEIGHBOUR: 'it returns false'. Refute it at one input. -/
def epochsWrong : ChangeSpec := { name := "epochs", fn := fun _ => fun
  | [d1, d2] => { results := [.lit (.bool false)], args := [d1, d2] }
  | _ => none }
def EpochsWrongFalsely : Prop := epochsRow.holds Try.pinned (OpenSpec.ofChange epochsWrong)

/-- 'swagelaw22.EpochSafe': WHATEVER THE INPUT: true; the input reads as it did. -/
def epochSafeSpec : ChangeSpec := { name := "epochSafe", fn := fun _ => fun
  | [d1, d2, d3, d4] => { results := [.lit (.bool true)], args := [d1, d2, d3, d4] }
  | _ => none }
def epochSafeRow : OpenClaim := { program := "ytggejjeneoaakaa", sum := "03f81e1712ee6e75918e8d0be658ba62af3273508f82aa3006a46bb3cb990dc9", func := "swage/swagelaw22.EpochSafe", spec := "epochSafe", apart := false }
def EpochSafeSaid : Prop := epochSafeRow.holds Try.pinned (OpenSpec.ofChange epochSafeSpec)

/-- ITS FALSE NEIGHBOUR: 'it returns false'. Refute it at one input. -/
def epochSafeWrong : ChangeSpec := { name := "epochSafe", fn := fun _ => fun
  | [d1, d2, d3, d4] => { results := [.lit (.bool false)], args := [d1, d2, d3, d4] }
  | _ => none }
def EpochSafeWrongFalsely : Prop := epochSafeRow.holds Try.pinned (OpenSpec.ofChange epochSafeWrong)

/-- 'swagelaw22.EpochForms': WHATEVER THE INPUT: true; the input reads as it did. -/
def epochFormsSpec : ChangeSpec := { name := "epochForms", fn := fun _ => fun
  | [d1, d2] => { results := [.lit (.bool true)], args := [d1, d2] }
  | _ => none }
def epochFormsRow : OpenClaim := { program := "ytggejjeneoaakaa", sum := "03f81e1712ee6e75918e8d0be658ba62af3273508f82aa3006a46bb3cb990dc9", func := "swage/swagelaw22.EpochForms", spec := "epochForms", apart := false }
def EpochFormsSaid : Prop := epochFormsRow.holds Try.pinned (OpenSpec.ofChange epochFormsSpec)

/-- ITS FALSE NEIGHBOUR: 'it returns false'. Refute it at one input. -/
def epochFormsWrong : ChangeSpec := { name := "epochForms", fn := fun _ => fun
  | [d1, d2] => { results := [.lit (.bool false)], args := [d1, d2] }
  | _ => none }
def EpochFormsWrongFalsely : Prop := epochFormsRow.holds Try.pinned (OpenSpec.ofChange epochFormsWrong)

/-- 'swagelaw22.EpochApart': WHATEVER THE INPUT: true; the input reads as it did. -/
def epochApartSpec : ChangeSpec := { name := "epochApart", fn := fun _ => fun
  | [d1, d2, d3] => { results := [.lit (.bool true)], args := [d1, d2, d3] }
  | _ => none }
def epochApartRow : OpenClaim := { program := "ytggejjeneoaakaa", sum := "03f81e1712ee6e75918e8d0be658ba62af3273508f82aa3006a46bb3cb990dc9", func := "swage/swagelaw22.EpochApart", spec := "epochApart", apart := false }
def EpochApartSaid : Prop := epochApartRow.holds Try.pinned (OpenSpec.ofChange epochApartSpec)

/-- ITS FALSE NEIGHBOUR: 'it returns false'. Refute it at one input. -/
def epochApartWrong : ChangeSpec := { name := "epochApart", fn := fun _ => fun
  | [d1, d2, d3] => { results := [.lit (.bool false)], args := [d1, d2, d3] }
  | _ => none }
def EpochApartWrongFalsely : Prop := epochApartRow.holds Try.pinned (OpenSpec.ofChange epochApartWrong)

/-- 'swagelaw4.Flows': WHATEVER THE INPUT: true; the input reads as it did. -/
def flowsSpec : ChangeSpec := { name := "flows", fn := fun _ => fun
  | [d1, d2, d3] => { results := [.lit (.bool true)], args := [d1, d2, d3] }
  | _ => none }
def flowsRow : OpenClaim := { program := "ytggejjeneoaakaa", sum := "03f81e1712ee6e75918e8d0be658ba62af3273508f82aa3006a46bb3cb990dc9", func := "swage/swagelaw4.Flows", spec := "flows", unfollowed := true, recurses := true, apart := false }
def FlowsSaid : Prop := flowsRow.holds Try.pinned (OpenSpec.ofChange flowsSpec)

/-- ITS FALSE NEIGHBOUR: 'it returns false'. Refute it at one input. -/
def flowsWrong : ChangeSpec := { name := "flows", fn := fun _ => fun
  | [d1, d2, d3] => { results := [.lit (.bool false)], args := [d1, d2, d3] }
  | _ => none }
def FlowsWrongFalsely : Prop := flowsRow.holds Try.pinned (OpenSpec.ofChange flowsWrong)

/-- 'swagelaw4.FlowClosed': WHATEVER THE INPUT: true; the input reads as it did. -/
def flowClosedSpec : ChangeSpec := { name := "flowClosed", fn := fun _ => fun
  | [d1, d2] => { results := [.lit (.bool true)], args := [d1, d2] }
  | _ => none }
def flowClosedRow : OpenClaim := { program := "ytggejjeneoaakaa", sum := "03f81e1712ee6e75918e8d0be658ba62af3273508f82aa3006a46bb3cb990dc9", func := "swage/swagelaw4.FlowClosed", spec := "flowClosed", unfollowed := true, recurses := true, apart := false }
def FlowClosedSaid : Prop := flowClosedRow.holds Try.pinned (OpenSpec.ofChange flowClosedSpec)

/-- ITS FALSE NEIGHBOUR: 'it returns false'. Refute it at one input. -/
def flowClosedWrong : ChangeSpec := { name := "flowClosed", fn := fun _ => fun
  | [d1, d2] => { results := [.lit (.bool false)], args := [d1, d2] }
  | _ => none }
def FlowClosedWrongFalsely : Prop := flowClosedRow.holds Try.pinned (OpenSpec.ofChange flowClosedWrong)

/-- 'swagelaw4.FlowForms': WHATEVER THE INPUT: true; the input reads as it did. -/
def flowFormsSpec : ChangeSpec := { name := "flowForms", fn := fun _ => fun
  | [d1, d2] => { results := [.lit (.bool true)], args := [d1, d2] }
  | _ => none }
def flowFormsRow : OpenClaim := { program := "ytggejjeneoaakaa", sum := "03f81e1712ee6e75918e8d0be658ba62af3273508f82aa3006a46bb3cb990dc9", func := "swage/swagelaw4.FlowForms", spec := "flowForms", unfollowed := true, recurses := true, apart := false }
def FlowFormsSaid : Prop := flowFormsRow.holds Try.pinned (OpenSpec.ofChange flowFormsSpec)

/-- ITS FALSE NEIGHBOUR: 'it returns false'. Refute it at one input. -/
def flowFormsWrong : ChangeSpec := { name := "flowForms", fn := fun _ => fun
  | [d1, d2] => { results := [.lit (.bool false)], args := [d1, d2] }
  | _ => none }
def FlowFormsWrongFalsely : Prop := flowFormsRow.holds Try.pinned (OpenSpec.ofChange flowFormsWrong)

/-- 'swagelaw4.FlowChain': WHATEVER THE INPUT: true; the input reads as it did. -/
def flowChainSpec : ChangeSpec := { name := "flowChain", fn := fun _ => fun
  | [d1, d2] => { results := [.lit (.bool true)], args := [d1, d2] }
  | _ => none }
def flowChainRow : OpenClaim := { program := "ytggejjeneoaakaa", sum := "03f81e1712ee6e75918e8d0be658ba62af3273508f82aa3006a46bb3cb990dc9", func := "swage/swagelaw4.FlowChain", spec := "flowChain", unfollowed := true, recurses := true, apart := false }
def FlowChainSaid : Prop := flowChainRow.holds Try.pinned (OpenSpec.ofChange flowChainSpec)

/-- ITS FALSE NEIGHBOUR: 'it returns false'. Refute it at one input. -/
def flowChainWrong : ChangeSpec := { name := "flowChain", fn := fun _ => fun
  | [d1, d2] => { results := [.lit (.bool false)], args := [d1, d2] }
  | _ => none }
def FlowChainWrongFalsely : Prop := flowChainRow.holds Try.pinned (OpenSpec.ofChange flowChainWrong)

/-- 'swagelaw3.Packs': WHATEVER THE INPUT: true; the input reads as it did. -/
def packsSpec : ChangeSpec := { name := "packs", fn := fun _ => fun
  | [d1, d2] => { results := [.lit (.bool true)], args := [d1, d2] }
  | _ => none }
def packsRow : OpenClaim := { program := "ytggejjeneoaakaa", sum := "03f81e1712ee6e75918e8d0be658ba62af3273508f82aa3006a46bb3cb990dc9", func := "swage/swagelaw3.Packs", spec := "packs", inPlace := ["internal/reflectlite.TypeOf"], unfollowed := true, recurses := true, apart := false }
def PacksSaid : Prop := packsRow.holds Try.pinned (OpenSpec.ofChange packsSpec)

/-- ITS FALSE NEIGHBOUR: 'it returns false'. Refute it at one input. -/
def packsWrong : ChangeSpec := { name := "packs", fn := fun _ => fun
  | [d1, d2] => { results := [.lit (.bool false)], args := [d1, d2] }
  | _ => none }
def PacksWrongFalsely : Prop := packsRow.holds Try.pinned (OpenSpec.ofChange packsWrong)

/-- 'swagelaw3.PackBack': WHATEVER THE INPUT: true; the input reads as it did. -/
def packBackSpec : ChangeSpec := { name := "packBack", fn := fun _ => fun
  | [d1, d2, d3] => { results := [.lit (.bool true)], args := [d1, d2, d3] }
  | _ => none }
def packBackRow : OpenClaim := { program := "ytggejjeneoaakaa", sum := "03f81e1712ee6e75918e8d0be658ba62af3273508f82aa3006a46bb3cb990dc9", func := "swage/swagelaw3.PackBack", spec := "packBack", inPlace := ["internal/reflectlite.TypeOf"], unfollowed := true, recurses := true, apart := false }
def PackBackSaid : Prop := packBackRow.holds Try.pinned (OpenSpec.ofChange packBackSpec)

/-- ITS FALSE NEIGHBOUR: 'it returns false'. Refute it at one input. -/
def packBackWrong : ChangeSpec := { name := "packBack", fn := fun _ => fun
  | [d1, d2, d3] => { results := [.lit (.bool false)], args := [d1, d2, d3] }
  | _ => none }
def PackBackWrongFalsely : Prop := packBackRow.holds Try.pinned (OpenSpec.ofChange packBackWrong)

/-- 'swagelaw3.PackForms': WHATEVER THE INPUT: true; the input reads as it did. -/
def packFormsSpec : ChangeSpec := { name := "packForms", fn := fun _ => fun
  | [d1, d2] => { results := [.lit (.bool true)], args := [d1, d2] }
  | _ => none }
def packFormsRow : OpenClaim := { program := "ytggejjeneoaakaa", sum := "03f81e1712ee6e75918e8d0be658ba62af3273508f82aa3006a46bb3cb990dc9", func := "swage/swagelaw3.PackForms", spec := "packForms", inPlace := ["internal/reflectlite.TypeOf"], unfollowed := true, recurses := true, apart := false }
def PackFormsSaid : Prop := packFormsRow.holds Try.pinned (OpenSpec.ofChange packFormsSpec)

/-- ITS FALSE NEIGHBOUR: 'it returns false'. Refute it at one input. -/
def packFormsWrong : ChangeSpec := { name := "packForms", fn := fun _ => fun
  | [d1, d2] => { results := [.lit (.bool false)], args := [d1, d2] }
  | _ => none }
def PackFormsWrongFalsely : Prop := packFormsRow.holds Try.pinned (OpenSpec.ofChange packFormsWrong)

/-- 'swagelaw3.PackNumbers': WHATEVER THE INPUT: true; the input reads as it did. -/
def packNumbersSpec : ChangeSpec := { name := "packNumbers", fn := fun _ => fun
  | [d] => { results := [.lit (.bool true)], args := [d] }
  | _ => none }
def packNumbersRow : OpenClaim := { program := "ytggejjeneoaakaa", sum := "03f81e1712ee6e75918e8d0be658ba62af3273508f82aa3006a46bb3cb990dc9", func := "swage/swagelaw3.PackNumbers", spec := "packNumbers", inPlace := ["internal/reflectlite.TypeOf"], unfollowed := true, recurses := true, apart := false }
def PackNumbersSaid : Prop := packNumbersRow.holds Try.pinned (OpenSpec.ofChange packNumbersSpec)

/-- ITS FALSE NEIGHBOUR: 'it returns false'. Refute it at one input. -/
def packNumbersWrong : ChangeSpec := { name := "packNumbers", fn := fun _ => fun
  | [d] => { results := [.lit (.bool false)], args := [d] }
  | _ => none }
def PackNumbersWrongFalsely : Prop := packNumbersRow.holds Try.pinned (OpenSpec.ofChange packNumbersWrong)

/-- 'swagelaw3.PackSizes': WHATEVER THE INPUT: true; the input reads as it did. -/
def packSizesSpec : ChangeSpec := { name := "packSizes", fn := fun _ => fun
  | [d] => { results := [.lit (.bool true)], args := [d] }
  | _ => none }
def packSizesRow : OpenClaim := { program := "ytggejjeneoaakaa", sum := "03f81e1712ee6e75918e8d0be658ba62af3273508f82aa3006a46bb3cb990dc9", func := "swage/swagelaw3.PackSizes", spec := "packSizes", inPlace := ["internal/reflectlite.TypeOf"], unfollowed := true, recurses := true, apart := false }
def PackSizesSaid : Prop := packSizesRow.holds Try.pinned (OpenSpec.ofChange packSizesSpec)

/-- ITS FALSE NEIGHBOUR: 'it returns false'. Refute it at one input. -/
def packSizesWrong : ChangeSpec := { name := "packSizes", fn := fun _ => fun
  | [d] => { results := [.lit (.bool false)], args := [d] }
  | _ => none }
def PackSizesWrongFalsely : Prop := packSizesRow.holds Try.pinned (OpenSpec.ofChange packSizesWrong)

/- THE SECOND FORM. 'bulk': how many values and letters a reading holds, each counted each time it is reached (what is shared counts as often as it is met; a slice's spare places count too). A statement '..UptoSaid' is the law's where the arguments, and the package variables that the reading takes, are together of bulk at most 1048576: NARROWER than '..Said'. Prove '..Said' where nothing that the law and all that it calls make is longer than what came in: it says more and counts as full. Else prove '..UptoSaid'. A law counts once. -/
mutual
def uptoBulk {H : Type} : DataW H → Nat
  | .lit (.string bytes) => bytes.length + 1
  | .lit _ => 1
  | .nil => 1
  | .ptr d => uptoBulk d + 1
  | .slice elems spare => uptoBulkAll elems + uptoBulkAll spare + 1
  | .agg parts => uptoBulkAll parts + 1
  | .iface _ d => uptoBulk d + 1
  | .map entries => uptoBulkEntries entries + 1
  | .held _ => 1
def uptoBulkAll {H : Type} : List (DataW H) → Nat
  | [] => 0
  | d :: r => uptoBulk d + uptoBulkAll r
def uptoBulkEntries {H : Type} : List (Lit × DataW H) → Nat
  | [] => 0
  | x :: r => uptoBulkEntry x + uptoBulkEntries r
def uptoBulkEntry {H : Type} : Lit × DataW H → Nat
  | (.string bytes, d) => bytes.length + uptoBulk d + 1
  | (_, d) => uptoBulk d + 1
 end
def uptoSmall : (H : Type) → List (DataW H) → Bool := fun _ ds => decide (uptoBulkAll ds ≤ 1048576)
def OpenSpec.upto (s : _root_.Go.ChangeSpec) : _root_.Go.OpenSpec := { _root_.Go.OpenSpec.ofChange s with cond := some uptoSmall }

/-- 'swagelaw22.Epochs', WHERE WHAT IT READS IS OF BULK AT MOST 1048576: true; the input reads as it did. -/
def epochsUptoRow : OpenClaim := { program := "ytggejjeneoaakaa", sum := "03f81e1712ee6e75918e8d0be658ba62af3273508f82aa3006a46bb3cb990dc9", func := "swage/swagelaw22.Epochs", spec := "epochs", apart := false, narrowed := true }
def EpochsUptoSaid : Prop := epochsUptoRow.holds Try.pinned (OpenSpec.upto epochsSpec)

/-- 'swagelaw22.EpochSafe', WHERE WHAT IT READS IS OF BULK AT MOST 1048576: true; the input reads as it did. -/
def epochSafeUptoRow : OpenClaim := { program := "ytggejjeneoaakaa", sum := "03f81e1712ee6e75918e8d0be658ba62af3273508f82aa3006a46bb3cb990dc9", func := "swage/swagelaw22.EpochSafe", spec := "epochSafe", apart := false, narrowed := true }
def EpochSafeUptoSaid : Prop := epochSafeUptoRow.holds Try.pinned (OpenSpec.upto epochSafeSpec)

/-- 'swagelaw22.EpochForms', WHERE WHAT IT READS IS OF BULK AT MOST 1048576: true; the input reads as it did. -/
def epochFormsUptoRow : OpenClaim := { program := "ytggejjeneoaakaa", sum := "03f81e1712ee6e75918e8d0be658ba62af3273508f82aa3006a46bb3cb990dc9", func := "swage/swagelaw22.EpochForms", spec := "epochForms", apart := false, narrowed := true }
def EpochFormsUptoSaid : Prop := epochFormsUptoRow.holds Try.pinned (OpenSpec.upto epochFormsSpec)

/-- 'swagelaw22.EpochApart', WHERE WHAT IT READS IS OF BULK AT MOST 1048576: true; the input reads as it did. -/
def epochApartUptoRow : OpenClaim := { program := "ytggejjeneoaakaa", sum := "03f81e1712ee6e75918e8d0be658ba62af3273508f82aa3006a46bb3cb990dc9", func := "swage/swagelaw22.EpochApart", spec := "epochApart", apart := false, narrowed := true }
def EpochApartUptoSaid : Prop := epochApartUptoRow.holds Try.pinned (OpenSpec.upto epochApartSpec)

/-- 'swagelaw4.Flows', WHERE WHAT IT READS IS OF BULK AT MOST 1048576: true; the input reads as it did. -/
def flowsUptoRow : OpenClaim := { program := "ytggejjeneoaakaa", sum := "03f81e1712ee6e75918e8d0be658ba62af3273508f82aa3006a46bb3cb990dc9", func := "swage/swagelaw4.Flows", spec := "flows", unfollowed := true, recurses := true, apart := false, narrowed := true }
def FlowsUptoSaid : Prop := flowsUptoRow.holds Try.pinned (OpenSpec.upto flowsSpec)

/-- 'swagelaw4.FlowClosed', WHERE WHAT IT READS IS OF BULK AT MOST 1048576: true; the input reads as it did. -/
def flowClosedUptoRow : OpenClaim := { program := "ytggejjeneoaakaa", sum := "03f81e1712ee6e75918e8d0be658ba62af3273508f82aa3006a46bb3cb990dc9", func := "swage/swagelaw4.FlowClosed", spec := "flowClosed", unfollowed := true, recurses := true, apart := false, narrowed := true }
def FlowClosedUptoSaid : Prop := flowClosedUptoRow.holds Try.pinned (OpenSpec.upto flowClosedSpec)

/-- 'swagelaw4.FlowForms', WHERE WHAT IT READS IS OF BULK AT MOST 1048576: true; the input reads as it did. -/
def flowFormsUptoRow : OpenClaim := { program := "ytggejjeneoaakaa", sum := "03f81e1712ee6e75918e8d0be658ba62af3273508f82aa3006a46bb3cb990dc9", func := "swage/swagelaw4.FlowForms", spec := "flowForms", unfollowed := true, recurses := true, apart := false, narrowed := true }
def FlowFormsUptoSaid : Prop := flowFormsUptoRow.holds Try.pinned (OpenSpec.upto flowFormsSpec)

/-- 'swagelaw4.FlowChain', WHERE WHAT IT READS IS OF BULK AT MOST 1048576: true; the input reads as it did. -/
def flowChainUptoRow : OpenClaim := { program := "ytggejjeneoaakaa", sum := "03f81e1712ee6e75918e8d0be658ba62af3273508f82aa3006a46bb3cb990dc9", func := "swage/swagelaw4.FlowChain", spec := "flowChain", unfollowed := true, recurses := true, apart := false, narrowed := true }
def FlowChainUptoSaid : Prop := flowChainUptoRow.holds Try.pinned (OpenSpec.upto flowChainSpec)

/-- 'swagelaw3.Packs', WHERE WHAT IT READS IS OF BULK AT MOST 1048576: true; the input reads as it did. -/
def packsUptoRow : OpenClaim := { program := "ytggejjeneoaakaa", sum := "03f81e1712ee6e75918e8d0be658ba62af3273508f82aa3006a46bb3cb990dc9", func := "swage/swagelaw3.Packs", spec := "packs", inPlace := ["internal/reflectlite.TypeOf"], unfollowed := true, recurses := true, apart := false, narrowed := true }
def PacksUptoSaid : Prop := packsUptoRow.holds Try.pinned (OpenSpec.upto packsSpec)

/-- 'swagelaw3.PackBack', WHERE WHAT IT READS IS OF BULK AT MOST 1048576: true; the input reads as it did. -/
def packBackUptoRow : OpenClaim := { program := "ytggejjeneoaakaa", sum := "03f81e1712ee6e75918e8d0be658ba62af3273508f82aa3006a46bb3cb990dc9", func := "swage/swagelaw3.PackBack", spec := "packBack", inPlace := ["internal/reflectlite.TypeOf"], unfollowed := true, recurses := true, apart := false, narrowed := true }
def PackBackUptoSaid : Prop := packBackUptoRow.holds Try.pinned (OpenSpec.upto packBackSpec)

/-- 'swagelaw3.PackForms', WHERE WHAT IT READS IS OF BULK AT MOST 1048576: true; the input reads as it did. -/
def packFormsUptoRow : OpenClaim := { program := "ytggejjeneoaakaa", sum := "03f81e1712ee6e75918e8d0be658ba62af3273508f82aa3006a46bb3cb990dc9", func := "swage/swagelaw3.PackForms", spec := "packForms", inPlace := ["internal/reflectlite.TypeOf"], unfollowed := true, recurses := true, apart := false, narrowed := true }
def PackFormsUptoSaid : Prop := packFormsUptoRow.holds Try.pinned (OpenSpec.upto packFormsSpec)

/-- 'swagelaw3.PackNumbers', WHERE WHAT IT READS IS OF BULK AT MOST 1048576: true; the input reads as it did. -/
def packNumbersUptoRow : OpenClaim := { program := "ytggejjeneoaakaa", sum := "03f81e1712ee6e75918e8d0be658ba62af3273508f82aa3006a46bb3cb990dc9", func := "swage/swagelaw3.PackNumbers", spec := "packNumbers", inPlace := ["internal/reflectlite.TypeOf"], unfollowed := true, recurses := true, apart := false, narrowed := true }
def PackNumbersUptoSaid : Prop := packNumbersUptoRow.holds Try.pinned (OpenSpec.upto packNumbersSpec)

/-- 'swagelaw3.PackSizes', WHERE WHAT IT READS IS OF BULK AT MOST 1048576: true; the input reads as it did. -/
def packSizesUptoRow : OpenClaim := { program := "ytggejjeneoaakaa", sum := "03f81e1712ee6e75918e8d0be658ba62af3273508f82aa3006a46bb3cb990dc9", func := "swage/swagelaw3.PackSizes", spec := "packSizes", inPlace := ["internal/reflectlite.TypeOf"], unfollowed := true, recurses := true, apart := false, narrowed := true }
def PackSizesUptoSaid : Prop := packSizesUptoRow.holds Try.pinned (OpenSpec.upto packSizesSpec)

end Rows
end Go.Proofs.Ytggejjeneoaakaa
