/-
  NARROWER THAN 'FOR EVERY INPUT', by the rows' own cells (each row's printed sentence says how): CopiesMay: laid · CopiesChain: laid · FoldLines: laid · FoldGuards: laid.
  DERIVED. THE GIVEN ROWS OF THIS SEAT. 4 by the template 'for every input the law returns true; each argument reads behind the call as it read before'; 0 by the template 'total and deterministic' (their statements: YtbiejiangdbcmaaDoorTotals.lean).
  GIVEN WITH THE SEED: the statements are not yours to turn. If you find one false, say at which input.
  Laid BY PROGRAM, IN A SANDBOX (cutbox-rows.mjs): the forced cells as the released guide's own fill.sh prints them over the translation 22ad3d15d8d7cd41… (all of the seat's roots in one cut). By AI agents, Wed Nov 11 2026. No macro, syntax, notation, axiom, sorry.
-/
import Derived.Test.YtbiejiangdbcmaaDoorChecked
import GoSem.Claim
import GoSem.ClaimJoined
import GoSem.ClaimMapViews
import Derived.JoinedTies
import Derived.KernelRfl
namespace Go.Proofs.YtbiejiangdbcmaaDoor
/- THE CELL 'sum', in the pinned program and in every row, IS THE sha256 OF THE DUMP (.gsa) THAT YtbiejiangdbcmaaDoorProg.lean LOADS. Nothing in Lean hashes anything: it is a label: what it is worth is what the hold of that sum in a sandbox is worth. -/
noncomputable def Tryd.pinned : Pinned := { name := "ytbiejiangdbcmaadoor", sum := "22ad3d15d8d7cd417c966243042c883ee695d90241c16c9ad00f01130cb22c10", checked := Tryd.checked }
namespace Rows
def none {H : Type} : Left H := { results := [], args := [] }

/- WHAT THE LISTED PACKAGE-LEVEL VARIABLES READ AS WHEN THE CALL BEGINS. Each datum BY PROGRAM (the guide's laid-datum.mjs) off the statement by which the dump's own 'gosem.cut.vars' lays the variable. In a bare row this is a premise. The card (YtbiejiangdbcmaaDoorCards.lean) ties it to the program's text. -/
def laid_errors_errorType {H : Type} : DataW H := .iface "internal/reflectlite.rtype" (.agg [.ptr (.lit (.string [101, 114, 114, 111, 114]))])

/-- 'swagelaw16.CopiesMay': WHATEVER THE INPUT: true; the input reads as it did. -/
def copiesMaySpec : ChangeSpec := { name := "copiesMay", fn := fun _ => fun
  | [d1, d2] => { results := [.lit (.bool true)], args := [d1, d2] }
  | _ => none }
def copiesMayRow : OpenClaim := { program := "ytbiejiangdbcmaadoor", sum := "22ad3d15d8d7cd417c966243042c883ee695d90241c16c9ad00f01130cb22c10", func := "swage/swagelaw16.CopiesMay", spec := "copiesMay", inPlace := ["internal/reflectlite.ValueOf", "(internal/reflectlite.Value).Type", "(internal/reflectlite.Value).IsNil", "internal/reflectlite.TypeOf", "(internal/reflectlite.Value).Elem", "(internal/reflectlite.Value).Set"], unfollowed := true, recurses := true, named := ["errors.errorType"], apart := false, laid := [("errors.errorType", laid_errors_errorType)] }
def CopiesMaySaid : Prop := copiesMayRow.holds Tryd.pinned (OpenSpec.ofChange copiesMaySpec)

/-- ITS FALSE NEIGHBOUR: 'it returns false'. Refute it at one input. -/
def copiesMayWrong : ChangeSpec := { name := "copiesMay", fn := fun _ => fun
  | [d1, d2] => { results := [.lit (.bool false)], args := [d1, d2] }
  | _ => none }
def CopiesMayWrongFalsely : Prop := copiesMayRow.holds Tryd.pinned (OpenSpec.ofChange copiesMayWrong)

/-- 'swagelaw16.CopiesChain': WHATEVER THE INPUT: true; the input reads as it did. -/
def copiesChainSpec : ChangeSpec := { name := "copiesChain", fn := fun _ => fun
  | [d1, d2] => { results := [.lit (.bool true)], args := [d1, d2] }
  | _ => none }
def copiesChainRow : OpenClaim := { program := "ytbiejiangdbcmaadoor", sum := "22ad3d15d8d7cd417c966243042c883ee695d90241c16c9ad00f01130cb22c10", func := "swage/swagelaw16.CopiesChain", spec := "copiesChain", inPlace := ["internal/reflectlite.ValueOf", "(internal/reflectlite.Value).Type", "(internal/reflectlite.Value).IsNil", "internal/reflectlite.TypeOf", "(internal/reflectlite.Value).Elem", "(internal/reflectlite.Value).Set"], unfollowed := true, recurses := true, named := ["errors.errorType"], apart := false, laid := [("errors.errorType", laid_errors_errorType)] }
def CopiesChainSaid : Prop := copiesChainRow.holds Tryd.pinned (OpenSpec.ofChange copiesChainSpec)

/-- ITS FALSE NEIGHBOUR: 'it returns false'. Refute it at one input. -/
def copiesChainWrong : ChangeSpec := { name := "copiesChain", fn := fun _ => fun
  | [d1, d2] => { results := [.lit (.bool false)], args := [d1, d2] }
  | _ => none }
def CopiesChainWrongFalsely : Prop := copiesChainRow.holds Tryd.pinned (OpenSpec.ofChange copiesChainWrong)

/-- 'swagelaw15.FoldLines': WHATEVER THE INPUT: true; the input reads as it did. -/
def foldLinesSpec : ChangeSpec := { name := "foldLines", fn := fun _ => fun
  | [d1, d2] => { results := [.lit (.bool true)], args := [d1, d2] }
  | _ => none }
def foldLinesRow : OpenClaim := { program := "ytbiejiangdbcmaadoor", sum := "22ad3d15d8d7cd417c966243042c883ee695d90241c16c9ad00f01130cb22c10", func := "swage/swagelaw15.FoldLines", spec := "foldLines", inPlace := ["internal/reflectlite.ValueOf", "(internal/reflectlite.Value).Type", "(internal/reflectlite.Value).IsNil", "internal/reflectlite.TypeOf", "(internal/reflectlite.Value).Elem", "(internal/reflectlite.Value).Set"], unfollowed := true, recurses := true, named := ["errors.errorType"], apart := false, laid := [("errors.errorType", laid_errors_errorType)] }
def FoldLinesSaid : Prop := foldLinesRow.holds Tryd.pinned (OpenSpec.ofChange foldLinesSpec)

/-- ITS FALSE NEIGHBOUR: 'it returns false'. Refute it at one input. -/
def foldLinesWrong : ChangeSpec := { name := "foldLines", fn := fun _ => fun
  | [d1, d2] => { results := [.lit (.bool false)], args := [d1, d2] }
  | _ => none }
def FoldLinesWrongFalsely : Prop := foldLinesRow.holds Tryd.pinned (OpenSpec.ofChange foldLinesWrong)

/-- 'swagelaw15.FoldGuards': WHATEVER THE INPUT: true; the input reads as it did. -/
def foldGuardsSpec : ChangeSpec := { name := "foldGuards", fn := fun _ => fun
  | [d1, d2, d3] => { results := [.lit (.bool true)], args := [d1, d2, d3] }
  | _ => none }
def foldGuardsRow : OpenClaim := { program := "ytbiejiangdbcmaadoor", sum := "22ad3d15d8d7cd417c966243042c883ee695d90241c16c9ad00f01130cb22c10", func := "swage/swagelaw15.FoldGuards", spec := "foldGuards", inPlace := ["internal/reflectlite.ValueOf", "(internal/reflectlite.Value).Type", "(internal/reflectlite.Value).IsNil", "internal/reflectlite.TypeOf", "(internal/reflectlite.Value).Elem", "(internal/reflectlite.Value).Set"], unfollowed := true, recurses := true, named := ["errors.errorType"], apart := false, laid := [("errors.errorType", laid_errors_errorType)] }
def FoldGuardsSaid : Prop := foldGuardsRow.holds Tryd.pinned (OpenSpec.ofChange foldGuardsSpec)

/-- ITS FALSE NEIGHBOUR: 'it returns false'. Refute it at one input. -/
def foldGuardsWrong : ChangeSpec := { name := "foldGuards", fn := fun _ => fun
  | [d1, d2, d3] => { results := [.lit (.bool false)], args := [d1, d2, d3] }
  | _ => none }
def FoldGuardsWrongFalsely : Prop := foldGuardsRow.holds Tryd.pinned (OpenSpec.ofChange foldGuardsWrong)

/- THE SECOND FORM. 'bulk': how many values and letters a reading holds, each counted each time it is reached (what is shared counts as often as it is met; a slice's spare places count too). A statement '..UptoSaid' is the law's where the arguments, and the package variables that the reading takes, are together of bulk at most 1048576: NARROWER than '..Said'. Prove '..Said' where nothing that the law and all that it calls make is longer than what came in: it says more and counts as full. Else prove '..UptoSaid'. A law counts once. -/
mutual
def uptoBulk {H : Type} : DataW H → Nat
  | .lit (.string bytes) => bytes.length + 1
  | .lit _ => 1
  | .nil => 1
  | .ptr d => uptoBulk d + 1
  | .slice elems spare => uptoBulkAll elems + uptoBulkAll spare + 1
  | .agg parts => uptoBulkAll parts + 1
  | .iface _ d => uptoBulk d + 1
  | .map entries => uptoBulkEntries entries + 1
  | .held _ => 1
def uptoBulkAll {H : Type} : List (DataW H) → Nat
  | [] => 0
  | d :: r => uptoBulk d + uptoBulkAll r
def uptoBulkEntries {H : Type} : List (Lit × DataW H) → Nat
  | [] => 0
  | x :: r => uptoBulkEntry x + uptoBulkEntries r
def uptoBulkEntry {H : Type} : Lit × DataW H → Nat
  | (.string bytes, d) => bytes.length + uptoBulk d + 1
  | (_, d) => uptoBulk d + 1
 end
def uptoSmall : (H : Type) → List (DataW H) → Bool := fun _ ds => decide (uptoBulkAll ds ≤ 1048576)
def OpenSpec.upto (s : _root_.Go.ChangeSpec) : _root_.Go.OpenSpec := { _root_.Go.OpenSpec.ofChange s with cond := some uptoSmall }

/-- 'swagelaw16.CopiesMay', WHERE WHAT IT READS IS OF BULK AT MOST 1048576: true; the input reads as it did. -/
def copiesMayUptoRow : OpenClaim := { program := "ytbiejiangdbcmaadoor", sum := "22ad3d15d8d7cd417c966243042c883ee695d90241c16c9ad00f01130cb22c10", func := "swage/swagelaw16.CopiesMay", spec := "copiesMay", inPlace := ["internal/reflectlite.ValueOf", "(internal/reflectlite.Value).Type", "(internal/reflectlite.Value).IsNil", "internal/reflectlite.TypeOf", "(internal/reflectlite.Value).Elem", "(internal/reflectlite.Value).Set"], unfollowed := true, recurses := true, named := ["errors.errorType"], apart := false, laid := [("errors.errorType", laid_errors_errorType)], narrowed := true }
def CopiesMayUptoSaid : Prop := copiesMayUptoRow.holds Tryd.pinned (OpenSpec.upto copiesMaySpec)

/-- 'swagelaw16.CopiesChain', WHERE WHAT IT READS IS OF BULK AT MOST 1048576: true; the input reads as it did. -/
def copiesChainUptoRow : OpenClaim := { program := "ytbiejiangdbcmaadoor", sum := "22ad3d15d8d7cd417c966243042c883ee695d90241c16c9ad00f01130cb22c10", func := "swage/swagelaw16.CopiesChain", spec := "copiesChain", inPlace := ["internal/reflectlite.ValueOf", "(internal/reflectlite.Value).Type", "(internal/reflectlite.Value).IsNil", "internal/reflectlite.TypeOf", "(internal/reflectlite.Value).Elem", "(internal/reflectlite.Value).Set"], unfollowed := true, recurses := true, named := ["errors.errorType"], apart := false, laid := [("errors.errorType", laid_errors_errorType)], narrowed := true }
def CopiesChainUptoSaid : Prop := copiesChainUptoRow.holds Tryd.pinned (OpenSpec.upto copiesChainSpec)

/-- 'swagelaw15.FoldLines', WHERE WHAT IT READS IS OF BULK AT MOST 1048576: true; the input reads as it did. -/
def foldLinesUptoRow : OpenClaim := { program := "ytbiejiangdbcmaadoor", sum := "22ad3d15d8d7cd417c966243042c883ee695d90241c16c9ad00f01130cb22c10", func := "swage/swagelaw15.FoldLines", spec := "foldLines", inPlace := ["internal/reflectlite.ValueOf", "(internal/reflectlite.Value).Type", "(internal/reflectlite.Value).IsNil", "internal/reflectlite.TypeOf", "(internal/reflectlite.Value).Elem", "(internal/reflectlite.Value).Set"], unfollowed := true, recurses := true, named := ["errors.errorType"], apart := false, laid := [("errors.errorType", laid_errors_errorType)], narrowed := true }
def FoldLinesUptoSaid : Prop := foldLinesUptoRow.holds Tryd.pinned (OpenSpec.upto foldLinesSpec)

/-- 'swagelaw15.FoldGuards', WHERE WHAT IT READS IS OF BULK AT MOST 1048576: true; the input reads as it did. -/
def foldGuardsUptoRow : OpenClaim := { program := "ytbiejiangdbcmaadoor", sum := "22ad3d15d8d7cd417c966243042c883ee695d90241c16c9ad00f01130cb22c10", func := "swage/swagelaw15.FoldGuards", spec := "foldGuards", inPlace := ["internal/reflectlite.ValueOf", "(internal/reflectlite.Value).Type", "(internal/reflectlite.Value).IsNil", "internal/reflectlite.TypeOf", "(internal/reflectlite.Value).Elem", "(internal/reflectlite.Value).Set"], unfollowed := true, recurses := true, named := ["errors.errorType"], apart := false, laid := [("errors.errorType", laid_errors_errorType)], narrowed := true }
def FoldGuardsUptoSaid : Prop := foldGuardsUptoRow.holds Tryd.pinned (OpenSpec.upto foldGuardsSpec)

end Rows
end Go.Proofs.YtbiejiangdbcmaaDoor
