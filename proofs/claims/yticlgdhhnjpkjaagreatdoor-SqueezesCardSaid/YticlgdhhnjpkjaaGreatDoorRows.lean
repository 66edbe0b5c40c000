/-
  NARROWER THAN 'FOR EVERY INPUT', by the rows' own cells (each row's printed sentence says how): Lowers: laid · Irs: laid · Squeezes: laid · CopiesAll: laid · Folds: laid · FoldMay: laid.
  DERIVED. THE GIVEN ROWS OF THIS SEAT. 6 by the template 'for every input the law returns true; each argument reads behind the call as it read before'; 0 by the template 'total and deterministic' (their statements: YticlgdhhnjpkjaaGreatDoorTotals.lean).
  GIVEN WITH THE SEED: the statements are not yours to turn. If you find one false, say at which input.
  Laid BY PROGRAM, IN A SANDBOX (cutbox-rows.mjs): the forced cells as the released guide's own fill.sh prints them over the translation 37a430c8bbfd7c79… (all of the seat's roots in one cut). By AI agents, Wed Nov 11 2026. No macro, syntax, notation, axiom, sorry.
-/
import Derived.Test.YticlgdhhnjpkjaaGreatDoorChecked
import GoSem.Claim
import GoSem.ClaimJoined
import GoSem.ClaimMapViews
import Derived.JoinedTies
import Derived.KernelRfl
namespace Go.Proofs.YticlgdhhnjpkjaaGreatDoor
/- THE CELL 'sum', in the pinned program and in every row, IS THE sha256 OF THE DUMP (.gsa) THAT YticlgdhhnjpkjaaGreatDoorProg.lean LOADS. Nothing in Lean hashes anything: it is a label: what it is worth is what the hold of that sum in a sandbox is worth. -/
noncomputable def Tryz.pinned : Pinned := { name := "yticlgdhhnjpkjaagreatdoor", sum := "37a430c8bbfd7c79ae349820d8ba2baec4f2c7b80816375101fa6ce0aa627f08", checked := Tryz.checked }
namespace Rows
def none {H : Type} : Left H := { results := [], args := [] }

/- WHAT THE LISTED PACKAGE-LEVEL VARIABLES READ AS WHEN THE CALL BEGINS. Each datum BY PROGRAM (the guide's laid-datum.mjs) off the statement by which the dump's own 'gosem.cut.vars' lays the variable. In a bare row this is a premise. The card (YticlgdhhnjpkjaaGreatDoorCards.lean) ties it to the program's text. -/
def laid_errors_errorType {H : Type} : DataW H := .iface "internal/reflectlite.rtype" (.agg [.ptr (.lit (.string [101, 114, 114, 111, 114]))])

/-- 'swagelaw11.Lowers': WHATEVER THE INPUT: true; the input reads as it did. -/
def lowersSpec : ChangeSpec := { name := "lowers", fn := fun _ => fun
  | [d1, d2] => { results := [.lit (.bool true)], args := [d1, d2] }
  | _ => none }
def lowersRow : OpenClaim := { program := "yticlgdhhnjpkjaagreatdoor", sum := "37a430c8bbfd7c79ae349820d8ba2baec4f2c7b80816375101fa6ce0aa627f08", func := "swage/swagelaw11.Lowers", spec := "lowers", inPlace := ["internal/reflectlite.ValueOf", "(internal/reflectlite.Value).Type", "(internal/reflectlite.Value).IsNil", "internal/reflectlite.TypeOf", "(internal/reflectlite.Value).Elem", "(internal/reflectlite.Value).Set"], unfollowed := true, recurses := true, named := ["errors.errorType"], apart := false, laid := [("errors.errorType", laid_errors_errorType)] }
def LowersSaid : Prop := lowersRow.holds Tryz.pinned (OpenSpec.ofChange lowersSpec)

/-- ITS FALSE NEIGHBOUR: 'it returns false'. Refute it at one input. -/
def lowersWrong : ChangeSpec := { name := "lowers", fn := fun _ => fun
  | [d1, d2] => { results := [.lit (.bool false)], args := [d1, d2] }
  | _ => none }
def LowersWrongFalsely : Prop := lowersRow.holds Tryz.pinned (OpenSpec.ofChange lowersWrong)

/-- 'swagelaw10.Irs': WHATEVER THE INPUT: true; the input reads as it did. -/
def irsSpec : ChangeSpec := { name := "irs", fn := fun _ => fun
  | [d1, d2] => { results := [.lit (.bool true)], args := [d1, d2] }
  | _ => none }
def irsRow : OpenClaim := { program := "yticlgdhhnjpkjaagreatdoor", sum := "37a430c8bbfd7c79ae349820d8ba2baec4f2c7b80816375101fa6ce0aa627f08", func := "swage/swagelaw10.Irs", spec := "irs", inPlace := ["internal/reflectlite.ValueOf", "(internal/reflectlite.Value).Type", "(internal/reflectlite.Value).IsNil", "internal/reflectlite.TypeOf", "(internal/reflectlite.Value).Elem", "(internal/reflectlite.Value).Set"], unfollowed := true, recurses := true, named := ["errors.errorType"], apart := false, laid := [("errors.errorType", laid_errors_errorType)] }
def IrsSaid : Prop := irsRow.holds Tryz.pinned (OpenSpec.ofChange irsSpec)

/-- ITS FALSE NEIGHBOUR: 'it returns false'. Refute it at one input. -/
def irsWrong : ChangeSpec := { name := "irs", fn := fun _ => fun
  | [d1, d2] => { results := [.lit (.bool false)], args := [d1, d2] }
  | _ => none }
def IrsWrongFalsely : Prop := irsRow.holds Tryz.pinned (OpenSpec.ofChange irsWrong)

/-- 'swagelaw18.Squeezes': WHATEVER THE INPUT: true; the input reads as it did. -/
def squeezesSpec : ChangeSpec := { name := "squeezes", fn := fun _ => fun
  | [d1, d2] => { results := [.lit (.bool true)], args := [d1, d2] }
  | _ => none }
def squeezesRow : OpenClaim := { program := "yticlgdhhnjpkjaagreatdoor", sum := "37a430c8bbfd7c79ae349820d8ba2baec4f2c7b80816375101fa6ce0aa627f08", func := "swage/swagelaw18.Squeezes", spec := "squeezes", inPlace := ["internal/reflectlite.ValueOf", "(internal/reflectlite.Value).Type", "(internal/reflectlite.Value).IsNil", "internal/reflectlite.TypeOf", "(internal/reflectlite.Value).Elem", "(internal/reflectlite.Value).Set"], unfollowed := true, recurses := true, named := ["errors.errorType"], apart := false, laid := [("errors.errorType", laid_errors_errorType)] }
def SqueezesSaid : Prop := squeezesRow.holds Tryz.pinned (OpenSpec.ofChange squeezesSpec)

/-- ITS FALSE NEIGHBOUR: 'it returns false'. Refute it at one input. -/
def squeezesWrong : ChangeSpec := { name := "squeezes", fn := fun _ => fun
  | [d1, d2] => { results := [.lit (.bool false)], args := [d1, d2] }
  | _ => none }
def SqueezesWrongFalsely : Prop := squeezesRow.holds Tryz.pinned (OpenSpec.ofChange squeezesWrong)

/-- 'swagelaw16.CopiesAll': WHATEVER THE INPUT: true; the input reads as it did. -/
def copiesAllSpec : ChangeSpec := { name := "copiesAll", fn := fun _ => fun
  | [d1, d2] => { results := [.lit (.bool true)], args := [d1, d2] }
  | _ => none }
def copiesAllRow : OpenClaim := { program := "yticlgdhhnjpkjaagreatdoor", sum := "37a430c8bbfd7c79ae349820d8ba2baec4f2c7b80816375101fa6ce0aa627f08", func := "swage/swagelaw16.CopiesAll", spec := "copiesAll", inPlace := ["internal/reflectlite.ValueOf", "(internal/reflectlite.Value).Type", "(internal/reflectlite.Value).IsNil", "internal/reflectlite.TypeOf", "(internal/reflectlite.Value).Elem", "(internal/reflectlite.Value).Set"], unfollowed := true, recurses := true, named := ["errors.errorType"], apart := false, laid := [("errors.errorType", laid_errors_errorType)] }
def CopiesAllSaid : Prop := copiesAllRow.holds Tryz.pinned (OpenSpec.ofChange copiesAllSpec)

/-- ITS FALSE NEIGHBOUR: 'it returns false'. Refute it at one input. -/
def copiesAllWrong : ChangeSpec := { name := "copiesAll", fn := fun _ => fun
  | [d1, d2] => { results := [.lit (.bool false)], args := [d1, d2] }
  | _ => none }
def CopiesAllWrongFalsely : Prop := copiesAllRow.holds Tryz.pinned (OpenSpec.ofChange copiesAllWrong)

/-- 'swagelaw15.Folds': WHATEVER THE INPUT: true; the input reads as it did. -/
def foldsSpec : ChangeSpec := { name := "folds", fn := fun _ => fun
  | [d1, d2] => { results := [.lit (.bool true)], args := [d1, d2] }
  | _ => none }
def foldsRow : OpenClaim := { program := "yticlgdhhnjpkjaagreatdoor", sum := "37a430c8bbfd7c79ae349820d8ba2baec4f2c7b80816375101fa6ce0aa627f08", func := "swage/swagelaw15.Folds", spec := "folds", inPlace := ["internal/reflectlite.ValueOf", "(internal/reflectlite.Value).Type", "(internal/reflectlite.Value).IsNil", "internal/reflectlite.TypeOf", "(internal/reflectlite.Value).Elem", "(internal/reflectlite.Value).Set"], unfollowed := true, recurses := true, named := ["errors.errorType"], apart := false, laid := [("errors.errorType", laid_errors_errorType)] }
def FoldsSaid : Prop := foldsRow.holds Tryz.pinned (OpenSpec.ofChange foldsSpec)

/-- ITS FALSE NEIGHBOUR: 'it returns false'. Refute it at one input. -/
def foldsWrong : ChangeSpec := { name := "folds", fn := fun _ => fun
  | [d1, d2] => { results := [.lit (.bool false)], args := [d1, d2] }
  | _ => none }
def FoldsWrongFalsely : Prop := foldsRow.holds Tryz.pinned (OpenSpec.ofChange foldsWrong)

/-- 'swagelaw15.FoldMay': WHATEVER THE INPUT: true; the input reads as it did. -/
def foldMaySpec : ChangeSpec := { name := "foldMay", fn := fun _ => fun
  | [d1, d2] => { results := [.lit (.bool true)], args := [d1, d2] }
  | _ => none }
def foldMayRow : OpenClaim := { program := "yticlgdhhnjpkjaagreatdoor", sum := "37a430c8bbfd7c79ae349820d8ba2baec4f2c7b80816375101fa6ce0aa627f08", func := "swage/swagelaw15.FoldMay", spec := "foldMay", inPlace := ["internal/reflectlite.ValueOf", "(internal/reflectlite.Value).Type", "(internal/reflectlite.Value).IsNil", "internal/reflectlite.TypeOf", "(internal/reflectlite.Value).Elem", "(internal/reflectlite.Value).Set"], unfollowed := true, recurses := true, named := ["errors.errorType"], apart := false, laid := [("errors.errorType", laid_errors_errorType)] }
def FoldMaySaid : Prop := foldMayRow.holds Tryz.pinned (OpenSpec.ofChange foldMaySpec)

/-- ITS FALSE NEIGHBOUR: 'it returns false'. Refute it at one input. -/
def foldMayWrong : ChangeSpec := { name := "foldMay", fn := fun _ => fun
  | [d1, d2] => { results := [.lit (.bool false)], args := [d1, d2] }
  | _ => none }
def FoldMayWrongFalsely : Prop := foldMayRow.holds Tryz.pinned (OpenSpec.ofChange foldMayWrong)

/- THE SECOND FORM. 'bulk': how many values and letters a reading holds, each counted each time it is reached (what is shared counts as often as it is met; a slice's spare places count too). A statement '..UptoSaid' is the law's where the arguments, and the package variables that the reading takes, are together of bulk at most 1048576: NARROWER than '..Said'. Prove '..Said' where nothing that the law and all that it calls make is longer than what came in: it says more and counts as full. Else prove '..UptoSaid'. A law counts once. -/
mutual
def uptoBulk {H : Type} : DataW H → Nat
  | .lit (.string bytes) => bytes.length + 1
  | .lit _ => 1
  | .nil => 1
  | .ptr d => uptoBulk d + 1
  | .slice elems spare => uptoBulkAll elems + uptoBulkAll spare + 1
  | .agg parts => uptoBulkAll parts + 1
  | .iface _ d => uptoBulk d + 1
  | .map entries => uptoBulkEntries entries + 1
  | .held _ => 1
def uptoBulkAll {H : Type} : List (DataW H) → Nat
  | [] => 0
  | d :: r => uptoBulk d + uptoBulkAll r
def uptoBulkEntries {H : Type} : List (Lit × DataW H) → Nat
  | [] => 0
  | x :: r => uptoBulkEntry x + uptoBulkEntries r
def uptoBulkEntry {H : Type} : Lit × DataW H → Nat
  | (.string bytes, d) => bytes.length + uptoBulk d + 1
  | (_, d) => uptoBulk d + 1
 end
def uptoSmall : (H : Type) → List (DataW H) → Bool := fun _ ds => decide (uptoBulkAll ds ≤ 1048576)
def OpenSpec.upto (s : _root_.Go.ChangeSpec) : _root_.Go.OpenSpec := { _root_.Go.OpenSpec.ofChange s with cond := some uptoSmall }

/-- 'swagelaw11.Lowers', WHERE WHAT IT READS IS OF BULK AT MOST 1048576: true; the input reads as it did. -/
def lowersUptoRow : OpenClaim := { program := "yticlgdhhnjpkjaagreatdoor", sum := "37a430c8bbfd7c79ae349820d8ba2baec4f2c7b80816375101fa6ce0aa627f08", func := "swage/swagelaw11.Lowers", spec := "lowers", inPlace := ["internal/reflectlite.ValueOf", "(internal/reflectlite.Value).Type", "(internal/reflectlite.Value).IsNil", "internal/reflectlite.TypeOf", "(internal/reflectlite.Value).Elem", "(internal/reflectlite.Value).Set"], unfollowed := true, recurses := true, named := ["errors.errorType"], apart := false, laid := [("errors.errorType", laid_errors_errorType)], narrowed := true }
def LowersUptoSaid : Prop := lowersUptoRow.holds Tryz.pinned (OpenSpec.upto lowersSpec)

/-- 'swagelaw10.Irs', WHERE WHAT IT READS IS OF BULK AT MOST 1048576: true; the input reads as it did. -/
def irsUptoRow : OpenClaim := { program := "yticlgdhhnjpkjaagreatdoor", sum := "37a430c8bbfd7c79ae349820d8ba2baec4f2c7b80816375101fa6ce0aa627f08", func := "swage/swagelaw10.Irs", spec := "irs", inPlace := ["internal/reflectlite.ValueOf", "(internal/reflectlite.Value).Type", "(internal/reflectlite.Value).IsNil", "internal/reflectlite.TypeOf", "(internal/reflectlite.Value).Elem", "(internal/reflectlite.Value).Set"], unfollowed := true, recurses := true, named := ["errors.errorType"], apart := false, laid := [("errors.errorType", laid_errors_errorType)], narrowed := true }
def IrsUptoSaid : Prop := irsUptoRow.holds Tryz.pinned (OpenSpec.upto irsSpec)

/-- 'swagelaw18.Squeezes', WHERE WHAT IT READS IS OF BULK AT MOST 1048576: true; the input reads as it did. -/
def squeezesUptoRow : OpenClaim := { program := "yticlgdhhnjpkjaagreatdoor", sum := "37a430c8bbfd7c79ae349820d8ba2baec4f2c7b80816375101fa6ce0aa627f08", func := "swage/swagelaw18.Squeezes", spec := "squeezes", inPlace := ["internal/reflectlite.ValueOf", "(internal/reflectlite.Value).Type", "(internal/reflectlite.Value).IsNil", "internal/reflectlite.TypeOf", "(internal/reflectlite.Value).Elem", "(internal/reflectlite.Value).Set"], unfollowed := true, recurses := true, named := ["errors.errorType"], apart := false, laid := [("errors.errorType", laid_errors_errorType)], narrowed := true }
def SqueezesUptoSaid : Prop := squeezesUptoRow.holds Tryz.pinned (OpenSpec.upto squeezesSpec)

/-- 'swagelaw16.CopiesAll', WHERE WHAT IT READS IS OF BULK AT MOST 1048576: true; the input reads as it did. -/
def copiesAllUptoRow : OpenClaim := { program := "yticlgdhhnjpkjaagreatdoor", sum := "37a430c8bbfd7c79ae349820d8ba2baec4f2c7b80816375101fa6ce0aa627f08", func := "swage/swagelaw16.CopiesAll", spec := "copiesAll", inPlace := ["internal/reflectlite.ValueOf", "(internal/reflectlite.Value).Type", "(internal/reflectlite.Value).IsNil", "internal/reflectlite.TypeOf", "(internal/reflectlite.Value).Elem", "(internal/reflectlite.Value).Set"], unfollowed := true, recurses := true, named := ["errors.errorType"], apart := false, laid := [("errors.errorType", laid_errors_errorType)], narrowed := true }
def CopiesAllUptoSaid : Prop := copiesAllUptoRow.holds Tryz.pinned (OpenSpec.upto copiesAllSpec)

/-- 'swagelaw15.Folds', WHERE WHAT IT READS IS OF BULK AT MOST 1048576: true; the input reads as it did. -/
def foldsUptoRow : OpenClaim := { program := "yticlgdhhnjpkjaagreatdoor", sum := "37a430c8bbfd7c79ae349820d8ba2baec4f2c7b80816375101fa6ce0aa627f08", func := "swage/swagelaw15.Folds", spec := "folds", inPlace := ["internal/reflectlite.ValueOf", "(internal/reflectlite.Value).Type", "(internal/reflectlite.Value).IsNil", "internal/reflectlite.TypeOf", "(internal/reflectlite.Value).Elem", "(internal/reflectlite.Value).Set"], unfollowed := true, recurses := true, named := ["errors.errorType"], apart := false, laid := [("errors.errorType", laid_errors_errorType)], narrowed := true }
def FoldsUptoSaid : Prop := foldsUptoRow.holds Tryz.pinned (OpenSpec.upto foldsSpec)

/-- 'swagelaw15.FoldMay', WHERE WHAT IT READS IS OF BULK AT MOST 1048576: true; the input reads as it did. -/
def foldMayUptoRow : OpenClaim := { program := "yticlgdhhnjpkjaagreatdoor", sum := "37a430c8bbfd7c79ae349820d8ba2baec4f2c7b80816375101fa6ce0aa627f08", func := "swage/swagelaw15.FoldMay", spec := "foldMay", inPlace := ["internal/reflectlite.ValueOf", "(internal/reflectlite.Value).Type", "(internal/reflectlite.Value).IsNil", "internal/reflectlite.TypeOf", "(internal/reflectlite.Value).Elem", "(internal/reflectlite.Value).Set"], unfollowed := true, recurses := true, named := ["errors.errorType"], apart := false, laid := [("errors.errorType", laid_errors_errorType)], narrowed := true }
def FoldMayUptoSaid : Prop := foldMayUptoRow.holds Tryz.pinned (OpenSpec.upto foldMaySpec)

end Rows
end Go.Proofs.YticlgdhhnjpkjaaGreatDoor
