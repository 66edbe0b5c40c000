/-
  NARROWER THAN 'FOR EVERY INPUT', by the rows' own cells (each row's printed sentence says how): LowerKinds: laid · LowerBack: laid · IrForms: laid · IrLeads: laid · SqueezeMay: laid · SqueezeRuns: laid · LowerMay: laid.
  DERIVED. THE GIVEN ROWS OF THIS SEAT. 7 by the template 'for every input the law returns true; each argument reads behind the call as it read before'; 0 by the template 'total and deterministic' (their statements: YtpehdlobicocpaaDoorTotals.lean).
  GIVEN WITH THE SEED: the statements are not yours to turn. If you find one false, say at which input.
  Laid BY PROGRAM, IN A SANDBOX (cutbox-rows.mjs): the forced cells as the released guide's own fill.sh prints them over the translation 252b1143576f0b3e… (all of the seat's roots in one cut). By AI agents, Wed Nov 11 2026. No macro, syntax, notation, axiom, sorry.
-/
import Derived.Test.YtpehdlobicocpaaDoorChecked
import GoSem.Claim
import GoSem.ClaimJoined
import GoSem.ClaimMapViews
import Derived.JoinedTies
import Derived.KernelRfl
namespace Go.Proofs.YtpehdlobicocpaaDoor
/- THE CELL 'sum', in the pinned program and in every row, IS THE sha256 OF THE DUMP (.gsa) THAT YtpehdlobicocpaaDoorProg.lean LOADS. Nothing in Lean hashes anything: it is a label: what it is worth is what the hold of that sum in a sandbox is worth. -/
noncomputable def Tryd.pinned : Pinned := { name := "ytpehdlobicocpaadoor", sum := "252b1143576f0b3efaa3453f7bbb7256dde5d89db0e35b7c99b4e9c07b234c80", checked := Tryd.checked }
namespace Rows
def none {H : Type} : Left H := { results := [], args := [] }

/- WHAT THE LISTED PACKAGE-LEVEL VARIABLES READ AS WHEN THE CALL BEGINS. Each datum BY PROGRAM (the guide's laid-datum.mjs) off the statement by which the dump's own 'gosem.cut.vars' lays the variable. In a bare row this is a premise. The card (YtpehdlobicocpaaDoorCards.lean) ties it to the program's text. -/
def laid_errors_errorType {H : Type} : DataW H := .iface "internal/reflectlite.rtype" (.agg [.ptr (.lit (.string [101, 114, 114, 111, 114]))])

/-- 'swagelaw11.LowerKinds': WHATEVER THE INPUT: true; the input reads as it did. -/
def lowerKindsSpec : ChangeSpec := { name := "lowerKinds", fn := fun _ => fun
  | [d] => { results := [.lit (.bool true)], args := [d] }
  | _ => none }
def lowerKindsRow : OpenClaim := { program := "ytpehdlobicocpaadoor", sum := "252b1143576f0b3efaa3453f7bbb7256dde5d89db0e35b7c99b4e9c07b234c80", func := "swage/swagelaw11.LowerKinds", spec := "lowerKinds", inPlace := ["internal/reflectlite.ValueOf", "(internal/reflectlite.Value).Type", "(internal/reflectlite.Value).IsNil", "internal/reflectlite.TypeOf", "(internal/reflectlite.Value).Elem", "(internal/reflectlite.Value).Set"], unfollowed := true, recurses := true, named := ["errors.errorType"], apart := false, laid := [("errors.errorType", laid_errors_errorType)] }
def LowerKindsSaid : Prop := lowerKindsRow.holds Tryd.pinned (OpenSpec.ofChange lowerKindsSpec)

/-- ITS FALSE NEIGHBOUR: 'it returns false'. Refute it at one input. -/
def lowerKindsWrong : ChangeSpec := { name := "lowerKinds", fn := fun _ => fun
  | [d] => { results := [.lit (.bool false)], args := [d] }
  | _ => none }
def LowerKindsWrongFalsely : Prop := lowerKindsRow.holds Tryd.pinned (OpenSpec.ofChange lowerKindsWrong)

/-- 'swagelaw11.LowerBack': WHATEVER THE INPUT: true; the input reads as it did. -/
def lowerBackSpec : ChangeSpec := { name := "lowerBack", fn := fun _ => fun
  | [d] => { results := [.lit (.bool true)], args := [d] }
  | _ => none }
def lowerBackRow : OpenClaim := { program := "ytpehdlobicocpaadoor", sum := "252b1143576f0b3efaa3453f7bbb7256dde5d89db0e35b7c99b4e9c07b234c80", func := "swage/swagelaw11.LowerBack", spec := "lowerBack", inPlace := ["internal/reflectlite.ValueOf", "(internal/reflectlite.Value).Type", "(internal/reflectlite.Value).IsNil", "internal/reflectlite.TypeOf", "(internal/reflectlite.Value).Elem", "(internal/reflectlite.Value).Set"], unfollowed := true, recurses := true, named := ["errors.errorType"], apart := false, laid := [("errors.errorType", laid_errors_errorType)] }
def LowerBackSaid : Prop := lowerBackRow.holds Tryd.pinned (OpenSpec.ofChange lowerBackSpec)

/-- ITS FALSE NEIGHBOUR: 'it returns false'. Refute it at one input. -/
def lowerBackWrong : ChangeSpec := { name := "lowerBack", fn := fun _ => fun
  | [d] => { results := [.lit (.bool false)], args := [d] }
  | _ => none }
def LowerBackWrongFalsely : Prop := lowerBackRow.holds Tryd.pinned (OpenSpec.ofChange lowerBackWrong)

/-- 'swagelaw10.IrForms': WHATEVER THE INPUT: true; the input reads as it did. -/
def irFormsSpec : ChangeSpec := { name := "irForms", fn := fun _ => fun
  | [d1, d2] => { results := [.lit (.bool true)], args := [d1, d2] }
  | _ => none }
def irFormsRow : OpenClaim := { program := "ytpehdlobicocpaadoor", sum := "252b1143576f0b3efaa3453f7bbb7256dde5d89db0e35b7c99b4e9c07b234c80", func := "swage/swagelaw10.IrForms", spec := "irForms", inPlace := ["internal/reflectlite.ValueOf", "(internal/reflectlite.Value).Type", "(internal/reflectlite.Value).IsNil", "internal/reflectlite.TypeOf", "(internal/reflectlite.Value).Elem", "(internal/reflectlite.Value).Set"], unfollowed := true, recurses := true, named := ["errors.errorType"], apart := false, laid := [("errors.errorType", laid_errors_errorType)] }
def IrFormsSaid : Prop := irFormsRow.holds Tryd.pinned (OpenSpec.ofChange irFormsSpec)

/-- ITS FALSE NEIGHBOUR: 'it returns false'. Refute it at one input. -/
def irFormsWrong : ChangeSpec := { name := "irForms", fn := fun _ => fun
  | [d1, d2] => { results := [.lit (.bool false)], args := [d1, d2] }
  | _ => none }
def IrFormsWrongFalsely : Prop := irFormsRow.holds Tryd.pinned (OpenSpec.ofChange irFormsWrong)

/-- 'swagelaw10.IrLeads': WHATEVER THE INPUT: true; the input reads as it did. -/
def irLeadsSpec : ChangeSpec := { name := "irLeads", fn := fun _ => fun
  | [d] => { results := [.lit (.bool true)], args := [d] }
  | _ => none }
def irLeadsRow : OpenClaim := { program := "ytpehdlobicocpaadoor", sum := "252b1143576f0b3efaa3453f7bbb7256dde5d89db0e35b7c99b4e9c07b234c80", func := "swage/swagelaw10.IrLeads", spec := "irLeads", inPlace := ["internal/reflectlite.ValueOf", "(internal/reflectlite.Value).Type", "(internal/reflectlite.Value).IsNil", "internal/reflectlite.TypeOf", "(internal/reflectlite.Value).Elem", "(internal/reflectlite.Value).Set"], unfollowed := true, recurses := true, named := ["errors.errorType"], apart := false, laid := [("errors.errorType", laid_errors_errorType)] }
def IrLeadsSaid : Prop := irLeadsRow.holds Tryd.pinned (OpenSpec.ofChange irLeadsSpec)

/-- ITS FALSE NEIGHBOUR: 'it returns false'. Refute it at one input. -/
def irLeadsWrong : ChangeSpec := { name := "irLeads", fn := fun _ => fun
  | [d] => { results := [.lit (.bool false)], args := [d] }
  | _ => none }
def IrLeadsWrongFalsely : Prop := irLeadsRow.holds Tryd.pinned (OpenSpec.ofChange irLeadsWrong)

/-- 'swagelaw18.SqueezeMay': WHATEVER THE INPUT: true; the input reads as it did. -/
def squeezeMaySpec : ChangeSpec := { name := "squeezeMay", fn := fun _ => fun
  | [d1, d2] => { results := [.lit (.bool true)], args := [d1, d2] }
  | _ => none }
def squeezeMayRow : OpenClaim := { program := "ytpehdlobicocpaadoor", sum := "252b1143576f0b3efaa3453f7bbb7256dde5d89db0e35b7c99b4e9c07b234c80", func := "swage/swagelaw18.SqueezeMay", spec := "squeezeMay", inPlace := ["internal/reflectlite.ValueOf", "(internal/reflectlite.Value).Type", "(internal/reflectlite.Value).IsNil", "internal/reflectlite.TypeOf", "(internal/reflectlite.Value).Elem", "(internal/reflectlite.Value).Set"], unfollowed := true, recurses := true, named := ["errors.errorType"], apart := false, laid := [("errors.errorType", laid_errors_errorType)] }
def SqueezeMaySaid : Prop := squeezeMayRow.holds Tryd.pinned (OpenSpec.ofChange squeezeMaySpec)

/-- ITS FALSE NEIGHBOUR: 'it returns false'. Refute it at one input. -/
def squeezeMayWrong : ChangeSpec := { name := "squeezeMay", fn := fun _ => fun
  | [d1, d2] => { results := [.lit (.bool false)], args := [d1, d2] }
  | _ => none }
def SqueezeMayWrongFalsely : Prop := squeezeMayRow.holds Tryd.pinned (OpenSpec.ofChange squeezeMayWrong)

/-- 'swagelaw18.SqueezeRuns': WHATEVER THE INPUT: true; the input reads as it did. -/
def squeezeRunsSpec : ChangeSpec := { name := "squeezeRuns", fn := fun _ => fun
  | [d] => { results := [.lit (.bool true)], args := [d] }
  | _ => none }
def squeezeRunsRow : OpenClaim := { program := "ytpehdlobicocpaadoor", sum := "252b1143576f0b3efaa3453f7bbb7256dde5d89db0e35b7c99b4e9c07b234c80", func := "swage/swagelaw18.SqueezeRuns", spec := "squeezeRuns", inPlace := ["internal/reflectlite.ValueOf", "(internal/reflectlite.Value).Type", "(internal/reflectlite.Value).IsNil", "internal/reflectlite.TypeOf", "(internal/reflectlite.Value).Elem", "(internal/reflectlite.Value).Set"], unfollowed := true, recurses := true, named := ["errors.errorType"], apart := false, laid := [("errors.errorType", laid_errors_errorType)] }
def SqueezeRunsSaid : Prop := squeezeRunsRow.holds Tryd.pinned (OpenSpec.ofChange squeezeRunsSpec)

/-- ITS FALSE NEIGHBOUR: 'it returns false'. Refute it at one input. -/
def squeezeRunsWrong : ChangeSpec := { name := "squeezeRuns", fn := fun _ => fun
  | [d] => { results := [.lit (.bool false)], args := [d] }
  | _ => none }
def SqueezeRunsWrongFalsely : Prop := squeezeRunsRow.holds Tryd.pinned (OpenSpec.ofChange squeezeRunsWrong)

/-- 'swagelaw11.LowerMay': WHATEVER THE INPUT: true; the input reads as it did. -/
def lowerMaySpec : ChangeSpec := { name := "lowerMay", fn := fun _ => fun
  | [d] => { results := [.lit (.bool true)], args := [d] }
  | _ => none }
def lowerMayRow : OpenClaim := { program := "ytpehdlobicocpaadoor", sum := "252b1143576f0b3efaa3453f7bbb7256dde5d89db0e35b7c99b4e9c07b234c80", func := "swage/swagelaw11.LowerMay", spec := "lowerMay", inPlace := ["internal/reflectlite.ValueOf", "(internal/reflectlite.Value).Type", "(internal/reflectlite.Value).IsNil", "internal/reflectlite.TypeOf", "(internal/reflectlite.Value).Elem", "(internal/reflectlite.Value).Set"], unfollowed := true, recurses := true, named := ["errors.errorType"], apart := false, laid := [("errors.errorType", laid_errors_errorType)] }
def LowerMaySaid : Prop := lowerMayRow.holds Tryd.pinned (OpenSpec.ofChange lowerMaySpec)

/-- ITS FALSE NEIGHBOUR: 'it returns false'. Refute it at one input. -/
def lowerMayWrong : ChangeSpec := { name := "lowerMay", fn := fun _ => fun
  | [d] => { results := [.lit (.bool false)], args := [d] }
  | _ => none }
def LowerMayWrongFalsely : Prop := lowerMayRow.holds Tryd.pinned (OpenSpec.ofChange lowerMayWrong)

/- THE SECOND FORM. 'bulk': how many values and letters a reading holds, each counted each time it is reached (what is shared counts as often as it is met; a slice's spare places count too). A statement '..UptoSaid' is the law's where the arguments, and the package variables that the reading takes, are together of bulk at most 1048576: NARROWER than '..Said'. Prove '..Said' where nothing that the law and all that it calls make is longer than what came in: it says more and counts as full. Else prove '..UptoSaid'. A law counts once. -/
mutual
def uptoBulk {H : Type} : DataW H → Nat
  | .lit (.string bytes) => bytes.length + 1
  | .lit _ => 1
  | .nil => 1
  | .ptr d => uptoBulk d + 1
  | .slice elems spare => uptoBulkAll elems + uptoBulkAll spare + 1
  | .agg parts => uptoBulkAll parts + 1
  | .iface _ d => uptoBulk d + 1
  | .map entries => uptoBulkEntries entries + 1
  | .held _ => 1
def uptoBulkAll {H : Type} : List (DataW H) → Nat
  | [] => 0
  | d :: r => uptoBulk d + uptoBulkAll r
def uptoBulkEntries {H : Type} : List (Lit × DataW H) → Nat
  | [] => 0
  | x :: r => uptoBulkEntry x + uptoBulkEntries r
def uptoBulkEntry {H : Type} : Lit × DataW H → Nat
  | (.string bytes, d) => bytes.length + uptoBulk d + 1
  | (_, d) => uptoBulk d + 1
 end
def uptoSmall : (H : Type) → List (DataW H) → Bool := fun _ ds => decide (uptoBulkAll ds ≤ 1048576)
def OpenSpec.upto (s : _root_.Go.ChangeSpec) : _root_.Go.OpenSpec := { _root_.Go.OpenSpec.ofChange s with cond := some uptoSmall }

/-- 'swagelaw11.LowerKinds', WHERE WHAT IT READS IS OF BULK AT MOST 1048576: true; the input reads as it did. -/
def lowerKindsUptoRow : OpenClaim := { program := "ytpehdlobicocpaadoor", sum := "252b1143576f0b3efaa3453f7bbb7256dde5d89db0e35b7c99b4e9c07b234c80", func := "swage/swagelaw11.LowerKinds", spec := "lowerKinds", inPlace := ["internal/reflectlite.ValueOf", "(internal/reflectlite.Value).Type", "(internal/reflectlite.Value).IsNil", "internal/reflectlite.TypeOf", "(internal/reflectlite.Value).Elem", "(internal/reflectlite.Value).Set"], unfollowed := true, recurses := true, named := ["errors.errorType"], apart := false, laid := [("errors.errorType", laid_errors_errorType)], narrowed := true }
def LowerKindsUptoSaid : Prop := lowerKindsUptoRow.holds Tryd.pinned (OpenSpec.upto lowerKindsSpec)

/-- 'swagelaw11.LowerBack', WHERE WHAT IT READS IS OF BULK AT MOST 1048576: true; the input reads as it did. -/
def lowerBackUptoRow : OpenClaim := { program := "ytpehdlobicocpaadoor", sum := "252b1143576f0b3efaa3453f7bbb7256dde5d89db0e35b7c99b4e9c07b234c80", func := "swage/swagelaw11.LowerBack", spec := "lowerBack", inPlace := ["internal/reflectlite.ValueOf", "(internal/reflectlite.Value).Type", "(internal/reflectlite.Value).IsNil", "internal/reflectlite.TypeOf", "(internal/reflectlite.Value).Elem", "(internal/reflectlite.Value).Set"], unfollowed := true, recurses := true, named := ["errors.errorType"], apart := false, laid := [("errors.errorType", laid_errors_errorType)], narrowed := true }
def LowerBackUptoSaid : Prop := lowerBackUptoRow.holds Tryd.pinned (OpenSpec.upto lowerBackSpec)

/-- 'swagelaw10.IrForms', WHERE WHAT IT READS IS OF BULK AT MOST 1048576: true; the input reads as it did. -/
def irFormsUptoRow : OpenClaim := { program := "ytpehdlobicocpaadoor", sum := "252b1143576f0b3efaa3453f7bbb7256dde5d89db0e35b7c99b4e9c07b234c80", func := "swage/swagelaw10.IrForms", spec := "irForms", inPlace := ["internal/reflectlite.ValueOf", "(internal/reflectlite.Value).Type", "(internal/reflectlite.Value).IsNil", "internal/reflectlite.TypeOf", "(internal/reflectlite.Value).Elem", "(internal/reflectlite.Value).Set"], unfollowed := true, recurses := true, named := ["errors.errorType"], apart := false, laid := [("errors.errorType", laid_errors_errorType)], narrowed := true }
def IrFormsUptoSaid : Prop := irFormsUptoRow.holds Tryd.pinned (OpenSpec.upto irFormsSpec)

/-- 'swagelaw10.IrLeads', WHERE WHAT IT READS IS OF BULK AT MOST 1048576: true; the input reads as it did. -/
def irLeadsUptoRow : OpenClaim := { program := "ytpehdlobicocpaadoor", sum := "252b1143576f0b3efaa3453f7bbb7256dde5d89db0e35b7c99b4e9c07b234c80", func := "swage/swagelaw10.IrLeads", spec := "irLeads", inPlace := ["internal/reflectlite.ValueOf", "(internal/reflectlite.Value).Type", "(internal/reflectlite.Value).IsNil", "internal/reflectlite.TypeOf", "(internal/reflectlite.Value).Elem", "(internal/reflectlite.Value).Set"], unfollowed := true, recurses := true, named := ["errors.errorType"], apart := false, laid := [("errors.errorType", laid_errors_errorType)], narrowed := true }
def IrLeadsUptoSaid : Prop := irLeadsUptoRow.holds Tryd.pinned (OpenSpec.upto irLeadsSpec)

/-- 'swagelaw18.SqueezeMay', WHERE WHAT IT READS IS OF BULK AT MOST 1048576: true; the input reads as it did. -/
def squeezeMayUptoRow : OpenClaim := { program := "ytpehdlobicocpaadoor", sum := "252b1143576f0b3efaa3453f7bbb7256dde5d89db0e35b7c99b4e9c07b234c80", func := "swage/swagelaw18.SqueezeMay", spec := "squeezeMay", inPlace := ["internal/reflectlite.ValueOf", "(internal/reflectlite.Value).Type", "(internal/reflectlite.Value).IsNil", "internal/reflectlite.TypeOf", "(internal/reflectlite.Value).Elem", "(internal/reflectlite.Value).Set"], unfollowed := true, recurses := true, named := ["errors.errorType"], apart := false, laid := [("errors.errorType", laid_errors_errorType)], narrowed := true }
def SqueezeMayUptoSaid : Prop := squeezeMayUptoRow.holds Tryd.pinned (OpenSpec.upto squeezeMaySpec)

/-- 'swagelaw18.SqueezeRuns', WHERE WHAT IT READS IS OF BULK AT MOST 1048576: true; the input reads as it did. -/
def squeezeRunsUptoRow : OpenClaim := { program := "ytpehdlobicocpaadoor", sum := "252b1143576f0b3efaa3453f7bbb7256dde5d89db0e35b7c99b4e9c07b234c80", func := "swage/swagelaw18.SqueezeRuns", spec := "squeezeRuns", inPlace := ["internal/reflectlite.ValueOf", "(internal/reflectlite.Value).Type", "(internal/reflectlite.Value).IsNil", "internal/reflectlite.TypeOf", "(internal/reflectlite.Value).Elem", "(internal/reflectlite.Value).Set"], unfollowed := true, recurses := true, named := ["errors.errorType"], apart := false, laid := [("errors.errorType", laid_errors_errorType)], narrowed := true }
def SqueezeRunsUptoSaid : Prop := squeezeRunsUptoRow.holds Tryd.pinned (OpenSpec.upto squeezeRunsSpec)

/-- 'swagelaw11.LowerMay', WHERE WHAT IT READS IS OF BULK AT MOST 1048576: true; the input reads as it did. -/
def lowerMayUptoRow : OpenClaim := { program := "ytpehdlobicocpaadoor", sum := "252b1143576f0b3efaa3453f7bbb7256dde5d89db0e35b7c99b4e9c07b234c80", func := "swage/swagelaw11.LowerMay", spec := "lowerMay", inPlace := ["internal/reflectlite.ValueOf", "(internal/reflectlite.Value).Type", "(internal/reflectlite.Value).IsNil", "internal/reflectlite.TypeOf", "(internal/reflectlite.Value).Elem", "(internal/reflectlite.Value).Set"], unfollowed := true, recurses := true, named := ["errors.errorType"], apart := false, laid := [("errors.errorType", laid_errors_errorType)], narrowed := true }
def LowerMayUptoSaid : Prop := lowerMayUptoRow.holds Tryd.pinned (OpenSpec.upto lowerMaySpec)

end Rows
end Go.Proofs.YtpehdlobicocpaaDoor
