/-
  DERIVED. GIVEN WITH THE SEED: THE CARDS: each row of YtpehdlobicocpaaDoorRows.lean that lists a variable, with what it lists TIED to the program's text (the seventh form; the later family's looks); each row that meets fmt, with fmt's text TOLD by the authors' own Lean function (tested against real Go, not proved from fmt's source: count such statements apart). THE CARD IS WHAT COUNTS. Prove the row's statement (the work); the ties are given (YtpehdlobicocpaaDoorTie.lean); close each card by the builder's one call (the guide's Derived/Test/ToyasCard.lean, 'card_holds'). Laid BY PROGRAM, IN A SANDBOX (cutbox-door.mjs). By AI agents, Wed Nov 11 2026. No macro, syntax, notation, axiom, sorry.
-/
import Derived.Test.YtpehdlobicocpaaDoorRows
import GoSem.ClaimSeven
namespace Go.Proofs.YtpehdlobicocpaaDoor
namespace Rows

/-- THE TIED CARD OF 'swagelaw11.LowerKinds'. -/
def lowerKindsCard : Claim7 := { stood := { row := lowerKindsRow, standIns := [], harness := (true, "492c8aeba8afb4ef83af095de2cb2d7fa1f5d142ded5610d0b895c0753cc603a"), looks := true }, kinds := [], alts := [], laidByText := true, laidKinds := [.handle], laidTests := true, laidLooks := .later }
def LowerKindsCardSaid : Prop := Claim7.holds Tryd.pinned (.plain (OpenSpec.ofChange lowerKindsSpec)) lowerKindsCard

/-- THE TIED CARD OF 'swagelaw11.LowerBack'. -/
def lowerBackCard : Claim7 := { stood := { row := lowerBackRow, standIns := [], harness := (true, "492c8aeba8afb4ef83af095de2cb2d7fa1f5d142ded5610d0b895c0753cc603a"), looks := true }, kinds := [], alts := [], laidByText := true, laidKinds := [.handle], laidTests := true, laidLooks := .later }
def LowerBackCardSaid : Prop := Claim7.holds Tryd.pinned (.plain (OpenSpec.ofChange lowerBackSpec)) lowerBackCard

/-- THE TIED CARD OF 'swagelaw10.IrForms'. -/
def irFormsCard : Claim7 := { stood := { row := irFormsRow, standIns := [], harness := (true, "492c8aeba8afb4ef83af095de2cb2d7fa1f5d142ded5610d0b895c0753cc603a"), looks := true }, kinds := [], alts := [], laidByText := true, laidKinds := [.handle], laidTests := true, laidLooks := .later }
def IrFormsCardSaid : Prop := Claim7.holds Tryd.pinned (.plain (OpenSpec.ofChange irFormsSpec)) irFormsCard

/-- THE TIED CARD OF 'swagelaw10.IrLeads'. -/
def irLeadsCard : Claim7 := { stood := { row := irLeadsRow, standIns := [], harness := (true, "492c8aeba8afb4ef83af095de2cb2d7fa1f5d142ded5610d0b895c0753cc603a"), looks := true }, kinds := [], alts := [], laidByText := true, laidKinds := [.handle], laidTests := true, laidLooks := .later }
def IrLeadsCardSaid : Prop := Claim7.holds Tryd.pinned (.plain (OpenSpec.ofChange irLeadsSpec)) irLeadsCard

/-- THE TIED CARD OF 'swagelaw18.SqueezeMay'. -/
def squeezeMayCard : Claim7 := { stood := { row := squeezeMayRow, standIns := [], harness := (true, "492c8aeba8afb4ef83af095de2cb2d7fa1f5d142ded5610d0b895c0753cc603a"), looks := true }, kinds := [], alts := [], laidByText := true, laidKinds := [.handle], laidTests := true, laidLooks := .later }
def SqueezeMayCardSaid : Prop := Claim7.holds Tryd.pinned (.plain (OpenSpec.ofChange squeezeMaySpec)) squeezeMayCard

/-- THE TIED CARD OF 'swagelaw18.SqueezeRuns'. -/
def squeezeRunsCard : Claim7 := { stood := { row := squeezeRunsRow, standIns := [], harness := (true, "492c8aeba8afb4ef83af095de2cb2d7fa1f5d142ded5610d0b895c0753cc603a"), looks := true }, kinds := [], alts := [], laidByText := true, laidKinds := [.handle], laidTests := true, laidLooks := .later }
def SqueezeRunsCardSaid : Prop := Claim7.holds Tryd.pinned (.plain (OpenSpec.ofChange squeezeRunsSpec)) squeezeRunsCard

/-- THE TIED CARD OF 'swagelaw11.LowerMay'. -/
def lowerMayCard : Claim7 := { stood := { row := lowerMayRow, standIns := [], harness := (true, "492c8aeba8afb4ef83af095de2cb2d7fa1f5d142ded5610d0b895c0753cc603a"), looks := true }, kinds := [], alts := [], laidByText := true, laidKinds := [.handle], laidTests := true, laidLooks := .later }
def LowerMayCardSaid : Prop := Claim7.holds Tryd.pinned (.plain (OpenSpec.ofChange lowerMaySpec)) lowerMayCard

/-- THE SECOND FORM's CARD OF 'swagelaw11.LowerKinds'. -/
def lowerKindsUptoCard : Claim7 := { stood := { row := lowerKindsUptoRow, standIns := [], harness := (true, "492c8aeba8afb4ef83af095de2cb2d7fa1f5d142ded5610d0b895c0753cc603a"), looks := true }, kinds := [], alts := [], laidByText := true, laidKinds := [.handle], laidTests := true, laidLooks := .later }
def LowerKindsUptoCardSaid : Prop := Claim7.holds Tryd.pinned (.plain (OpenSpec.upto lowerKindsSpec)) lowerKindsUptoCard

/-- THE SECOND FORM's CARD OF 'swagelaw11.LowerBack'. -/
def lowerBackUptoCard : Claim7 := { stood := { row := lowerBackUptoRow, standIns := [], harness := (true, "492c8aeba8afb4ef83af095de2cb2d7fa1f5d142ded5610d0b895c0753cc603a"), looks := true }, kinds := [], alts := [], laidByText := true, laidKinds := [.handle], laidTests := true, laidLooks := .later }
def LowerBackUptoCardSaid : Prop := Claim7.holds Tryd.pinned (.plain (OpenSpec.upto lowerBackSpec)) lowerBackUptoCard

/-- THE SECOND FORM's CARD OF 'swagelaw10.IrForms'. -/
def irFormsUptoCard : Claim7 := { stood := { row := irFormsUptoRow, standIns := [], harness := (true, "492c8aeba8afb4ef83af095de2cb2d7fa1f5d142ded5610d0b895c0753cc603a"), looks := true }, kinds := [], alts := [], laidByText := true, laidKinds := [.handle], laidTests := true, laidLooks := .later }
def IrFormsUptoCardSaid : Prop := Claim7.holds Tryd.pinned (.plain (OpenSpec.upto irFormsSpec)) irFormsUptoCard

/-- THE SECOND FORM's CARD OF 'swagelaw10.IrLeads'. -/
def irLeadsUptoCard : Claim7 := { stood := { row := irLeadsUptoRow, standIns := [], harness := (true, "492c8aeba8afb4ef83af095de2cb2d7fa1f5d142ded5610d0b895c0753cc603a"), looks := true }, kinds := [], alts := [], laidByText := true, laidKinds := [.handle], laidTests := true, laidLooks := .later }
def IrLeadsUptoCardSaid : Prop := Claim7.holds Tryd.pinned (.plain (OpenSpec.upto irLeadsSpec)) irLeadsUptoCard

/-- THE SECOND FORM's CARD OF 'swagelaw18.SqueezeMay'. -/
def squeezeMayUptoCard : Claim7 := { stood := { row := squeezeMayUptoRow, standIns := [], harness := (true, "492c8aeba8afb4ef83af095de2cb2d7fa1f5d142ded5610d0b895c0753cc603a"), looks := true }, kinds := [], alts := [], laidByText := true, laidKinds := [.handle], laidTests := true, laidLooks := .later }
def SqueezeMayUptoCardSaid : Prop := Claim7.holds Tryd.pinned (.plain (OpenSpec.upto squeezeMaySpec)) squeezeMayUptoCard

/-- THE SECOND FORM's CARD OF 'swagelaw18.SqueezeRuns'. -/
def squeezeRunsUptoCard : Claim7 := { stood := { row := squeezeRunsUptoRow, standIns := [], harness := (true, "492c8aeba8afb4ef83af095de2cb2d7fa1f5d142ded5610d0b895c0753cc603a"), looks := true }, kinds := [], alts := [], laidByText := true, laidKinds := [.handle], laidTests := true, laidLooks := .later }
def SqueezeRunsUptoCardSaid : Prop := Claim7.holds Tryd.pinned (.plain (OpenSpec.upto squeezeRunsSpec)) squeezeRunsUptoCard

/-- THE SECOND FORM's CARD OF 'swagelaw11.LowerMay'. -/
def lowerMayUptoCard : Claim7 := { stood := { row := lowerMayUptoRow, standIns := [], harness := (true, "492c8aeba8afb4ef83af095de2cb2d7fa1f5d142ded5610d0b895c0753cc603a"), looks := true }, kinds := [], alts := [], laidByText := true, laidKinds := [.handle], laidTests := true, laidLooks := .later }
def LowerMayUptoCardSaid : Prop := Claim7.holds Tryd.pinned (.plain (OpenSpec.upto lowerMaySpec)) lowerMayUptoCard
end Rows
end Go.Proofs.YtpehdlobicocpaaDoor
