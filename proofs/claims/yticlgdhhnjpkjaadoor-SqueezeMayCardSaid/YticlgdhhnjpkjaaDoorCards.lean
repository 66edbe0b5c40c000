/-
  DERIVED. GIVEN WITH THE SEED: THE CARDS: each row of YticlgdhhnjpkjaaDoorRows.lean that lists a variable, with what it lists TIED to the program's text (the seventh form; the later family's looks); each row that meets fmt, with fmt's text TOLD by the authors' own Lean function (tested against real Go, not proved from fmt's source: count such statements apart). THE CARD IS WHAT COUNTS. Prove the row's statement (the work); the ties are given (YticlgdhhnjpkjaaDoorTie.lean); close each card by the builder's one call (the guide's Derived/Test/ToyasCard.lean, 'card_holds'). Laid BY PROGRAM, IN A SANDBOX (cutbox-door.mjs). By AI agents, Wed Nov 11 2026. No macro, syntax, notation, axiom, sorry.
-/
import Derived.Test.YticlgdhhnjpkjaaDoorRows
import GoSem.ClaimSeven
namespace Go.Proofs.YticlgdhhnjpkjaaDoor
namespace Rows

/-- THE TIED CARD OF 'swagelaw18.SqueezeMay'. -/
def squeezeMayCard : Claim7 := { stood := { row := squeezeMayRow, standIns := [], harness := (true, "b8c699227a6064193bbfa9e5bc9bd6792c6213fdacb1d1c3edeced825157d791"), looks := true }, kinds := [], alts := [], laidByText := true, laidKinds := [.handle], laidTests := true, laidLooks := .later }
def SqueezeMayCardSaid : Prop := Claim7.holds Tryd.pinned (.plain (OpenSpec.ofChange squeezeMaySpec)) squeezeMayCard

/-- THE TIED CARD OF 'swagelaw18.SqueezeRuns'. -/
def squeezeRunsCard : Claim7 := { stood := { row := squeezeRunsRow, standIns := [], harness := (true, "b8c699227a6064193bbfa9e5bc9bd6792c6213fdacb1d1c3edeced825157d791"), looks := true }, kinds := [], alts := [], laidByText := true, laidKinds := [.handle], laidTests := true, laidLooks := .later }
def SqueezeRunsCardSaid : Prop := Claim7.holds Tryd.pinned (.plain (OpenSpec.ofChange squeezeRunsSpec)) squeezeRunsCard

/-- THE TIED CARD OF 'swagelaw16.CopiesMay'. -/
def copiesMayCard : Claim7 := { stood := { row := copiesMayRow, standIns := [], harness := (true, "b8c699227a6064193bbfa9e5bc9bd6792c6213fdacb1d1c3edeced825157d791"), looks := true }, kinds := [], alts := [], laidByText := true, laidKinds := [.handle], laidTests := true, laidLooks := .later }
def CopiesMayCardSaid : Prop := Claim7.holds Tryd.pinned (.plain (OpenSpec.ofChange copiesMaySpec)) copiesMayCard

/-- THE TIED CARD OF 'swagelaw16.CopiesChain'. -/
def copiesChainCard : Claim7 := { stood := { row := copiesChainRow, standIns := [], harness := (true, "b8c699227a6064193bbfa9e5bc9bd6792c6213fdacb1d1c3edeced825157d791"), looks := true }, kinds := [], alts := [], laidByText := true, laidKinds := [.handle], laidTests := true, laidLooks := .later }
def CopiesChainCardSaid : Prop := Claim7.holds Tryd.pinned (.plain (OpenSpec.ofChange copiesChainSpec)) copiesChainCard

/-- THE TIED CARD OF 'swagelaw15.FoldLines'. -/
def foldLinesCard : Claim7 := { stood := { row := foldLinesRow, standIns := [], harness := (true, "b8c699227a6064193bbfa9e5bc9bd6792c6213fdacb1d1c3edeced825157d791"), looks := true }, kinds := [], alts := [], laidByText := true, laidKinds := [.handle], laidTests := true, laidLooks := .later }
def FoldLinesCardSaid : Prop := Claim7.holds Tryd.pinned (.plain (OpenSpec.ofChange foldLinesSpec)) foldLinesCard

/-- THE TIED CARD OF 'swagelaw15.FoldGuards'. -/
def foldGuardsCard : Claim7 := { stood := { row := foldGuardsRow, standIns := [], harness := (true, "b8c699227a6064193bbfa9e5bc9bd6792c6213fdacb1d1c3edeced825157d791"), looks := true }, kinds := [], alts := [], laidByText := true, laidKinds := [.handle], laidTests := true, laidLooks := .later }
def FoldGuardsCardSaid : Prop := Claim7.holds Tryd.pinned (.plain (OpenSpec.ofChange foldGuardsSpec)) foldGuardsCard

/-- THE SECOND FORM's CARD OF 'swagelaw18.SqueezeMay'. -/
def squeezeMayUptoCard : Claim7 := { stood := { row := squeezeMayUptoRow, standIns := [], harness := (true, "b8c699227a6064193bbfa9e5bc9bd6792c6213fdacb1d1c3edeced825157d791"), looks := true }, kinds := [], alts := [], laidByText := true, laidKinds := [.handle], laidTests := true, laidLooks := .later }
def SqueezeMayUptoCardSaid : Prop := Claim7.holds Tryd.pinned (.plain (OpenSpec.upto squeezeMaySpec)) squeezeMayUptoCard

/-- THE SECOND FORM's CARD OF 'swagelaw18.SqueezeRuns'. -/
def squeezeRunsUptoCard : Claim7 := { stood := { row := squeezeRunsUptoRow, standIns := [], harness := (true, "b8c699227a6064193bbfa9e5bc9bd6792c6213fdacb1d1c3edeced825157d791"), looks := true }, kinds := [], alts := [], laidByText := true, laidKinds := [.handle], laidTests := true, laidLooks := .later }
def SqueezeRunsUptoCardSaid : Prop := Claim7.holds Tryd.pinned (.plain (OpenSpec.upto squeezeRunsSpec)) squeezeRunsUptoCard

/-- THE SECOND FORM's CARD OF 'swagelaw16.CopiesMay'. -/
def copiesMayUptoCard : Claim7 := { stood := { row := copiesMayUptoRow, standIns := [], harness := (true, "b8c699227a6064193bbfa9e5bc9bd6792c6213fdacb1d1c3edeced825157d791"), looks := true }, kinds := [], alts := [], laidByText := true, laidKinds := [.handle], laidTests := true, laidLooks := .later }
def CopiesMayUptoCardSaid : Prop := Claim7.holds Tryd.pinned (.plain (OpenSpec.upto copiesMaySpec)) copiesMayUptoCard

/-- THE SECOND FORM's CARD OF 'swagelaw16.CopiesChain'. -/
def copiesChainUptoCard : Claim7 := { stood := { row := copiesChainUptoRow, standIns := [], harness := (true, "b8c699227a6064193bbfa9e5bc9bd6792c6213fdacb1d1c3edeced825157d791"), looks := true }, kinds := [], alts := [], laidByText := true, laidKinds := [.handle], laidTests := true, laidLooks := .later }
def CopiesChainUptoCardSaid : Prop := Claim7.holds Tryd.pinned (.plain (OpenSpec.upto copiesChainSpec)) copiesChainUptoCard

/-- THE SECOND FORM's CARD OF 'swagelaw15.FoldLines'. -/
def foldLinesUptoCard : Claim7 := { stood := { row := foldLinesUptoRow, standIns := [], harness := (true, "b8c699227a6064193bbfa9e5bc9bd6792c6213fdacb1d1c3edeced825157d791"), looks := true }, kinds := [], alts := [], laidByText := true, laidKinds := [.handle], laidTests := true, laidLooks := .later }
def FoldLinesUptoCardSaid : Prop := Claim7.holds Tryd.pinned (.plain (OpenSpec.upto foldLinesSpec)) foldLinesUptoCard

/-- THE SECOND FORM's CARD OF 'swagelaw15.FoldGuards'. -/
def foldGuardsUptoCard : Claim7 := { stood := { row := foldGuardsUptoRow, standIns := [], harness := (true, "b8c699227a6064193bbfa9e5bc9bd6792c6213fdacb1d1c3edeced825157d791"), looks := true }, kinds := [], alts := [], laidByText := true, laidKinds := [.handle], laidTests := true, laidLooks := .later }
def FoldGuardsUptoCardSaid : Prop := Claim7.holds Tryd.pinned (.plain (OpenSpec.upto foldGuardsSpec)) foldGuardsUptoCard
end Rows
end Go.Proofs.YticlgdhhnjpkjaaDoor
