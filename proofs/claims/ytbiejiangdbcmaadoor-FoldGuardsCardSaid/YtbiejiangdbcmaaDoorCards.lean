/-
  DERIVED. GIVEN WITH THE SEED: THE CARDS: each row of YtbiejiangdbcmaaDoorRows.lean that lists a variable, with what it lists TIED to the program's text (the seventh form; the later family's looks); each row that meets fmt, with fmt's text TOLD by the authors' own Lean function (tested against real Go, not proved from fmt's source: count such statements apart). THE CARD IS WHAT COUNTS. Prove the row's statement (the work); the ties are given (YtbiejiangdbcmaaDoorTie.lean); close each card by the builder's one call (the guide's Derived/Test/ToyasCard.lean, 'card_holds'). Laid BY PROGRAM, IN A SANDBOX (cutbox-door.mjs). By AI agents, Wed Nov 11 2026. No macro, syntax, notation, axiom, sorry.
-/
import Derived.Test.YtbiejiangdbcmaaDoorRows
import GoSem.ClaimSeven
namespace Go.Proofs.YtbiejiangdbcmaaDoor
namespace Rows

/-- THE TIED CARD OF 'swagelaw16.CopiesMay'. -/
def copiesMayCard : Claim7 := { stood := { row := copiesMayRow, standIns := [], harness := (true, "c06ffd7614a2c7ee397625acbc48b92c4d0f1aa2c363fb03563c7870a22b75c5"), looks := true }, kinds := [], alts := [], laidByText := true, laidKinds := [.handle], laidTests := true, laidLooks := .later }
def CopiesMayCardSaid : Prop := Claim7.holds Tryd.pinned (.plain (OpenSpec.ofChange copiesMaySpec)) copiesMayCard

/-- THE TIED CARD OF 'swagelaw16.CopiesChain'. -/
def copiesChainCard : Claim7 := { stood := { row := copiesChainRow, standIns := [], harness := (true, "c06ffd7614a2c7ee397625acbc48b92c4d0f1aa2c363fb03563c7870a22b75c5"), looks := true }, kinds := [], alts := [], laidByText := true, laidKinds := [.handle], laidTests := true, laidLooks := .later }
def CopiesChainCardSaid : Prop := Claim7.holds Tryd.pinned (.plain (OpenSpec.ofChange copiesChainSpec)) copiesChainCard

/-- THE TIED CARD OF 'swagelaw15.FoldLines'. -/
def foldLinesCard : Claim7 := { stood := { row := foldLinesRow, standIns := [], harness := (true, "c06ffd7614a2c7ee397625acbc48b92c4d0f1aa2c363fb03563c7870a22b75c5"), looks := true }, kinds := [], alts := [], laidByText := true, laidKinds := [.handle], laidTests := true, laidLooks := .later }
def FoldLinesCardSaid : Prop := Claim7.holds Tryd.pinned (.plain (OpenSpec.ofChange foldLinesSpec)) foldLinesCard

/-- THE TIED CARD OF 'swagelaw15.FoldGuards'. -/
def foldGuardsCard : Claim7 := { stood := { row := foldGuardsRow, standIns := [], harness := (true, "c06ffd7614a2c7ee397625acbc48b92c4d0f1aa2c363fb03563c7870a22b75c5"), looks := true }, kinds := [], alts := [], laidByText := true, laidKinds := [.handle], laidTests := true, laidLooks := .later }
def FoldGuardsCardSaid : Prop := Claim7.holds Tryd.pinned (.plain (OpenSpec.ofChange foldGuardsSpec)) foldGuardsCard

/-- THE SECOND FORM's CARD OF 'swagelaw16.CopiesMay'. -/
def copiesMayUptoCard : Claim7 := { stood := { row := copiesMayUptoRow, standIns := [], harness := (true, "c06ffd7614a2c7ee397625acbc48b92c4d0f1aa2c363fb03563c7870a22b75c5"), looks := true }, kinds := [], alts := [], laidByText := true, laidKinds := [.handle], laidTests := true, laidLooks := .later }
def CopiesMayUptoCardSaid : Prop := Claim7.holds Tryd.pinned (.plain (OpenSpec.upto copiesMaySpec)) copiesMayUptoCard

/-- THE SECOND FORM's CARD OF 'swagelaw16.CopiesChain'. -/
def copiesChainUptoCard : Claim7 := { stood := { row := copiesChainUptoRow, standIns := [], harness := (true, "c06ffd7614a2c7ee397625acbc48b92c4d0f1aa2c363fb03563c7870a22b75c5"), looks := true }, kinds := [], alts := [], laidByText := true, laidKinds := [.handle], laidTests := true, laidLooks := .later }
def CopiesChainUptoCardSaid : Prop := Claim7.holds Tryd.pinned (.plain (OpenSpec.upto copiesChainSpec)) copiesChainUptoCard

/-- THE SECOND FORM's CARD OF 'swagelaw15.FoldLines'. -/
def foldLinesUptoCard : Claim7 := { stood := { row := foldLinesUptoRow, standIns := [], harness := (true, "c06ffd7614a2c7ee397625acbc48b92c4d0f1aa2c363fb03563c7870a22b75c5"), looks := true }, kinds := [], alts := [], laidByText := true, laidKinds := [.handle], laidTests := true, laidLooks := .later }
def FoldLinesUptoCardSaid : Prop := Claim7.holds Tryd.pinned (.plain (OpenSpec.upto foldLinesSpec)) foldLinesUptoCard

/-- THE SECOND FORM's CARD OF 'swagelaw15.FoldGuards'. -/
def foldGuardsUptoCard : Claim7 := { stood := { row := foldGuardsUptoRow, standIns := [], harness := (true, "c06ffd7614a2c7ee397625acbc48b92c4d0f1aa2c363fb03563c7870a22b75c5"), looks := true }, kinds := [], alts := [], laidByText := true, laidKinds := [.handle], laidTests := true, laidLooks := .later }
def FoldGuardsUptoCardSaid : Prop := Claim7.holds Tryd.pinned (.plain (OpenSpec.upto foldGuardsSpec)) foldGuardsUptoCard
end Rows
end Go.Proofs.YtbiejiangdbcmaaDoor
