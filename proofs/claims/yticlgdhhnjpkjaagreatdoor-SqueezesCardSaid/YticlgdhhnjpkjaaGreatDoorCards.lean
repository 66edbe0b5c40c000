/-
  DERIVED. GIVEN WITH THE SEED: THE CARDS: each row of YticlgdhhnjpkjaaGreatDoorRows.lean that lists a variable, with what it lists TIED to the program's text (the seventh form; the later family's looks); each row that meets fmt, with fmt's text TOLD by the authors' own Lean function (tested against real Go, not proved from fmt's source: count such statements apart). THE CARD IS WHAT COUNTS. Prove the row's statement (the work); the ties are given (YticlgdhhnjpkjaaGreatDoorTie.lean); close each card by the builder's one call (the guide's Derived/Test/ToyasCard.lean, 'card_holds'). Laid BY PROGRAM, IN A SANDBOX (cutbox-door.mjs). By AI agents, Wed Nov 11 2026. No macro, syntax, notation, axiom, sorry.
-/
import Derived.Test.YticlgdhhnjpkjaaGreatDoorRows
import GoSem.ClaimSeven
namespace Go.Proofs.YticlgdhhnjpkjaaGreatDoor
namespace Rows

/-- THE TIED CARD OF 'swagelaw11.Lowers'. -/
def lowersCard : Claim7 := { stood := { row := lowersRow, standIns := [], harness := (true, "9bb58535d13b5fc938aed0e707900f5682efcfdf3c26f56d75aabeec28e2f5f4"), looks := true }, kinds := [], alts := [], laidByText := true, laidKinds := [.handle], laidTests := true, laidLooks := .later }
def LowersCardSaid : Prop := Claim7.holds Tryz.pinned (.plain (OpenSpec.ofChange lowersSpec)) lowersCard

/-- THE TIED CARD OF 'swagelaw10.Irs'. -/
def irsCard : Claim7 := { stood := { row := irsRow, standIns := [], harness := (true, "9bb58535d13b5fc938aed0e707900f5682efcfdf3c26f56d75aabeec28e2f5f4"), looks := true }, kinds := [], alts := [], laidByText := true, laidKinds := [.handle], laidTests := true, laidLooks := .later }
def IrsCardSaid : Prop := Claim7.holds Tryz.pinned (.plain (OpenSpec.ofChange irsSpec)) irsCard

/-- THE TIED CARD OF 'swagelaw18.Squeezes'. -/
def squeezesCard : Claim7 := { stood := { row := squeezesRow, standIns := [], harness := (true, "9bb58535d13b5fc938aed0e707900f5682efcfdf3c26f56d75aabeec28e2f5f4"), looks := true }, kinds := [], alts := [], laidByText := true, laidKinds := [.handle], laidTests := true, laidLooks := .later }
def SqueezesCardSaid : Prop := Claim7.holds Tryz.pinned (.plain (OpenSpec.ofChange squeezesSpec)) squeezesCard

/-- THE TIED CARD OF 'swagelaw16.CopiesAll'. -/
def copiesAllCard : Claim7 := { stood := { row := copiesAllRow, standIns := [], harness := (true, "9bb58535d13b5fc938aed0e707900f5682efcfdf3c26f56d75aabeec28e2f5f4"), looks := true }, kinds := [], alts := [], laidByText := true, laidKinds := [.handle], laidTests := true, laidLooks := .later }
def CopiesAllCardSaid : Prop := Claim7.holds Tryz.pinned (.plain (OpenSpec.ofChange copiesAllSpec)) copiesAllCard

/-- THE TIED CARD OF 'swagelaw15.Folds'. -/
def foldsCard : Claim7 := { stood := { row := foldsRow, standIns := [], harness := (true, "9bb58535d13b5fc938aed0e707900f5682efcfdf3c26f56d75aabeec28e2f5f4"), looks := true }, kinds := [], alts := [], laidByText := true, laidKinds := [.handle], laidTests := true, laidLooks := .later }
def FoldsCardSaid : Prop := Claim7.holds Tryz.pinned (.plain (OpenSpec.ofChange foldsSpec)) foldsCard

/-- THE TIED CARD OF 'swagelaw15.FoldMay'. -/
def foldMayCard : Claim7 := { stood := { row := foldMayRow, standIns := [], harness := (true, "9bb58535d13b5fc938aed0e707900f5682efcfdf3c26f56d75aabeec28e2f5f4"), looks := true }, kinds := [], alts := [], laidByText := true, laidKinds := [.handle], laidTests := true, laidLooks := .later }
def FoldMayCardSaid : Prop := Claim7.holds Tryz.pinned (.plain (OpenSpec.ofChange foldMaySpec)) foldMayCard

/-- THE SECOND FORM's CARD OF 'swagelaw11.Lowers'. -/
def lowersUptoCard : Claim7 := { stood := { row := lowersUptoRow, standIns := [], harness := (true, "9bb58535d13b5fc938aed0e707900f5682efcfdf3c26f56d75aabeec28e2f5f4"), looks := true }, kinds := [], alts := [], laidByText := true, laidKinds := [.handle], laidTests := true, laidLooks := .later }
def LowersUptoCardSaid : Prop := Claim7.holds Tryz.pinned (.plain (OpenSpec.upto lowersSpec)) lowersUptoCard

/-- THE SECOND FORM's CARD OF 'swagelaw10.Irs'. -/
def irsUptoCard : Claim7 := { stood := { row := irsUptoRow, standIns := [], harness := (true, "9bb58535d13b5fc938aed0e707900f5682efcfdf3c26f56d75aabeec28e2f5f4"), looks := true }, kinds := [], alts := [], laidByText := true, laidKinds := [.handle], laidTests := true, laidLooks := .later }
def IrsUptoCardSaid : Prop := Claim7.holds Tryz.pinned (.plain (OpenSpec.upto irsSpec)) irsUptoCard

/-- THE SECOND FORM's CARD OF 'swagelaw18.Squeezes'. -/
def squeezesUptoCard : Claim7 := { stood := { row := squeezesUptoRow, standIns := [], harness := (true, "9bb58535d13b5fc938aed0e707900f5682efcfdf3c26f56d75aabeec28e2f5f4"), looks := true }, kinds := [], alts := [], laidByText := true, laidKinds := [.handle], laidTests := true, laidLooks := .later }
def SqueezesUptoCardSaid : Prop := Claim7.holds Tryz.pinned (.plain (OpenSpec.upto squeezesSpec)) squeezesUptoCard

/-- THE SECOND FORM's CARD OF 'swagelaw16.CopiesAll'. -/
def copiesAllUptoCard : Claim7 := { stood := { row := copiesAllUptoRow, standIns := [], harness := (true, "9bb58535d13b5fc938aed0e707900f5682efcfdf3c26f56d75aabeec28e2f5f4"), looks := true }, kinds := [], alts := [], laidByText := true, laidKinds := [.handle], laidTests := true, laidLooks := .later }
def CopiesAllUptoCardSaid : Prop := Claim7.holds Tryz.pinned (.plain (OpenSpec.upto copiesAllSpec)) copiesAllUptoCard

/-- THE SECOND FORM's CARD OF 'swagelaw15.Folds'. -/
def foldsUptoCard : Claim7 := { stood := { row := foldsUptoRow, standIns := [], harness := (true, "9bb58535d13b5fc938aed0e707900f5682efcfdf3c26f56d75aabeec28e2f5f4"), looks := true }, kinds := [], alts := [], laidByText := true, laidKinds := [.handle], laidTests := true, laidLooks := .later }
def FoldsUptoCardSaid : Prop := Claim7.holds Tryz.pinned (.plain (OpenSpec.upto foldsSpec)) foldsUptoCard

/-- THE SECOND FORM's CARD OF 'swagelaw15.FoldMay'. -/
def foldMayUptoCard : Claim7 := { stood := { row := foldMayUptoRow, standIns := [], harness := (true, "9bb58535d13b5fc938aed0e707900f5682efcfdf3c26f56d75aabeec28e2f5f4"), looks := true }, kinds := [], alts := [], laidByText := true, laidKinds := [.handle], laidTests := true, laidLooks := .later }
def FoldMayUptoCardSaid : Prop := Claim7.holds Tryz.pinned (.plain (OpenSpec.upto foldMaySpec)) foldMayUptoCard
end Rows
end Go.Proofs.YticlgdhhnjpkjaaGreatDoor
