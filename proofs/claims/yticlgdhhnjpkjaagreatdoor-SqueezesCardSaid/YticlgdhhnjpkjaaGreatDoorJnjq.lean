/- Se: joined texts of this claim. No condition. -/
import Derived.Test.YticlgdhhnjpkjaaGreatDoorJnjc
namespace Go.Proofs.YticlgdhhnjpkjaaGreatDoor.Sx
open Go Go.Proofs Go.Proofs.YticlgdhhnjpkjaaGreatDoor.Mw
set_option linter.unusedVariables false
set_option maxRecDepth 20000
end Go.Proofs.YticlgdhhnjpkjaaGreatDoor.Sx
