import Derived.Test.YtmkdikbjolobdaaPSwageNamesx2
namespace Go.Proofs.Ytmkdikbjolobdaa.Pure
open Go.RowKit Go.Proofs.Ytmkdikbjolobdaa.PSwageNames Go.Proofs.YtmkdikbjolobdaaW.PrintWords Go.Proofs.YtmkdikbjolobdaaW.PrintLast

/-- YOURS: swagelaw0_SwageNames.f  = some true
What it reaches (each with k first where it has rounds; `.mono`: more rounds tell the same; `.l0`, ..: its loops, with `.mono_l`): swagelaw0_Num.f, swagelaw0_errors1.f, swagelaw0_errors2.f, swagelaw0_errors3.f, swagelaw0_numbers1.f, swagelaw0_numbers2.f, swagelaw0_numbers3.f, swagelaw0_numbers4.f, swagelaw0_numbers5.f, swagelaw0_numbers6.f, swagelaw0_SwageNames.f -/
theorem SwageNames : swagelaw0_SwageNames.Pure := by
  show swagelaw0_SwageNames.f = some true
  rfl

end Go.Proofs.Ytmkdikbjolobdaa.Pure
