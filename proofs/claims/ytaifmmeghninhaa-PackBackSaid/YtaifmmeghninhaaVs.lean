/- Which programs may be packed: what is computed. No condition. -/
import Derived.Test.YtaifmmeghninhaaQa
namespace Go.Proofs.Ytaifmmeghninhaa.Pf
open Go Go.RowKit Go.Proofs Go.Proofs.Ytaifmmeghninhaa.Mw Go.Proofs.Ytaifmmeghninhaa.Sx
def fnB (f : Fnc) : Bool := decide (0 ≤ f.args) && decide (f.args ≤ 4) && decide (f.args ≤ f.locals) && decide (f.locals ≤ 8) && fmayB f.code
def packB (p : List Fnc) : Bool := decide (1 ≤ p.length) && decide (p.length ≤ 8) && p.all fnB
end Go.Proofs.Ytaifmmeghninhaa.Pf
