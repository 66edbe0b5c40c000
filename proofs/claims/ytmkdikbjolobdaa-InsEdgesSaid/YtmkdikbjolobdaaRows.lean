/-
  No cell of these rows narrows 'for every input' (looked for: loops, veiled, ifaces, maps, wideKeys, modest, calm, conditions, laid).
  DERIVED. THE GIVEN ROWS OF THIS SEAT. 4 by the template 'for every input the law returns true; each argument reads behind the call as it read before'; 0 by the template 'total and deterministic' (their statements: YtmkdikbjolobdaaTotals.lean).
  GIVEN WITH THE SEED: the statements are not yours to turn. If you find one false, say at which input.
  Laid BY PROGRAM, IN A SANDBOX (cutbox-rows.mjs): the forced cells as the released guide's own fill.sh prints them over the translation 482dac26984339ee… (all of the seat's roots in one cut). By AI agents, Wed Nov 11 2026. No macro, syntax, notation, axiom, sorry.
-/
import Derived.Test.YtmkdikbjolobdaaChecked
import GoSem.Claim
import GoSem.ClaimJoined
import GoSem.ClaimMapViews
import Derived.JoinedTies
import Derived.KernelRfl
namespace Go.Proofs.Ytmkdikbjolobdaa
/- THE CELL 'sum', in the pinned program and in every row, IS THE sha256 OF THE DUMP (.gsa) THAT YtmkdikbjolobdaaProg.lean LOADS. Nothing in Lean hashes anything: it is a label: what it is worth is what the hold of that sum in a sandbox is worth. -/
noncomputable def Try.pinned : Pinned := { name := "ytmkdikbjolobdaa", sum := "482dac26984339ee8909070ae11477646cca2bf4d36c9cd68a4c87204df8d99d", checked := Try.checked }
namespace Rows
def none {H : Type} : Left H := { results := [], args := [] }

/-- 'swagelaw0.SwageNames': WHATEVER THE INPUT: true; the input reads as it did. -/
def swageNamesSpec : ChangeSpec := { name := "swageNames", fn := fun _ => fun
  | [] => { results := [.lit (.bool true)], args := [] }
  | _ => none }
def swageNamesRow : OpenClaim := { program := "ytmkdikbjolobdaa", sum := "482dac26984339ee8909070ae11477646cca2bf4d36c9cd68a4c87204df8d99d", func := "swage/swagelaw0.SwageNames", spec := "swageNames", apart := false }
def SwageNamesSaid : Prop := swageNamesRow.holds Try.pinned (OpenSpec.ofChange swageNamesSpec)

/-- ITS FALSE NEIGHBOUR: 'it returns false'. Refute it at one input. -/
def swageNamesWrong : ChangeSpec := { name := "swageNames", fn := fun _ => fun
  | [] => { results := [.lit (.bool false)], args := [] }
  | _ => none }
def SwageNamesWrongFalsely : Prop := swageNamesRow.holds Try.pinned (OpenSpec.ofChange swageNamesWrong)

/-- 'swagelaw2.Inss': WHATEVER THE INPUT: true; the input reads as it did. -/
def inssSpec : ChangeSpec := { name := "inss", fn := fun _ => fun
  | [d1, d2] => { results := [.lit (.bool true)], args := [d1, d2] }
  | _ => none }
def inssRow : OpenClaim := { program := "ytmkdikbjolobdaa", sum := "482dac26984339ee8909070ae11477646cca2bf4d36c9cd68a4c87204df8d99d", func := "swage/swagelaw2.Inss", spec := "inss", apart := false }
def InssSaid : Prop := inssRow.holds Try.pinned (OpenSpec.ofChange inssSpec)

/-- ITS FALSE NEIGHBOUR: 'it returns false'. Refute it at one input. -/
def inssWrong : ChangeSpec := { name := "inss", fn := fun _ => fun
  | [d1, d2] => { results := [.lit (.bool false)], args := [d1, d2] }
  | _ => none }
def InssWrongFalsely : Prop := inssRow.holds Try.pinned (OpenSpec.ofChange inssWrong)

/-- 'swagelaw2.InsEdges': WHATEVER THE INPUT: true; the input reads as it did. -/
def insEdgesSpec : ChangeSpec := { name := "insEdges", fn := fun _ => fun
  | [d] => { results := [.lit (.bool true)], args := [d] }
  | _ => none }
def insEdgesRow : OpenClaim := { program := "ytmkdikbjolobdaa", sum := "482dac26984339ee8909070ae11477646cca2bf4d36c9cd68a4c87204df8d99d", func := "swage/swagelaw2.InsEdges", spec := "insEdges", apart := false }
def InsEdgesSaid : Prop := insEdgesRow.holds Try.pinned (OpenSpec.ofChange insEdgesSpec)

/-- ITS FALSE NEIGHBOUR: 'it returns false'. Refute it at one input. -/
def insEdgesWrong : ChangeSpec := { name := "insEdges", fn := fun _ => fun
  | [d] => { results := [.lit (.bool false)], args := [d] }
  | _ => none }
def InsEdgesWrongFalsely : Prop := insEdgesRow.holds Try.pinned (OpenSpec.ofChange insEdgesWrong)

/-- 'swagelaw2.InsEffects': WHATEVER THE INPUT: true; the input reads as it did. -/
def insEffectsSpec : ChangeSpec := { name := "insEffects", fn := fun _ => fun
  | [d1, d2] => { results := [.lit (.bool true)], args := [d1, d2] }
  | _ => none }
def insEffectsRow : OpenClaim := { program := "ytmkdikbjolobdaa", sum := "482dac26984339ee8909070ae11477646cca2bf4d36c9cd68a4c87204df8d99d", func := "swage/swagelaw2.InsEffects", spec := "insEffects", apart := false }
def InsEffectsSaid : Prop := insEffectsRow.holds Try.pinned (OpenSpec.ofChange insEffectsSpec)

/-- ITS FALSE NEIGHBOUR: 'it returns false'. Refute it at one input. -/
def insEffectsWrong : ChangeSpec := { name := "insEffects", fn := fun _ => fun
  | [d1, d2] => { results := [.lit (.bool false)], args := [d1, d2] }
  | _ => none }
def InsEffectsWrongFalsely : Prop := insEffectsRow.holds Try.pinned (OpenSpec.ofChange insEffectsWrong)

/- THE SECOND FORM. 'bulk': how many values and letters a reading holds, each counted each time it is reached (what is shared counts as often as it is met; a slice's spare places count too). A statement '..UptoSaid' is the law's where the arguments, and the package variables that the reading takes, are together of bulk at most 1048576: NARROWER than '..Said'. Prove '..Said' where nothing that the law and all that it calls make is longer than what came in: it says more and counts as full. Else prove '..UptoSaid'. A law counts once. -/
mutual
def uptoBulk {H : Type} : DataW H → Nat
  | .lit (.string bytes) => bytes.length + 1
  | .lit _ => 1
  | .nil => 1
  | .ptr d => uptoBulk d + 1
  | .slice elems spare => uptoBulkAll elems + uptoBulkAll spare + 1
  | .agg parts => uptoBulkAll parts + 1
  | .iface _ d => uptoBulk d + 1
  | .map entries => uptoBulkEntries entries + 1
  | .held _ => 1
def uptoBulkAll {H : Type} : List (DataW H) → Nat
  | [] => 0
  | d :: r => uptoBulk d + uptoBulkAll r
def uptoBulkEntries {H : Type} : List (Lit × DataW H) → Nat
  | [] => 0
  | x :: r => uptoBulkEntry x + uptoBulkEntries r
def uptoBulkEntry {H : Type} : Lit × DataW H → Nat
  | (.string bytes, d) => bytes.length + uptoBulk d + 1
  | (_, d) => uptoBulk d + 1
 end
def uptoSmall : (H : Type) → List (DataW H) → Bool := fun _ ds => decide (uptoBulkAll ds ≤ 1048576)
def OpenSpec.upto (s : _root_.Go.ChangeSpec) : _root_.Go.OpenSpec := { _root_.Go.OpenSpec.ofChange s with cond := some uptoSmall }

/-- 'swagelaw0.SwageNames', WHERE WHAT IT READS IS OF BULK AT MOST 1048576: true; the input reads as it did. -/
def swageNamesUptoRow : OpenClaim := { program := "ytmkdikbjolobdaa", sum := "482dac26984339ee8909070ae11477646cca2bf4d36c9cd68a4c87204df8d99d", func := "swage/swagelaw0.SwageNames", spec := "swageNames", apart := false, narrowed := true }
def SwageNamesUptoSaid : Prop := swageNamesUptoRow.holds Try.pinned (OpenSpec.upto swageNamesSpec)

/-- 'swagelaw2.Inss', WHERE WHAT IT READS IS OF BULK AT MOST 1048576: true; the input reads as it did. -/
def inssUptoRow : OpenClaim := { program := "ytmkdikbjolobdaa", sum := "482dac26984339ee8909070ae11477646cca2bf4d36c9cd68a4c87204df8d99d", func := "swage/swagelaw2.Inss", spec := "inss", apart := false, narrowed := true }
def InssUptoSaid : Prop := inssUptoRow.holds Try.pinned (OpenSpec.upto inssSpec)

/-- 'swagelaw2.InsEdges', WHERE WHAT IT READS IS OF BULK AT MOST 1048576: true; the input reads as it did. -/
def insEdgesUptoRow : OpenClaim := { program := "ytmkdikbjolobdaa", sum := "482dac26984339ee8909070ae11477646cca2bf4d36c9cd68a4c87204df8d99d", func := "swage/swagelaw2.InsEdges", spec := "insEdges", apart := false, narrowed := true }
def InsEdgesUptoSaid : Prop := insEdgesUptoRow.holds Try.pinned (OpenSpec.upto insEdgesSpec)

/-- 'swagelaw2.InsEffects', WHERE WHAT IT READS IS OF BULK AT MOST 1048576: true; the input reads as it did. -/
def insEffectsUptoRow : OpenClaim := { program := "ytmkdikbjolobdaa", sum := "482dac26984339ee8909070ae11477646cca2bf4d36c9cd68a4c87204df8d99d", func := "swage/swagelaw2.InsEffects", spec := "insEffects", apart := false, narrowed := true }
def InsEffectsUptoSaid : Prop := insEffectsUptoRow.holds Try.pinned (OpenSpec.upto insEffectsSpec)

end Rows
end Go.Proofs.Ytmkdikbjolobdaa
