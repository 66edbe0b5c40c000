/- Rows 2 to 4: the laws of swagelaw2 are true at every input. No condition. -/
import Derived.Test.YtmkdikbjolobdaaRows
import Derived.Test.YtmkdikbjolobdaaPa
import Derived.Test.YtmkdikbjolobdaaMr
import Derived.Lib.SmallJoins
namespace Go.Proofs.Ytmkdikbjolobdaa
open Go Go.RowKit Go.Proofs.Ytmkdikbjolobdaa.Mw Go.Proofs.Ytmkdikbjolobdaa.Pf Go.ChangeShapes Go.WideShapes Go.ChangeAt
set_option linter.unusedVariables false
theorem own : ownKnob Try.prog.godebug = none := by kernel_rfl
theorem laid : laidOutB Try.prog = true := by kernel_rfl
namespace insEdges
set_option maxRecDepth 100000 in
theorem lifted (os : Os) (started : os.Started) (H : Type) (enc : TypeId × Value → H) :
    ReturnsInHanded {} Try.checked os 5 .any (Rows.insEdgesSpec.pre6 enc Try.prog Try.f5 Rows.insEdgesRow.domain false) (Rows.insEdgesSpec.post enc Try.prog Try.f5 false true false false) := by
  refine law_row (C := Try.checked) own started (by kernel_rfl) Try.func5 rfl (fun ds h => ?_) rfl Try.underlying4 laid (of_decide_eq_true (by kernel_rfl))
    (ChangeSpec.witness6 (enc := enc) (C := Try.checked) false ⟨#[], #[.int .i64 0], []⟩ 8 (by kernel_rfl) (by kernel_rfl) (by kernel_rfl) (by kernel_rfl)) (fun W base args ds p hA hval hsz => ?_)
  · match ds, h with
    | [_], _ => rfl
  · rw [show Try.f5.params.toList = [3] from rfl] at hA
    obtain ⟨v0, vs0, d0, ds0, p0, q0, rfl, rfl, rfl, h0, r0⟩ := trodAll_cons hA
    obtain ⟨rfl, rfl, rfl⟩ := trodAll_nil r0
    obtain ⟨a0, rfl, rfl, rfl, w0⟩ := open_int Try.underlying3 (hval 0 3 v0 rfl rfl) h0
    exact InsEdges_mc a0 _
theorem over : Rows.insEdgesRow.holds Try.pinned (OpenSpec.ofChange Rows.insEdgesSpec) :=
  OpenClaim.holds_of_wide 5 Try.f5 rfl rfl rfl rfl rfl rfl rfl ⟨rfl, rfl, rfl, rfl, rfl⟩ rfl rfl rfl rfl rfl (by kernel_rfl) Try.func5 (by kernel_rfl)
    (of_decide_eq_true (by kernel_rfl)) (by unfold Func.isWrapper; first | (rw [if_pos (by decide +kernel)]; kernel_rfl) | (rw [if_neg (by decide +kernel)]; exact ⟨rfl, rfl⟩))
    (fun os started H enc _ => lifted os started H enc)
end insEdges
theorem insEdges_holds : Rows.InsEdgesSaid := insEdges.over
namespace insEffects
set_option maxRecDepth 100000 in
theorem lifted (os : Os) (started : os.Started) (H : Type) (enc : TypeId × Value → H) :
    ReturnsInHanded {} Try.checked os 6 .any (Rows.insEffectsSpec.pre6 enc Try.prog Try.f6 Rows.insEffectsRow.domain false) (Rows.insEffectsSpec.post enc Try.prog Try.f6 false true false false) := by
  refine law_row (C := Try.checked) own started (by kernel_rfl) Try.func6 rfl (fun ds h => ?_) rfl Try.underlying4 laid (of_decide_eq_true (by kernel_rfl))
    (ChangeSpec.witness6 (enc := enc) (C := Try.checked) false ⟨#[], #[.int .i64 0, .int .i64 0], []⟩ 8 (by kernel_rfl) (by kernel_rfl) (by kernel_rfl) (by kernel_rfl)) (fun W base args ds p hA hval hsz => ?_)
  · match ds, h with
    | [_, _], _ => rfl
  · rw [show Try.f6.params.toList = [3, 3] from rfl] at hA
    obtain ⟨v0, vs0, d0, ds0, p0, q0, rfl, rfl, rfl, h0, r0⟩ := trodAll_cons hA
    obtain ⟨v1, vs1, d1, ds1, p1, q1, rfl, rfl, rfl, h1, r1⟩ := trodAll_cons r0
    obtain ⟨rfl, rfl, rfl⟩ := trodAll_nil r1
    obtain ⟨a0, rfl, rfl, rfl, w0⟩ := open_int Try.underlying3 (hval 0 3 v0 rfl rfl) h0
    obtain ⟨a1, rfl, rfl, rfl, w1⟩ := open_int Try.underlying3 (hval 1 3 v1 rfl rfl) h1
    exact InsEffects_mc a0 a1 _
theorem over : Rows.insEffectsRow.holds Try.pinned (OpenSpec.ofChange Rows.insEffectsSpec) :=
  OpenClaim.holds_of_wide 6 Try.f6 rfl rfl rfl rfl rfl rfl rfl ⟨rfl, rfl, rfl, rfl, rfl⟩ rfl rfl rfl rfl rfl (by kernel_rfl) Try.func6 (by kernel_rfl)
    (of_decide_eq_true (by kernel_rfl)) (by unfold Func.isWrapper; first | (rw [if_pos (by decide +kernel)]; kernel_rfl) | (rw [if_neg (by decide +kernel)]; exact ⟨rfl, rfl⟩))
    (fun os started H enc _ => lifted os started H enc)
end insEffects
theorem insEffects_holds : Rows.InsEffectsSaid := insEffects.over
namespace inss
set_option maxRecDepth 100000 in
theorem lifted (os : Os) (started : os.Started) (H : Type) (enc : TypeId × Value → H) :
    ReturnsInHanded {} Try.checked os 4 .any (Rows.inssSpec.pre6 enc Try.prog Try.f4 Rows.inssRow.domain false) (Rows.inssSpec.post enc Try.prog Try.f4 false true false false) := by
  refine law_row (C := Try.checked) own started (by kernel_rfl) Try.func4 rfl (fun ds h => ?_) rfl Try.underlying4 laid (of_decide_eq_true (by kernel_rfl))
    (ChangeSpec.witness6 (enc := enc) (C := Try.checked) false ⟨#[], #[.agg #[.int .i64 0, .int .i64 0], .int .i64 0], []⟩ 8 (by kernel_rfl) (by kernel_rfl) (by kernel_rfl) (by kernel_rfl)) (fun W base args ds p hA hval hsz => ?_)
  · match ds, h with
    | [_, _], _ => rfl
  · rw [show Try.f4.params.toList = [24, 3] from rfl] at hA
    obtain ⟨v0, vs0, d0, ds0, p0, q0, rfl, rfl, rfl, h0, r0⟩ := trodAll_cons hA
    obtain ⟨v1, vs1, d1, ds1, p1, q1, rfl, rfl, rfl, h1, r1⟩ := trodAll_cons r0
    obtain ⟨rfl, rfl, rfl⟩ := trodAll_nil r1
    obtain ⟨c0, c1, y0, y1, n, rfl, rfl, rfl, hy0, hy1⟩ := Joins.open_agg2 Try.underlying24 (by kernel_rfl) (by kernel_rfl) (hval 0 24 v0 rfl rfl) h0
    obtain ⟨a1, rfl, rfl, rfl, w1⟩ := open_int Try.underlying3 (hval 1 3 v1 rfl rfl) h1
    obtain ⟨a0, hc0, _⟩ := DataW.trod_int Try.underlying3 hy0
    obtain ⟨b0, hc1, _⟩ := DataW.trod_int Try.underlying3 hy1
    cases hc0; cases hc1
    exact Inss_mc ⟨a0, b0⟩ a1 _
theorem over : Rows.inssRow.holds Try.pinned (OpenSpec.ofChange Rows.inssSpec) :=
  OpenClaim.holds_of_wide 4 Try.f4 rfl rfl rfl rfl rfl rfl rfl ⟨rfl, rfl, rfl, rfl, rfl⟩ rfl rfl rfl rfl rfl (by kernel_rfl) Try.func4 (by kernel_rfl)
    (of_decide_eq_true (by kernel_rfl)) (by unfold Func.isWrapper; first | (rw [if_pos (by decide +kernel)]; kernel_rfl) | (rw [if_neg (by decide +kernel)]; exact ⟨rfl, rfl⟩))
    (fun os started H enc _ => lifted os started H enc)
end inss
theorem inss_holds : Rows.InssSaid := inss.over
end Go.Proofs.Ytmkdikbjolobdaa
