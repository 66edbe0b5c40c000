/- Rows: flows, 9 to 12. No condition. -/
import Derived.Test.YtggejjeneoaakaaRows
import Derived.Test.YtggejjeneoaakaaQn
import Derived.Test.YtggejjeneoaakaaDp
import Derived.Lib.SmallJoins
namespace Go.Proofs.Ytggejjeneoaakaa
open Go Go.RowKit Go.Proofs.Ytggejjeneoaakaa.Mw Go.Proofs.Ytggejjeneoaakaa.Pf Go.ChangeShapes Go.WideShapes Go.ChangeAt
set_option linter.unusedVariables false
theorem own : ownKnob Try.prog.godebug = none := by kernel_rfl
theorem laid : laidOutB Try.prog = true := by kernel_rfl
theorem cI : Try.prog.cellsOf 3 = 1 := by kernel_rfl
theorem opI (w : World) : OpensS Try.prog w 3 (fun z : Int => [.int .i64 z]) I64 := OpensS.int Try.underlying3
theorem slD_ints (l : List Int) : slD (fun z : Int => [.int .i64 z]) l = slI l := by simp [slD, slI, ← List.map_eq_flatMap]
set_option maxRecDepth 100000 in
theorem opInts (w : World) : OpensS Try.prog w 47 (fun l : List Int => [slI l]) (fun l => l.length * 8 ≤ reachBytes ∧ ∀ x ∈ l, I64 x) :=
  (OpensS.slice (opI w) Try.underlying47 cI (by decide) (by kernel_rfl)).map id (fun l => by simp only [id, slD_ints]) (fun _ h => h)
theorem cIns : Try.prog.cellsOf 78 = 2 := by kernel_rfl
theorem cInss : Try.prog.cellsOf 58 = 1 := by kernel_rfl
theorem cFnc : Try.prog.cellsOf 60 = 3 := by kernel_rfl
theorem cFncs : Try.prog.cellsOf 55 = 1 := by kernel_rfl
theorem cPrg : Try.prog.cellsOf 57 = 1 := by kernel_rfl
set_option maxRecDepth 100000 in
theorem opIns (w : World) : OpensS Try.prog w 78 Ins.c (fun x => I64 x.kind ∧ I64 x.a) :=
  (OpensS.struct Try.underlying78 cIns (OpensT.cons (opI w) rfl cI (OpensT.cons (opI w) rfl cI OpensT.nil))).map (fun p => ⟨p.1, p.2.1⟩) (fun a => rfl) (fun a h => ⟨h.1, h.2.1⟩)
set_option maxRecDepth 100000 in
theorem opInss (w : World) : OpensS Try.prog w 58 (fun l : List Ins => [slD Ins.c l]) (fun l => l.length * 16 ≤ reachBytes ∧ ∀ x ∈ l, I64 x.kind ∧ I64 x.a) :=
  OpensS.slice (opIns w) Try.underlying58 cIns (by decide) (by kernel_rfl)
set_option maxRecDepth 100000 in
theorem opFnc (w : World) : OpensS Try.prog w 60 Fnc.c (fun f => (I64 f.args ∧ I64 f.locals) ∧ f.code.length * 16 ≤ reachBytes ∧ ∀ x ∈ f.code, I64 x.kind ∧ I64 x.a) :=
  (OpensS.struct Try.underlying60 cFnc (OpensT.cons (opI w) rfl cI (OpensT.cons (opI w) rfl cI (OpensT.cons (opInss w) rfl cInss OpensT.nil)))).map (fun p => ⟨p.1, p.2.1, p.2.2.1⟩) (fun a => rfl) (fun a h => ⟨⟨h.1, h.2.1⟩, h.2.2.1⟩)
set_option maxRecDepth 100000 in
theorem opPrg (w : World) : OpensS Try.prog w 57 (fun l : List Fnc => [slD Fnc.c l]) (fun l => l.length * 40 ≤ reachBytes ∧ ∀ f ∈ l, (I64 f.args ∧ I64 f.locals) ∧ f.code.length * 16 ≤ reachBytes ∧ ∀ x ∈ f.code, I64 x.kind ∧ I64 x.a) :=
  (OpensS.struct Try.underlying57 cPrg (OpensT.cons (OpensS.slice (opFnc w) Try.underlying55 cFnc (by decide) (by kernel_rfl)) rfl cFncs OpensT.nil)).map (fun p => p.1) (fun a => rfl) (fun a h => h.1)
namespace flows
set_option maxRecDepth 100000 in
theorem lifted (os : Os) (started : os.Started) (H : Type) (enc : TypeId × Value → H) :
    ReturnsInHanded {} Try.checked os 7 .any (Rows.flowsSpec.pre6 enc Try.prog Try.f7 Rows.flowsRow.domain false) (Rows.flowsSpec.post enc Try.prog Try.f7 false true false false) := by
  refine law_row (C := Try.checked) own started (by kernel_rfl) Try.func7 rfl (fun ds h => ?_) rfl Try.underlying4 laid (of_decide_eq_true (by kernel_rfl))
    (ChangeSpec.witness6 (enc := enc) (C := Try.checked) false ⟨#[], #[.agg #[.slice none 0 0], .int .i64 0, .int .i64 0], []⟩ 8 (by kernel_rfl) (by kernel_rfl) (by kernel_rfl) (by kernel_rfl)) (fun W base args ds p hA hval hsz => ?_)
  · match ds, h with
    | [_, _, _], _ => rfl
  · rw [show Try.f7.params.toList = [57, 3, 3] from rfl] at hA hsz
    obtain ⟨v0, vs0, d0, ds0, p0, q0, rfl, rfl, rfl, h0, r0⟩ := trodAll_cons hA
    obtain ⟨v1, vs1, d1, ds1, p1, q1, rfl, rfl, rfl, h1, r1⟩ := trodAll_cons r0
    obtain ⟨v2, vs2, d2, ds2, p2, q2, rfl, rfl, rfl, h2, r2⟩ := trodAll_cons r1
    obtain ⟨rfl, rfl, rfl⟩ := trodAll_nil r2
    obtain ⟨x0, rfl, z0⟩ := okWide_struct Try.underlying57 (hval 0 57 v0 rfl rfl)
    obtain ⟨a0, g0, s0⟩ := OpensS.agg (opPrg W) h0 (sized_mem (t := 57) (j := 0) hsz rfl rfl)
    obtain ⟨x1, rfl⟩ := okWide_int Try.underlying3 (hval 1 3 v1 rfl rfl)
    obtain ⟨a1, g1, s1⟩ := OpensS.val (d := fun z : Int => .int .i64 z) (OpensS.int Try.underlying3) rfl h1 (sized_mem (t := 3) (j := 1) hsz rfl rfl)
    obtain ⟨x2, rfl⟩ := okWide_int Try.underlying3 (hval 2 3 v2 rfl rfl)
    obtain ⟨a2, g2, s2⟩ := OpensS.val (d := fun z : Int => .int .i64 z) (OpensS.int Try.underlying3) rfl h2 (sized_mem (t := 3) (j := 2) hsz rfl rfl)
    exact law_mc (Flows_pc a0 a1 a2 ⟨s0.1, fun f hf => (s0.2 f hf).2.1⟩) (RepL.cons g0 (RepL.cons g1 (RepL.cons g2 (RepL.nil _))))
theorem over : Rows.flowsRow.holds Try.pinned (OpenSpec.ofChange Rows.flowsSpec) :=
  OpenClaim.holds_of_wide 7 Try.f7 rfl rfl rfl rfl rfl rfl rfl ⟨rfl, rfl, rfl, rfl, rfl⟩ rfl rfl rfl rfl rfl (by kernel_rfl) Try.func7 (by kernel_rfl)
    (of_decide_eq_true (by kernel_rfl)) (by unfold Func.isWrapper; first | (rw [if_pos (by decide +kernel)]; kernel_rfl) | (rw [if_neg (by decide +kernel)]; exact ⟨rfl, rfl⟩))
    (fun os started H enc _ => lifted os started H enc)
end flows
theorem flows_holds : Rows.FlowsSaid := flows.over
namespace flowClosed
set_option maxRecDepth 100000 in
theorem lifted (os : Os) (started : os.Started) (H : Type) (enc : TypeId × Value → H) :
    ReturnsInHanded {} Try.checked os 8 .any (Rows.flowClosedSpec.pre6 enc Try.prog Try.f8 Rows.flowClosedRow.domain false) (Rows.flowClosedSpec.post enc Try.prog Try.f8 false true false false) := by
  refine law_row (C := Try.checked) own started (by kernel_rfl) Try.func8 rfl (fun ds h => ?_) rfl Try.underlying4 laid (of_decide_eq_true (by kernel_rfl))
    (ChangeSpec.witness6 (enc := enc) (C := Try.checked) false ⟨#[], #[.agg #[.slice none 0 0], .int .i64 0], []⟩ 8 (by kernel_rfl) (by kernel_rfl) (by kernel_rfl) (by kernel_rfl)) (fun W base args ds p hA hval hsz => ?_)
  · match ds, h with
    | [_, _], _ => rfl
  · rw [show Try.f8.params.toList = [57, 3] from rfl] at hA hsz
    obtain ⟨v0, vs0, d0, ds0, p0, q0, rfl, rfl, rfl, h0, r0⟩ := trodAll_cons hA
    obtain ⟨v1, vs1, d1, ds1, p1, q1, rfl, rfl, rfl, h1, r1⟩ := trodAll_cons r0
    obtain ⟨rfl, rfl, rfl⟩ := trodAll_nil r1
    obtain ⟨x0, rfl, z0⟩ := okWide_struct Try.underlying57 (hval 0 57 v0 rfl rfl)
    obtain ⟨a0, g0, s0⟩ := OpensS.agg (opPrg W) h0 (sized_mem (t := 57) (j := 0) hsz rfl rfl)
    obtain ⟨x1, rfl⟩ := okWide_int Try.underlying3 (hval 1 3 v1 rfl rfl)
    obtain ⟨a1, g1, s1⟩ := OpensS.val (d := fun z : Int => .int .i64 z) (OpensS.int Try.underlying3) rfl h1 (sized_mem (t := 3) (j := 1) hsz rfl rfl)
    exact law_mc (FlowClosed_pc a0 a1 ⟨s0.1, fun f hf => (s0.2 f hf).2.1⟩) (RepL.cons g0 (RepL.cons g1 (RepL.nil _)))
theorem over : Rows.flowClosedRow.holds Try.pinned (OpenSpec.ofChange Rows.flowClosedSpec) :=
  OpenClaim.holds_of_wide 8 Try.f8 rfl rfl rfl rfl rfl rfl rfl ⟨rfl, rfl, rfl, rfl, rfl⟩ rfl rfl rfl rfl rfl (by kernel_rfl) Try.func8 (by kernel_rfl)
    (of_decide_eq_true (by kernel_rfl)) (by unfold Func.isWrapper; first | (rw [if_pos (by decide +kernel)]; kernel_rfl) | (rw [if_neg (by decide +kernel)]; exact ⟨rfl, rfl⟩))
    (fun os started H enc _ => lifted os started H enc)
end flowClosed
theorem flowClosed_holds : Rows.FlowClosedSaid := flowClosed.over
namespace flowForms
set_option maxRecDepth 100000 in
theorem lifted (os : Os) (started : os.Started) (H : Type) (enc : TypeId × Value → H) :
    ReturnsInHanded {} Try.checked os 9 .any (Rows.flowFormsSpec.pre6 enc Try.prog Try.f9 Rows.flowFormsRow.domain false) (Rows.flowFormsSpec.post enc Try.prog Try.f9 false true false false) := by
  refine law_row (C := Try.checked) own started (by kernel_rfl) Try.func9 rfl (fun ds h => ?_) rfl Try.underlying4 laid (of_decide_eq_true (by kernel_rfl))
    (ChangeSpec.witness6 (enc := enc) (C := Try.checked) false ⟨#[], #[.int .i64 0, .int .i64 0], []⟩ 8 (by kernel_rfl) (by kernel_rfl) (by kernel_rfl) (by kernel_rfl)) (fun W base args ds p hA hval hsz => ?_)
  · match ds, h with
    | [_, _], _ => rfl
  · rw [show Try.f9.params.toList = [3, 3] from rfl] at hA hsz
    obtain ⟨v0, vs0, d0, ds0, p0, q0, rfl, rfl, rfl, h0, r0⟩ := trodAll_cons hA
    obtain ⟨v1, vs1, d1, ds1, p1, q1, rfl, rfl, rfl, h1, r1⟩ := trodAll_cons r0
    obtain ⟨rfl, rfl, rfl⟩ := trodAll_nil r1
    obtain ⟨x0, rfl⟩ := okWide_int Try.underlying3 (hval 0 3 v0 rfl rfl)
    obtain ⟨a0, g0, s0⟩ := OpensS.val (d := fun z : Int => .int .i64 z) (OpensS.int Try.underlying3) rfl h0 (sized_mem (t := 3) (j := 0) hsz rfl rfl)
    obtain ⟨x1, rfl⟩ := okWide_int Try.underlying3 (hval 1 3 v1 rfl rfl)
    obtain ⟨a1, g1, s1⟩ := OpensS.val (d := fun z : Int => .int .i64 z) (OpensS.int Try.underlying3) rfl h1 (sized_mem (t := 3) (j := 1) hsz rfl rfl)
    exact law_mc (FlowForms_pc a0 a1) (RepL.cons g0 (RepL.cons g1 (RepL.nil _)))
theorem over : Rows.flowFormsRow.holds Try.pinned (OpenSpec.ofChange Rows.flowFormsSpec) :=
  OpenClaim.holds_of_wide 9 Try.f9 rfl rfl rfl rfl rfl rfl rfl ⟨rfl, rfl, rfl, rfl, rfl⟩ rfl rfl rfl rfl rfl (by kernel_rfl) Try.func9 (by kernel_rfl)
    (of_decide_eq_true (by kernel_rfl)) (by unfold Func.isWrapper; first | (rw [if_pos (by decide +kernel)]; kernel_rfl) | (rw [if_neg (by decide +kernel)]; exact ⟨rfl, rfl⟩))
    (fun os started H enc _ => lifted os started H enc)
end flowForms
theorem flowForms_holds : Rows.FlowFormsSaid := flowForms.over
namespace flowChain
set_option maxRecDepth 100000 in
theorem lifted (os : Os) (started : os.Started) (H : Type) (enc : TypeId × Value → H) :
    ReturnsInHanded {} Try.checked os 10 .any (Rows.flowChainSpec.pre6 enc Try.prog Try.f10 Rows.flowChainRow.domain false) (Rows.flowChainSpec.post enc Try.prog Try.f10 false true false false) := by
  refine law_row (C := Try.checked) own started (by kernel_rfl) Try.func10 rfl (fun ds h => ?_) rfl Try.underlying4 laid (of_decide_eq_true (by kernel_rfl))
    (ChangeSpec.witness6 (enc := enc) (C := Try.checked) false ⟨#[], #[.slice none 0 0, .int .i64 0], []⟩ 8 (by kernel_rfl) (by kernel_rfl) (by kernel_rfl) (by kernel_rfl)) (fun W base args ds p hA hval hsz => ?_)
  · match ds, h with
    | [_, _], _ => rfl
  · rw [show Try.f10.params.toList = [47, 3] from rfl] at hA hsz
    obtain ⟨v0, vs0, d0, ds0, p0, q0, rfl, rfl, rfl, h0, r0⟩ := trodAll_cons hA
    obtain ⟨v1, vs1, d1, ds1, p1, q1, rfl, rfl, rfl, h1, r1⟩ := trodAll_cons r0
    obtain ⟨rfl, rfl, rfl⟩ := trodAll_nil r1
    obtain ⟨x0, y0, z0, rfl⟩ := okWide_slice Try.underlying47 (hval 0 47 v0 rfl rfl)
    obtain ⟨a0, g0, s0⟩ := OpensS.val (opInts W) rfl h0 (sized_mem (t := 47) (j := 0) hsz rfl rfl)
    obtain ⟨x1, rfl⟩ := okWide_int Try.underlying3 (hval 1 3 v1 rfl rfl)
    obtain ⟨a1, g1, s1⟩ := OpensS.val (d := fun z : Int => .int .i64 z) (OpensS.int Try.underlying3) rfl h1 (sized_mem (t := 3) (j := 1) hsz rfl rfl)
    exact law_mc (FlowChain_pc a0 a1 (by have h := s0.1; unfold reachBytes at h; omega)) (RepL.cons g0 (RepL.cons g1 (RepL.nil _)))
theorem over : Rows.flowChainRow.holds Try.pinned (OpenSpec.ofChange Rows.flowChainSpec) :=
  OpenClaim.holds_of_wide 10 Try.f10 rfl rfl rfl rfl rfl rfl rfl ⟨rfl, rfl, rfl, rfl, rfl⟩ rfl rfl rfl rfl rfl (by kernel_rfl) Try.func10 (by kernel_rfl)
    (of_decide_eq_true (by kernel_rfl)) (by unfold Func.isWrapper; first | (rw [if_pos (by decide +kernel)]; kernel_rfl) | (rw [if_neg (by decide +kernel)]; exact ⟨rfl, rfl⟩))
    (fun os started H enc _ => lifted os started H enc)
end flowChain
theorem flowChain_holds : Rows.FlowChainSaid := flowChain.over
end Go.Proofs.Ytggejjeneoaakaa
