/- Rows: packs, 13 to 17. No condition. -/
import Derived.Test.YtaifmmeghninhaaRows
import Derived.Test.YtaifmmeghninhaaKq
import Derived.Test.YtaifmmeghninhaaDp
import Derived.Lib.SmallJoins
namespace Go.Proofs.Ytaifmmeghninhaa
open Go Go.RowKit Go.Proofs.Ytaifmmeghninhaa.Mw Go.Proofs.Ytaifmmeghninhaa.Pf Go.ChangeShapes Go.WideShapes Go.ChangeAt
set_option linter.unusedVariables false
theorem own : ownKnob Try.prog.godebug = none := by kernel_rfl
theorem laid : laidOutB Try.prog = true := by kernel_rfl
theorem cI : Try.prog.cellsOf 3 = 1 := by kernel_rfl
theorem opI (w : World) : OpensS Try.prog w 3 (fun z : Int => [.int .i64 z]) I64 := OpensS.int Try.underlying3
theorem cIns : Try.prog.cellsOf 43 = 2 := by kernel_rfl
theorem cInss : Try.prog.cellsOf 44 = 1 := by kernel_rfl
theorem cFnc : Try.prog.cellsOf 46 = 3 := by kernel_rfl
theorem cFncs : Try.prog.cellsOf 22 = 1 := by kernel_rfl
theorem cPrg : Try.prog.cellsOf 24 = 1 := by kernel_rfl
set_option maxRecDepth 100000 in
theorem opIns (w : World) : OpensS Try.prog w 43 Ins.c (fun x => I64 x.kind ∧ I64 x.a) :=
  (OpensS.struct Try.underlying43 cIns (OpensT.cons (opI w) rfl cI (OpensT.cons (opI w) rfl cI OpensT.nil))).map (fun p => ⟨p.1, p.2.1⟩) (fun a => rfl) (fun a h => ⟨h.1, h.2.1⟩)
set_option maxRecDepth 100000 in
theorem opInss (w : World) : OpensS Try.prog w 44 (fun l : List Ins => [slD Ins.c l]) (fun l => l.length * 16 ≤ reachBytes ∧ ∀ x ∈ l, I64 x.kind ∧ I64 x.a) :=
  OpensS.slice (opIns w) Try.underlying44 cIns (by decide) (by kernel_rfl)
set_option maxRecDepth 100000 in
theorem opFnc (w : World) : OpensS Try.prog w 46 Fnc.c (fun f => (I64 f.args ∧ I64 f.locals) ∧ f.code.length * 16 ≤ reachBytes ∧ ∀ x ∈ f.code, I64 x.kind ∧ I64 x.a) :=
  (OpensS.struct Try.underlying46 cFnc (OpensT.cons (opI w) rfl cI (OpensT.cons (opI w) rfl cI (OpensT.cons (opInss w) rfl cInss OpensT.nil)))).map (fun p => ⟨p.1, p.2.1, p.2.2.1⟩) (fun a => rfl) (fun a h => ⟨⟨h.1, h.2.1⟩, h.2.2.1⟩)
set_option maxRecDepth 100000 in
theorem opPrg (w : World) : OpensS Try.prog w 24 (fun l : List Fnc => [slD Fnc.c l]) (fun l => l.length * 40 ≤ reachBytes ∧ ∀ f ∈ l, (I64 f.args ∧ I64 f.locals) ∧ f.code.length * 16 ≤ reachBytes ∧ ∀ x ∈ f.code, I64 x.kind ∧ I64 x.a) :=
  (OpensS.struct Try.underlying24 cPrg (OpensT.cons (OpensS.slice (opFnc w) Try.underlying22 cFnc (by decide) (by kernel_rfl)) rfl cFncs OpensT.nil)).map (fun p => p.1) (fun a => rfl) (fun a h => h.1)
namespace packs
set_option maxRecDepth 100000 in
theorem lifted (os : Os) (started : os.Started) (H : Type) (enc : TypeId × Value → H) :
    ReturnsInHanded {} Try.checked os 3 .any (Rows.packsSpec.pre6 enc Try.prog Try.f3 Rows.packsRow.domain false) (Rows.packsSpec.post enc Try.prog Try.f3 false true false false) := by
  refine law_row (C := Try.checked) own started (by kernel_rfl) Try.func3 rfl (fun ds h => ?_) rfl Try.underlying4 laid (of_decide_eq_true (by kernel_rfl))
    (ChangeSpec.witness6 (enc := enc) (C := Try.checked) false ⟨#[], #[.agg #[.slice none 0 0], .string ByteArray.empty], []⟩ 8 (by kernel_rfl) (by kernel_rfl) (by kernel_rfl) (by kernel_rfl)) (fun W base args ds p hA hval hsz => ?_)
  · match ds, h with
    | [_, _], _ => rfl
  · rw [show Try.f3.params.toList = [24, 9] from rfl] at hA hsz
    obtain ⟨v0, vs0, d0, ds0, p0, q0, rfl, rfl, rfl, h0, r0⟩ := trodAll_cons hA
    obtain ⟨v1, vs1, d1, ds1, p1, q1, rfl, rfl, rfl, h1, r1⟩ := trodAll_cons r0
    obtain ⟨rfl, rfl, rfl⟩ := trodAll_nil r1
    obtain ⟨x0, rfl, z0⟩ := okWide_struct Try.underlying24 (hval 0 24 v0 rfl rfl)
    obtain ⟨a0, g0, s0⟩ := OpensS.agg (opPrg W) h0 (sized_mem (t := 24) (j := 0) hsz rfl rfl)
    obtain ⟨x1, rfl⟩ := okWide_string Try.underlying9 (hval 1 9 v1 rfl rfl)
    obtain ⟨a1, g1, s1⟩ := OpensS.val (d := fun z : ByteArray => .str z) (OpensS.str Try.underlying9) rfl h1 (sized_mem (t := 9) (j := 1) hsz rfl rfl)
    exact law_mc (Packs_str a0 a1 ⟨by have h := s0.1; unfold reachBytes at h; omega, fun f hf => by have h := (s0.2 f hf).2.1; unfold reachBytes at h; omega⟩ (by have h := s1; unfold reachBytes at h; omega)) (fun b v h => by simp [globs] at h) (RepL.cons g0 (RepL.cons g1 (RepL.nil _)))
theorem over : Rows.packsRow.holds Try.pinned (OpenSpec.ofChange Rows.packsSpec) :=
  OpenClaim.holds_of_wide 3 Try.f3 rfl rfl rfl rfl rfl rfl rfl ⟨rfl, rfl, rfl, rfl, rfl⟩ rfl rfl rfl rfl rfl (by kernel_rfl) Try.func3 (by kernel_rfl)
    (of_decide_eq_true (by kernel_rfl)) (by unfold Func.isWrapper; first | (rw [if_pos (by decide +kernel)]; kernel_rfl) | (rw [if_neg (by decide +kernel)]; exact ⟨rfl, rfl⟩))
    (fun os started H enc _ => lifted os started H enc)
end packs
theorem packs_holds : Rows.PacksSaid := packs.over
namespace packBack
set_option maxRecDepth 100000 in
theorem lifted (os : Os) (started : os.Started) (H : Type) (enc : TypeId × Value → H) :
    ReturnsInHanded {} Try.checked os 4 .any (Rows.packBackSpec.pre6 enc Try.prog Try.f4 Rows.packBackRow.domain false) (Rows.packBackSpec.post enc Try.prog Try.f4 false true false false) := by
  refine law_row (C := Try.checked) own started (by kernel_rfl) Try.func4 rfl (fun ds h => ?_) rfl Try.underlying4 laid (of_decide_eq_true (by kernel_rfl))
    (ChangeSpec.witness6 (enc := enc) (C := Try.checked) false ⟨#[], #[.agg #[.slice none 0 0], .string ByteArray.empty, .int .i64 0], []⟩ 8 (by kernel_rfl) (by kernel_rfl) (by kernel_rfl) (by kernel_rfl)) (fun W base args ds p hA hval hsz => ?_)
  · match ds, h with
    | [_, _, _], _ => rfl
  · rw [show Try.f4.params.toList = [24, 9, 3] from rfl] at hA hsz
    obtain ⟨v0, vs0, d0, ds0, p0, q0, rfl, rfl, rfl, h0, r0⟩ := trodAll_cons hA
    obtain ⟨v1, vs1, d1, ds1, p1, q1, rfl, rfl, rfl, h1, r1⟩ := trodAll_cons r0
    obtain ⟨v2, vs2, d2, ds2, p2, q2, rfl, rfl, rfl, h2, r2⟩ := trodAll_cons r1
    obtain ⟨rfl, rfl, rfl⟩ := trodAll_nil r2
    obtain ⟨x0, rfl, z0⟩ := okWide_struct Try.underlying24 (hval 0 24 v0 rfl rfl)
    obtain ⟨a0, g0, s0⟩ := OpensS.agg (opPrg W) h0 (sized_mem (t := 24) (j := 0) hsz rfl rfl)
    obtain ⟨x1, rfl⟩ := okWide_string Try.underlying9 (hval 1 9 v1 rfl rfl)
    obtain ⟨a1, g1, s1⟩ := OpensS.val (d := fun z : ByteArray => .str z) (OpensS.str Try.underlying9) rfl h1 (sized_mem (t := 9) (j := 1) hsz rfl rfl)
    obtain ⟨x2, rfl⟩ := okWide_int Try.underlying3 (hval 2 3 v2 rfl rfl)
    obtain ⟨a2, g2, s2⟩ := OpensS.val (d := fun z : Int => .int .i64 z) (OpensS.int Try.underlying3) rfl h2 (sized_mem (t := 3) (j := 2) hsz rfl rfl)
    exact law_mc (PackBack_str a0 a1 a2 ⟨by have h := s0.1; unfold reachBytes at h; omega, fun f hf => by have h := (s0.2 f hf).2.1; unfold reachBytes at h; omega⟩) (fun b v h => by simp [globs] at h) (RepL.cons g0 (RepL.cons g1 (RepL.cons g2 (RepL.nil _))))
theorem over : Rows.packBackRow.holds Try.pinned (OpenSpec.ofChange Rows.packBackSpec) :=
  OpenClaim.holds_of_wide 4 Try.f4 rfl rfl rfl rfl rfl rfl rfl ⟨rfl, rfl, rfl, rfl, rfl⟩ rfl rfl rfl rfl rfl (by kernel_rfl) Try.func4 (by kernel_rfl)
    (of_decide_eq_true (by kernel_rfl)) (by unfold Func.isWrapper; first | (rw [if_pos (by decide +kernel)]; kernel_rfl) | (rw [if_neg (by decide +kernel)]; exact ⟨rfl, rfl⟩))
    (fun os started H enc _ => lifted os started H enc)
end packBack
theorem packBack_holds : Rows.PackBackSaid := packBack.over
namespace packForms
set_option maxRecDepth 100000 in
theorem lifted (os : Os) (started : os.Started) (H : Type) (enc : TypeId × Value → H) :
    ReturnsInHanded {} Try.checked os 5 .any (Rows.packFormsSpec.pre6 enc Try.prog Try.f5 Rows.packFormsRow.domain false) (Rows.packFormsSpec.post enc Try.prog Try.f5 false true false false) := by
  refine law_row (C := Try.checked) own started (by kernel_rfl) Try.func5 rfl (fun ds h => ?_) rfl Try.underlying4 laid (of_decide_eq_true (by kernel_rfl))
    (ChangeSpec.witness6 (enc := enc) (C := Try.checked) false ⟨#[], #[.int .i64 0, .int .i64 0], []⟩ 8 (by kernel_rfl) (by kernel_rfl) (by kernel_rfl) (by kernel_rfl)) (fun W base args ds p hA hval hsz => ?_)
  · match ds, h with
    | [_, _], _ => rfl
  · rw [show Try.f5.params.toList = [3, 3] from rfl] at hA hsz
    obtain ⟨v0, vs0, d0, ds0, p0, q0, rfl, rfl, rfl, h0, r0⟩ := trodAll_cons hA
    obtain ⟨v1, vs1, d1, ds1, p1, q1, rfl, rfl, rfl, h1, r1⟩ := trodAll_cons r0
    obtain ⟨rfl, rfl, rfl⟩ := trodAll_nil r1
    obtain ⟨x0, rfl⟩ := okWide_int Try.underlying3 (hval 0 3 v0 rfl rfl)
    obtain ⟨a0, g0, s0⟩ := OpensS.val (d := fun z : Int => .int .i64 z) (OpensS.int Try.underlying3) rfl h0 (sized_mem (t := 3) (j := 0) hsz rfl rfl)
    obtain ⟨x1, rfl⟩ := okWide_int Try.underlying3 (hval 1 3 v1 rfl rfl)
    obtain ⟨a1, g1, s1⟩ := OpensS.val (d := fun z : Int => .int .i64 z) (OpensS.int Try.underlying3) rfl h1 (sized_mem (t := 3) (j := 1) hsz rfl rfl)
    exact law_mc (PackForms_pc a0 a1) (fun b v h => by simp [globs] at h) (RepL.cons g0 (RepL.cons g1 (RepL.nil _)))
theorem over : Rows.packFormsRow.holds Try.pinned (OpenSpec.ofChange Rows.packFormsSpec) :=
  OpenClaim.holds_of_wide 5 Try.f5 rfl rfl rfl rfl rfl rfl rfl ⟨rfl, rfl, rfl, rfl, rfl⟩ rfl rfl rfl rfl rfl (by kernel_rfl) Try.func5 (by kernel_rfl)
    (of_decide_eq_true (by kernel_rfl)) (by unfold Func.isWrapper; first | (rw [if_pos (by decide +kernel)]; kernel_rfl) | (rw [if_neg (by decide +kernel)]; exact ⟨rfl, rfl⟩))
    (fun os started H enc _ => lifted os started H enc)
end packForms
theorem packForms_holds : Rows.PackFormsSaid := packForms.over
namespace packNumbers
set_option maxRecDepth 100000 in
theorem lifted (os : Os) (started : os.Started) (H : Type) (enc : TypeId × Value → H) :
    ReturnsInHanded {} Try.checked os 6 .any (Rows.packNumbersSpec.pre6 enc Try.prog Try.f6 Rows.packNumbersRow.domain false) (Rows.packNumbersSpec.post enc Try.prog Try.f6 false true false false) := by
  refine law_row (C := Try.checked) own started (by kernel_rfl) Try.func6 rfl (fun ds h => ?_) rfl Try.underlying4 laid (of_decide_eq_true (by kernel_rfl))
    (ChangeSpec.witness6 (enc := enc) (C := Try.checked) false ⟨#[], #[.int .i64 0], []⟩ 8 (by kernel_rfl) (by kernel_rfl) (by kernel_rfl) (by kernel_rfl)) (fun W base args ds p hA hval hsz => ?_)
  · match ds, h with
    | [_], _ => rfl
  · rw [show Try.f6.params.toList = [3] from rfl] at hA hsz
    obtain ⟨v0, vs0, d0, ds0, p0, q0, rfl, rfl, rfl, h0, r0⟩ := trodAll_cons hA
    obtain ⟨rfl, rfl, rfl⟩ := trodAll_nil r0
    obtain ⟨x0, rfl⟩ := okWide_int Try.underlying3 (hval 0 3 v0 rfl rfl)
    obtain ⟨a0, g0, s0⟩ := OpensS.val (d := fun z : Int => .int .i64 z) (OpensS.int Try.underlying3) rfl h0 (sized_mem (t := 3) (j := 0) hsz rfl rfl)
    exact law_mc (PackNumbers_pc a0) (fun b v h => by simp [globs] at h) (RepL.cons g0 (RepL.nil _))
theorem over : Rows.packNumbersRow.holds Try.pinned (OpenSpec.ofChange Rows.packNumbersSpec) :=
  OpenClaim.holds_of_wide 6 Try.f6 rfl rfl rfl rfl rfl rfl rfl ⟨rfl, rfl, rfl, rfl, rfl⟩ rfl rfl rfl rfl rfl (by kernel_rfl) Try.func6 (by kernel_rfl)
    (of_decide_eq_true (by kernel_rfl)) (by unfold Func.isWrapper; first | (rw [if_pos (by decide +kernel)]; kernel_rfl) | (rw [if_neg (by decide +kernel)]; exact ⟨rfl, rfl⟩))
    (fun os started H enc _ => lifted os started H enc)
end packNumbers
theorem packNumbers_holds : Rows.PackNumbersSaid := packNumbers.over
namespace packSizes
set_option maxRecDepth 100000 in
theorem lifted (os : Os) (started : os.Started) (H : Type) (enc : TypeId × Value → H) :
    ReturnsInHanded {} Try.checked os 7 .any (Rows.packSizesSpec.pre6 enc Try.prog Try.f7 Rows.packSizesRow.domain false) (Rows.packSizesSpec.post enc Try.prog Try.f7 false true false false) := by
  refine law_row (C := Try.checked) own started (by kernel_rfl) Try.func7 rfl (fun ds h => ?_) rfl Try.underlying4 laid (of_decide_eq_true (by kernel_rfl))
    (ChangeSpec.witness6 (enc := enc) (C := Try.checked) false ⟨#[], #[.agg #[.slice none 0 0]], []⟩ 8 (by kernel_rfl) (by kernel_rfl) (by kernel_rfl) (by kernel_rfl)) (fun W base args ds p hA hval hsz => ?_)
  · match ds, h with
    | [_], _ => rfl
  · rw [show Try.f7.params.toList = [24] from rfl] at hA hsz
    obtain ⟨v0, vs0, d0, ds0, p0, q0, rfl, rfl, rfl, h0, r0⟩ := trodAll_cons hA
    obtain ⟨rfl, rfl, rfl⟩ := trodAll_nil r0
    obtain ⟨x0, rfl, z0⟩ := okWide_struct Try.underlying24 (hval 0 24 v0 rfl rfl)
    obtain ⟨a0, g0, s0⟩ := OpensS.agg (opPrg W) h0 (sized_mem (t := 24) (j := 0) hsz rfl rfl)
    exact law_mc (PackSizes_pc a0 ⟨by have h := s0.1; unfold reachBytes at h; omega, fun f hf => by have h := (s0.2 f hf).2.1; unfold reachBytes at h; omega⟩) (fun b v h => by simp [globs] at h) (RepL.cons g0 (RepL.nil _))
theorem over : Rows.packSizesRow.holds Try.pinned (OpenSpec.ofChange Rows.packSizesSpec) :=
  OpenClaim.holds_of_wide 7 Try.f7 rfl rfl rfl rfl rfl rfl rfl ⟨rfl, rfl, rfl, rfl, rfl⟩ rfl rfl rfl rfl rfl (by kernel_rfl) Try.func7 (by kernel_rfl)
    (of_decide_eq_true (by kernel_rfl)) (by unfold Func.isWrapper; first | (rw [if_pos (by decide +kernel)]; kernel_rfl) | (rw [if_neg (by decide +kernel)]; exact ⟨rfl, rfl⟩))
    (fun os started H enc _ => lifted os started H enc)
end packSizes
theorem packSizes_holds : Rows.PackSizesSaid := packSizes.over
end Go.Proofs.Ytaifmmeghninhaa
