/- Rows 5 to 8: the laws of epochs are true at every input. No condition. -/
import Derived.Test.YtggejjeneoaakaaRows
import Derived.Test.YtggejjeneoaakaaEc
import Derived.Test.YtggejjeneoaakaaDo
import Derived.Lib.SmallJoins
namespace Go.Proofs.Ytggejjeneoaakaa
open Go Go.RowKit Go.Proofs.Ytggejjeneoaakaa.Mw Go.Proofs.Ytggejjeneoaakaa.Pf Go.ChangeShapes Go.WideShapes Go.ChangeAt
set_option linter.unusedVariables false
theorem own : ownKnob Try.prog.godebug = none := by kernel_rfl
theorem laid : laidOutB Try.prog = true := by kernel_rfl
theorem opInt (w : World) : Opens Try.prog w 3 (fun z : Int => [.int .i64 z]) := Opens.int Try.underlying3
theorem c3 : Try.prog.cellsOf 3 = 1 := by kernel_rfl
theorem c33 : Try.prog.cellsOf 33 = 3 := by kernel_rfl
set_option maxRecDepth 100000 in
theorem opAct (w : World) : Opens Try.prog w 33 Act.c :=
  (Opens.struct Try.underlying33 c33 (OpensF.cons (opInt w) rfl c3 (OpensF.cons (opInt w) rfl c3 (OpensF.cons (opInt w) rfl c3 OpensF.nil)))).map (fun p => ⟨p.1, p.2.1, p.2.2.1⟩) (fun a => rfl)
theorem slD_ints (l : List Int) : slD (fun z : Int => [.int .i64 z]) l = slI l := by simp [slD, slI, ← List.map_eq_flatMap]
namespace epochs
set_option maxRecDepth 100000 in
theorem lifted (os : Os) (started : os.Started) (H : Type) (enc : TypeId × Value → H) :
    ReturnsInHanded {} Try.checked os 3 .any (Rows.epochsSpec.pre6 enc Try.prog Try.f3 Rows.epochsRow.domain false) (Rows.epochsSpec.post enc Try.prog Try.f3 false true false false) := by
  refine law_row (C := Try.checked) own started (by kernel_rfl) Try.func3 rfl (fun ds h => ?_) rfl Try.underlying4 laid (of_decide_eq_true (by kernel_rfl))
    (ChangeSpec.witness6 (enc := enc) (C := Try.checked) false ⟨#[], #[.int .i64 0, .slice none 0 0], []⟩ 8 (by kernel_rfl) (by kernel_rfl) (by kernel_rfl) (by kernel_rfl)) (fun W base args ds p hA hval hsz => ?_)
  · match ds, h with
    | [_, _], _ => rfl
  · rw [show Try.f3.params.toList = [3, 22] from rfl] at hA
    obtain ⟨v0, vs0, d0, ds0, p0, q0, rfl, rfl, rfl, h0, r0⟩ := trodAll_cons hA
    obtain ⟨v1, vs1, d1, ds1, p1, q1, rfl, rfl, rfl, h1, r1⟩ := trodAll_cons r0
    obtain ⟨rfl, rfl, rfl⟩ := trodAll_nil r1
    obtain ⟨a0, rfl, rfl, rfl, w0⟩ := open_int Try.underlying3 (hval 0 3 v0 rfl rfl) h0
    have g0 : Rep (snap W) (.int .i64 a0) (.int .i64 a0) := by simp only [Rep]
    obtain ⟨aa1, ll1, cc1, rfl⟩ := okWide_slice Try.underlying22 (hval 1 22 v1 rfl rfl)
    obtain ⟨a1, g1⟩ := Opens.val (Opens.slice (opAct W) Try.underlying22 (n := 3) (by kernel_rfl) (by decide)) rfl h1
    exact law_mc (Epochs_pc a0 a1) (RepL.cons g0 (RepL.cons g1 (RepL.nil _)))
theorem over : Rows.epochsRow.holds Try.pinned (OpenSpec.ofChange Rows.epochsSpec) :=
  OpenClaim.holds_of_wide 3 Try.f3 rfl rfl rfl rfl rfl rfl rfl ⟨rfl, rfl, rfl, rfl, rfl⟩ rfl rfl rfl rfl rfl (by kernel_rfl) Try.func3 (by kernel_rfl)
    (of_decide_eq_true (by kernel_rfl)) (by unfold Func.isWrapper; first | (rw [if_pos (by decide +kernel)]; kernel_rfl) | (rw [if_neg (by decide +kernel)]; exact ⟨rfl, rfl⟩))
    (fun os started H enc _ => lifted os started H enc)
end epochs
theorem epochs_holds : Rows.EpochsSaid := epochs.over
namespace epochSafe
set_option maxRecDepth 100000 in
theorem lifted (os : Os) (started : os.Started) (H : Type) (enc : TypeId × Value → H) :
    ReturnsInHanded {} Try.checked os 4 .any (Rows.epochSafeSpec.pre6 enc Try.prog Try.f4 Rows.epochSafeRow.domain false) (Rows.epochSafeSpec.post enc Try.prog Try.f4 false true false false) := by
  refine law_row (C := Try.checked) own started (by kernel_rfl) Try.func4 rfl (fun ds h => ?_) rfl Try.underlying4 laid (of_decide_eq_true (by kernel_rfl))
    (ChangeSpec.witness6 (enc := enc) (C := Try.checked) false ⟨#[], #[.int .i64 0, .int .i64 0, .int .i64 0, .int .i64 0], []⟩ 8 (by kernel_rfl) (by kernel_rfl) (by kernel_rfl) (by kernel_rfl)) (fun W base args ds p hA hval hsz => ?_)
  · match ds, h with
    | [_, _, _, _], _ => rfl
  · rw [show Try.f4.params.toList = [3, 3, 3, 3] from rfl] at hA
    obtain ⟨v0, vs0, d0, ds0, p0, q0, rfl, rfl, rfl, h0, r0⟩ := trodAll_cons hA
    obtain ⟨v1, vs1, d1, ds1, p1, q1, rfl, rfl, rfl, h1, r1⟩ := trodAll_cons r0
    obtain ⟨v2, vs2, d2, ds2, p2, q2, rfl, rfl, rfl, h2, r2⟩ := trodAll_cons r1
    obtain ⟨v3, vs3, d3, ds3, p3, q3, rfl, rfl, rfl, h3, r3⟩ := trodAll_cons r2
    obtain ⟨rfl, rfl, rfl⟩ := trodAll_nil r3
    obtain ⟨a0, rfl, rfl, rfl, w0⟩ := open_int Try.underlying3 (hval 0 3 v0 rfl rfl) h0
    have g0 : Rep (snap W) (.int .i64 a0) (.int .i64 a0) := by simp only [Rep]
    obtain ⟨a1, rfl, rfl, rfl, w1⟩ := open_int Try.underlying3 (hval 1 3 v1 rfl rfl) h1
    have g1 : Rep (snap W) (.int .i64 a1) (.int .i64 a1) := by simp only [Rep]
    obtain ⟨a2, rfl, rfl, rfl, w2⟩ := open_int Try.underlying3 (hval 2 3 v2 rfl rfl) h2
    have g2 : Rep (snap W) (.int .i64 a2) (.int .i64 a2) := by simp only [Rep]
    obtain ⟨a3, rfl, rfl, rfl, w3⟩ := open_int Try.underlying3 (hval 3 3 v3 rfl rfl) h3
    have g3 : Rep (snap W) (.int .i64 a3) (.int .i64 a3) := by simp only [Rep]
    exact law_mc (EpochSafe_pc a0 a1 a2 a3) (RepL.cons g0 (RepL.cons g1 (RepL.cons g2 (RepL.cons g3 (RepL.nil _)))))
theorem over : Rows.epochSafeRow.holds Try.pinned (OpenSpec.ofChange Rows.epochSafeSpec) :=
  OpenClaim.holds_of_wide 4 Try.f4 rfl rfl rfl rfl rfl rfl rfl ⟨rfl, rfl, rfl, rfl, rfl⟩ rfl rfl rfl rfl rfl (by kernel_rfl) Try.func4 (by kernel_rfl)
    (of_decide_eq_true (by kernel_rfl)) (by unfold Func.isWrapper; first | (rw [if_pos (by decide +kernel)]; kernel_rfl) | (rw [if_neg (by decide +kernel)]; exact ⟨rfl, rfl⟩))
    (fun os started H enc _ => lifted os started H enc)
end epochSafe
theorem epochSafe_holds : Rows.EpochSafeSaid := epochSafe.over
namespace epochForms
set_option maxRecDepth 100000 in
theorem lifted (os : Os) (started : os.Started) (H : Type) (enc : TypeId × Value → H) :
    ReturnsInHanded {} Try.checked os 5 .any (Rows.epochFormsSpec.pre6 enc Try.prog Try.f5 Rows.epochFormsRow.domain false) (Rows.epochFormsSpec.post enc Try.prog Try.f5 false true false false) := by
  refine law_row (C := Try.checked) own started (by kernel_rfl) Try.func5 rfl (fun ds h => ?_) rfl Try.underlying4 laid (of_decide_eq_true (by kernel_rfl))
    (ChangeSpec.witness6 (enc := enc) (C := Try.checked) false ⟨#[], #[.int .i64 0, .int .i64 0], []⟩ 8 (by kernel_rfl) (by kernel_rfl) (by kernel_rfl) (by kernel_rfl)) (fun W base args ds p hA hval hsz => ?_)
  · match ds, h with
    | [_, _], _ => rfl
  · rw [show Try.f5.params.toList = [3, 3] from rfl] at hA
    obtain ⟨v0, vs0, d0, ds0, p0, q0, rfl, rfl, rfl, h0, r0⟩ := trodAll_cons hA
    obtain ⟨v1, vs1, d1, ds1, p1, q1, rfl, rfl, rfl, h1, r1⟩ := trodAll_cons r0
    obtain ⟨rfl, rfl, rfl⟩ := trodAll_nil r1
    obtain ⟨a0, rfl, rfl, rfl, w0⟩ := open_int Try.underlying3 (hval 0 3 v0 rfl rfl) h0
    have g0 : Rep (snap W) (.int .i64 a0) (.int .i64 a0) := by simp only [Rep]
    obtain ⟨a1, rfl, rfl, rfl, w1⟩ := open_int Try.underlying3 (hval 1 3 v1 rfl rfl) h1
    have g1 : Rep (snap W) (.int .i64 a1) (.int .i64 a1) := by simp only [Rep]
    exact law_mc (EpochForms_pc a0 a1) (RepL.cons g0 (RepL.cons g1 (RepL.nil _)))
theorem over : Rows.epochFormsRow.holds Try.pinned (OpenSpec.ofChange Rows.epochFormsSpec) :=
  OpenClaim.holds_of_wide 5 Try.f5 rfl rfl rfl rfl rfl rfl rfl ⟨rfl, rfl, rfl, rfl, rfl⟩ rfl rfl rfl rfl rfl (by kernel_rfl) Try.func5 (by kernel_rfl)
    (of_decide_eq_true (by kernel_rfl)) (by unfold Func.isWrapper; first | (rw [if_pos (by decide +kernel)]; kernel_rfl) | (rw [if_neg (by decide +kernel)]; exact ⟨rfl, rfl⟩))
    (fun os started H enc _ => lifted os started H enc)
end epochForms
theorem epochForms_holds : Rows.EpochFormsSaid := epochForms.over
namespace epochApart
set_option maxRecDepth 100000 in
theorem lifted (os : Os) (started : os.Started) (H : Type) (enc : TypeId × Value → H) :
    ReturnsInHanded {} Try.checked os 6 .any (Rows.epochApartSpec.pre6 enc Try.prog Try.f6 Rows.epochApartRow.domain false) (Rows.epochApartSpec.post enc Try.prog Try.f6 false true false false) := by
  refine law_row (C := Try.checked) own started (by kernel_rfl) Try.func6 rfl (fun ds h => ?_) rfl Try.underlying4 laid (of_decide_eq_true (by kernel_rfl))
    (ChangeSpec.witness6 (enc := enc) (C := Try.checked) false ⟨#[], #[.int .i64 0, .slice none 0 0, .int .i64 0], []⟩ 8 (by kernel_rfl) (by kernel_rfl) (by kernel_rfl) (by kernel_rfl)) (fun W base args ds p hA hval hsz => ?_)
  · match ds, h with
    | [_, _, _], _ => rfl
  · rw [show Try.f6.params.toList = [3, 47, 3] from rfl] at hA
    obtain ⟨v0, vs0, d0, ds0, p0, q0, rfl, rfl, rfl, h0, r0⟩ := trodAll_cons hA
    obtain ⟨v1, vs1, d1, ds1, p1, q1, rfl, rfl, rfl, h1, r1⟩ := trodAll_cons r0
    obtain ⟨v2, vs2, d2, ds2, p2, q2, rfl, rfl, rfl, h2, r2⟩ := trodAll_cons r1
    obtain ⟨rfl, rfl, rfl⟩ := trodAll_nil r2
    obtain ⟨a0, rfl, rfl, rfl, w0⟩ := open_int Try.underlying3 (hval 0 3 v0 rfl rfl) h0
    have g0 : Rep (snap W) (.int .i64 a0) (.int .i64 a0) := by simp only [Rep]
    obtain ⟨aa1, ll1, cc1, rfl⟩ := okWide_slice Try.underlying47 (hval 1 47 v1 rfl rfl)
    obtain ⟨a1, g1⟩ := Opens.val (Opens.slice (opInt W) Try.underlying47 (n := 1) (by kernel_rfl) (by decide)) rfl h1
    rw [slD_ints] at g1
    obtain ⟨a2, rfl, rfl, rfl, w2⟩ := open_int Try.underlying3 (hval 2 3 v2 rfl rfl) h2
    have g2 : Rep (snap W) (.int .i64 a2) (.int .i64 a2) := by simp only [Rep]
    exact law_mc (EpochApart_pc a0 a1 a2) (RepL.cons g0 (RepL.cons g1 (RepL.cons g2 (RepL.nil _))))
theorem over : Rows.epochApartRow.holds Try.pinned (OpenSpec.ofChange Rows.epochApartSpec) :=
  OpenClaim.holds_of_wide 6 Try.f6 rfl rfl rfl rfl rfl rfl rfl ⟨rfl, rfl, rfl, rfl, rfl⟩ rfl rfl rfl rfl rfl (by kernel_rfl) Try.func6 (by kernel_rfl)
    (of_decide_eq_true (by kernel_rfl)) (by unfold Func.isWrapper; first | (rw [if_pos (by decide +kernel)]; kernel_rfl) | (rw [if_neg (by decide +kernel)]; exact ⟨rfl, rfl⟩))
    (fun os started H enc _ => lifted os started H enc)
end epochApart
theorem epochApart_holds : Rows.EpochApartSaid := epochApart.over
end Go.Proofs.Ytggejjeneoaakaa
