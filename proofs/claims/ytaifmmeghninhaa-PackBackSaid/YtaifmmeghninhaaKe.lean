/- errors.Is, asked for what is not there. No condition. -/
import Derived.Test.YtaifmmeghninhaaKd
import Derived.WalkKit
import Derived.LaidEql
import Derived.RowKitTokens
namespace Go.Proofs.Ytaifmmeghninhaa.Pf
open Go Go.RowKit Go.Proofs Go.Extern.Stop Go.Stop Go.Extern Go.Proofs.Ytaifmmeghninhaa.Mw Go.Proofs.Ytaifmmeghninhaa.Sx
set_option linter.unusedVariables false
set_option maxRecDepth 20000
set_option linter.unusedSimpArgs false
theorem is_typeOf (v : Value) (w : World) : (ReflectliteType.typeOf #[.iface 26 v]).run Try.prog w = .ok (.iface 94 (.agg #[.pointer (some ⟨0, 26, none⟩)])) w := by kernel_rfl
theorem is_comparable (w : World) : ((ReflectliteType.method fun t => do Rtype.noPackHeld "Comparable" t; (fun a => Value.bool a.comparable) <$> typeInfo t) #[.agg #[.pointer (some ⟨0, 26, none⟩)]]).run Try.prog w = .ok (.bool true) w := by kernel_rfl
theorem is_methodComparable (v : Value) (w : World) : (Go.method 236 94 v "Comparable").run Try.prog w = .ok (72, v) w := by kernel_rfl
theorem is_callable : Callable Try.prog F_errors_Is := ⟨_, Try.func25, by kernel_rfl, by kernel_rfl, by kernel_rfl⟩
theorem Is_nil (y : Value) (w : World) : Calls Try.prog F_errors_Is #[.nilIface, .iface 26 y] w fun e w' => e = .returned (.bool false) ∧ w' = w := by
  have e1 := run_eql_nil_nil (P := Try.prog) (w := w) 61 u61
  have e3 := run_eql_iface_nil_left (P := Try.prog) (w := w) 26 y Try.underlying61
  go_enter Try.func25, Try.ntmps25
  go_wp2
  go_ret
  exact ⟨rfl, rfl⟩
theorem Is_held (x y : Value) (w : World) {Q : Value → World → Prop} (h : Calls Try.prog 37 #[.iface 90 x, .iface 26 y, .bool true] w fun e w' => ∃ v, e = .returned v ∧ Q v w') : Calls Try.prog F_errors_Is #[.iface 90 x, .iface 26 y] w fun e w' => ∃ v, e = .returned v ∧ Q v w' := by
  have e2 := run_eql_held_nil (P := Try.prog) (w := w) 61 90 x u61
  have e3 := run_eql_held_nil (P := Try.prog) (w := w) 61 26 y u61
  have h36 := @run_callFunc_extern Try.prog 36 _ ReflectliteType.typeOf Try.func36 (by kernel_rfl) (by kernel_rfl) (by kernel_rfl) (by kernel_rfl)
  have h72 := @run_callFunc_extern Try.prog 72 _ (ReflectliteType.method fun t => do Rtype.noPackHeld "Comparable" t; pure (.bool (← typeInfo t).comparable)) Try.func72 (by kernel_rfl) (by kernel_rfl) (by kernel_rfl) (by kernel_rfl)
  have tT := is_typeOf
  have cT := is_comparable
  have mR := is_methodComparable
  go_enter Try.func25, Try.ntmps25
  go_wp2_with (go_at_call 37; refine h.mono ?_; rintro e w' ⟨v, rfl, hq⟩)

  go_ret
  exact ⟨v, rfl, hq⟩
def hasE (l : List ByteArray) : Bool := !l.isEmpty
theorem rep_two {m : Mem} {d e : DV} {vals : List Value} (h : RepL m [d, e] vals) : ∃ x y, vals = [x, y] ∧ Rep m d x ∧ Rep m e y := by
  obtain ⟨h1, h2⟩ := h
  match vals, h2 with
  | [x, y], _ => exact ⟨x, y, rfl, h1.1, h1.2.1⟩
theorem Is_pc (l : List ByteArray) {R : DV → DMem → Prop} {M : DMem} (hR : R (.bool (hasE l)) M) : PC Try.prog F_errors_Is [errD l, formD] R M := by
  intro F m vals hM hv hF ho
  obtain ⟨x, y, rfl, hx, hy⟩ := rep_two hv
  have hy0 := hy
  simp only [formD, Rep] at hy
  obtain ⟨_, rfl, rfl⟩ := hy
  refine ⟨is_callable, fun w0 w hs => ?_⟩
  cases l with
  | nil =>
    simp only [errD, Rep] at hx
    subst hx
    exact (Is_nil _ w).mono fun e w' ⟨he, hw⟩ => ⟨_, m, he, hw ▸ hs, .bool false, M, by simp only [Rep], hM, Fin.refl m, hF, ho, hR⟩
  | cons s l =>
    have h := is_err s l (R := R) (M := M) hR F m
    have hx0 := hx
    simp only [errD, Rep] at hx
    obtain ⟨v, rfl, _⟩ := hx
    refine (Is_held _ _ w (Q := fun v w' => ∃ m', Sat w0 w' m' ∧ ∃ d M', Rep m' d v ∧ RepM M' m' ∧ Mw.Fin m m' ∧ Grows F m' ∧ (∀ b, F b ≠ none → M' b = none) ∧ R d M') (((h [_, _, .bool true] hM (RepL.cons hx0 (RepL.cons hy0 (RepL.cons (by simp only [Rep]) (RepL.nil m)))) hF ho).2 w0 w hs).mono fun e w' ⟨v, m', he, a, b⟩ => ⟨v, he, m', a, b⟩)).mono fun e w' ⟨v, he, m', a, b⟩ => ⟨v, m', he, a, b⟩
end Go.Proofs.Ytaifmmeghninhaa.Pf
