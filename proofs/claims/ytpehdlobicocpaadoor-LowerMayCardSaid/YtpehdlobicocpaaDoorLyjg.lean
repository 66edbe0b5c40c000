/- Sd: joined texts of this claim. No condition. -/
import Derived.Test.YtpehdlobicocpaaDoorLyjc
/- The functions of this seat as statements, printed by Lean's evaluation of the translation, and held against it. No condition. -/
namespace Go.Proofs.YtpehdlobicocpaaDoor.Sx
open Go Go.Proofs Go.Proofs.YtpehdlobicocpaaDoor.Mw
set_option linter.unusedVariables false
set_option maxRecDepth 20000
/-! swage/swagelaw0.Num -/
abbrev F_swagelaw0_Num : Nat := 12
def G_swagelaw0_Num : List Nat := [0, 2]
def MU_swagelaw0_Num (d : Nat) : Bool := ([] : List Nat).contains d
noncomputable def S_swagelaw0_Num : St := (.seq (.sets [(2, (.k (.int .i64 0)))] []) (.seq (.sets [(2, (.s 0))] []) .ret))
noncomputable def R_swagelaw0_Num : Ex := (.s 2)
theorem dec_swagelaw0_Num : opt (dec Tryd.prog (fun f => roL.contains f) (fun t => G_swagelaw0_Num.contains t) 4 (Tryd.f12.body.getD .skip)) = S_swagelaw0_Num := by kernel_rfl
theorem res_swagelaw0_Num : resE Tryd.prog (fun t => G_swagelaw0_Num.contains t) Tryd.f12.results.toList = some R_swagelaw0_Num := by kernel_rfl
theorem pc_swagelaw0_Num {ds : List DV} {R : DV → DMem → Prop} {M : DMem} (hl : ds.length ≤ 4)
    (h : wpD Tryd.prog MU_swagelaw0_Num (fun f => roL.contains f) (fun t => G_swagelaw0_Num.contains t) 4 S_swagelaw0_Num (fun δ M' => ∃ d, evD Tryd.prog M' δ R_swagelaw0_Num = some d ∧ R d M') (fun _ _ _ => False) (fun δ M' => ∃ d, evD Tryd.prog M' δ R_swagelaw0_Num = some d ∧ R d M') (argD ds) M) :
    PC Tryd.prog F_swagelaw0_Num ds R M :=
  pc_opt Tryd.func12 (c := Tryd.f12.body.getD .skip) (by kernel_rfl) (by kernel_rfl) (by kernel_rfl) dec_swagelaw0_Num res_swagelaw0_Num _ hl h
/-! swage/swagelaw0.SameIr -/
abbrev F_swagelaw0_SameIr : Nat := 13
def G_swagelaw0_SameIr : List Nat := [0, 1, 2, 3, 4]
def MU_swagelaw0_SameIr (d : Nat) : Bool := ([] : List Nat).contains d
noncomputable def S_swagelaw0_SameIr : St := (.seq (.act (some 2) (.box 28 (.tmp 0))) (.seq (.act (some 3) (.box 28 (.tmp 1))) (.seq (.sets [(4, (.k (.bool false)))] []) (.seq (.sets [(4, (.and (.and (.and (.and (.and (.and (.and (.and (.bin .eql (.ld (.fa 0 (.s 2))) (.ld (.fa 0 (.s 3)))) (.bin .eql (.ld (.fa 1 (.s 2))) (.ld (.fa 1 (.s 3))))) (.bin .eql (.ld (.fa 2 (.s 2))) (.ld (.fa 2 (.s 3))))) (.bin .eql (.ld (.fa 3 (.s 2))) (.ld (.fa 3 (.s 3))))) (.bin .eql (.ld (.fa 4 (.s 2))) (.ld (.fa 4 (.s 3))))) (.bin .eql (.ld (.fa 6 (.s 2))) (.ld (.fa 6 (.s 3))))) (.bin .eql (.ld (.fa 7 (.s 2))) (.ld (.fa 7 (.s 3))))) (.bin .eql (.ld (.fa 8 (.s 2))) (.ld (.fa 8 (.s 3))))) (.call 35 (.cs (.ld (.fa 5 (.s 2))) (.cs (.ld (.fa 5 (.s 3))) .nl)))))] []) .ret))))
noncomputable def R_swagelaw0_SameIr : Ex := (.s 4)
theorem dec_swagelaw0_SameIr : opt (dec Tryd.prog (fun f => roL.contains f) (fun t => G_swagelaw0_SameIr.contains t) 66 (Tryd.f13.body.getD .skip)) = S_swagelaw0_SameIr := by kernel_rfl
theorem res_swagelaw0_SameIr : resE Tryd.prog (fun t => G_swagelaw0_SameIr.contains t) Tryd.f13.results.toList = some R_swagelaw0_SameIr := by kernel_rfl
theorem pc_swagelaw0_SameIr {ds : List DV} {R : DV → DMem → Prop} {M : DMem} (hl : ds.length ≤ 66)
    (h : wpD Tryd.prog MU_swagelaw0_SameIr (fun f => roL.contains f) (fun t => G_swagelaw0_SameIr.contains t) 66 S_swagelaw0_SameIr (fun δ M' => ∃ d, evD Tryd.prog M' δ R_swagelaw0_SameIr = some d ∧ R d M') (fun _ _ _ => False) (fun δ M' => ∃ d, evD Tryd.prog M' δ R_swagelaw0_SameIr = some d ∧ R d M') (argD ds) M) :
    PC Tryd.prog F_swagelaw0_SameIr ds R M :=
  pc_opt Tryd.func13 (c := Tryd.f13.body.getD .skip) (by kernel_rfl) (by kernel_rfl) (by kernel_rfl) dec_swagelaw0_SameIr res_swagelaw0_SameIr _ hl h
/-! swage/swagelaw0.SameSrcs -/
abbrev F_swagelaw0_SameInts : Nat := 35
def G_swagelaw0_SameInts : List Nat := [0, 1, 4, 5, 10, 14, 25]
def MU_swagelaw0_SameInts (d : Nat) : Bool := ([] : List Nat).contains d
noncomputable def S1_swagelaw0_SameInts : St := (.seq (.sets [(14, (.bin .lss (.s 5) (.len (.s 0))))] []) (.seq (.ite (.s 14) .nop (.exit 0)) (.seq (.block 1 (.seq (.sets [(25, (.bin .neq (.ld (.ix 1 (.s 0) (.s 5))) (.ld (.ix 1 (.s 1) (.s 5)))))] []) (.ite (.s 25) (.seq (.sets [(4, (.k (.bool false)))] []) .ret) .nop))) (.sets [(5, (.bin .add (.s 5) (.k (.int .i64 1))))] []))))
noncomputable def S_swagelaw0_SameInts : St := (.seq (.sets [(4, (.k (.bool false)))] []) (.seq (.sets [(10, (.bin .neq (.len (.s 0)) (.len (.s 1))))] []) (.seq (.ite (.s 10) (.seq (.sets [(4, (.k (.bool false)))] []) .ret) .nop) (.seq (.sets [(5, (.k (.int .i64 0)))] []) (.seq (.block 0 (.loop S1_swagelaw0_SameInts)) (.seq (.sets [(4, (.k (.bool true)))] []) .ret))))))
noncomputable def R_swagelaw0_SameInts : Ex := (.s 4)
theorem dec_swagelaw0_SameInts : opt (dec Tryd.prog (fun f => roL.contains f) (fun t => G_swagelaw0_SameInts.contains t) 26 (Tryd.f35.body.getD .skip)) = S_swagelaw0_SameInts := by kernel_rfl
theorem res_swagelaw0_SameInts : resE Tryd.prog (fun t => G_swagelaw0_SameInts.contains t) Tryd.f35.results.toList = some R_swagelaw0_SameInts := by kernel_rfl
theorem pc_swagelaw0_SameInts {ds : List DV} {R : DV → DMem → Prop} {M : DMem} (hl : ds.length ≤ 26)
    (h : wpD Tryd.prog MU_swagelaw0_SameInts (fun f => roL.contains f) (fun t => G_swagelaw0_SameInts.contains t) 26 S_swagelaw0_SameInts (fun δ M' => ∃ d, evD Tryd.prog M' δ R_swagelaw0_SameInts = some d ∧ R d M') (fun _ _ _ => False) (fun δ M' => ∃ d, evD Tryd.prog M' δ R_swagelaw0_SameInts = some d ∧ R d M') (argD ds) M) :
    PC Tryd.prog F_swagelaw0_SameInts ds R M :=
  pc_opt Tryd.func35 (c := Tryd.f35.body.getD .skip) (by kernel_rfl) (by kernel_rfl) (by kernel_rfl) dec_swagelaw0_SameInts res_swagelaw0_SameInts _ hl h
/-! swage/swagelaw0.CopyCode -/
end Go.Proofs.YtpehdlobicocpaaDoor.Sx
