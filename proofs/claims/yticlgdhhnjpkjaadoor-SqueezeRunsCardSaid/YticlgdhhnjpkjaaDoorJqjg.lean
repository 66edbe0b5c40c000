/- Sd: joined texts of this claim. No condition. -/
import Derived.Test.YticlgdhhnjpkjaaDoorJqjc
namespace Go.Proofs.YticlgdhhnjpkjaaDoor.Sx
open Go Go.Proofs Go.Proofs.YticlgdhhnjpkjaaDoor.Mw
set_option linter.unusedVariables false
set_option maxRecDepth 20000
abbrev F_swagelaw0_Num : Nat := 11
def G_swagelaw0_Num : List Nat := [0, 2]
def MU_swagelaw0_Num (d : Nat) : Bool := ([] : List Nat).contains d
noncomputable def S_swagelaw0_Num : St := (.seq (.sets [(2, (.k (.int .i64 0)))] []) (.seq (.sets [(2, (.s 0))] []) .ret))
noncomputable def R_swagelaw0_Num : Ex := (.s 2)
theorem dec_swagelaw0_Num : opt (dec Tryd.prog (fun f => roL.contains f) (fun t => G_swagelaw0_Num.contains t) 4 (Tryd.f11.body.getD .skip)) = S_swagelaw0_Num := by kernel_rfl
theorem res_swagelaw0_Num : resE Tryd.prog (fun t => G_swagelaw0_Num.contains t) Tryd.f11.results.toList = some R_swagelaw0_Num := by kernel_rfl
theorem pc_swagelaw0_Num {ds : List DV} {R : DV → DMem → Prop} {M : DMem} (hl : ds.length ≤ 4)
    (h : wpD Tryd.prog MU_swagelaw0_Num (fun f => roL.contains f) (fun t => G_swagelaw0_Num.contains t) 4 S_swagelaw0_Num (fun δ M' => ∃ d, evD Tryd.prog M' δ R_swagelaw0_Num = some d ∧ R d M') (fun _ _ _ => False) (fun δ M' => ∃ d, evD Tryd.prog M' δ R_swagelaw0_Num = some d ∧ R d M') (argD ds) M) :
    PC Tryd.prog F_swagelaw0_Num ds R M :=
  pc_opt Tryd.func11 (c := Tryd.f11.body.getD .skip) (by kernel_rfl) (by kernel_rfl) (by kernel_rfl) dec_swagelaw0_Num res_swagelaw0_Num _ hl h
abbrev F_swagelaw0_SameCode : Nat := 14
def G_swagelaw0_SameCode : List Nat := [0, 1, 2, 3, 4, 5, 6, 36, 41, 55, 60, 76]
def MU_swagelaw0_SameCode (d : Nat) : Bool := ([] : List Nat).contains d
noncomputable def S1_swagelaw0_SameCode : St := (.seq (.sets [(41, (.bin .lss (.s 5) (.len (.ld (.fa 2 (.s 2))))))] []) (.seq (.ite (.s 41) .nop (.exit 0)) (.seq (.block 1 (.seq (.sets [(55, (.un .not (.call 17 (.cs (.ldn 9 (.ix 9 (.ld (.fa 2 (.s 2))) (.s 5))) (.cs (.ldn 9 (.ix 9 (.ld (.fa 2 (.s 3))) (.s 5))) .nl)))))] []) (.ite (.s 55) (.seq (.sets [(4, (.k (.bool false)))] []) .ret) .nop))) (.sets [(5, (.bin .add (.s 5) (.k (.int .i64 1))))] []))))
noncomputable def S2_swagelaw0_SameCode : St := (.seq (.sets [(60, (.bin .lss (.s 6) (.len (.ld (.fa 3 (.s 2))))))] []) (.seq (.ite (.s 60) .nop (.exit 2)) (.seq (.block 3 (.seq (.sets [(76, (.un .not (.call 35 (.cs (.ld (.fa 0 (.ix 1 (.ld (.fa 3 (.s 2))) (.s 6)))) (.cs (.ld (.fa 0 (.ix 1 (.ld (.fa 3 (.s 3))) (.s 6)))) .nl)))))] []) (.ite (.s 76) (.seq (.sets [(4, (.k (.bool false)))] []) .ret) .nop))) (.sets [(6, (.bin .add (.s 6) (.k (.int .i64 1))))] []))))
noncomputable def S3_swagelaw0_SameCode : St := (.seq (.sets [(6, (.k (.int .i64 0)))] []) (.seq (.block 2 (.loop S2_swagelaw0_SameCode)) (.seq (.sets [(4, (.k (.bool true)))] []) .ret)))
noncomputable def S_swagelaw0_SameCode : St := (.seq (.act (some 2) (.box 28 (.tmp 0))) (.seq (.act (some 3) (.box 28 (.tmp 1))) (.seq (.sets [(4, (.k (.bool false)))] []) (.seq (.sets [(36, (.or (.or (.or (.bin .neq (.ld (.fa 0 (.s 2))) (.ld (.fa 0 (.s 3)))) (.bin .neq (.ld (.fa 1 (.s 2))) (.ld (.fa 1 (.s 3))))) (.bin .neq (.len (.ld (.fa 2 (.s 2)))) (.len (.ld (.fa 2 (.s 3)))))) (.bin .neq (.len (.ld (.fa 3 (.s 2)))) (.len (.ld (.fa 3 (.s 3)))))))] []) (.seq (.ite (.s 36) (.seq (.sets [(4, (.k (.bool false)))] []) .ret) .nop) (.seq (.sets [(5, (.k (.int .i64 0)))] []) (.seq (.block 0 (.loop S1_swagelaw0_SameCode)) S3_swagelaw0_SameCode)))))))
noncomputable def R_swagelaw0_SameCode : Ex := (.s 4)
theorem dec_swagelaw0_SameCode : opt (dec Tryd.prog (fun f => roL.contains f) (fun t => G_swagelaw0_SameCode.contains t) 77 (Tryd.f14.body.getD .skip)) = S_swagelaw0_SameCode := by kernel_rfl
theorem res_swagelaw0_SameCode : resE Tryd.prog (fun t => G_swagelaw0_SameCode.contains t) Tryd.f14.results.toList = some R_swagelaw0_SameCode := by kernel_rfl
theorem pc_swagelaw0_SameCode {ds : List DV} {R : DV → DMem → Prop} {M : DMem} (hl : ds.length ≤ 77)
    (h : wpD Tryd.prog MU_swagelaw0_SameCode (fun f => roL.contains f) (fun t => G_swagelaw0_SameCode.contains t) 77 S_swagelaw0_SameCode (fun δ M' => ∃ d, evD Tryd.prog M' δ R_swagelaw0_SameCode = some d ∧ R d M') (fun _ _ _ => False) (fun δ M' => ∃ d, evD Tryd.prog M' δ R_swagelaw0_SameCode = some d ∧ R d M') (argD ds) M) :
    PC Tryd.prog F_swagelaw0_SameCode ds R M :=
  pc_opt Tryd.func14 (c := Tryd.f14.body.getD .skip) (by kernel_rfl) (by kernel_rfl) (by kernel_rfl) dec_swagelaw0_SameCode res_swagelaw0_SameCode _ hl h
abbrev F_swagelaw0_SameIr : Nat := 17
def G_swagelaw0_SameIr : List Nat := [0, 1, 2, 3, 4]
def MU_swagelaw0_SameIr (d : Nat) : Bool := ([] : List Nat).contains d
noncomputable def S_swagelaw0_SameIr : St := (.seq (.act (some 2) (.box 38 (.tmp 0))) (.seq (.act (some 3) (.box 38 (.tmp 1))) (.seq (.sets [(4, (.k (.bool false)))] []) (.seq (.sets [(4, (.and (.and (.and (.and (.and (.and (.and (.and (.bin .eql (.ld (.fa 0 (.s 2))) (.ld (.fa 0 (.s 3)))) (.bin .eql (.ld (.fa 1 (.s 2))) (.ld (.fa 1 (.s 3))))) (.bin .eql (.ld (.fa 2 (.s 2))) (.ld (.fa 2 (.s 3))))) (.bin .eql (.ld (.fa 3 (.s 2))) (.ld (.fa 3 (.s 3))))) (.bin .eql (.ld (.fa 4 (.s 2))) (.ld (.fa 4 (.s 3))))) (.bin .eql (.ld (.fa 6 (.s 2))) (.ld (.fa 6 (.s 3))))) (.bin .eql (.ld (.fa 7 (.s 2))) (.ld (.fa 7 (.s 3))))) (.bin .eql (.ld (.fa 8 (.s 2))) (.ld (.fa 8 (.s 3))))) (.call 42 (.cs (.ld (.fa 5 (.s 2))) (.cs (.ld (.fa 5 (.s 3))) .nl)))))] []) .ret))))
noncomputable def R_swagelaw0_SameIr : Ex := (.s 4)
theorem dec_swagelaw0_SameIr : opt (dec Tryd.prog (fun f => roL.contains f) (fun t => G_swagelaw0_SameIr.contains t) 66 (Tryd.f17.body.getD .skip)) = S_swagelaw0_SameIr := by kernel_rfl
theorem res_swagelaw0_SameIr : resE Tryd.prog (fun t => G_swagelaw0_SameIr.contains t) Tryd.f17.results.toList = some R_swagelaw0_SameIr := by kernel_rfl
theorem pc_swagelaw0_SameIr {ds : List DV} {R : DV → DMem → Prop} {M : DMem} (hl : ds.length ≤ 66)
    (h : wpD Tryd.prog MU_swagelaw0_SameIr (fun f => roL.contains f) (fun t => G_swagelaw0_SameIr.contains t) 66 S_swagelaw0_SameIr (fun δ M' => ∃ d, evD Tryd.prog M' δ R_swagelaw0_SameIr = some d ∧ R d M') (fun _ _ _ => False) (fun δ M' => ∃ d, evD Tryd.prog M' δ R_swagelaw0_SameIr = some d ∧ R d M') (argD ds) M) :
    PC Tryd.prog F_swagelaw0_SameIr ds R M :=
  pc_opt Tryd.func17 (c := Tryd.f17.body.getD .skip) (by kernel_rfl) (by kernel_rfl) (by kernel_rfl) dec_swagelaw0_SameIr res_swagelaw0_SameIr _ hl h
abbrev F_swagelaw0_SameSrcs : Nat := 23
def G_swagelaw0_SameSrcs : List Nat := [0, 1, 4, 5, 10, 14, 25]
def MU_swagelaw0_SameSrcs (d : Nat) : Bool := ([] : List Nat).contains d
noncomputable def S1_swagelaw0_SameSrcs : St := (.seq (.sets [(14, (.bin .lss (.s 5) (.len (.s 0))))] []) (.seq (.ite (.s 14) .nop (.exit 0)) (.seq (.block 1 (.seq (.sets [(25, (.eqs true 102 (.ldn 2 (.ix 2 (.s 0) (.s 5))) (.ldn 2 (.ix 2 (.s 1) (.s 5)))))] []) (.ite (.s 25) (.seq (.sets [(4, (.k (.bool false)))] []) .ret) .nop))) (.sets [(5, (.bin .add (.s 5) (.k (.int .i64 1))))] []))))
noncomputable def S_swagelaw0_SameSrcs : St := (.seq (.sets [(4, (.k (.bool false)))] []) (.seq (.sets [(10, (.bin .neq (.len (.s 0)) (.len (.s 1))))] []) (.seq (.ite (.s 10) (.seq (.sets [(4, (.k (.bool false)))] []) .ret) .nop) (.seq (.sets [(5, (.k (.int .i64 0)))] []) (.seq (.block 0 (.loop S1_swagelaw0_SameSrcs)) (.seq (.sets [(4, (.k (.bool true)))] []) .ret))))))
noncomputable def R_swagelaw0_SameSrcs : Ex := (.s 4)
theorem dec_swagelaw0_SameSrcs : opt (dec Tryd.prog (fun f => roL.contains f) (fun t => G_swagelaw0_SameSrcs.contains t) 26 (Tryd.f23.body.getD .skip)) = S_swagelaw0_SameSrcs := by kernel_rfl
theorem res_swagelaw0_SameSrcs : resE Tryd.prog (fun t => G_swagelaw0_SameSrcs.contains t) Tryd.f23.results.toList = some R_swagelaw0_SameSrcs := by kernel_rfl
theorem pc_swagelaw0_SameSrcs {ds : List DV} {R : DV → DMem → Prop} {M : DMem} (hl : ds.length ≤ 26)
    (h : wpD Tryd.prog MU_swagelaw0_SameSrcs (fun f => roL.contains f) (fun t => G_swagelaw0_SameSrcs.contains t) 26 S_swagelaw0_SameSrcs (fun δ M' => ∃ d, evD Tryd.prog M' δ R_swagelaw0_SameSrcs = some d ∧ R d M') (fun _ _ _ => False) (fun δ M' => ∃ d, evD Tryd.prog M' δ R_swagelaw0_SameSrcs = some d ∧ R d M') (argD ds) M) :
    PC Tryd.prog F_swagelaw0_SameSrcs ds R M :=
  pc_opt Tryd.func23 (c := Tryd.f23.body.getD .skip) (by kernel_rfl) (by kernel_rfl) (by kernel_rfl) dec_swagelaw0_SameSrcs res_swagelaw0_SameSrcs _ hl h
abbrev F_swagelaw0_sameParts : Nat := 35
def G_swagelaw0_sameParts : List Nat := [0, 1, 4, 5, 10, 14, 68]
def MU_swagelaw0_sameParts (d : Nat) : Bool := ([] : List Nat).contains d
noncomputable def S1_swagelaw0_sameParts : St := (.seq (.sets [(14, (.bin .lss (.s 5) (.len (.s 0))))] []) (.seq (.ite (.s 14) .nop (.exit 0)) (.seq (.block 1 (.seq (.sets [(68, (.or (.or (.or (.bin .neq (.ld (.fa 0 (.ix 4 (.s 0) (.s 5)))) (.ld (.fa 0 (.ix 4 (.s 1) (.s 5))))) (.bin .neq (.ld (.fa 1 (.ix 4 (.s 0) (.s 5)))) (.ld (.fa 1 (.ix 4 (.s 1) (.s 5)))))) (.un .not (.call 23 (.cs (.ld (.fa 2 (.ix 4 (.s 0) (.s 5)))) (.cs (.ld (.fa 2 (.ix 4 (.s 1) (.s 5)))) .nl))))) (.un .not (.call 23 (.cs (.ld (.fa 3 (.ix 4 (.s 0) (.s 5)))) (.cs (.ld (.fa 3 (.ix 4 (.s 1) (.s 5)))) .nl))))))] []) (.ite (.s 68) (.seq (.sets [(4, (.k (.bool false)))] []) .ret) .nop))) (.sets [(5, (.bin .add (.s 5) (.k (.int .i64 1))))] []))))
noncomputable def S_swagelaw0_sameParts : St := (.seq (.sets [(4, (.k (.bool false)))] []) (.seq (.sets [(10, (.bin .neq (.len (.s 0)) (.len (.s 1))))] []) (.seq (.ite (.s 10) (.seq (.sets [(4, (.k (.bool false)))] []) .ret) .nop) (.seq (.sets [(5, (.k (.int .i64 0)))] []) (.seq (.block 0 (.loop S1_swagelaw0_sameParts)) (.seq (.sets [(4, (.k (.bool true)))] []) .ret))))))
noncomputable def R_swagelaw0_sameParts : Ex := (.s 4)
theorem dec_swagelaw0_sameParts : opt (dec Tryd.prog (fun f => roL.contains f) (fun t => G_swagelaw0_sameParts.contains t) 69 (Tryd.f35.body.getD .skip)) = S_swagelaw0_sameParts := by kernel_rfl
theorem res_swagelaw0_sameParts : resE Tryd.prog (fun t => G_swagelaw0_sameParts.contains t) Tryd.f35.results.toList = some R_swagelaw0_sameParts := by kernel_rfl
theorem pc_swagelaw0_sameParts {ds : List DV} {R : DV → DMem → Prop} {M : DMem} (hl : ds.length ≤ 69)
    (h : wpD Tryd.prog MU_swagelaw0_sameParts (fun f => roL.contains f) (fun t => G_swagelaw0_sameParts.contains t) 69 S_swagelaw0_sameParts (fun δ M' => ∃ d, evD Tryd.prog M' δ R_swagelaw0_sameParts = some d ∧ R d M') (fun _ _ _ => False) (fun δ M' => ∃ d, evD Tryd.prog M' δ R_swagelaw0_sameParts = some d ∧ R d M') (argD ds) M) :
    PC Tryd.prog F_swagelaw0_sameParts ds R M :=
  pc_opt Tryd.func35 (c := Tryd.f35.body.getD .skip) (by kernel_rfl) (by kernel_rfl) (by kernel_rfl) dec_swagelaw0_sameParts res_swagelaw0_sameParts _ hl h
abbrev F_swagelaw0_SameInts : Nat := 42
def G_swagelaw0_SameInts : List Nat := [0, 1, 4, 5, 10, 14, 25]
def MU_swagelaw0_SameInts (d : Nat) : Bool := ([] : List Nat).contains d
noncomputable def S1_swagelaw0_SameInts : St := (.seq (.sets [(14, (.bin .lss (.s 5) (.len (.s 0))))] []) (.seq (.ite (.s 14) .nop (.exit 0)) (.seq (.block 1 (.seq (.sets [(25, (.bin .neq (.ld (.ix 1 (.s 0) (.s 5))) (.ld (.ix 1 (.s 1) (.s 5)))))] []) (.ite (.s 25) (.seq (.sets [(4, (.k (.bool false)))] []) .ret) .nop))) (.sets [(5, (.bin .add (.s 5) (.k (.int .i64 1))))] []))))
noncomputable def S_swagelaw0_SameInts : St := (.seq (.sets [(4, (.k (.bool false)))] []) (.seq (.sets [(10, (.bin .neq (.len (.s 0)) (.len (.s 1))))] []) (.seq (.ite (.s 10) (.seq (.sets [(4, (.k (.bool false)))] []) .ret) .nop) (.seq (.sets [(5, (.k (.int .i64 0)))] []) (.seq (.block 0 (.loop S1_swagelaw0_SameInts)) (.seq (.sets [(4, (.k (.bool true)))] []) .ret))))))
noncomputable def R_swagelaw0_SameInts : Ex := (.s 4)
theorem dec_swagelaw0_SameInts : opt (dec Tryd.prog (fun f => roL.contains f) (fun t => G_swagelaw0_SameInts.contains t) 26 (Tryd.f42.body.getD .skip)) = S_swagelaw0_SameInts := by kernel_rfl
theorem res_swagelaw0_SameInts : resE Tryd.prog (fun t => G_swagelaw0_SameInts.contains t) Tryd.f42.results.toList = some R_swagelaw0_SameInts := by kernel_rfl
theorem pc_swagelaw0_SameInts {ds : List DV} {R : DV → DMem → Prop} {M : DMem} (hl : ds.length ≤ 26)
    (h : wpD Tryd.prog MU_swagelaw0_SameInts (fun f => roL.contains f) (fun t => G_swagelaw0_SameInts.contains t) 26 S_swagelaw0_SameInts (fun δ M' => ∃ d, evD Tryd.prog M' δ R_swagelaw0_SameInts = some d ∧ R d M') (fun _ _ _ => False) (fun δ M' => ∃ d, evD Tryd.prog M' δ R_swagelaw0_SameInts = some d ∧ R d M') (argD ds) M) :
    PC Tryd.prog F_swagelaw0_SameInts ds R M :=
  pc_opt Tryd.func42 (c := Tryd.f42.body.getD .skip) (by kernel_rfl) (by kernel_rfl) (by kernel_rfl) dec_swagelaw0_SameInts res_swagelaw0_SameInts _ hl h
end Go.Proofs.YticlgdhhnjpkjaaDoor.Sx
