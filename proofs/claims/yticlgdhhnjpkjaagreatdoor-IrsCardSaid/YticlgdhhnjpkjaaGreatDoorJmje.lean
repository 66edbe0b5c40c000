/- Sd: joined texts of this claim. No condition. -/
import Derived.Test.YticlgdhhnjpkjaaGreatDoorJmjc
namespace Go.Proofs.YticlgdhhnjpkjaaGreatDoor.Sx
open Go Go.Proofs Go.Proofs.YticlgdhhnjpkjaaGreatDoor.Mw
set_option linter.unusedVariables false
set_option maxRecDepth 20000
abbrev F_swagelaw0_SameCode : Nat := 12
def G_swagelaw0_SameCode : List Nat := [0, 1, 2, 3, 4, 5, 6, 36, 41, 55, 60, 76]
def MU_swagelaw0_SameCode (d : Nat) : Bool := ([] : List Nat).contains d
noncomputable def S1_swagelaw0_SameCode : St := (.seq (.sets [(41, (.bin .lss (.s 5) (.len (.ld (.fa 2 (.s 2))))))] []) (.seq (.ite (.s 41) .nop (.exit 0)) (.seq (.block 1 (.seq (.sets [(55, (.un .not (.call 46 (.cs (.ldn 9 (.ix 9 (.ld (.fa 2 (.s 2))) (.s 5))) (.cs (.ldn 9 (.ix 9 (.ld (.fa 2 (.s 3))) (.s 5))) .nl)))))] []) (.ite (.s 55) (.seq (.sets [(4, (.k (.bool false)))] []) .ret) .nop))) (.sets [(5, (.bin .add (.s 5) (.k (.int .i64 1))))] []))))
noncomputable def S2_swagelaw0_SameCode : St := (.seq (.sets [(60, (.bin .lss (.s 6) (.len (.ld (.fa 3 (.s 2))))))] []) (.seq (.ite (.s 60) .nop (.exit 2)) (.seq (.block 3 (.seq (.sets [(76, (.un .not (.call 47 (.cs (.ld (.fa 0 (.ix 1 (.ld (.fa 3 (.s 2))) (.s 6)))) (.cs (.ld (.fa 0 (.ix 1 (.ld (.fa 3 (.s 3))) (.s 6)))) .nl)))))] []) (.ite (.s 76) (.seq (.sets [(4, (.k (.bool false)))] []) .ret) .nop))) (.sets [(6, (.bin .add (.s 6) (.k (.int .i64 1))))] []))))
noncomputable def S3_swagelaw0_SameCode : St := (.seq (.sets [(6, (.k (.int .i64 0)))] []) (.seq (.block 2 (.loop S2_swagelaw0_SameCode)) (.seq (.sets [(4, (.k (.bool true)))] []) .ret)))
noncomputable def S_swagelaw0_SameCode : St := (.seq (.act (some 2) (.box 29 (.tmp 0))) (.seq (.act (some 3) (.box 29 (.tmp 1))) (.seq (.sets [(4, (.k (.bool false)))] []) (.seq (.sets [(36, (.or (.or (.or (.bin .neq (.ld (.fa 0 (.s 2))) (.ld (.fa 0 (.s 3)))) (.bin .neq (.ld (.fa 1 (.s 2))) (.ld (.fa 1 (.s 3))))) (.bin .neq (.len (.ld (.fa 2 (.s 2)))) (.len (.ld (.fa 2 (.s 3)))))) (.bin .neq (.len (.ld (.fa 3 (.s 2)))) (.len (.ld (.fa 3 (.s 3)))))))] []) (.seq (.ite (.s 36) (.seq (.sets [(4, (.k (.bool false)))] []) .ret) .nop) (.seq (.sets [(5, (.k (.int .i64 0)))] []) (.seq (.block 0 (.loop S1_swagelaw0_SameCode)) S3_swagelaw0_SameCode)))))))
noncomputable def R_swagelaw0_SameCode : Ex := (.s 4)
theorem dec_swagelaw0_SameCode : opt (dec Tryz.prog (fun f => roL.contains f) (fun t => G_swagelaw0_SameCode.contains t) 77 (Tryz.f12.body.getD .skip)) = S_swagelaw0_SameCode := by kernel_rfl
theorem res_swagelaw0_SameCode : resE Tryz.prog (fun t => G_swagelaw0_SameCode.contains t) Tryz.f12.results.toList = some R_swagelaw0_SameCode := by kernel_rfl
theorem pc_swagelaw0_SameCode {ds : List DV} {R : DV → DMem → Prop} {M : DMem} (hl : ds.length ≤ 77)
    (h : wpD Tryz.prog MU_swagelaw0_SameCode (fun f => roL.contains f) (fun t => G_swagelaw0_SameCode.contains t) 77 S_swagelaw0_SameCode (fun δ M' => ∃ d, evD Tryz.prog M' δ R_swagelaw0_SameCode = some d ∧ R d M') (fun _ _ _ => False) (fun δ M' => ∃ d, evD Tryz.prog M' δ R_swagelaw0_SameCode = some d ∧ R d M') (argD ds) M) :
    PC Tryz.prog F_swagelaw0_SameCode ds R M :=
  pc_opt Tryz.func12 (c := Tryz.f12.body.getD .skip) (by kernel_rfl) (by kernel_rfl) (by kernel_rfl) dec_swagelaw0_SameCode res_swagelaw0_SameCode _ hl h
abbrev F_swagelaw0_CopyCode : Nat := 17
def G_swagelaw0_CopyCode : List Nat := [0, 1, 2, 3, 4, 5, 6, 7, 8, 9, 19, 42, 53]
def MU_swagelaw0_CopyCode (d : Nat) : Bool := ([3, 5, 9] : List Nat).contains d
noncomputable def S1_swagelaw0_CopyCode : St := (.seq (.sets [(19, (.bin .lss (.s 4) (.len (.ld (.fa 2 (.s 1))))))] []) (.seq (.ite (.s 19) .nop (.exit 0)) (.seq (.block 1 (.seq (.sets [(26, (.ldn 9 (.ix 9 (.ld (.fa 2 (.s 1))) (.s 4))))] []) (.seq (.act (some 5) (.var 50 9 (.tmp 26))) (.seq (.act (some 27) (.bslice 3 1 [] 0 [])) (.seq (.sets [(29, (.ld (.fa 5 (.s 5))))] []) (.seq (.act (some 30) (.app 3 1 8 (.tmp 27) (.tmp 29))) (.seq (.sets [(31, (.fa 5 (.s 5)))] []) (.seq (.act none (.store 1 (.tmp 31) (.tmp 30))) (.seq (.sets [(33, (.ld (.fa 2 (.s 3)))), (34, (.ldn 9 (.s 5)))] []) (.seq (.act (some 35) (.bslice 50 9 [(.int .i64 0), (.int .i64 0), (.int .i64 0), (.int .i64 0), (.int .i64 0), (.slice none 0 0), (.int .i64 0), (.int .i64 0), (.int .i64 0)] 1 [(0, (.tmp 34))])) (.seq (.act (some 36) (.app 50 9 88 (.tmp 33) (.tmp 35))) (.seq (.sets [(37, (.fa 2 (.s 3)))] []) (.seq (.act none (.store 1 (.tmp 37) (.tmp 36))) (.sets [] [])))))))))))))) (.sets [(4, (.bin .add (.s 4) (.k (.int .i64 1))))] []))))
noncomputable def S2_swagelaw0_CopyCode : St := (.seq (.sets [(72, (.fa 3 (.s 9)))] []) (.seq (.act none (.store 1 (.tmp 72) (.tmp 71))) (.seq (.sets [(74, (.ld (.fa 0 (.s 7)))), (75, (.ldn 4 (.s 9)))] []) (.seq (.act (some 76) (.bslice 69 4 [(.int .i64 0), (.int .i64 0), (.slice none 0 0), (.slice none 0 0)] 1 [(0, (.tmp 75))])) (.seq (.act (some 77) (.app 69 4 64 (.tmp 74) (.tmp 76))) (.seq (.sets [(78, (.fa 0 (.s 7)))] []) (.seq (.act none (.store 1 (.tmp 78) (.tmp 77))) (.sets [] []))))))))
noncomputable def S3_swagelaw0_CopyCode : St := (.seq (.sets [(68, (.fa 2 (.s 9)))] []) (.seq (.act none (.store 1 (.tmp 68) (.tmp 67))) (.seq (.sets [(70, (.ld (.fa 3 (.s 9))))] []) (.seq (.act (some 71) (.call 52 [(.tmp 70)])) S2_swagelaw0_CopyCode))))
noncomputable def S4_swagelaw0_CopyCode : St := (.seq (.sets [(53, (.bin .lss (.s 8) (.len (.ld (.fa 0 (.ix 1 (.ld (.fa 3 (.s 1))) (.s 6)))))))] []) (.seq (.ite (.s 53) .nop (.exit 4)) (.seq (.block 5 (.seq (.sets [(64, (.ldn 4 (.ix 4 (.ld (.fa 0 (.ix 1 (.ld (.fa 3 (.s 1))) (.s 6)))) (.s 8))))] []) (.seq (.act (some 9) (.var 69 4 (.tmp 64))) (.seq (.sets [(66, (.ld (.fa 2 (.s 9))))] []) (.seq (.act (some 67) (.call 52 [(.tmp 66)])) S3_swagelaw0_CopyCode))))) (.sets [(8, (.bin .add (.s 8) (.k (.int .i64 1))))] []))))
noncomputable def S5_swagelaw0_CopyCode : St := (.seq (.sets [(80, (.ld (.fa 3 (.s 3)))), (81, (.ldn 1 (.s 7)))] []) (.seq (.act (some 82) (.bslice 79 1 [(.slice none 0 0)] 1 [(0, (.tmp 81))])) (.seq (.act (some 83) (.app 79 1 24 (.tmp 80) (.tmp 82))) (.seq (.sets [(84, (.fa 3 (.s 3)))] []) (.seq (.act none (.store 1 (.tmp 84) (.tmp 83))) (.sets [] []))))))
noncomputable def S6_swagelaw0_CopyCode : St := (.seq (.sets [(42, (.bin .lss (.s 6) (.len (.ld (.fa 3 (.s 1))))))] []) (.seq (.ite (.s 42) .nop (.exit 2)) (.seq (.block 3 (.seq (.act (some 7) (.alloc 79 (.agg #[(.slice none 0 0)]))) (.seq (.sets [(8, (.k (.int .i64 0)))] []) (.seq (.block 4 (.loop S4_swagelaw0_CopyCode)) S5_swagelaw0_CopyCode)))) (.sets [(6, (.bin .add (.s 6) (.k (.int .i64 1))))] []))))
noncomputable def S7_swagelaw0_CopyCode : St := (.seq (.sets [(85, (.ldn 4 (.s 3)))] []) (.seq (.act none (.store 4 (.tmp 2) (.tmp 85))) .ret))
noncomputable def S8_swagelaw0_CopyCode : St := (.seq (.sets [(6, (.k (.int .i64 0)))] []) (.seq (.block 2 (.loop S6_swagelaw0_CopyCode)) S7_swagelaw0_CopyCode))
noncomputable def S_swagelaw0_CopyCode : St := (.seq (.act (some 1) (.box 29 (.tmp 0))) (.seq (.act (some 2) (.alloc 29 (.agg #[(.int .i64 0), (.int .i64 0), (.slice none 0 0), (.slice none 0 0)]))) (.seq (.sets [(14, (.bld [(.int .i64 0), (.int .i64 0), (.slice none 0 0), (.slice none 0 0)] [(0, 1), (1, 1)] (.cs (.ld (.fa 0 (.s 1))) (.cs (.ld (.fa 1 (.s 1))) .nl))))] []) (.seq (.act (some 3) (.var 29 4 (.tmp 14))) (.seq (.sets [(4, (.k (.int .i64 0)))] []) (.seq (.block 0 (.loop S1_swagelaw0_CopyCode)) S8_swagelaw0_CopyCode))))))
noncomputable def R_swagelaw0_CopyCode : Ex := (.ldn 4 (.s 2))
theorem dec_swagelaw0_CopyCode : opt (dec Tryz.prog (fun f => roL.contains f) (fun t => G_swagelaw0_CopyCode.contains t) 86 (Tryz.f17.body.getD .skip)) = S_swagelaw0_CopyCode := by kernel_rfl
theorem res_swagelaw0_CopyCode : resE Tryz.prog (fun t => G_swagelaw0_CopyCode.contains t) Tryz.f17.results.toList = some R_swagelaw0_CopyCode := by kernel_rfl
theorem pc_swagelaw0_CopyCode {ds : List DV} {R : DV → DMem → Prop} {M : DMem} (hl : ds.length ≤ 86)
    (h : wpD Tryz.prog MU_swagelaw0_CopyCode (fun f => roL.contains f) (fun t => G_swagelaw0_CopyCode.contains t) 86 S_swagelaw0_CopyCode (fun δ M' => ∃ d, evD Tryz.prog M' δ R_swagelaw0_CopyCode = some d ∧ R d M') (fun _ _ _ => False) (fun δ M' => ∃ d, evD Tryz.prog M' δ R_swagelaw0_CopyCode = some d ∧ R d M') (argD ds) M) :
    PC Tryz.prog F_swagelaw0_CopyCode ds R M :=
  pc_opt Tryz.func17 (c := Tryz.f17.body.getD .skip) (by kernel_rfl) (by kernel_rfl) (by kernel_rfl) dec_swagelaw0_CopyCode res_swagelaw0_CopyCode _ hl h
abbrev F_swagelaw0_SameBools : Nat := 20
def G_swagelaw0_SameBools : List Nat := [0, 1, 4, 5, 10, 14, 25]
def MU_swagelaw0_SameBools (d : Nat) : Bool := ([] : List Nat).contains d
noncomputable def S1_swagelaw0_SameBools : St := (.seq (.sets [(14, (.bin .lss (.s 5) (.len (.s 0))))] []) (.seq (.ite (.s 14) .nop (.exit 0)) (.seq (.block 1 (.seq (.sets [(25, (.eqb true (.ld (.ix 1 (.s 0) (.s 5))) (.ld (.ix 1 (.s 1) (.s 5)))))] []) (.ite (.s 25) (.seq (.sets [(4, (.k (.bool false)))] []) .ret) .nop))) (.sets [(5, (.bin .add (.s 5) (.k (.int .i64 1))))] []))))
noncomputable def S_swagelaw0_SameBools : St := (.seq (.sets [(4, (.k (.bool false)))] []) (.seq (.sets [(10, (.bin .neq (.len (.s 0)) (.len (.s 1))))] []) (.seq (.ite (.s 10) (.seq (.sets [(4, (.k (.bool false)))] []) .ret) .nop) (.seq (.sets [(5, (.k (.int .i64 0)))] []) (.seq (.block 0 (.loop S1_swagelaw0_SameBools)) (.seq (.sets [(4, (.k (.bool true)))] []) .ret))))))
noncomputable def R_swagelaw0_SameBools : Ex := (.s 4)
theorem dec_swagelaw0_SameBools : opt (dec Tryz.prog (fun f => roL.contains f) (fun t => G_swagelaw0_SameBools.contains t) 26 (Tryz.f20.body.getD .skip)) = S_swagelaw0_SameBools := by kernel_rfl
theorem res_swagelaw0_SameBools : resE Tryz.prog (fun t => G_swagelaw0_SameBools.contains t) Tryz.f20.results.toList = some R_swagelaw0_SameBools := by kernel_rfl
theorem pc_swagelaw0_SameBools {ds : List DV} {R : DV → DMem → Prop} {M : DMem} (hl : ds.length ≤ 26)
    (h : wpD Tryz.prog MU_swagelaw0_SameBools (fun f => roL.contains f) (fun t => G_swagelaw0_SameBools.contains t) 26 S_swagelaw0_SameBools (fun δ M' => ∃ d, evD Tryz.prog M' δ R_swagelaw0_SameBools = some d ∧ R d M') (fun _ _ _ => False) (fun δ M' => ∃ d, evD Tryz.prog M' δ R_swagelaw0_SameBools = some d ∧ R d M') (argD ds) M) :
    PC Tryz.prog F_swagelaw0_SameBools ds R M :=
  pc_opt Tryz.func20 (c := Tryz.f20.body.getD .skip) (by kernel_rfl) (by kernel_rfl) (by kernel_rfl) dec_swagelaw0_SameBools res_swagelaw0_SameBools _ hl h
abbrev F_swagelaw0_SameIr : Nat := 46
def G_swagelaw0_SameIr : List Nat := [0, 1, 2, 3, 4]
def MU_swagelaw0_SameIr (d : Nat) : Bool := ([] : List Nat).contains d
noncomputable def S_swagelaw0_SameIr : St := (.seq (.act (some 2) (.box 50 (.tmp 0))) (.seq (.act (some 3) (.box 50 (.tmp 1))) (.seq (.sets [(4, (.k (.bool false)))] []) (.seq (.sets [(4, (.and (.and (.and (.and (.and (.and (.and (.and (.bin .eql (.ld (.fa 0 (.s 2))) (.ld (.fa 0 (.s 3)))) (.bin .eql (.ld (.fa 1 (.s 2))) (.ld (.fa 1 (.s 3))))) (.bin .eql (.ld (.fa 2 (.s 2))) (.ld (.fa 2 (.s 3))))) (.bin .eql (.ld (.fa 3 (.s 2))) (.ld (.fa 3 (.s 3))))) (.bin .eql (.ld (.fa 4 (.s 2))) (.ld (.fa 4 (.s 3))))) (.bin .eql (.ld (.fa 6 (.s 2))) (.ld (.fa 6 (.s 3))))) (.bin .eql (.ld (.fa 7 (.s 2))) (.ld (.fa 7 (.s 3))))) (.bin .eql (.ld (.fa 8 (.s 2))) (.ld (.fa 8 (.s 3))))) (.call 90 (.cs (.ld (.fa 5 (.s 2))) (.cs (.ld (.fa 5 (.s 3))) .nl)))))] []) .ret))))
noncomputable def R_swagelaw0_SameIr : Ex := (.s 4)
theorem dec_swagelaw0_SameIr : opt (dec Tryz.prog (fun f => roL.contains f) (fun t => G_swagelaw0_SameIr.contains t) 66 (Tryz.f46.body.getD .skip)) = S_swagelaw0_SameIr := by kernel_rfl
theorem res_swagelaw0_SameIr : resE Tryz.prog (fun t => G_swagelaw0_SameIr.contains t) Tryz.f46.results.toList = some R_swagelaw0_SameIr := by kernel_rfl
theorem pc_swagelaw0_SameIr {ds : List DV} {R : DV → DMem → Prop} {M : DMem} (hl : ds.length ≤ 66)
    (h : wpD Tryz.prog MU_swagelaw0_SameIr (fun f => roL.contains f) (fun t => G_swagelaw0_SameIr.contains t) 66 S_swagelaw0_SameIr (fun δ M' => ∃ d, evD Tryz.prog M' δ R_swagelaw0_SameIr = some d ∧ R d M') (fun _ _ _ => False) (fun δ M' => ∃ d, evD Tryz.prog M' δ R_swagelaw0_SameIr = some d ∧ R d M') (argD ds) M) :
    PC Tryz.prog F_swagelaw0_SameIr ds R M :=
  pc_opt Tryz.func46 (c := Tryz.f46.body.getD .skip) (by kernel_rfl) (by kernel_rfl) (by kernel_rfl) dec_swagelaw0_SameIr res_swagelaw0_SameIr _ hl h
abbrev F_swagelaw0_sameParts : Nat := 47
def G_swagelaw0_sameParts : List Nat := [0, 1, 4, 5, 10, 14, 68]
def MU_swagelaw0_sameParts (d : Nat) : Bool := ([] : List Nat).contains d
noncomputable def S1_swagelaw0_sameParts : St := (.seq (.sets [(14, (.bin .lss (.s 5) (.len (.s 0))))] []) (.seq (.ite (.s 14) .nop (.exit 0)) (.seq (.block 1 (.seq (.sets [(68, (.or (.or (.or (.bin .neq (.ld (.fa 0 (.ix 4 (.s 0) (.s 5)))) (.ld (.fa 0 (.ix 4 (.s 1) (.s 5))))) (.bin .neq (.ld (.fa 1 (.ix 4 (.s 0) (.s 5)))) (.ld (.fa 1 (.ix 4 (.s 1) (.s 5)))))) (.un .not (.call 91 (.cs (.ld (.fa 2 (.ix 4 (.s 0) (.s 5)))) (.cs (.ld (.fa 2 (.ix 4 (.s 1) (.s 5)))) .nl))))) (.un .not (.call 91 (.cs (.ld (.fa 3 (.ix 4 (.s 0) (.s 5)))) (.cs (.ld (.fa 3 (.ix 4 (.s 1) (.s 5)))) .nl))))))] []) (.ite (.s 68) (.seq (.sets [(4, (.k (.bool false)))] []) .ret) .nop))) (.sets [(5, (.bin .add (.s 5) (.k (.int .i64 1))))] []))))
noncomputable def S_swagelaw0_sameParts : St := (.seq (.sets [(4, (.k (.bool false)))] []) (.seq (.sets [(10, (.bin .neq (.len (.s 0)) (.len (.s 1))))] []) (.seq (.ite (.s 10) (.seq (.sets [(4, (.k (.bool false)))] []) .ret) .nop) (.seq (.sets [(5, (.k (.int .i64 0)))] []) (.seq (.block 0 (.loop S1_swagelaw0_sameParts)) (.seq (.sets [(4, (.k (.bool true)))] []) .ret))))))
noncomputable def R_swagelaw0_sameParts : Ex := (.s 4)
theorem dec_swagelaw0_sameParts : opt (dec Tryz.prog (fun f => roL.contains f) (fun t => G_swagelaw0_sameParts.contains t) 69 (Tryz.f47.body.getD .skip)) = S_swagelaw0_sameParts := by kernel_rfl
theorem res_swagelaw0_sameParts : resE Tryz.prog (fun t => G_swagelaw0_sameParts.contains t) Tryz.f47.results.toList = some R_swagelaw0_sameParts := by kernel_rfl
theorem pc_swagelaw0_sameParts {ds : List DV} {R : DV → DMem → Prop} {M : DMem} (hl : ds.length ≤ 69)
    (h : wpD Tryz.prog MU_swagelaw0_sameParts (fun f => roL.contains f) (fun t => G_swagelaw0_sameParts.contains t) 69 S_swagelaw0_sameParts (fun δ M' => ∃ d, evD Tryz.prog M' δ R_swagelaw0_sameParts = some d ∧ R d M') (fun _ _ _ => False) (fun δ M' => ∃ d, evD Tryz.prog M' δ R_swagelaw0_sameParts = some d ∧ R d M') (argD ds) M) :
    PC Tryz.prog F_swagelaw0_sameParts ds R M :=
  pc_opt Tryz.func47 (c := Tryz.f47.body.getD .skip) (by kernel_rfl) (by kernel_rfl) (by kernel_rfl) dec_swagelaw0_sameParts res_swagelaw0_sameParts _ hl h
abbrev F_swagelaw0_CopySrcs : Nat := 52
def G_swagelaw0_CopySrcs : List Nat := [0, 2]
def MU_swagelaw0_CopySrcs (d : Nat) : Bool := ([] : List Nat).contains d
noncomputable def S_swagelaw0_CopySrcs : St := (.seq (.sets [(2, (.k (.slice none 0 0)))] []) (.seq (.act (some 3) (.bslice 136 2 [] 0 [])) (.seq (.sets [(4, (.s 0))] []) (.seq (.act (some 5) (.app 136 2 16 (.tmp 3) (.tmp 4))) (.seq (.sets [(2, (.s 5))] []) .ret)))))
noncomputable def R_swagelaw0_CopySrcs : Ex := (.s 2)
theorem dec_swagelaw0_CopySrcs : opt (dec Tryz.prog (fun f => roL.contains f) (fun t => G_swagelaw0_CopySrcs.contains t) 6 (Tryz.f52.body.getD .skip)) = S_swagelaw0_CopySrcs := by kernel_rfl
theorem res_swagelaw0_CopySrcs : resE Tryz.prog (fun t => G_swagelaw0_CopySrcs.contains t) Tryz.f52.results.toList = some R_swagelaw0_CopySrcs := by kernel_rfl
theorem pc_swagelaw0_CopySrcs {ds : List DV} {R : DV → DMem → Prop} {M : DMem} (hl : ds.length ≤ 6)
    (h : wpD Tryz.prog MU_swagelaw0_CopySrcs (fun f => roL.contains f) (fun t => G_swagelaw0_CopySrcs.contains t) 6 S_swagelaw0_CopySrcs (fun δ M' => ∃ d, evD Tryz.prog M' δ R_swagelaw0_CopySrcs = some d ∧ R d M') (fun _ _ _ => False) (fun δ M' => ∃ d, evD Tryz.prog M' δ R_swagelaw0_CopySrcs = some d ∧ R d M') (argD ds) M) :
    PC Tryz.prog F_swagelaw0_CopySrcs ds R M :=
  pc_opt Tryz.func52 (c := Tryz.f52.body.getD .skip) (by kernel_rfl) (by kernel_rfl) (by kernel_rfl) dec_swagelaw0_CopySrcs res_swagelaw0_CopySrcs _ hl h
abbrev F_swagelaw0_SameInts : Nat := 90
def G_swagelaw0_SameInts : List Nat := [0, 1, 4, 5, 10, 14, 25]
def MU_swagelaw0_SameInts (d : Nat) : Bool := ([] : List Nat).contains d
noncomputable def S1_swagelaw0_SameInts : St := (.seq (.sets [(14, (.bin .lss (.s 5) (.len (.s 0))))] []) (.seq (.ite (.s 14) .nop (.exit 0)) (.seq (.block 1 (.seq (.sets [(25, (.bin .neq (.ld (.ix 1 (.s 0) (.s 5))) (.ld (.ix 1 (.s 1) (.s 5)))))] []) (.ite (.s 25) (.seq (.sets [(4, (.k (.bool false)))] []) .ret) .nop))) (.sets [(5, (.bin .add (.s 5) (.k (.int .i64 1))))] []))))
noncomputable def S_swagelaw0_SameInts : St := (.seq (.sets [(4, (.k (.bool false)))] []) (.seq (.sets [(10, (.bin .neq (.len (.s 0)) (.len (.s 1))))] []) (.seq (.ite (.s 10) (.seq (.sets [(4, (.k (.bool false)))] []) .ret) .nop) (.seq (.sets [(5, (.k (.int .i64 0)))] []) (.seq (.block 0 (.loop S1_swagelaw0_SameInts)) (.seq (.sets [(4, (.k (.bool true)))] []) .ret))))))
noncomputable def R_swagelaw0_SameInts : Ex := (.s 4)
theorem dec_swagelaw0_SameInts : opt (dec Tryz.prog (fun f => roL.contains f) (fun t => G_swagelaw0_SameInts.contains t) 26 (Tryz.f90.body.getD .skip)) = S_swagelaw0_SameInts := by kernel_rfl
theorem res_swagelaw0_SameInts : resE Tryz.prog (fun t => G_swagelaw0_SameInts.contains t) Tryz.f90.results.toList = some R_swagelaw0_SameInts := by kernel_rfl
theorem pc_swagelaw0_SameInts {ds : List DV} {R : DV → DMem → Prop} {M : DMem} (hl : ds.length ≤ 26)
    (h : wpD Tryz.prog MU_swagelaw0_SameInts (fun f => roL.contains f) (fun t => G_swagelaw0_SameInts.contains t) 26 S_swagelaw0_SameInts (fun δ M' => ∃ d, evD Tryz.prog M' δ R_swagelaw0_SameInts = some d ∧ R d M') (fun _ _ _ => False) (fun δ M' => ∃ d, evD Tryz.prog M' δ R_swagelaw0_SameInts = some d ∧ R d M') (argD ds) M) :
    PC Tryz.prog F_swagelaw0_SameInts ds R M :=
  pc_opt Tryz.func90 (c := Tryz.f90.body.getD .skip) (by kernel_rfl) (by kernel_rfl) (by kernel_rfl) dec_swagelaw0_SameInts res_swagelaw0_SameInts _ hl h
abbrev F_swagelaw0_SameSrcs : Nat := 91
def G_swagelaw0_SameSrcs : List Nat := [0, 1, 4, 5, 10, 14, 25]
def MU_swagelaw0_SameSrcs (d : Nat) : Bool := ([] : List Nat).contains d
noncomputable def S1_swagelaw0_SameSrcs : St := (.seq (.sets [(14, (.bin .lss (.s 5) (.len (.s 0))))] []) (.seq (.ite (.s 14) .nop (.exit 0)) (.seq (.block 1 (.seq (.sets [(25, (.eqs true 102 (.ldn 2 (.ix 2 (.s 0) (.s 5))) (.ldn 2 (.ix 2 (.s 1) (.s 5)))))] []) (.ite (.s 25) (.seq (.sets [(4, (.k (.bool false)))] []) .ret) .nop))) (.sets [(5, (.bin .add (.s 5) (.k (.int .i64 1))))] []))))
noncomputable def S_swagelaw0_SameSrcs : St := (.seq (.sets [(4, (.k (.bool false)))] []) (.seq (.sets [(10, (.bin .neq (.len (.s 0)) (.len (.s 1))))] []) (.seq (.ite (.s 10) (.seq (.sets [(4, (.k (.bool false)))] []) .ret) .nop) (.seq (.sets [(5, (.k (.int .i64 0)))] []) (.seq (.block 0 (.loop S1_swagelaw0_SameSrcs)) (.seq (.sets [(4, (.k (.bool true)))] []) .ret))))))
noncomputable def R_swagelaw0_SameSrcs : Ex := (.s 4)
theorem dec_swagelaw0_SameSrcs : opt (dec Tryz.prog (fun f => roL.contains f) (fun t => G_swagelaw0_SameSrcs.contains t) 26 (Tryz.f91.body.getD .skip)) = S_swagelaw0_SameSrcs := by kernel_rfl
theorem res_swagelaw0_SameSrcs : resE Tryz.prog (fun t => G_swagelaw0_SameSrcs.contains t) Tryz.f91.results.toList = some R_swagelaw0_SameSrcs := by kernel_rfl
theorem pc_swagelaw0_SameSrcs {ds : List DV} {R : DV → DMem → Prop} {M : DMem} (hl : ds.length ≤ 26)
    (h : wpD Tryz.prog MU_swagelaw0_SameSrcs (fun f => roL.contains f) (fun t => G_swagelaw0_SameSrcs.contains t) 26 S_swagelaw0_SameSrcs (fun δ M' => ∃ d, evD Tryz.prog M' δ R_swagelaw0_SameSrcs = some d ∧ R d M') (fun _ _ _ => False) (fun δ M' => ∃ d, evD Tryz.prog M' δ R_swagelaw0_SameSrcs = some d ∧ R d M') (argD ds) M) :
    PC Tryz.prog F_swagelaw0_SameSrcs ds R M :=
  pc_opt Tryz.func91 (c := Tryz.f91.body.getD .skip) (by kernel_rfl) (by kernel_rfl) (by kernel_rfl) dec_swagelaw0_SameSrcs res_swagelaw0_SameSrcs _ hl h
end Go.Proofs.YticlgdhhnjpkjaaGreatDoor.Sx
