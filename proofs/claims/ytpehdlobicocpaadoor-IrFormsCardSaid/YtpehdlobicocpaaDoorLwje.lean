/- Sd: joined texts of this claim. No condition. -/
import Derived.Test.YtpehdlobicocpaaDoorLwjc
namespace Go.Proofs.YtpehdlobicocpaaDoor.Sx
open Go Go.Proofs Go.Proofs.YtpehdlobicocpaaDoor.Mw
set_option linter.unusedVariables false
set_option maxRecDepth 20000
abbrev F_swagelaw0_SameBools : Nat := 20
def G_swagelaw0_SameBools : List Nat := [0, 1, 4, 5, 10, 14, 25]
def MU_swagelaw0_SameBools (d : Nat) : Bool := ([] : List Nat).contains d
noncomputable def S1_swagelaw0_SameBools : St := (.seq (.sets [(14, (.bin .lss (.s 5) (.len (.s 0))))] []) (.seq (.ite (.s 14) .nop (.exit 0)) (.seq (.block 1 (.seq (.sets [(25, (.eqb true (.ld (.ix 1 (.s 0) (.s 5))) (.ld (.ix 1 (.s 1) (.s 5)))))] []) (.ite (.s 25) (.seq (.sets [(4, (.k (.bool false)))] []) .ret) .nop))) (.sets [(5, (.bin .add (.s 5) (.k (.int .i64 1))))] []))))
noncomputable def S_swagelaw0_SameBools : St := (.seq (.sets [(4, (.k (.bool false)))] []) (.seq (.sets [(10, (.bin .neq (.len (.s 0)) (.len (.s 1))))] []) (.seq (.ite (.s 10) (.seq (.sets [(4, (.k (.bool false)))] []) .ret) .nop) (.seq (.sets [(5, (.k (.int .i64 0)))] []) (.seq (.block 0 (.loop S1_swagelaw0_SameBools)) (.seq (.sets [(4, (.k (.bool true)))] []) .ret))))))
noncomputable def R_swagelaw0_SameBools : Ex := (.s 4)
theorem dec_swagelaw0_SameBools : opt (dec Tryd.prog (fun f => roL.contains f) (fun t => G_swagelaw0_SameBools.contains t) 26 (Tryd.f20.body.getD .skip)) = S_swagelaw0_SameBools := by kernel_rfl
theorem res_swagelaw0_SameBools : resE Tryd.prog (fun t => G_swagelaw0_SameBools.contains t) Tryd.f20.results.toList = some R_swagelaw0_SameBools := by kernel_rfl
theorem pc_swagelaw0_SameBools {ds : List DV} {R : DV → DMem → Prop} {M : DMem} (hl : ds.length ≤ 26)
    (h : wpD Tryd.prog MU_swagelaw0_SameBools (fun f => roL.contains f) (fun t => G_swagelaw0_SameBools.contains t) 26 S_swagelaw0_SameBools (fun δ M' => ∃ d, evD Tryd.prog M' δ R_swagelaw0_SameBools = some d ∧ R d M') (fun _ _ _ => False) (fun δ M' => ∃ d, evD Tryd.prog M' δ R_swagelaw0_SameBools = some d ∧ R d M') (argD ds) M) :
    PC Tryd.prog F_swagelaw0_SameBools ds R M :=
  pc_opt Tryd.func20 (c := Tryd.f20.body.getD .skip) (by kernel_rfl) (by kernel_rfl) (by kernel_rfl) dec_swagelaw0_SameBools res_swagelaw0_SameBools _ hl h
abbrev F_swagelaw0_CopyCode : Nat := 37
def G_swagelaw0_CopyCode : List Nat := [0, 1, 2, 3, 4, 5, 6, 7, 8, 9, 19, 42, 53]
def MU_swagelaw0_CopyCode (d : Nat) : Bool := ([3, 5, 9] : List Nat).contains d
noncomputable def S1_swagelaw0_CopyCode : St := (.seq (.sets [(19, (.bin .lss (.s 4) (.len (.ld (.fa 2 (.s 1))))))] []) (.seq (.ite (.s 19) .nop (.exit 0)) (.seq (.block 1 (.seq (.sets [(26, (.ldn 9 (.ix 9 (.ld (.fa 2 (.s 1))) (.s 4))))] []) (.seq (.act (some 5) (.var 28 9 (.tmp 26))) (.seq (.act (some 27) (.bslice 3 1 [] 0 [])) (.seq (.sets [(29, (.ld (.fa 5 (.s 5))))] []) (.seq (.act (some 30) (.app 3 1 8 (.tmp 27) (.tmp 29))) (.seq (.sets [(31, (.fa 5 (.s 5)))] []) (.seq (.act none (.store 1 (.tmp 31) (.tmp 30))) (.seq (.sets [(33, (.ld (.fa 2 (.s 3)))), (34, (.ldn 9 (.s 5)))] []) (.seq (.act (some 35) (.bslice 28 9 [(.int .i64 0), (.int .i64 0), (.int .i64 0), (.int .i64 0), (.int .i64 0), (.slice none 0 0), (.int .i64 0), (.int .i64 0), (.int .i64 0)] 1 [(0, (.tmp 34))])) (.seq (.act (some 36) (.app 28 9 88 (.tmp 33) (.tmp 35))) (.seq (.sets [(37, (.fa 2 (.s 3)))] []) (.seq (.act none (.store 1 (.tmp 37) (.tmp 36))) (.sets [] [])))))))))))))) (.sets [(4, (.bin .add (.s 4) (.k (.int .i64 1))))] []))))
noncomputable def S2_swagelaw0_CopyCode : St := (.seq (.sets [(72, (.fa 3 (.s 9)))] []) (.seq (.act none (.store 1 (.tmp 72) (.tmp 71))) (.seq (.sets [(74, (.ld (.fa 0 (.s 7)))), (75, (.ldn 4 (.s 9)))] []) (.seq (.act (some 76) (.bslice 51 4 [(.int .i64 0), (.int .i64 0), (.slice none 0 0), (.slice none 0 0)] 1 [(0, (.tmp 75))])) (.seq (.act (some 77) (.app 51 4 64 (.tmp 74) (.tmp 76))) (.seq (.sets [(78, (.fa 0 (.s 7)))] []) (.seq (.act none (.store 1 (.tmp 78) (.tmp 77))) (.sets [] []))))))))
noncomputable def S3_swagelaw0_CopyCode : St := (.seq (.sets [(68, (.fa 2 (.s 9)))] []) (.seq (.act none (.store 1 (.tmp 68) (.tmp 67))) (.seq (.sets [(70, (.ld (.fa 3 (.s 9))))] []) (.seq (.act (some 71) (.call 54 [(.tmp 70)])) S2_swagelaw0_CopyCode))))
noncomputable def S4_swagelaw0_CopyCode : St := (.seq (.sets [(53, (.bin .lss (.s 8) (.len (.ld (.fa 0 (.ix 1 (.ld (.fa 3 (.s 1))) (.s 6)))))))] []) (.seq (.ite (.s 53) .nop (.exit 4)) (.seq (.block 5 (.seq (.sets [(64, (.ldn 4 (.ix 4 (.ld (.fa 0 (.ix 1 (.ld (.fa 3 (.s 1))) (.s 6)))) (.s 8))))] []) (.seq (.act (some 9) (.var 51 4 (.tmp 64))) (.seq (.sets [(66, (.ld (.fa 2 (.s 9))))] []) (.seq (.act (some 67) (.call 54 [(.tmp 66)])) S3_swagelaw0_CopyCode))))) (.sets [(8, (.bin .add (.s 8) (.k (.int .i64 1))))] []))))
noncomputable def S5_swagelaw0_CopyCode : St := (.seq (.sets [(80, (.ld (.fa 3 (.s 3)))), (81, (.ldn 1 (.s 7)))] []) (.seq (.act (some 82) (.bslice 48 1 [(.slice none 0 0)] 1 [(0, (.tmp 81))])) (.seq (.act (some 83) (.app 48 1 24 (.tmp 80) (.tmp 82))) (.seq (.sets [(84, (.fa 3 (.s 3)))] []) (.seq (.act none (.store 1 (.tmp 84) (.tmp 83))) (.sets [] []))))))
noncomputable def S6_swagelaw0_CopyCode : St := (.seq (.sets [(42, (.bin .lss (.s 6) (.len (.ld (.fa 3 (.s 1))))))] []) (.seq (.ite (.s 42) .nop (.exit 2)) (.seq (.block 3 (.seq (.act (some 7) (.alloc 48 (.agg #[(.slice none 0 0)]))) (.seq (.sets [(8, (.k (.int .i64 0)))] []) (.seq (.block 4 (.loop S4_swagelaw0_CopyCode)) S5_swagelaw0_CopyCode)))) (.sets [(6, (.bin .add (.s 6) (.k (.int .i64 1))))] []))))
noncomputable def S7_swagelaw0_CopyCode : St := (.seq (.sets [(85, (.ldn 4 (.s 3)))] []) (.seq (.act none (.store 4 (.tmp 2) (.tmp 85))) .ret))
noncomputable def S8_swagelaw0_CopyCode : St := (.seq (.sets [(6, (.k (.int .i64 0)))] []) (.seq (.block 2 (.loop S6_swagelaw0_CopyCode)) S7_swagelaw0_CopyCode))
noncomputable def S_swagelaw0_CopyCode : St := (.seq (.act (some 1) (.box 38 (.tmp 0))) (.seq (.act (some 2) (.alloc 38 (.agg #[(.int .i64 0), (.int .i64 0), (.slice none 0 0), (.slice none 0 0)]))) (.seq (.sets [(14, (.bld [(.int .i64 0), (.int .i64 0), (.slice none 0 0), (.slice none 0 0)] [(0, 1), (1, 1)] (.cs (.ld (.fa 0 (.s 1))) (.cs (.ld (.fa 1 (.s 1))) .nl))))] []) (.seq (.act (some 3) (.var 38 4 (.tmp 14))) (.seq (.sets [(4, (.k (.int .i64 0)))] []) (.seq (.block 0 (.loop S1_swagelaw0_CopyCode)) S8_swagelaw0_CopyCode))))))
noncomputable def R_swagelaw0_CopyCode : Ex := (.ldn 4 (.s 2))
theorem dec_swagelaw0_CopyCode : opt (dec Tryd.prog (fun f => roL.contains f) (fun t => G_swagelaw0_CopyCode.contains t) 86 (Tryd.f37.body.getD .skip)) = S_swagelaw0_CopyCode := by kernel_rfl
theorem res_swagelaw0_CopyCode : resE Tryd.prog (fun t => G_swagelaw0_CopyCode.contains t) Tryd.f37.results.toList = some R_swagelaw0_CopyCode := by kernel_rfl
theorem pc_swagelaw0_CopyCode {ds : List DV} {R : DV → DMem → Prop} {M : DMem} (hl : ds.length ≤ 86)
    (h : wpD Tryd.prog MU_swagelaw0_CopyCode (fun f => roL.contains f) (fun t => G_swagelaw0_CopyCode.contains t) 86 S_swagelaw0_CopyCode (fun δ M' => ∃ d, evD Tryd.prog M' δ R_swagelaw0_CopyCode = some d ∧ R d M') (fun _ _ _ => False) (fun δ M' => ∃ d, evD Tryd.prog M' δ R_swagelaw0_CopyCode = some d ∧ R d M') (argD ds) M) :
    PC Tryd.prog F_swagelaw0_CopyCode ds R M :=
  pc_opt Tryd.func37 (c := Tryd.f37.body.getD .skip) (by kernel_rfl) (by kernel_rfl) (by kernel_rfl) dec_swagelaw0_CopyCode res_swagelaw0_CopyCode _ hl h
abbrev F_swagelaw0_CopySrcs : Nat := 54
def G_swagelaw0_CopySrcs : List Nat := [0, 2]
def MU_swagelaw0_CopySrcs (d : Nat) : Bool := ([] : List Nat).contains d
noncomputable def S_swagelaw0_CopySrcs : St := (.seq (.sets [(2, (.k (.slice none 0 0)))] []) (.seq (.act (some 3) (.bslice 54 2 [] 0 [])) (.seq (.sets [(4, (.s 0))] []) (.seq (.act (some 5) (.app 54 2 16 (.tmp 3) (.tmp 4))) (.seq (.sets [(2, (.s 5))] []) .ret)))))
noncomputable def R_swagelaw0_CopySrcs : Ex := (.s 2)
theorem dec_swagelaw0_CopySrcs : opt (dec Tryd.prog (fun f => roL.contains f) (fun t => G_swagelaw0_CopySrcs.contains t) 6 (Tryd.f54.body.getD .skip)) = S_swagelaw0_CopySrcs := by kernel_rfl
theorem res_swagelaw0_CopySrcs : resE Tryd.prog (fun t => G_swagelaw0_CopySrcs.contains t) Tryd.f54.results.toList = some R_swagelaw0_CopySrcs := by kernel_rfl
theorem pc_swagelaw0_CopySrcs {ds : List DV} {R : DV → DMem → Prop} {M : DMem} (hl : ds.length ≤ 6)
    (h : wpD Tryd.prog MU_swagelaw0_CopySrcs (fun f => roL.contains f) (fun t => G_swagelaw0_CopySrcs.contains t) 6 S_swagelaw0_CopySrcs (fun δ M' => ∃ d, evD Tryd.prog M' δ R_swagelaw0_CopySrcs = some d ∧ R d M') (fun _ _ _ => False) (fun δ M' => ∃ d, evD Tryd.prog M' δ R_swagelaw0_CopySrcs = some d ∧ R d M') (argD ds) M) :
    PC Tryd.prog F_swagelaw0_CopySrcs ds R M :=
  pc_opt Tryd.func54 (c := Tryd.f54.body.getD .skip) (by kernel_rfl) (by kernel_rfl) (by kernel_rfl) dec_swagelaw0_CopySrcs res_swagelaw0_CopySrcs _ hl h
end Go.Proofs.YtpehdlobicocpaaDoor.Sx
