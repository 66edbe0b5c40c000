/- Sr Sa Sx: joined texts of this claim. No condition. -/
import Derived.Test.YticlgdhhnjpkjaaDoorProg
import Derived.Test.YticlgdhhnjpkjaaDoorJqjb
namespace Go.Proofs.YticlgdhhnjpkjaaDoor.Sx
open Go Go.Proofs Go.Proofs.YticlgdhhnjpkjaaDoor.Mw
set_option linter.unusedVariables false
set_option maxRecDepth 20000
def roL : List Nat := [9, 11, 12, 13, 14, 15, 17, 18, 19, 20, 23, 32, 33, 34, 35, 38, 40, 42, 43, 51, 52, 54, 55, 56, 57, 58, 59, 66, 67, 72, 73, 74, 75, 76, 77, 78, 79, 80, 82, 84, 85, 88, 89, 90, 91, 92, 93, 94, 102]
end Go.Proofs.YticlgdhhnjpkjaaDoor.Sx
namespace Go.Proofs.YticlgdhhnjpkjaaDoor.Sx
open Go Go.Proofs Go.Proofs.YticlgdhhnjpkjaaDoor.Mw
set_option linter.unusedVariables false
set_option maxRecDepth 20000
abbrev F_verify_All : Nat := 31
def G_verify_All : List Nat := [0, 2, 3, 4, 5, 6, 8, 11, 16, 17, 18, 30]
def MU_verify_All (d : Nat) : Bool := ([] : List Nat).contains d
noncomputable def S1_verify_All : St := (.seq (.sets [(6, (.ext 0 (.s 25))), (8, (.ext 2 (.s 25)))] [(.ext 1 (.s 25))]) (.seq (.sets [(30, (.bin .neq (.s 8) (.k (.int .i64 0))))] []) (.seq (.ite (.s 30) (.seq (.sets [(2, (.k (.slice none 0 0))), (3, (.s 8))] []) .ret) .nop) (.seq (.sets [(32, (.s 4)), (33, (.s 6))] []) (.seq (.act (some 34) (.bslice 36 1 [(.slice none 0 0)] 1 [(0, (.tmp 33))])) (.seq (.act (some 35) (.app 36 1 24 (.tmp 32) (.tmp 34))) (.sets [(4, (.s 35))] [])))))))
noncomputable def S2_verify_All : St := (.seq (.sets [(18, (.bin .lss (.s 17) (.s 16)))] []) (.seq (.ite (.s 18) .nop (.exit 0)) (.seq (.block 1 (.seq (.sets [(5, (.s 17))] []) (.seq (.sets [(23, (.ldn 1 (.nck (.s 0)))), (24, (.s 5))] []) (.seq (.act (some 25) (.call 53 [(.tmp 23), (.tmp 24)])) S1_verify_All)))) (.sets [(17, (.bin .add (.s 17) (.k (.int .i64 1))))] []))))
noncomputable def S3_verify_All : St := (.seq (.sets [(2, (.s 4)), (3, (.k (.int .i64 0)))] []) .ret)
noncomputable def S_verify_All : St := (.seq (.sets [(2, (.k (.slice none 0 0))), (3, (.k (.int .i64 0)))] []) (.seq (.sets [(11, (.un .not (.call 52 (.cs (.s 0) .nl))))] []) (.seq (.ite (.s 11) (.seq (.sets [(2, (.k (.slice none 0 0))), (3, (.k (.int .i64 500)))] []) .ret) .nop) (.seq (.sets [(4, (.k (.slice none 0 0)))] []) (.seq (.sets [(16, (.len (.ld (.fa 0 (.nck (.s 0)))))), (17, (.k (.int .i64 0)))] []) (.seq (.block 0 (.loop S2_verify_All)) S3_verify_All))))))
noncomputable def R_verify_All : Ex := (.cs (.s 2) (.cs (.s 3) .nl))
theorem dec_verify_All : opt (dec Tryd.prog (fun f => roL.contains f) (fun t => G_verify_All.contains t) 38 (Tryd.f31.body.getD .skip)) = S_verify_All := by kernel_rfl
theorem res_verify_All : resE Tryd.prog (fun t => G_verify_All.contains t) Tryd.f31.results.toList = some R_verify_All := by kernel_rfl
theorem pc_verify_All {ds : List DV} {R : DV → DMem → Prop} {M : DMem} (hl : ds.length ≤ 38)
    (h : wpD Tryd.prog MU_verify_All (fun f => roL.contains f) (fun t => G_verify_All.contains t) 38 S_verify_All (fun δ M' => ∃ d, evD Tryd.prog M' δ R_verify_All = some d ∧ R d M') (fun _ _ _ => False) (fun δ M' => ∃ d, evD Tryd.prog M' δ R_verify_All = some d ∧ R d M') (argD ds) M) :
    PC Tryd.prog F_verify_All ds R M :=
  pc_opt Tryd.func31 (c := Tryd.f31.body.getD .skip) (by kernel_rfl) (by kernel_rfl) (by kernel_rfl) dec_verify_All res_verify_All _ hl h
abbrev F_slices_ContainsFunc_api_Meta_api_Meta : Nat := 33
def G_slices_ContainsFunc_api_Meta_api_Meta : List Nat := [0, 1, 4]
def MU_slices_ContainsFunc_api_Meta_api_Meta (d : Nat) : Bool := ([] : List Nat).contains d
noncomputable def S_slices_ContainsFunc_api_Meta_api_Meta : St := (.seq (.sets [(4, (.k (.bool false)))] []) (.seq (.sets [(4, (.bin .geq (.call 57 (.cs (.s 0) (.cs (.s 1) .nl))) (.k (.int .i64 0))))] []) .ret))
noncomputable def R_slices_ContainsFunc_api_Meta_api_Meta : Ex := (.s 4)
theorem dec_slices_ContainsFunc_api_Meta_api_Meta : opt (dec Tryd.prog (fun f => roL.contains f) (fun t => G_slices_ContainsFunc_api_Meta_api_Meta.contains t) 9 (Tryd.f33.body.getD .skip)) = S_slices_ContainsFunc_api_Meta_api_Meta := by kernel_rfl
theorem res_slices_ContainsFunc_api_Meta_api_Meta : resE Tryd.prog (fun t => G_slices_ContainsFunc_api_Meta_api_Meta.contains t) Tryd.f33.results.toList = some R_slices_ContainsFunc_api_Meta_api_Meta := by kernel_rfl
theorem pc_slices_ContainsFunc_api_Meta_api_Meta {ds : List DV} {R : DV → DMem → Prop} {M : DMem} (hl : ds.length ≤ 9)
    (h : wpD Tryd.prog MU_slices_ContainsFunc_api_Meta_api_Meta (fun f => roL.contains f) (fun t => G_slices_ContainsFunc_api_Meta_api_Meta.contains t) 9 S_slices_ContainsFunc_api_Meta_api_Meta (fun δ M' => ∃ d, evD Tryd.prog M' δ R_slices_ContainsFunc_api_Meta_api_Meta = some d ∧ R d M') (fun _ _ _ => False) (fun δ M' => ∃ d, evD Tryd.prog M' δ R_slices_ContainsFunc_api_Meta_api_Meta = some d ∧ R d M') (argD ds) M) :
    PC Tryd.prog F_slices_ContainsFunc_api_Meta_api_Meta ds R M :=
  pc_opt Tryd.func33 (c := Tryd.f33.body.getD .skip) (by kernel_rfl) (by kernel_rfl) (by kernel_rfl) dec_slices_ContainsFunc_api_Meta_api_Meta res_slices_ContainsFunc_api_Meta_api_Meta _ hl h
abbrev F_slices_Clone_api_Ir_api_Ir : Nat := 47
def G_slices_Clone_api_Ir_api_Ir : List Nat := [0, 2, 4]
def MU_slices_Clone_api_Ir_api_Ir (d : Nat) : Bool := ([] : List Nat).contains d
noncomputable def S_slices_Clone_api_Ir_api_Ir : St := (.seq (.sets [(2, (.k (.slice none 0 0)))] []) (.seq (.sets [(4, (.eqz false (.s 0) (.k (.slice none 0 0))))] []) (.seq (.ite (.s 4) (.seq (.sets [(2, (.k (.slice none 0 0)))] []) .ret) .nop) (.seq (.act (some 5) (.bslice 38 9 [] 0 [])) (.seq (.sets [(6, (.s 0))] []) (.seq (.act (some 7) (.app 38 9 88 (.tmp 5) (.tmp 6))) (.seq (.sets [(2, (.s 7))] []) .ret)))))))
noncomputable def R_slices_Clone_api_Ir_api_Ir : Ex := (.s 2)
theorem dec_slices_Clone_api_Ir_api_Ir : opt (dec Tryd.prog (fun f => roL.contains f) (fun t => G_slices_Clone_api_Ir_api_Ir.contains t) 8 (Tryd.f47.body.getD .skip)) = S_slices_Clone_api_Ir_api_Ir := by kernel_rfl
theorem res_slices_Clone_api_Ir_api_Ir : resE Tryd.prog (fun t => G_slices_Clone_api_Ir_api_Ir.contains t) Tryd.f47.results.toList = some R_slices_Clone_api_Ir_api_Ir := by kernel_rfl
theorem pc_slices_Clone_api_Ir_api_Ir {ds : List DV} {R : DV → DMem → Prop} {M : DMem} (hl : ds.length ≤ 8)
    (h : wpD Tryd.prog MU_slices_Clone_api_Ir_api_Ir (fun f => roL.contains f) (fun t => G_slices_Clone_api_Ir_api_Ir.contains t) 8 S_slices_Clone_api_Ir_api_Ir (fun δ M' => ∃ d, evD Tryd.prog M' δ R_slices_Clone_api_Ir_api_Ir = some d ∧ R d M') (fun _ _ _ => False) (fun δ M' => ∃ d, evD Tryd.prog M' δ R_slices_Clone_api_Ir_api_Ir = some d ∧ R d M') (argD ds) M) :
    PC Tryd.prog F_slices_Clone_api_Ir_api_Ir ds R M :=
  pc_opt Tryd.func47 (c := Tryd.f47.body.getD .skip) (by kernel_rfl) (by kernel_rfl) (by kernel_rfl) dec_slices_Clone_api_Ir_api_Ir res_slices_Clone_api_Ir_api_Ir _ hl h
abbrev F_slices_Clone_api_Meta_api_Meta : Nat := 48
def G_slices_Clone_api_Meta_api_Meta : List Nat := [0, 2, 4]
def MU_slices_Clone_api_Meta_api_Meta (d : Nat) : Bool := ([] : List Nat).contains d
noncomputable def S_slices_Clone_api_Meta_api_Meta : St := (.seq (.sets [(2, (.k (.slice none 0 0)))] []) (.seq (.sets [(4, (.eqz false (.s 0) (.k (.slice none 0 0))))] []) (.seq (.ite (.s 4) (.seq (.sets [(2, (.k (.slice none 0 0)))] []) .ret) .nop) (.seq (.act (some 5) (.bslice 64 1 [] 0 [])) (.seq (.sets [(6, (.s 0))] []) (.seq (.act (some 7) (.app 64 1 24 (.tmp 5) (.tmp 6))) (.seq (.sets [(2, (.s 7))] []) .ret)))))))
noncomputable def R_slices_Clone_api_Meta_api_Meta : Ex := (.s 2)
theorem dec_slices_Clone_api_Meta_api_Meta : opt (dec Tryd.prog (fun f => roL.contains f) (fun t => G_slices_Clone_api_Meta_api_Meta.contains t) 8 (Tryd.f48.body.getD .skip)) = S_slices_Clone_api_Meta_api_Meta := by kernel_rfl
theorem res_slices_Clone_api_Meta_api_Meta : resE Tryd.prog (fun t => G_slices_Clone_api_Meta_api_Meta.contains t) Tryd.f48.results.toList = some R_slices_Clone_api_Meta_api_Meta := by kernel_rfl
theorem pc_slices_Clone_api_Meta_api_Meta {ds : List DV} {R : DV → DMem → Prop} {M : DMem} (hl : ds.length ≤ 8)
    (h : wpD Tryd.prog MU_slices_Clone_api_Meta_api_Meta (fun f => roL.contains f) (fun t => G_slices_Clone_api_Meta_api_Meta.contains t) 8 S_slices_Clone_api_Meta_api_Meta (fun δ M' => ∃ d, evD Tryd.prog M' δ R_slices_Clone_api_Meta_api_Meta = some d ∧ R d M') (fun _ _ _ => False) (fun δ M' => ∃ d, evD Tryd.prog M' δ R_slices_Clone_api_Meta_api_Meta = some d ∧ R d M') (argD ds) M) :
    PC Tryd.prog F_slices_Clone_api_Meta_api_Meta ds R M :=
  pc_opt Tryd.func48 (c := Tryd.f48.body.getD .skip) (by kernel_rfl) (by kernel_rfl) (by kernel_rfl) dec_slices_Clone_api_Meta_api_Meta res_slices_Clone_api_Meta_api_Meta _ hl h
abbrev F_slices_Clone_int_int : Nat := 49
def G_slices_Clone_int_int : List Nat := [0, 2, 4]
def MU_slices_Clone_int_int (d : Nat) : Bool := ([] : List Nat).contains d
noncomputable def S_slices_Clone_int_int : St := (.seq (.sets [(2, (.k (.slice none 0 0)))] []) (.seq (.sets [(4, (.eqz false (.s 0) (.k (.slice none 0 0))))] []) (.seq (.ite (.s 4) (.seq (.sets [(2, (.k (.slice none 0 0)))] []) .ret) .nop) (.seq (.act (some 5) (.bslice 3 1 [] 0 [])) (.seq (.sets [(6, (.s 0))] []) (.seq (.act (some 7) (.app 3 1 8 (.tmp 5) (.tmp 6))) (.seq (.sets [(2, (.s 7))] []) .ret)))))))
noncomputable def R_slices_Clone_int_int : Ex := (.s 2)
theorem dec_slices_Clone_int_int : opt (dec Tryd.prog (fun f => roL.contains f) (fun t => G_slices_Clone_int_int.contains t) 8 (Tryd.f49.body.getD .skip)) = S_slices_Clone_int_int := by kernel_rfl
theorem res_slices_Clone_int_int : resE Tryd.prog (fun t => G_slices_Clone_int_int.contains t) Tryd.f49.results.toList = some R_slices_Clone_int_int := by kernel_rfl
theorem pc_slices_Clone_int_int {ds : List DV} {R : DV → DMem → Prop} {M : DMem} (hl : ds.length ≤ 8)
    (h : wpD Tryd.prog MU_slices_Clone_int_int (fun f => roL.contains f) (fun t => G_slices_Clone_int_int.contains t) 8 S_slices_Clone_int_int (fun δ M' => ∃ d, evD Tryd.prog M' δ R_slices_Clone_int_int = some d ∧ R d M') (fun _ _ _ => False) (fun δ M' => ∃ d, evD Tryd.prog M' δ R_slices_Clone_int_int = some d ∧ R d M') (argD ds) M) :
    PC Tryd.prog F_slices_Clone_int_int ds R M :=
  pc_opt Tryd.func49 (c := Tryd.f49.body.getD .skip) (by kernel_rfl) (by kernel_rfl) (by kernel_rfl) dec_slices_Clone_int_int res_slices_Clone_int_int _ hl h
abbrev F_pack_May : Nat := 52
def G_pack_May : List Nat := [0, 2]
def MU_pack_May (d : Nat) : Bool := ([] : List Nat).contains d
noncomputable def S_pack_May : St := (.seq (.sets [(2, (.k (.bool false)))] []) (.seq (.sets [(2, (.and (.and (.bin .geq (.len (.ld (.fa 0 (.nck (.s 0))))) (.k (.int .i64 1))) (.bin .leq (.len (.ld (.fa 0 (.nck (.s 0))))) (.k (.int .i64 8)))) (.un .not (.call 66 (.cs (.ld (.fa 0 (.nck (.s 0)))) (.cs (.k (.func (.func 67) #[] #[])) .nl))))))] []) .ret))
noncomputable def R_pack_May : Ex := (.s 2)
theorem dec_pack_May : opt (dec Tryd.prog (fun f => roL.contains f) (fun t => G_pack_May.contains t) 25 (Tryd.f52.body.getD .skip)) = S_pack_May := by kernel_rfl
theorem res_pack_May : resE Tryd.prog (fun t => G_pack_May.contains t) Tryd.f52.results.toList = some R_pack_May := by kernel_rfl
theorem pc_pack_May {ds : List DV} {R : DV → DMem → Prop} {M : DMem} (hl : ds.length ≤ 25)
    (h : wpD Tryd.prog MU_pack_May (fun f => roL.contains f) (fun t => G_pack_May.contains t) 25 S_pack_May (fun δ M' => ∃ d, evD Tryd.prog M' δ R_pack_May = some d ∧ R d M') (fun _ _ _ => False) (fun δ M' => ∃ d, evD Tryd.prog M' δ R_pack_May = some d ∧ R d M') (argD ds) M) :
    PC Tryd.prog F_pack_May ds R M :=
  pc_opt Tryd.func52 (c := Tryd.f52.body.getD .skip) (by kernel_rfl) (by kernel_rfl) (by kernel_rfl) dec_pack_May res_pack_May _ hl h
abbrev F_verify_Heights : Nat := 53
def G_verify_Heights : List Nat := [0, 1, 2, 4, 5, 6, 7, 8, 10, 11, 12, 13, 26, 42]
def MU_verify_Heights (d : Nat) : Bool := ([] : List Nat).contains d
noncomputable def S1_verify_Heights : St := (.seq (.sets [(12, (.ext 0 (.s 50))), (13, (.ext 1 (.s 50)))] []) (.seq (.sets [(4, (.s 11)), (5, (.s 12)), (6, (.s 13))] []) .ret))
noncomputable def S2_verify_Heights : St := (.seq (.sets [(49, (.s 10))] []) (.seq (.act (some 50) (.call 71 [(.tmp 49)])) S1_verify_Heights))
noncomputable def S3_verify_Heights : St := (.seq (.sets [(10, (.s 40))] []) (.seq (.sets [(11, (.k (.slice none 0 0)))] []) (.seq (.sets [(41, (.s 10))] []) (.seq (.eff ⟨(some 42), (.binOp .eql 132 (.tmp 41) (.const .nilIface) 132), 4, "", #[], none⟩) (.seq (.ite (.s 42) (.seq (.sets [(44, (.s 7))] []) (.seq (.act (some 45) (.call 70 [(.tmp 2), (.tmp 44)])) (.sets [(11, (.ext 0 (.s 45))), (10, (.ext 1 (.s 45)))] []))) .nop) S2_verify_Heights)))))
noncomputable def S4_verify_Heights : St := (.seq (.sets [(8, (.ext 0 (.s 35)))] [(.ext 1 (.s 35))]) (.seq (.sets [(38, (.s 7)), (39, (.s 8))] []) (.seq (.act (some 40) (.call 69 [(.tmp 2), (.tmp 38), (.tmp 39)])) S3_verify_Heights)))
noncomputable def S_verify_Heights : St := (.seq (.act (some 2) (.box 24 (.tmp 0))) (.seq (.sets [(4, (.k (.slice none 0 0))), (5, (.k (.int .i64 0))), (6, (.k (.int .i64 0)))] []) (.seq (.sets [(26, (.or (.or (.un .not (.call 52 (.cs (.s 2) .nl))) (.bin .lss (.s 1) (.k (.int .i64 0)))) (.bin .geq (.s 1) (.len (.ld (.fa 0 (.s 2)))))))] []) (.seq (.ite (.s 26) (.seq (.sets [(4, (.k (.slice none 0 0))), (5, (.k (.int .i64 0))), (6, (.k (.int .i64 500)))] []) .ret) .nop) (.seq (.sets [(7, (.ix 3 (.ld (.fa 0 (.s 2))) (.s 1)))] []) (.seq (.sets [(34, (.ldn 3 (.nck (.s 7))))] []) (.seq (.act (some 35) (.call 68 [(.tmp 34)])) S4_verify_Heights)))))))
noncomputable def R_verify_Heights : Ex := (.cs (.s 4) (.cs (.s 5) (.cs (.s 6) .nl)))
theorem dec_verify_Heights : opt (dec Tryd.prog (fun f => roL.contains f) (fun t => G_verify_Heights.contains t) 56 (Tryd.f53.body.getD .skip)) = S_verify_Heights := by kernel_rfl
theorem res_verify_Heights : resE Tryd.prog (fun t => G_verify_Heights.contains t) Tryd.f53.results.toList = some R_verify_Heights := by kernel_rfl
theorem pc_verify_Heights {ds : List DV} {R : DV → DMem → Prop} {M : DMem} (hl : ds.length ≤ 56)
    (h : wpD Tryd.prog MU_verify_Heights (fun f => roL.contains f) (fun t => G_verify_Heights.contains t) 56 S_verify_Heights (fun δ M' => ∃ d, evD Tryd.prog M' δ R_verify_Heights = some d ∧ R d M') (fun _ _ _ => False) (fun δ M' => ∃ d, evD Tryd.prog M' δ R_verify_Heights = some d ∧ R d M') (argD ds) M) :
    PC Tryd.prog F_verify_Heights ds R M :=
  pc_opt Tryd.func53 (c := Tryd.f53.body.getD .skip) (by kernel_rfl) (by kernel_rfl) (by kernel_rfl) dec_verify_Heights res_verify_Heights _ hl h
abbrev F_slices_IndexFunc_api_Meta_api_Meta : Nat := 57
def G_slices_IndexFunc_api_Meta_api_Meta : List Nat := [0, 1, 4, 5, 7, 8, 9, 16]
def MU_slices_IndexFunc_api_Meta_api_Meta (d : Nat) : Bool := ([] : List Nat).contains d
noncomputable def S1_slices_IndexFunc_api_Meta_api_Meta : St := (.seq (.sets [(9, (.bin .lss (.s 8) (.s 7)))] []) (.seq (.ite (.s 9) .nop (.exit 0)) (.seq (.block 1 (.seq (.sets [(5, (.s 8))] []) (.seq (.sets [(11, (.s 1)), (15, (.ldn 1 (.ix 1 (.s 0) (.s 5))))] []) (.seq (.act (some 16) (.callv 11 [(.tmp 15)])) (.ite (.s 16) (.seq (.sets [(4, (.s 5))] []) .ret) .nop))))) (.sets [(8, (.bin .add (.s 8) (.k (.int .i64 1))))] []))))
noncomputable def S_slices_IndexFunc_api_Meta_api_Meta : St := (.seq (.sets [(4, (.k (.int .i64 0)))] []) (.seq (.sets [(7, (.len (.s 0))), (8, (.k (.int .i64 0)))] []) (.seq (.block 0 (.loop S1_slices_IndexFunc_api_Meta_api_Meta)) (.seq (.sets [(4, (.k (.int .i64 (-1))))] []) .ret))))
noncomputable def R_slices_IndexFunc_api_Meta_api_Meta : Ex := (.s 4)
theorem dec_slices_IndexFunc_api_Meta_api_Meta : opt (dec Tryd.prog (fun f => roL.contains f) (fun t => G_slices_IndexFunc_api_Meta_api_Meta.contains t) 19 (Tryd.f57.body.getD .skip)) = S_slices_IndexFunc_api_Meta_api_Meta := by kernel_rfl
theorem res_slices_IndexFunc_api_Meta_api_Meta : resE Tryd.prog (fun t => G_slices_IndexFunc_api_Meta_api_Meta.contains t) Tryd.f57.results.toList = some R_slices_IndexFunc_api_Meta_api_Meta := by kernel_rfl
theorem pc_slices_IndexFunc_api_Meta_api_Meta {ds : List DV} {R : DV → DMem → Prop} {M : DMem} (hl : ds.length ≤ 19)
    (h : wpD Tryd.prog MU_slices_IndexFunc_api_Meta_api_Meta (fun f => roL.contains f) (fun t => G_slices_IndexFunc_api_Meta_api_Meta.contains t) 19 S_slices_IndexFunc_api_Meta_api_Meta (fun δ M' => ∃ d, evD Tryd.prog M' δ R_slices_IndexFunc_api_Meta_api_Meta = some d ∧ R d M') (fun _ _ _ => False) (fun δ M' => ∃ d, evD Tryd.prog M' δ R_slices_IndexFunc_api_Meta_api_Meta = some d ∧ R d M') (argD ds) M) :
    PC Tryd.prog F_slices_IndexFunc_api_Meta_api_Meta ds R M :=
  pc_opt Tryd.func57 (c := Tryd.f57.body.getD .skip) (by kernel_rfl) (by kernel_rfl) (by kernel_rfl) dec_slices_IndexFunc_api_Meta_api_Meta res_slices_IndexFunc_api_Meta_api_Meta _ hl h
abbrev F_frame_After : Nat := 59
def G_frame_After : List Nat := [0, 1, 2, 3, 4, 10]
def MU_frame_After (d : Nat) : Bool := ([] : List Nat).contains d
noncomputable def S_frame_After : St := (.seq (.sets [(10, (.k (.bool false)))] []) (.seq (.sets [(10, (.and (.and (.and (.bin .gtr (.s 3) (.k (.int .i64 0))) (.bin .leq (.s 3) (.len (.ld (.fa 2 (.ix 3 (.ld (.fa 0 (.nck (.s 0)))) (.s 2))))))) (.bin .neq (.ld (.ix 1 (.ld (.ix 1 (.s 1) (.s 2))) (.bin .sub (.s 3) (.k (.int .i64 1))))) (.k (.int .i64 (-1))))) (.eqs false 2 (.ldn 2 (.ix 2 (.ld (.fa 2 (.ix 3 (.ld (.fa 0 (.nck (.s 0)))) (.s 2)))) (.bin .sub (.s 3) (.k (.int .i64 1))))) (.bld [(.int .i64 0), (.int .i64 0)] [(0, 1), (1, 1)] (.cs (.k (.int .i64 14)) (.cs (.s 4) .nl))))))] []) .ret))
noncomputable def R_frame_After : Ex := (.s 10)
theorem dec_frame_After : opt (dec Tryd.prog (fun f => roL.contains f) (fun t => G_frame_After.contains t) 54 (Tryd.f59.body.getD .skip)) = S_frame_After := by kernel_rfl
theorem res_frame_After : resE Tryd.prog (fun t => G_frame_After.contains t) Tryd.f59.results.toList = some R_frame_After := by kernel_rfl
theorem pc_frame_After {ds : List DV} {R : DV → DMem → Prop} {M : DMem} (hl : ds.length ≤ 54)
    (h : wpD Tryd.prog MU_frame_After (fun f => roL.contains f) (fun t => G_frame_After.contains t) 54 S_frame_After (fun δ M' => ∃ d, evD Tryd.prog M' δ R_frame_After = some d ∧ R d M') (fun _ _ _ => False) (fun δ M' => ∃ d, evD Tryd.prog M' δ R_frame_After = some d ∧ R d M') (argD ds) M) :
    PC Tryd.prog F_frame_After ds R M :=
  pc_opt Tryd.func59 (c := Tryd.f59.body.getD .skip) (by kernel_rfl) (by kernel_rfl) (by kernel_rfl) dec_frame_After res_frame_After _ hl h
abbrev F_slices_Clone_api_Part_api_Part : Nat := 64
def G_slices_Clone_api_Part_api_Part : List Nat := [0, 2, 4]
def MU_slices_Clone_api_Part_api_Part (d : Nat) : Bool := ([] : List Nat).contains d
noncomputable def S_slices_Clone_api_Part_api_Part : St := (.seq (.sets [(2, (.k (.slice none 0 0)))] []) (.seq (.sets [(4, (.eqz false (.s 0) (.k (.slice none 0 0))))] []) (.seq (.ite (.s 4) (.seq (.sets [(2, (.k (.slice none 0 0)))] []) .ret) .nop) (.seq (.act (some 5) (.bslice 61 4 [] 0 [])) (.seq (.sets [(6, (.s 0))] []) (.seq (.act (some 7) (.app 61 4 64 (.tmp 5) (.tmp 6))) (.seq (.sets [(2, (.s 7))] []) .ret)))))))
noncomputable def R_slices_Clone_api_Part_api_Part : Ex := (.s 2)
theorem dec_slices_Clone_api_Part_api_Part : opt (dec Tryd.prog (fun f => roL.contains f) (fun t => G_slices_Clone_api_Part_api_Part.contains t) 8 (Tryd.f64.body.getD .skip)) = S_slices_Clone_api_Part_api_Part := by kernel_rfl
theorem res_slices_Clone_api_Part_api_Part : resE Tryd.prog (fun t => G_slices_Clone_api_Part_api_Part.contains t) Tryd.f64.results.toList = some R_slices_Clone_api_Part_api_Part := by kernel_rfl
theorem pc_slices_Clone_api_Part_api_Part {ds : List DV} {R : DV → DMem → Prop} {M : DMem} (hl : ds.length ≤ 8)
    (h : wpD Tryd.prog MU_slices_Clone_api_Part_api_Part (fun f => roL.contains f) (fun t => G_slices_Clone_api_Part_api_Part.contains t) 8 S_slices_Clone_api_Part_api_Part (fun δ M' => ∃ d, evD Tryd.prog M' δ R_slices_Clone_api_Part_api_Part = some d ∧ R d M') (fun _ _ _ => False) (fun δ M' => ∃ d, evD Tryd.prog M' δ R_slices_Clone_api_Part_api_Part = some d ∧ R d M') (argD ds) M) :
    PC Tryd.prog F_slices_Clone_api_Part_api_Part ds R M :=
  pc_opt Tryd.func64 (c := Tryd.f64.body.getD .skip) (by kernel_rfl) (by kernel_rfl) (by kernel_rfl) dec_slices_Clone_api_Part_api_Part res_slices_Clone_api_Part_api_Part _ hl h
abbrev F_slices_Clone_api_Src_api_Src : Nat := 65
def G_slices_Clone_api_Src_api_Src : List Nat := [0, 2, 4]
def MU_slices_Clone_api_Src_api_Src (d : Nat) : Bool := ([] : List Nat).contains d
noncomputable def S_slices_Clone_api_Src_api_Src : St := (.seq (.sets [(2, (.k (.slice none 0 0)))] []) (.seq (.sets [(4, (.eqz false (.s 0) (.k (.slice none 0 0))))] []) (.seq (.ite (.s 4) (.seq (.sets [(2, (.k (.slice none 0 0)))] []) .ret) .nop) (.seq (.act (some 5) (.bslice 58 2 [] 0 [])) (.seq (.sets [(6, (.s 0))] []) (.seq (.act (some 7) (.app 58 2 16 (.tmp 5) (.tmp 6))) (.seq (.sets [(2, (.s 7))] []) .ret)))))))
noncomputable def R_slices_Clone_api_Src_api_Src : Ex := (.s 2)
theorem dec_slices_Clone_api_Src_api_Src : opt (dec Tryd.prog (fun f => roL.contains f) (fun t => G_slices_Clone_api_Src_api_Src.contains t) 8 (Tryd.f65.body.getD .skip)) = S_slices_Clone_api_Src_api_Src := by kernel_rfl
theorem res_slices_Clone_api_Src_api_Src : resE Tryd.prog (fun t => G_slices_Clone_api_Src_api_Src.contains t) Tryd.f65.results.toList = some R_slices_Clone_api_Src_api_Src := by kernel_rfl
theorem pc_slices_Clone_api_Src_api_Src {ds : List DV} {R : DV → DMem → Prop} {M : DMem} (hl : ds.length ≤ 8)
    (h : wpD Tryd.prog MU_slices_Clone_api_Src_api_Src (fun f => roL.contains f) (fun t => G_slices_Clone_api_Src_api_Src.contains t) 8 S_slices_Clone_api_Src_api_Src (fun δ M' => ∃ d, evD Tryd.prog M' δ R_slices_Clone_api_Src_api_Src = some d ∧ R d M') (fun _ _ _ => False) (fun δ M' => ∃ d, evD Tryd.prog M' δ R_slices_Clone_api_Src_api_Src = some d ∧ R d M') (argD ds) M) :
    PC Tryd.prog F_slices_Clone_api_Src_api_Src ds R M :=
  pc_opt Tryd.func65 (c := Tryd.f65.body.getD .skip) (by kernel_rfl) (by kernel_rfl) (by kernel_rfl) dec_slices_Clone_api_Src_api_Src res_slices_Clone_api_Src_api_Src _ hl h
abbrev F_slices_ContainsFunc_api_Func_api_Func : Nat := 66
def G_slices_ContainsFunc_api_Func_api_Func : List Nat := [0, 1, 4]
def MU_slices_ContainsFunc_api_Func_api_Func (d : Nat) : Bool := ([] : List Nat).contains d
noncomputable def S_slices_ContainsFunc_api_Func_api_Func : St := (.seq (.sets [(4, (.k (.bool false)))] []) (.seq (.sets [(4, (.bin .geq (.call 76 (.cs (.s 0) (.cs (.s 1) .nl))) (.k (.int .i64 0))))] []) .ret))
noncomputable def R_slices_ContainsFunc_api_Func_api_Func : Ex := (.s 4)
theorem dec_slices_ContainsFunc_api_Func_api_Func : opt (dec Tryd.prog (fun f => roL.contains f) (fun t => G_slices_ContainsFunc_api_Func_api_Func.contains t) 9 (Tryd.f66.body.getD .skip)) = S_slices_ContainsFunc_api_Func_api_Func := by kernel_rfl
theorem res_slices_ContainsFunc_api_Func_api_Func : resE Tryd.prog (fun t => G_slices_ContainsFunc_api_Func_api_Func.contains t) Tryd.f66.results.toList = some R_slices_ContainsFunc_api_Func_api_Func := by kernel_rfl
theorem pc_slices_ContainsFunc_api_Func_api_Func {ds : List DV} {R : DV → DMem → Prop} {M : DMem} (hl : ds.length ≤ 9)
    (h : wpD Tryd.prog MU_slices_ContainsFunc_api_Func_api_Func (fun f => roL.contains f) (fun t => G_slices_ContainsFunc_api_Func_api_Func.contains t) 9 S_slices_ContainsFunc_api_Func_api_Func (fun δ M' => ∃ d, evD Tryd.prog M' δ R_slices_ContainsFunc_api_Func_api_Func = some d ∧ R d M') (fun _ _ _ => False) (fun δ M' => ∃ d, evD Tryd.prog M' δ R_slices_ContainsFunc_api_Func_api_Func = some d ∧ R d M') (argD ds) M) :
    PC Tryd.prog F_slices_ContainsFunc_api_Func_api_Func ds R M :=
  pc_opt Tryd.func66 (c := Tryd.f66.body.getD .skip) (by kernel_rfl) (by kernel_rfl) (by kernel_rfl) dec_slices_ContainsFunc_api_Func_api_Func res_slices_ContainsFunc_api_Func_api_Func _ hl h
abbrev F_pack_not : Nat := 67
def G_pack_not : List Nat := [0, 1, 2, 3]
def MU_pack_not (d : Nat) : Bool := ([] : List Nat).contains d
noncomputable def S_pack_not : St := (.seq (.act (some 1) (.box 43 (.tmp 0))) (.seq (.sets [(2, (.k (.bool false)))] []) (.seq (.sets [(3, (.k (.func (.func 77) #[] #[])))] []) (.seq (.sets [(2, (.or (.or (.or (.or (.or (.or (.bin .lss (.ld (.fa 0 (.s 1))) (.k (.int .i64 0))) (.bin .gtr (.ld (.fa 0 (.s 1))) (.k (.int .i64 4)))) (.bin .lss (.ld (.fa 1 (.s 1))) (.ld (.fa 0 (.s 1))))) (.bin .gtr (.ld (.fa 1 (.s 1))) (.k (.int .i64 8)))) (.bin .lss (.len (.ld (.fa 2 (.s 1)))) (.k (.int .i64 1)))) (.bin .gtr (.len (.ld (.fa 2 (.s 1)))) (.k (.int .i64 64)))) (.call 79 (.cs (.ld (.fa 2 (.s 1))) (.cs (.s 3) .nl)))))] []) .ret))))
noncomputable def R_pack_not : Ex := (.s 2)
theorem dec_pack_not : opt (dec Tryd.prog (fun f => roL.contains f) (fun t => G_pack_not.contains t) 42 (Tryd.f67.body.getD .skip)) = S_pack_not := by kernel_rfl
theorem res_pack_not : resE Tryd.prog (fun t => G_pack_not.contains t) Tryd.f67.results.toList = some R_pack_not := by kernel_rfl
theorem pc_pack_not {ds : List DV} {R : DV → DMem → Prop} {M : DMem} (hl : ds.length ≤ 42)
    (h : wpD Tryd.prog MU_pack_not (fun f => roL.contains f) (fun t => G_pack_not.contains t) 42 S_pack_not (fun δ M' => ∃ d, evD Tryd.prog M' δ R_pack_not = some d ∧ R d M') (fun _ _ _ => False) (fun δ M' => ∃ d, evD Tryd.prog M' δ R_pack_not = some d ∧ R d M') (argD ds) M) :
    PC Tryd.prog F_pack_not ds R M :=
  pc_opt Tryd.func67 (c := Tryd.f67.body.getD .skip) (by kernel_rfl) (by kernel_rfl) (by kernel_rfl) dec_pack_not res_pack_not _ hl h
abbrev F_flow_Reached : Nat := 68
def G_flow_Reached : List Nat := [0, 1, 2, 3, 4, 5, 7, 9, 19, 25, 26, 27, 28, 35]
def MU_flow_Reached (d : Nat) : Bool := ([16] : List Nat).contains d
noncomputable def S1_flow_Reached : St := (.seq (.sets [(28, (.bin .lss (.s 27) (.s 26)))] []) (.seq (.ite (.s 28) .nop (.exit 2)) (.seq (.block 3 (.seq (.sets [(7, (.ld (.ix 1 (.s 25) (.s 27))))] []) (.seq (.sets [(35, (.un .not (.ld (.ix 1 (.s 4) (.s 7)))))] []) (.ite (.s 35) (.seq (.sets [(38, (.ix 1 (.s 4) (.s 7)))] []) (.seq (.act none (.store 1 (.tmp 38) (.const (.bool true)))) (.seq (.sets [(39, (.s 5)), (40, (.s 7))] []) (.seq (.act (some 41) (.bslice 3 1 [(.int .i64 0)] 1 [(0, (.tmp 40))])) (.seq (.act (some 42) (.app 3 1 8 (.tmp 39) (.tmp 41))) (.sets [(5, (.s 42))] [])))))) .nop)))) (.sets [(27, (.bin .add (.s 27) (.k (.int .i64 1))))] []))))
noncomputable def S2_flow_Reached : St := (.seq (.sets [(26, (.len (.s 25))), (27, (.k (.int .i64 0)))] []) (.block 2 (.loop S1_flow_Reached)))
noncomputable def S3_flow_Reached : St := (.sets [(5, (.slc 1 (.s 5) (.cs (.k (.int .i64 1)) .nl) .nl .nl))] [])
noncomputable def S4_flow_Reached : St := (.seq (.sets [(19, (.bin .gtr (.len (.s 5)) (.k (.int .i64 0))))] []) (.seq (.ite (.s 19) .nop (.exit 0)) (.seq (.block 1 (.seq (.sets [(24, (.ld (.ix 1 (.s 5) (.k (.int .i64 0)))))] []) (.seq (.act (some 25) (.call 81 [(.tmp 1), (.tmp 24)])) S2_flow_Reached))) S3_flow_Reached)))
noncomputable def S5_flow_Reached : St := (.seq (.sets [(2, (.s 4)), (3, (.k (.int .i64 0)))] []) .ret)
noncomputable def S_flow_Reached : St := (.seq (.act (some 1) (.box 43 (.tmp 0))) (.seq (.sets [(2, (.k (.slice none 0 0))), (3, (.k (.int .i64 0)))] []) (.seq (.sets [(9, (.un .not (.call 80 (.cs (.s 1) .nl))))] []) (.seq (.ite (.s 9) (.seq (.sets [(2, (.k (.slice none 0 0))), (3, (.k (.int .i64 400)))] []) .ret) .nop) (.seq (.sets [(12, (.len (.ld (.fa 2 (.s 1)))))] []) (.seq (.act (some 13) (.make 4 1 1 (.bool false) (.tmp 12) (.tmp 12))) (.seq (.sets [(4, (.s 13))] []) (.seq (.sets [(15, (.ix 1 (.s 4) (.k (.int .i64 0))))] []) (.seq (.act none (.store 1 (.tmp 15) (.const (.bool true)))) (.seq (.act (some 16) (.bslice 3 1 [(.int .i64 0)] 1 [(0, (.const (.int .i64 0)))])) (.seq (.sets [(5, (.s 16))] []) (.seq (.block 0 (.loop S4_flow_Reached)) S5_flow_Reached))))))))))))
noncomputable def R_flow_Reached : Ex := (.cs (.s 2) (.cs (.s 3) .nl))
theorem dec_flow_Reached : opt (dec Tryd.prog (fun f => roL.contains f) (fun t => G_flow_Reached.contains t) 45 (Tryd.f68.body.getD .skip)) = S_flow_Reached := by kernel_rfl
theorem res_flow_Reached : resE Tryd.prog (fun t => G_flow_Reached.contains t) Tryd.f68.results.toList = some R_flow_Reached := by kernel_rfl
theorem pc_flow_Reached {ds : List DV} {R : DV → DMem → Prop} {M : DMem} (hl : ds.length ≤ 45)
    (h : wpD Tryd.prog MU_flow_Reached (fun f => roL.contains f) (fun t => G_flow_Reached.contains t) 45 S_flow_Reached (fun δ M' => ∃ d, evD Tryd.prog M' δ R_flow_Reached = some d ∧ R d M') (fun _ _ _ => False) (fun δ M' => ∃ d, evD Tryd.prog M' δ R_flow_Reached = some d ∧ R d M') (argD ds) M) :
    PC Tryd.prog F_flow_Reached ds R M :=
  pc_opt Tryd.func68 (c := Tryd.f68.body.getD .skip) (by kernel_rfl) (by kernel_rfl) (by kernel_rfl) dec_flow_Reached res_flow_Reached _ hl h
abbrev F_verify_plain : Nat := 69
def G_verify_plain : List Nat := [0, 1, 2, 6, 7, 8, 9, 10, 14, 15, 16, 17, 30, 62]
def MU_verify_plain (d : Nat) : Bool := ([] : List Nat).contains d
noncomputable def S1_verify_plain : St := (.seq (.sets [(17, (.bin .lss (.s 16) (.s 15)))] []) (.seq (.ite (.s 17) .nop (.exit 0)) (.seq (.block 1 (.seq (.sets [(18, (.s 16)), (20, (.ldn 2 (.ix 2 (.s 14) (.s 16))))] []) (.seq (.act (some 8) (.alloc 40 (.agg #[(.int .i64 0), (.int .i64 0)]))) (.seq (.sets [(7, (.s 18))] []) (.seq (.act none (.store 2 (.tmp 8) (.tmp 20))) (.seq (.sets [(30, (.and (.ld (.ix 1 (.s 2) (.s 7))) (.call 82 (.cs (.s 0) (.cs (.s 1) (.cs (.ldn 2 (.s 8)) .nl))))))] []) (.ite (.s 30) (.seq (.sets [(33, (.bld [(.int .i64 0), .nilIface] [(0, 1), (1, 1)] (.cs (.s 7) (.cs (.ifc 30 (.k (.int .i64 501))) .nl))))] []) (.seq (.act (some 34) (.box 151 (.tmp 33))) (.seq (.sets [(6, (.ifc 149 (.s 34)))] []) .ret))) .nop))))))) (.sets [(16, (.bin .add (.s 16) (.k (.int .i64 1))))] []))))
noncomputable def S2_verify_plain : St := (.seq (.sets [(9, (.bin .sub (.len (.ld (.fa 2 (.nck (.s 1))))) (.k (.int .i64 1))))] []) (.seq (.sets [(10, (.ld (.fa 0 (.ix 2 (.ld (.fa 2 (.nck (.s 1)))) (.s 9)))))] []) (.seq (.sets [(62, (.and (.and (.ld (.ix 1 (.s 2) (.s 9))) (.bin .neq (.s 10) (.k (.int .i64 12)))) (.bin .neq (.s 10) (.k (.int .i64 16)))))] []) (.seq (.ite (.s 62) (.seq (.sets [(65, (.bld [(.int .i64 0), .nilIface] [(0, 1), (1, 1)] (.cs (.s 9) (.cs (.ifc 30 (.k (.int .i64 503))) .nl))))] []) (.seq (.act (some 66) (.box 151 (.tmp 65))) (.seq (.sets [(6, (.ifc 149 (.s 66)))] []) .ret))) .nop) (.seq (.sets [(6, (.k .nilIface))] []) .ret)))))
noncomputable def S_verify_plain : St := (.seq (.sets [(6, (.k .nilIface))] []) (.seq (.sets [(14, (.ld (.fa 2 (.nck (.s 1))))), (15, (.len (.ld (.fa 2 (.nck (.s 1)))))), (16, (.k (.int .i64 0)))] []) (.seq (.block 0 (.loop S1_verify_plain)) S2_verify_plain)))
noncomputable def R_verify_plain : Ex := (.s 6)
theorem dec_verify_plain : opt (dec Tryd.prog (fun f => roL.contains f) (fun t => G_verify_plain.contains t) 68 (Tryd.f69.body.getD .skip)) = S_verify_plain := by kernel_rfl
theorem res_verify_plain : resE Tryd.prog (fun t => G_verify_plain.contains t) Tryd.f69.results.toList = some R_verify_plain := by kernel_rfl
theorem pc_verify_plain {ds : List DV} {R : DV → DMem → Prop} {M : DMem} (hl : ds.length ≤ 68)
    (h : wpD Tryd.prog MU_verify_plain (fun f => roL.contains f) (fun t => G_verify_plain.contains t) 68 S_verify_plain (fun δ M' => ∃ d, evD Tryd.prog M' δ R_verify_plain = some d ∧ R d M') (fun _ _ _ => False) (fun δ M' => ∃ d, evD Tryd.prog M' δ R_verify_plain = some d ∧ R d M') (argD ds) M) :
    PC Tryd.prog F_verify_plain ds R M :=
  pc_opt Tryd.func69 (c := Tryd.f69.body.getD .skip) (by kernel_rfl) (by kernel_rfl) (by kernel_rfl) dec_verify_plain res_verify_plain _ hl h
abbrev F_verify_heights : Nat := 70
def G_verify_heights : List Nat := [0, 1, 4, 5, 6, 7, 8, 9, 10, 12, 13, 16, 29, 73, 87, 88, 89, 90, 96, 102, 112]
def MU_verify_heights (d : Nat) : Bool := ([26] : List Nat).contains d
noncomputable def S1_verify_heights : St := (.seq (.sets [(90, (.bin .lss (.s 89) (.s 88)))] []) (.seq (.ite (.s 90) .nop (.exit 2)) (.seq (.block 3 (.seq (.sets [(16, (.ld (.ix 1 (.s 87) (.s 89))))] []) (.seq (.sets [(96, (.ld (.ix 1 (.s 6) (.s 16))))] []) (.block 4 (.seq (.sets [(102, (.bin .eql (.s 96) (.k (.int .i64 (-1)))))] []) (.ite (.s 102) (.seq (.sets [(106, (.s 12)), (107, (.ix 1 (.s 6) (.s 16)))] []) (.seq (.act none (.store 1 (.tmp 107) (.tmp 106))) (.seq (.sets [(108, (.s 7)), (109, (.s 16))] []) (.seq (.act (some 110) (.bslice 3 1 [(.int .i64 0)] 1 [(0, (.tmp 109))])) (.seq (.act (some 111) (.app 3 1 8 (.tmp 108) (.tmp 110))) (.sets [(7, (.s 111))] [])))))) (.seq (.sets [(112, (.bin .eql (.s 96) (.s 12)))] []) (.ite (.s 112) .nop (.seq (.sets [(99, (.bld [(.int .i64 0), .nilIface] [(0, 1), (1, 1)] (.cs (.s 8) (.cs (.ifc 30 (.k (.int .i64 502))) .nl))))] []) (.seq (.act (some 100) (.box 151 (.tmp 99))) (.seq (.sets [(4, (.k (.slice none 0 0))), (5, (.ifc 149 (.s 100)))] []) .ret))))))))))) (.sets [(89, (.bin .add (.s 89) (.k (.int .i64 1))))] []))))
noncomputable def S2_verify_heights : St := (.seq (.sets [(13, (.ext 0 (.s 84)))] [(.ext 1 (.s 84))]) (.seq (.sets [(87, (.s 13)), (88, (.len (.s 13))), (89, (.k (.int .i64 0)))] []) (.block 2 (.loop S1_verify_heights))))
noncomputable def S3_verify_heights : St := (.sets [(7, (.slc 1 (.s 7) (.cs (.k (.int .i64 1)) .nl) .nl .nl))] [])
noncomputable def S4_verify_heights : St := (.seq (.sets [(29, (.bin .gtr (.len (.s 7)) (.k (.int .i64 0))))] []) (.seq (.ite (.s 29) .nop (.exit 0)) (.seq (.block 1 (.seq (.sets [(8, (.ld (.ix 1 (.s 7) (.k (.int .i64 0)))))] []) (.seq (.sets [(9, (.ext 0 (.call 84 (.cs (.ldn 2 (.ix 2 (.ld (.fa 2 (.nck (.s 1)))) (.s 8))) (.cs (.call 85 (.cs (.s 0) (.cs (.ldn 2 (.ix 2 (.ld (.fa 2 (.nck (.s 1)))) (.s 8))) .nl))) .nl))))), (10, (.ext 1 (.call 84 (.cs (.ldn 2 (.ix 2 (.ld (.fa 2 (.nck (.s 1)))) (.s 8))) (.cs (.call 85 (.cs (.s 0) (.cs (.ldn 2 (.ix 2 (.ld (.fa 2 (.nck (.s 1)))) (.s 8))) .nl))) .nl)))))] [(.ext 2 (.call 84 (.cs (.ldn 2 (.ix 2 (.ld (.fa 2 (.nck (.s 1)))) (.s 8))) (.cs (.call 85 (.cs (.s 0) (.cs (.ldn 2 (.ix 2 (.ld (.fa 2 (.nck (.s 1)))) (.s 8))) .nl))) .nl))))]) (.seq (.sets [(12, (.bin .add (.bin .sub (.ld (.ix 1 (.s 6) (.s 8))) (.s 9)) (.s 10)))] []) (.seq (.sets [(73, (.or (.bin .lss (.ld (.ix 1 (.s 6) (.s 8))) (.s 9)) (.bin .gtr (.s 12) (.k (.int .i64 8)))))] []) (.seq (.ite (.s 73) (.seq (.sets [(76, (.bld [(.int .i64 0), .nilIface] [(0, 1), (1, 1)] (.cs (.s 8) (.cs (.ifc 30 (.k (.int .i64 502))) .nl))))] []) (.seq (.act (some 77) (.box 151 (.tmp 76))) (.seq (.sets [(4, (.k (.slice none 0 0))), (5, (.ifc 149 (.s 77)))] []) .ret))) .nop) (.seq (.sets [(82, (.ldn 3 (.nck (.s 1)))), (83, (.s 8))] []) (.seq (.act (some 84) (.call 86 [(.tmp 82), (.tmp 83)])) S2_verify_heights)))))))) S3_verify_heights)))
noncomputable def S5_verify_heights : St := (.seq (.sets [(6, (.s 23))] []) (.seq (.sets [(25, (.ix 1 (.s 6) (.k (.int .i64 0))))] []) (.seq (.act none (.store 1 (.tmp 25) (.const (.int .i64 0)))) (.seq (.act (some 26) (.bslice 3 1 [(.int .i64 0)] 1 [(0, (.const (.int .i64 0)))])) (.seq (.sets [(7, (.s 26))] []) (.seq (.block 0 (.loop S4_verify_heights)) (.seq (.sets [(4, (.s 6)), (5, (.k .nilIface))] []) .ret)))))))
noncomputable def S_verify_heights : St := (.seq (.sets [(4, (.k (.slice none 0 0))), (5, (.k .nilIface))] []) (.seq (.act (some 17) (.bslice 3 1 [(.int .i64 0)] 1 [(0, (.const (.int .i64 (-1))))])) (.seq (.sets [(22, (.len (.ld (.fa 2 (.nck (.s 1))))))] []) (.seq (.act (some 23) (.call 83 [(.tmp 17), (.tmp 22)])) S5_verify_heights))))
noncomputable def R_verify_heights : Ex := (.cs (.s 4) (.cs (.s 5) .nl))
theorem dec_verify_heights : opt (dec Tryd.prog (fun f => roL.contains f) (fun t => G_verify_heights.contains t) 117 (Tryd.f70.body.getD .skip)) = S_verify_heights := by kernel_rfl
theorem res_verify_heights : resE Tryd.prog (fun t => G_verify_heights.contains t) Tryd.f70.results.toList = some R_verify_heights := by kernel_rfl
theorem pc_verify_heights {ds : List DV} {R : DV → DMem → Prop} {M : DMem} (hl : ds.length ≤ 117)
    (h : wpD Tryd.prog MU_verify_heights (fun f => roL.contains f) (fun t => G_verify_heights.contains t) 117 S_verify_heights (fun δ M' => ∃ d, evD Tryd.prog M' δ R_verify_heights = some d ∧ R d M') (fun _ _ _ => False) (fun δ M' => ∃ d, evD Tryd.prog M' δ R_verify_heights = some d ∧ R d M') (argD ds) M) :
    PC Tryd.prog F_verify_heights ds R M :=
  pc_opt Tryd.func70 (c := Tryd.f70.body.getD .skip) (by kernel_rfl) (by kernel_rfl) (by kernel_rfl) dec_verify_heights res_verify_heights _ hl h
abbrev F_verify_told : Nat := 71
def G_verify_told : List Nat := [0, 2, 3, 4, 5, 15]
def MU_verify_told (d : Nat) : Bool := ([] : List Nat).contains d
noncomputable def S1_verify_told : St := (.seq (.sets [(15, (.or (.s 10) (.un .not (.s 13))))] []) (.seq (.ite (.s 15) (.seq (.sets [(2, (.k (.int .i64 0))), (3, (.k (.int .i64 0)))] []) .ret) .nop) (.seq (.sets [(2, (.ld (.fa 0 (.nck (.ld (.s 4)))))), (3, (.ld (.s 5)))] []) .ret)))
noncomputable def S2_verify_told : St := (.seq (.sets [(10, (.un .not (.s 8))), (11, (.grd (.un .not (.s 8)) false (.s 0))), (12, (.grd (.un .not (.s 8)) false (.ifc 160 (.s 5))))] []) (.seq (.ite (.s 10) (.sets [(13, (.k (.tuple #[])))] []) (.act (some 13) (.call 87 [(.tmp 11), (.tmp 12)]))) S1_verify_told))
noncomputable def S_verify_told : St := (.seq (.sets [(2, (.k (.int .i64 0))), (3, (.k (.int .i64 0)))] []) (.seq (.act (some 4) (.alloc 149 (.pointer none))) (.seq (.act (some 5) (.alloc 30 (.int .i64 0))) (.seq (.sets [(6, (.s 0)), (7, (.ifc 159 (.s 4)))] []) (.seq (.act (some 8) (.call 87 [(.tmp 6), (.tmp 7)])) S2_verify_told)))))
noncomputable def R_verify_told : Ex := (.cs (.s 2) (.cs (.s 3) .nl))
theorem dec_verify_told : opt (dec Tryd.prog (fun f => roL.contains f) (fun t => G_verify_told.contains t) 21 (Tryd.f71.body.getD .skip)) = S_verify_told := by kernel_rfl
theorem res_verify_told : resE Tryd.prog (fun t => G_verify_told.contains t) Tryd.f71.results.toList = some R_verify_told := by kernel_rfl
theorem pc_verify_told {ds : List DV} {R : DV → DMem → Prop} {M : DMem} (hl : ds.length ≤ 21)
    (h : wpD Tryd.prog MU_verify_told (fun f => roL.contains f) (fun t => G_verify_told.contains t) 21 S_verify_told (fun δ M' => ∃ d, evD Tryd.prog M' δ R_verify_told = some d ∧ R d M') (fun _ _ _ => False) (fun δ M' => ∃ d, evD Tryd.prog M' δ R_verify_told = some d ∧ R d M') (argD ds) M) :
    PC Tryd.prog F_verify_told ds R M :=
  pc_opt Tryd.func71 (c := Tryd.f71.body.getD .skip) (by kernel_rfl) (by kernel_rfl) (by kernel_rfl) dec_verify_told res_verify_told _ hl h
abbrev F_wrap_Is : Nat := 72
def G_wrap_Is : List Nat := [0, 2]
def MU_wrap_Is (d : Nat) : Bool := ([] : List Nat).contains d
noncomputable def S_wrap_Is : St := (.seq (.sets [(2, (.k (.bool false)))] []) (.seq (.sets [(2, (.bin .eql (.cvt .i64 (.cvt .i32 (.s 0))) (.s 0)))] []) .ret))
noncomputable def R_wrap_Is : Ex := (.s 2)
theorem dec_wrap_Is : opt (dec Tryd.prog (fun f => roL.contains f) (fun t => G_wrap_Is.contains t) 8 (Tryd.f72.body.getD .skip)) = S_wrap_Is := by kernel_rfl
theorem res_wrap_Is : resE Tryd.prog (fun t => G_wrap_Is.contains t) Tryd.f72.results.toList = some R_wrap_Is := by kernel_rfl
theorem pc_wrap_Is {ds : List DV} {R : DV → DMem → Prop} {M : DMem} (hl : ds.length ≤ 8)
    (h : wpD Tryd.prog MU_wrap_Is (fun f => roL.contains f) (fun t => G_wrap_Is.contains t) 8 S_wrap_Is (fun δ M' => ∃ d, evD Tryd.prog M' δ R_wrap_Is = some d ∧ R d M') (fun _ _ _ => False) (fun δ M' => ∃ d, evD Tryd.prog M' δ R_wrap_Is = some d ∧ R d M') (argD ds) M) :
    PC Tryd.prog F_wrap_Is ds R M :=
  pc_opt Tryd.func72 (c := Tryd.f72.body.getD .skip) (by kernel_rfl) (by kernel_rfl) (by kernel_rfl) dec_wrap_Is res_wrap_Is _ hl h
abbrev F_slices_ContainsFunc_api_Src_api_Src : Nat := 73
def G_slices_ContainsFunc_api_Src_api_Src : List Nat := [0, 1, 4]
def MU_slices_ContainsFunc_api_Src_api_Src (d : Nat) : Bool := ([] : List Nat).contains d
noncomputable def S_slices_ContainsFunc_api_Src_api_Src : St := (.seq (.sets [(4, (.k (.bool false)))] []) (.seq (.sets [(4, (.bin .geq (.call 88 (.cs (.s 0) (.cs (.s 1) .nl))) (.k (.int .i64 0))))] []) .ret))
noncomputable def R_slices_ContainsFunc_api_Src_api_Src : Ex := (.s 4)
theorem dec_slices_ContainsFunc_api_Src_api_Src : opt (dec Tryd.prog (fun f => roL.contains f) (fun t => G_slices_ContainsFunc_api_Src_api_Src.contains t) 9 (Tryd.f73.body.getD .skip)) = S_slices_ContainsFunc_api_Src_api_Src := by kernel_rfl
theorem res_slices_ContainsFunc_api_Src_api_Src : resE Tryd.prog (fun t => G_slices_ContainsFunc_api_Src_api_Src.contains t) Tryd.f73.results.toList = some R_slices_ContainsFunc_api_Src_api_Src := by kernel_rfl
theorem pc_slices_ContainsFunc_api_Src_api_Src {ds : List DV} {R : DV → DMem → Prop} {M : DMem} (hl : ds.length ≤ 9)
    (h : wpD Tryd.prog MU_slices_ContainsFunc_api_Src_api_Src (fun f => roL.contains f) (fun t => G_slices_ContainsFunc_api_Src_api_Src.contains t) 9 S_slices_ContainsFunc_api_Src_api_Src (fun δ M' => ∃ d, evD Tryd.prog M' δ R_slices_ContainsFunc_api_Src_api_Src = some d ∧ R d M') (fun _ _ _ => False) (fun δ M' => ∃ d, evD Tryd.prog M' δ R_slices_ContainsFunc_api_Src_api_Src = some d ∧ R d M') (argD ds) M) :
    PC Tryd.prog F_slices_ContainsFunc_api_Src_api_Src ds R M :=
  pc_opt Tryd.func73 (c := Tryd.f73.body.getD .skip) (by kernel_rfl) (by kernel_rfl) (by kernel_rfl) dec_slices_ContainsFunc_api_Src_api_Src res_slices_ContainsFunc_api_Src_api_Src _ hl h
abbrev F_slices_IndexFunc_api_Func_api_Func : Nat := 76
def G_slices_IndexFunc_api_Func_api_Func : List Nat := [0, 1, 4, 5, 7, 8, 9, 16]
def MU_slices_IndexFunc_api_Func_api_Func (d : Nat) : Bool := ([] : List Nat).contains d
noncomputable def S1_slices_IndexFunc_api_Func_api_Func : St := (.seq (.sets [(9, (.bin .lss (.s 8) (.s 7)))] []) (.seq (.ite (.s 9) .nop (.exit 0)) (.seq (.block 1 (.seq (.sets [(5, (.s 8))] []) (.seq (.sets [(11, (.s 1)), (15, (.ldn 3 (.ix 3 (.s 0) (.s 5))))] []) (.seq (.act (some 16) (.callv 11 [(.tmp 15)])) (.ite (.s 16) (.seq (.sets [(4, (.s 5))] []) .ret) .nop))))) (.sets [(8, (.bin .add (.s 8) (.k (.int .i64 1))))] []))))
noncomputable def S_slices_IndexFunc_api_Func_api_Func : St := (.seq (.sets [(4, (.k (.int .i64 0)))] []) (.seq (.sets [(7, (.len (.s 0))), (8, (.k (.int .i64 0)))] []) (.seq (.block 0 (.loop S1_slices_IndexFunc_api_Func_api_Func)) (.seq (.sets [(4, (.k (.int .i64 (-1))))] []) .ret))))
noncomputable def R_slices_IndexFunc_api_Func_api_Func : Ex := (.s 4)
theorem dec_slices_IndexFunc_api_Func_api_Func : opt (dec Tryd.prog (fun f => roL.contains f) (fun t => G_slices_IndexFunc_api_Func_api_Func.contains t) 19 (Tryd.f76.body.getD .skip)) = S_slices_IndexFunc_api_Func_api_Func := by kernel_rfl
theorem res_slices_IndexFunc_api_Func_api_Func : resE Tryd.prog (fun t => G_slices_IndexFunc_api_Func_api_Func.contains t) Tryd.f76.results.toList = some R_slices_IndexFunc_api_Func_api_Func := by kernel_rfl
theorem pc_slices_IndexFunc_api_Func_api_Func {ds : List DV} {R : DV → DMem → Prop} {M : DMem} (hl : ds.length ≤ 19)
    (h : wpD Tryd.prog MU_slices_IndexFunc_api_Func_api_Func (fun f => roL.contains f) (fun t => G_slices_IndexFunc_api_Func_api_Func.contains t) 19 S_slices_IndexFunc_api_Func_api_Func (fun δ M' => ∃ d, evD Tryd.prog M' δ R_slices_IndexFunc_api_Func_api_Func = some d ∧ R d M') (fun _ _ _ => False) (fun δ M' => ∃ d, evD Tryd.prog M' δ R_slices_IndexFunc_api_Func_api_Func = some d ∧ R d M') (argD ds) M) :
    PC Tryd.prog F_slices_IndexFunc_api_Func_api_Func ds R M :=
  pc_opt Tryd.func76 (c := Tryd.f76.body.getD .skip) (by kernel_rfl) (by kernel_rfl) (by kernel_rfl) dec_slices_IndexFunc_api_Func_api_Func res_slices_IndexFunc_api_Func_api_Func _ hl h
abbrev F_pack_not_1 : Nat := 77
def G_pack_not_1 : List Nat := [0, 1, 2]
def MU_pack_not_1 (d : Nat) : Bool := ([] : List Nat).contains d
noncomputable def S_pack_not_1 : St := (.seq (.act (some 1) (.box 40 (.tmp 0))) (.seq (.sets [(2, (.k (.bool false)))] []) (.seq (.sets [(2, (.un .not (.call 78 (.cs (.ldn 2 (.s 1)) .nl))))] []) .ret)))
noncomputable def R_pack_not_1 : Ex := (.s 2)
theorem dec_pack_not_1 : opt (dec Tryd.prog (fun f => roL.contains f) (fun t => G_pack_not_1.contains t) 6 (Tryd.f77.body.getD .skip)) = S_pack_not_1 := by kernel_rfl
theorem res_pack_not_1 : resE Tryd.prog (fun t => G_pack_not_1.contains t) Tryd.f77.results.toList = some R_pack_not_1 := by kernel_rfl
theorem pc_pack_not_1 {ds : List DV} {R : DV → DMem → Prop} {M : DMem} (hl : ds.length ≤ 6)
    (h : wpD Tryd.prog MU_pack_not_1 (fun f => roL.contains f) (fun t => G_pack_not_1.contains t) 6 S_pack_not_1 (fun δ M' => ∃ d, evD Tryd.prog M' δ R_pack_not_1 = some d ∧ R d M') (fun _ _ _ => False) (fun δ M' => ∃ d, evD Tryd.prog M' δ R_pack_not_1 = some d ∧ R d M') (argD ds) M) :
    PC Tryd.prog F_pack_not_1 ds R M :=
  pc_opt Tryd.func77 (c := Tryd.f77.body.getD .skip) (by kernel_rfl) (by kernel_rfl) (by kernel_rfl) dec_pack_not_1 res_pack_not_1 _ hl h
abbrev F_ins_May : Nat := 78
def G_ins_May : List Nat := [0, 1, 2, 3, 12]
def MU_ins_May (d : Nat) : Bool := ([] : List Nat).contains d
noncomputable def S_ins_May : St := (.seq (.act (some 1) (.box 40 (.tmp 0))) (.seq (.sets [(2, (.k (.bool false)))] []) (.seq (.block 0 (.seq (.sets [(3, (.or (.bin .lss (.ld (.fa 0 (.s 1))) (.k (.int .i64 0))) (.bin .gtr (.ld (.fa 0 (.s 1))) (.k (.int .i64 16)))))] []) (.ite (.s 3) (.seq (.sets [(2, (.k (.bool false)))] []) .ret) (.seq (.sets [(12, (.bin .eql (.ld (.fa 0 (.s 1))) (.k (.int .i64 0))))] []) (.ite (.s 12) (.seq (.sets [(2, (.call 72 (.cs (.ld (.fa 1 (.s 1))) .nl)))] []) .ret) .nop))))) (.seq (.sets [(2, (.and (.bin .geq (.ld (.fa 1 (.s 1))) (.k (.int .i64 0))) (.bin .lss (.ld (.fa 1 (.s 1))) (.call 91 (.cs (.ld (.fa 0 (.s 1))) .nl)))))] []) .ret))))
noncomputable def R_ins_May : Ex := (.s 2)
theorem dec_ins_May : opt (dec Tryd.prog (fun f => roL.contains f) (fun t => G_ins_May.contains t) 30 (Tryd.f78.body.getD .skip)) = S_ins_May := by kernel_rfl
theorem res_ins_May : resE Tryd.prog (fun t => G_ins_May.contains t) Tryd.f78.results.toList = some R_ins_May := by kernel_rfl
theorem pc_ins_May {ds : List DV} {R : DV → DMem → Prop} {M : DMem} (hl : ds.length ≤ 30)
    (h : wpD Tryd.prog MU_ins_May (fun f => roL.contains f) (fun t => G_ins_May.contains t) 30 S_ins_May (fun δ M' => ∃ d, evD Tryd.prog M' δ R_ins_May = some d ∧ R d M') (fun _ _ _ => False) (fun δ M' => ∃ d, evD Tryd.prog M' δ R_ins_May = some d ∧ R d M') (argD ds) M) :
    PC Tryd.prog F_ins_May ds R M :=
  pc_opt Tryd.func78 (c := Tryd.f78.body.getD .skip) (by kernel_rfl) (by kernel_rfl) (by kernel_rfl) dec_ins_May res_ins_May _ hl h
abbrev F_slices_ContainsFunc_api_Ins_api_Ins : Nat := 79
def G_slices_ContainsFunc_api_Ins_api_Ins : List Nat := [0, 1, 4]
def MU_slices_ContainsFunc_api_Ins_api_Ins (d : Nat) : Bool := ([] : List Nat).contains d
noncomputable def S_slices_ContainsFunc_api_Ins_api_Ins : St := (.seq (.sets [(4, (.k (.bool false)))] []) (.seq (.sets [(4, (.bin .geq (.call 92 (.cs (.s 0) (.cs (.s 1) .nl))) (.k (.int .i64 0))))] []) .ret))
noncomputable def R_slices_ContainsFunc_api_Ins_api_Ins : Ex := (.s 4)
theorem dec_slices_ContainsFunc_api_Ins_api_Ins : opt (dec Tryd.prog (fun f => roL.contains f) (fun t => G_slices_ContainsFunc_api_Ins_api_Ins.contains t) 9 (Tryd.f79.body.getD .skip)) = S_slices_ContainsFunc_api_Ins_api_Ins := by kernel_rfl
theorem res_slices_ContainsFunc_api_Ins_api_Ins : resE Tryd.prog (fun t => G_slices_ContainsFunc_api_Ins_api_Ins.contains t) Tryd.f79.results.toList = some R_slices_ContainsFunc_api_Ins_api_Ins := by kernel_rfl
theorem pc_slices_ContainsFunc_api_Ins_api_Ins {ds : List DV} {R : DV → DMem → Prop} {M : DMem} (hl : ds.length ≤ 9)
    (h : wpD Tryd.prog MU_slices_ContainsFunc_api_Ins_api_Ins (fun f => roL.contains f) (fun t => G_slices_ContainsFunc_api_Ins_api_Ins.contains t) 9 S_slices_ContainsFunc_api_Ins_api_Ins (fun δ M' => ∃ d, evD Tryd.prog M' δ R_slices_ContainsFunc_api_Ins_api_Ins = some d ∧ R d M') (fun _ _ _ => False) (fun δ M' => ∃ d, evD Tryd.prog M' δ R_slices_ContainsFunc_api_Ins_api_Ins = some d ∧ R d M') (argD ds) M) :
    PC Tryd.prog F_slices_ContainsFunc_api_Ins_api_Ins ds R M :=
  pc_opt Tryd.func79 (c := Tryd.f79.body.getD .skip) (by kernel_rfl) (by kernel_rfl) (by kernel_rfl) dec_slices_ContainsFunc_api_Ins_api_Ins res_slices_ContainsFunc_api_Ins_api_Ins _ hl h
abbrev F_flow_may : Nat := 80
def G_flow_may : List Nat := [0, 2, 3]
def MU_flow_may (d : Nat) : Bool := ([] : List Nat).contains d
noncomputable def S_flow_may : St := (.seq (.sets [(2, (.k (.bool false)))] []) (.seq (.sets [(3, (.k (.func (.func 93) #[] #[])))] []) (.seq (.sets [(2, (.and (.and (.bin .geq (.len (.ld (.fa 2 (.nck (.s 0))))) (.k (.int .i64 1))) (.bin .leq (.len (.ld (.fa 2 (.nck (.s 0))))) (.k (.int .i64 64)))) (.un .not (.call 79 (.cs (.ld (.fa 2 (.nck (.s 0)))) (.cs (.s 3) .nl))))))] []) .ret)))
noncomputable def R_flow_may : Ex := (.s 2)
theorem dec_flow_may : opt (dec Tryd.prog (fun f => roL.contains f) (fun t => G_flow_may.contains t) 27 (Tryd.f80.body.getD .skip)) = S_flow_may := by kernel_rfl
theorem res_flow_may : resE Tryd.prog (fun t => G_flow_may.contains t) Tryd.f80.results.toList = some R_flow_may := by kernel_rfl
theorem pc_flow_may {ds : List DV} {R : DV → DMem → Prop} {M : DMem} (hl : ds.length ≤ 27)
    (h : wpD Tryd.prog MU_flow_may (fun f => roL.contains f) (fun t => G_flow_may.contains t) 27 S_flow_may (fun δ M' => ∃ d, evD Tryd.prog M' δ R_flow_may = some d ∧ R d M') (fun _ _ _ => False) (fun δ M' => ∃ d, evD Tryd.prog M' δ R_flow_may = some d ∧ R d M') (argD ds) M) :
    PC Tryd.prog F_flow_may ds R M :=
  pc_opt Tryd.func80 (c := Tryd.f80.body.getD .skip) (by kernel_rfl) (by kernel_rfl) (by kernel_rfl) dec_flow_may res_flow_may _ hl h
abbrev F_flow_next : Nat := 81
def G_flow_next : List Nat := [0, 1, 2, 4, 5, 6, 7, 16, 20, 22, 27]
def MU_flow_next (d : Nat) : Bool := ([19, 26, 33] : List Nat).contains d
noncomputable def S1_flow_next : St := (.seq (.act (some 38) (.call 95 [(.tmp 37)])) (.seq (.sets [(4, (.s 38))] []) .ret))
noncomputable def S_flow_next : St := (.seq (.act (some 2) (.box 128 (.tmp 0))) (.seq (.sets [(4, (.k (.slice none 0 0)))] []) (.seq (.sets [(14, (.ldn 2 (.ix 2 (.ld (.fa 2 (.nck (.ld (.s 2))))) (.s 1))))] []) (.seq (.act (some 5) (.var 40 2 (.tmp 14))) (.seq (.sets [(6, (.k (.slice none 0 0)))] []) (.seq (.sets [(16, (.ld (.fa 0 (.s 5))))] []) (.seq (.block 0 (.seq (.sets [(20, (.bin .eql (.s 16) (.k (.int .i64 16))))] []) (.ite (.s 20) .nop (.seq (.sets [(22, (.bin .eql (.s 16) (.k (.int .i64 12))))] []) (.ite (.s 22) (.seq (.sets [(25, (.ld (.fa 1 (.s 5))))] []) (.seq (.act (some 26) (.bslice 3 1 [(.int .i64 0)] 1 [(0, (.tmp 25))])) (.sets [(6, (.s 26))] []))) (.seq (.sets [(27, (.bin .eql (.s 16) (.k (.int .i64 13))))] []) (.ite (.s 27) (.seq (.sets [(30, (.bin .add (.s 1) (.k (.int .i64 1)))), (32, (.ld (.fa 1 (.s 5))))] []) (.seq (.act (some 33) (.bslice 3 1 [(.int .i64 0), (.int .i64 0)] 2 [(0, (.tmp 30)), (1, (.tmp 32))])) (.sets [(6, (.s 33))] []))) (.seq (.sets [(18, (.bin .add (.s 1) (.k (.int .i64 1))))] []) (.seq (.act (some 19) (.bslice 3 1 [(.int .i64 0)] 1 [(0, (.tmp 18))])) (.sets [(6, (.s 19))] [])))))))))) (.seq (.sets [(7, (.mkf (.func 94) .nl (.cs (.s 2) .nl)))] []) (.seq (.sets [(35, (.s 6)), (36, (.s 7))] []) (.seq (.act (some 37) (.call 96 [(.tmp 35), (.tmp 36)])) S1_flow_next))))))))))
noncomputable def R_flow_next : Ex := (.s 4)
theorem dec_flow_next : opt (dec Tryd.prog (fun f => roL.contains f) (fun t => G_flow_next.contains t) 39 (Tryd.f81.body.getD .skip)) = S_flow_next := by kernel_rfl
theorem res_flow_next : resE Tryd.prog (fun t => G_flow_next.contains t) Tryd.f81.results.toList = some R_flow_next := by kernel_rfl
theorem pc_flow_next {ds : List DV} {R : DV → DMem → Prop} {M : DMem} (hl : ds.length ≤ 39)
    (h : wpD Tryd.prog MU_flow_next (fun f => roL.contains f) (fun t => G_flow_next.contains t) 39 S_flow_next (fun δ M' => ∃ d, evD Tryd.prog M' δ R_flow_next = some d ∧ R d M') (fun _ _ _ => False) (fun δ M' => ∃ d, evD Tryd.prog M' δ R_flow_next = some d ∧ R d M') (argD ds) M) :
    PC Tryd.prog F_flow_next ds R M :=
  pc_opt Tryd.func81 (c := Tryd.f81.body.getD .skip) (by kernel_rfl) (by kernel_rfl) (by kernel_rfl) dec_flow_next res_flow_next _ hl h
abbrev F_verify_outside : Nat := 82
def G_verify_outside : List Nat := [0, 1, 2, 5, 6, 8, 9, 19, 30]
def MU_verify_outside (d : Nat) : Bool := ([] : List Nat).contains d
noncomputable def S_verify_outside : St := (.seq (.act (some 5) (.box 40 (.tmp 2))) (.seq (.sets [(6, (.k (.bool false)))] []) (.seq (.sets [(8, (.ld (.fa 0 (.s 5))))] []) (.seq (.block 0 (.seq (.sets [(9, (.or (.bin .eql (.s 8) (.k (.int .i64 1))) (.bin .eql (.s 8) (.k (.int .i64 2)))))] []) (.ite (.s 9) (.seq (.sets [(6, (.bin .geq (.ld (.fa 1 (.s 5))) (.ld (.fa 1 (.nck (.s 1))))))] []) .ret) (.seq (.sets [(19, (.or (.bin .eql (.s 8) (.k (.int .i64 12))) (.bin .eql (.s 8) (.k (.int .i64 13)))))] []) (.ite (.s 19) (.seq (.sets [(6, (.bin .geq (.ld (.fa 1 (.s 5))) (.len (.ld (.fa 2 (.nck (.s 1)))))))] []) .ret) (.seq (.sets [(30, (.bin .eql (.s 8) (.k (.int .i64 14))))] []) (.ite (.s 30) (.seq (.sets [(6, (.bin .geq (.ld (.fa 1 (.s 5))) (.len (.ld (.fa 0 (.nck (.s 0)))))))] []) .ret) .nop))))))) (.seq (.sets [(6, (.k (.bool false)))] []) .ret)))))
noncomputable def R_verify_outside : Ex := (.s 6)
theorem dec_verify_outside : opt (dec Tryd.prog (fun f => roL.contains f) (fun t => G_verify_outside.contains t) 40 (Tryd.f82.body.getD .skip)) = S_verify_outside := by kernel_rfl
theorem res_verify_outside : resE Tryd.prog (fun t => G_verify_outside.contains t) Tryd.f82.results.toList = some R_verify_outside := by kernel_rfl
theorem pc_verify_outside {ds : List DV} {R : DV → DMem → Prop} {M : DMem} (hl : ds.length ≤ 40)
    (h : wpD Tryd.prog MU_verify_outside (fun f => roL.contains f) (fun t => G_verify_outside.contains t) 40 S_verify_outside (fun δ M' => ∃ d, evD Tryd.prog M' δ R_verify_outside = some d ∧ R d M') (fun _ _ _ => False) (fun δ M' => ∃ d, evD Tryd.prog M' δ R_verify_outside = some d ∧ R d M') (argD ds) M) :
    PC Tryd.prog F_verify_outside ds R M :=
  pc_opt Tryd.func82 (c := Tryd.f82.body.getD .skip) (by kernel_rfl) (by kernel_rfl) (by kernel_rfl) dec_verify_outside res_verify_outside _ hl h
abbrev F_slices_Repeat_int_int : Nat := 83
def G_slices_Repeat_int_int : List Nat := [0, 1, 4, 5, 6, 7, 8, 10, 26, 37]
def MU_slices_Repeat_int_int (d : Nat) : Bool := ([] : List Nat).contains d
def O0_slices_Repeat_int_int : Array Oper := #[⟨(some 38), (.move (.tmp 8)), 3, "slices.go:528", #[], none⟩, ⟨(some 39), (.move (.tmp 7)), 36, "slices.go:528", #[], none⟩, ⟨(some 40), (.move (.tmp 8)), 3, "slices.go:528", #[], none⟩, ⟨(some 41), (.slice 36 (.tmp 39) (some (.tmp 40)) none none), 36, "slices.go:528", #[⟨1, .data⟩, ⟨2, .data⟩], none⟩, ⟨(some 42), (.move (.tmp 7)), 36, "slices.go:528", #[], none⟩, ⟨(some 43), (.move (.tmp 8)), 3, "slices.go:528", #[], none⟩, ⟨(some 44), (.slice 36 (.tmp 42) none (some (.tmp 43)) none), 36, "slices.go:528", #[⟨4, .data⟩, ⟨5, .data⟩], none⟩, ⟨(some 45), (.call ⟨(.builtin .copy), #[(.tmp 41), (.tmp 44)], #[36, 36]⟩), 3, "slices.go:528", #[⟨3, .data⟩, ⟨6, .data⟩], none⟩, ⟨(some 46), (.binOp .add 3 (.tmp 38) (.tmp 45) 3), 3, "slices.go:528", #[⟨0, .data⟩, ⟨7, .data⟩], none⟩, ⟨(some 8), (.assign (.tmp 46)), 3, "slices.go:528", #[⟨8, .data⟩, ⟨7, .chain⟩, ⟨0, .phase⟩, ⟨1, .phase⟩, ⟨2, .phase⟩, ⟨3, .phase⟩, ⟨4, .phase⟩, ⟨5, .phase⟩, ⟨6, .phase⟩, ⟨7, .phase⟩, ⟨8, .phase⟩], none⟩]
def P0_slices_Repeat_int_int : List Sp := [.rd 38 (.s 8), .rd 39 (.s 7), .rd 40 (.s 8), .rd 41 (.slc 1 (.s 39) (.cs (.s 40) .nl) .nl .nl), .rd 42 (.s 7), .rd 43 (.s 8), .rd 44 (.slc 1 (.s 42) .nl (.cs (.s 43) .nl) .nl), .ck 38 (.s 8), .ck 39 (.s 7), .ck 40 (.s 8), .ck 41 (.slc 1 (.s 39) (.cs (.s 40) .nl) .nl .nl), .ck 42 (.s 7), .ck 43 (.s 8), .ck 44 (.slc 1 (.s 42) .nl (.cs (.s 43) .nl) .nl), .hd (some 45) (.cpy 1 (.tmp 41) (.tmp 44)), .rd 46 (.bin .add (.s 38) (.s 45)), .ck 38 (.s 8), .ck 46 (.bin .add (.s 38) (.s 45)), .rd 8 (.s 46)]
theorem plan0_slices_Repeat_int_int : planD Tryd.prog (fun f => roL.contains f) (fun t => G_slices_Repeat_int_int.contains t) 48 MU_slices_Repeat_int_int O0_slices_Repeat_int_int = some P0_slices_Repeat_int_int := by kernel_rfl
theorem raw0_slices_Repeat_int_int (K : DEnv → DMem → Prop) (X : Nat → DEnv → DMem → Prop) (R : DEnv → DMem → Prop) (δ : DEnv) (M : DMem) : rawW Tryd.prog MU_slices_Repeat_int_int (fun f => roL.contains f) (fun t => G_slices_Repeat_int_int.contains t) 48 (.region 9 O0_slices_Repeat_int_int true) K X R δ M = wpSp Tryd.prog MU_slices_Repeat_int_int K P0_slices_Repeat_int_int δ M := rawW_eq plan0_slices_Repeat_int_int K X R δ M
noncomputable def S1_slices_Repeat_int_int : St := (.seq (.sets [(37, (.bin .lss (.s 8) (.len (.s 7))))] []) (.seq (.ite (.s 37) .nop (.exit 0)) (.block 1 (.raw (.region 9 O0_slices_Repeat_int_int true)))))
noncomputable def S2_slices_Repeat_int_int : St := (.seq (.sets [(5, (.ext 0 (.s 18))), (6, (.ext 1 (.s 18)))] []) (.seq (.sets [(26, (.or (.bin .gtr (.s 5) (.k (.int .u64 0))) (.bin .gtr (.s 6) (.k (.int .u64 9223372036854775807)))))] []) (.seq (.ite (.s 26) (.seq (.sets [(27, (.ifc 9 (.k (.string ⟨#[116, 104, 101, 32, 114, 101, 115, 117, 108, 116, 32, 111, 102, 32, 40, 108, 101, 110, 40, 120, 41, 32, 42, 32, 99, 111, 117, 110, 116, 41, 32, 111, 118, 101, 114, 102, 108, 111, 119, 115]⟩))))] []) (.seq (.eff ⟨none, (.panic (.tmp 27)), 0, "", #[], none⟩) (.sets [] []))) .nop) (.seq (.sets [(29, (.cvt .i64 (.s 6)))] []) (.seq (.act (some 30) (.make 3 1 8 (.int .i64 0) (.tmp 29) (.tmp 29))) (.seq (.sets [(7, (.s 30))] []) (.seq (.sets [(31, (.s 7)), (32, (.s 0))] []) (.seq (.act (some 33) (.cpy 1 (.tmp 31) (.tmp 32))) (.seq (.sets [(8, (.s 33))] []) (.seq (.block 0 (.loop S1_slices_Repeat_int_int)) (.seq (.sets [(4, (.s 7))] []) .ret)))))))))))
noncomputable def S_slices_Repeat_int_int : St := (.seq (.sets [(4, (.k (.slice none 0 0)))] []) (.seq (.sets [(10, (.bin .lss (.s 1) (.k (.int .i64 0))))] []) (.seq (.ite (.s 10) (.seq (.sets [(11, (.ifc 9 (.k (.string ⟨#[99, 97, 110, 110, 111, 116, 32, 98, 101, 32, 110, 101, 103, 97, 116, 105, 118, 101]⟩))))] []) (.seq (.eff ⟨none, (.panic (.tmp 11)), 0, "", #[], none⟩) (.sets [] []))) .nop) (.seq (.sets [(15, (.cvt .u64 (.len (.s 0)))), (17, (.cvt .u64 (.s 1)))] []) (.seq (.act (some 18) (.call 97 [(.tmp 15), (.tmp 17)])) S2_slices_Repeat_int_int)))))
noncomputable def R_slices_Repeat_int_int : Ex := (.s 4)
theorem dec_slices_Repeat_int_int : opt (dec Tryd.prog (fun f => roL.contains f) (fun t => G_slices_Repeat_int_int.contains t) 48 (Tryd.f83.body.getD .skip)) = S_slices_Repeat_int_int := by kernel_rfl
theorem res_slices_Repeat_int_int : resE Tryd.prog (fun t => G_slices_Repeat_int_int.contains t) Tryd.f83.results.toList = some R_slices_Repeat_int_int := by kernel_rfl
theorem pc_slices_Repeat_int_int {ds : List DV} {R : DV → DMem → Prop} {M : DMem} (hl : ds.length ≤ 48)
    (h : wpD Tryd.prog MU_slices_Repeat_int_int (fun f => roL.contains f) (fun t => G_slices_Repeat_int_int.contains t) 48 S_slices_Repeat_int_int (fun δ M' => ∃ d, evD Tryd.prog M' δ R_slices_Repeat_int_int = some d ∧ R d M') (fun _ _ _ => False) (fun δ M' => ∃ d, evD Tryd.prog M' δ R_slices_Repeat_int_int = some d ∧ R d M') (argD ds) M) :
    PC Tryd.prog F_slices_Repeat_int_int ds R M :=
  pc_opt Tryd.func83 (c := Tryd.f83.body.getD .skip) (by kernel_rfl) (by kernel_rfl) (by kernel_rfl) dec_slices_Repeat_int_int res_slices_Repeat_int_int _ hl h
abbrev F_ins_Effect : Nat := 84
def G_ins_Effect : List Nat := [0, 1, 2, 4, 5, 6, 7, 8, 19, 21, 22, 25, 33, 39, 41]
def MU_ins_Effect (d : Nat) : Bool := ([] : List Nat).contains d
noncomputable def S_ins_Effect : St := (.seq (.act (some 2) (.box 40 (.tmp 0))) (.seq (.sets [(4, (.k (.int .i64 0))), (5, (.k (.int .i64 0))), (6, (.k (.int .i64 0)))] []) (.seq (.sets [(19, (.or (.or (.un .not (.call 78 (.cs (.ldn 2 (.s 2)) .nl))) (.bin .lss (.s 1) (.k (.int .i64 0)))) (.bin .gtr (.s 1) (.k (.int .i64 4)))))] []) (.seq (.ite (.s 19) (.seq (.sets [(4, (.k (.int .i64 0))), (5, (.k (.int .i64 0))), (6, (.k (.int .i64 200)))] []) .ret) .nop) (.seq (.sets [(7, (.k (.int .i64 0))), (8, (.k (.int .i64 0)))] []) (.seq (.sets [(21, (.ld (.fa 0 (.s 2))))] []) (.seq (.block 0 (.seq (.block 5 (.seq (.block 4 (.seq (.block 3 (.seq (.block 2 (.seq (.block 1 (.seq (.sets [(22, (.or (.bin .eql (.s 21) (.k (.int .i64 0))) (.bin .eql (.s 21) (.k (.int .i64 1)))))] []) (.seq (.ite (.s 22) (.exit 1) .nop) (.seq (.sets [(25, (.or (.bin .eql (.s 21) (.k (.int .i64 3))) (.or (.bin .eql (.s 21) (.k (.int .i64 4))) (.or (.bin .eql (.s 21) (.k (.int .i64 5))) (.or (.bin .eql (.s 21) (.k (.int .i64 6))) (.or (.bin .eql (.s 21) (.k (.int .i64 7))) (.or (.bin .eql (.s 21) (.k (.int .i64 8))) (.bin .eql (.s 21) (.k (.int .i64 9))))))))))] []) (.seq (.ite (.s 25) (.exit 2) .nop) (.seq (.sets [(33, (.or (.bin .eql (.s 21) (.k (.int .i64 2))) (.or (.bin .eql (.s 21) (.k (.int .i64 11))) (.or (.bin .eql (.s 21) (.k (.int .i64 13))) (.or (.bin .eql (.s 21) (.k (.int .i64 15))) (.bin .eql (.s 21) (.k (.int .i64 16))))))))] []) (.seq (.ite (.s 33) (.exit 3) .nop) (.seq (.sets [(39, (.bin .eql (.s 21) (.k (.int .i64 10))))] []) (.seq (.ite (.s 39) (.exit 4) .nop) (.seq (.sets [(41, (.bin .eql (.s 21) (.k (.int .i64 14))))] []) (.seq (.ite (.s 41) (.exit 5) .nop) (.exit 0)))))))))))) (.seq (.sets [(8, (.k (.int .i64 1)))] []) (.exit 0)))) (.seq (.sets [(8, (.k (.int .i64 1)))] []) (.sets [(7, (.bin .add (.s 7) (.k (.int .i64 1))))] [])))) (.seq (.sets [(7, (.bin .add (.s 7) (.k (.int .i64 1))))] []) (.exit 0)))) (.seq (.sets [(7, (.k (.int .i64 1))), (8, (.k (.int .i64 2)))] []) (.exit 0)))) (.seq (.sets [(7, (.s 1)), (8, (.k (.int .i64 1)))] []) (.exit 0)))) (.seq (.sets [(4, (.s 7)), (5, (.s 8)), (6, (.k (.int .i64 0)))] []) .ret))))))))
noncomputable def R_ins_Effect : Ex := (.cs (.s 4) (.cs (.s 5) (.cs (.s 6) .nl)))
theorem dec_ins_Effect : opt (dec Tryd.prog (fun f => roL.contains f) (fun t => G_ins_Effect.contains t) 50 (Tryd.f84.body.getD .skip)) = S_ins_Effect := by kernel_rfl
theorem res_ins_Effect : resE Tryd.prog (fun t => G_ins_Effect.contains t) Tryd.f84.results.toList = some R_ins_Effect := by kernel_rfl
theorem pc_ins_Effect {ds : List DV} {R : DV → DMem → Prop} {M : DMem} (hl : ds.length ≤ 50)
    (h : wpD Tryd.prog MU_ins_Effect (fun f => roL.contains f) (fun t => G_ins_Effect.contains t) 50 S_ins_Effect (fun δ M' => ∃ d, evD Tryd.prog M' δ R_ins_Effect = some d ∧ R d M') (fun _ _ _ => False) (fun δ M' => ∃ d, evD Tryd.prog M' δ R_ins_Effect = some d ∧ R d M') (argD ds) M) :
    PC Tryd.prog F_ins_Effect ds R M :=
  pc_opt Tryd.func84 (c := Tryd.f84.body.getD .skip) (by kernel_rfl) (by kernel_rfl) (by kernel_rfl) dec_ins_Effect res_ins_Effect _ hl h
abbrev F_verify_args : Nat := 85
def G_verify_args : List Nat := [0, 1, 3, 4, 7]
def MU_verify_args (d : Nat) : Bool := ([] : List Nat).contains d
noncomputable def S_verify_args : St := (.seq (.act (some 3) (.box 40 (.tmp 1))) (.seq (.sets [(4, (.k (.int .i64 0)))] []) (.seq (.sets [(7, (.bin .eql (.ld (.fa 0 (.s 3))) (.k (.int .i64 14))))] []) (.seq (.ite (.s 7) (.seq (.sets [(4, (.ld (.fa 0 (.ix 3 (.ld (.fa 0 (.nck (.s 0)))) (.ld (.fa 1 (.s 3)))))))] []) .ret) .nop) (.seq (.sets [(4, (.k (.int .i64 0)))] []) .ret)))))
noncomputable def R_verify_args : Ex := (.s 4)
theorem dec_verify_args : opt (dec Tryd.prog (fun f => roL.contains f) (fun t => G_verify_args.contains t) 17 (Tryd.f85.body.getD .skip)) = S_verify_args := by kernel_rfl
theorem res_verify_args : resE Tryd.prog (fun t => G_verify_args.contains t) Tryd.f85.results.toList = some R_verify_args := by kernel_rfl
theorem pc_verify_args {ds : List DV} {R : DV → DMem → Prop} {M : DMem} (hl : ds.length ≤ 17)
    (h : wpD Tryd.prog MU_verify_args (fun f => roL.contains f) (fun t => G_verify_args.contains t) 17 S_verify_args (fun δ M' => ∃ d, evD Tryd.prog M' δ R_verify_args = some d ∧ R d M') (fun _ _ _ => False) (fun δ M' => ∃ d, evD Tryd.prog M' δ R_verify_args = some d ∧ R d M') (argD ds) M) :
    PC Tryd.prog F_verify_args ds R M :=
  pc_opt Tryd.func85 (c := Tryd.f85.body.getD .skip) (by kernel_rfl) (by kernel_rfl) (by kernel_rfl) dec_verify_args res_verify_args _ hl h
abbrev F_flow_Next : Nat := 86
def G_flow_Next : List Nat := [0, 1, 2, 4, 5, 18]
def MU_flow_Next (d : Nat) : Bool := ([] : List Nat).contains d
noncomputable def S1_flow_Next : St := (.seq (.sets [(4, (.s 20)), (5, (.k (.int .i64 0)))] []) .ret)
noncomputable def S_flow_Next : St := (.seq (.act (some 2) (.box 43 (.tmp 0))) (.seq (.sets [(4, (.k (.slice none 0 0))), (5, (.k (.int .i64 0)))] []) (.seq (.sets [(18, (.or (.or (.un .not (.call 80 (.cs (.s 2) .nl))) (.bin .lss (.s 1) (.k (.int .i64 0)))) (.bin .geq (.s 1) (.len (.ld (.fa 2 (.s 2)))))))] []) (.seq (.ite (.s 18) (.seq (.sets [(4, (.k (.slice none 0 0))), (5, (.k (.int .i64 400)))] []) .ret) .nop) (.seq (.sets [(19, (.s 1))] []) (.seq (.act (some 20) (.call 81 [(.tmp 2), (.tmp 19)])) S1_flow_Next))))))
noncomputable def R_flow_Next : Ex := (.cs (.s 4) (.cs (.s 5) .nl))
theorem dec_flow_Next : opt (dec Tryd.prog (fun f => roL.contains f) (fun t => G_flow_Next.contains t) 21 (Tryd.f86.body.getD .skip)) = S_flow_Next := by kernel_rfl
theorem res_flow_Next : resE Tryd.prog (fun t => G_flow_Next.contains t) Tryd.f86.results.toList = some R_flow_Next := by kernel_rfl
theorem pc_flow_Next {ds : List DV} {R : DV → DMem → Prop} {M : DMem} (hl : ds.length ≤ 21)
    (h : wpD Tryd.prog MU_flow_Next (fun f => roL.contains f) (fun t => G_flow_Next.contains t) 21 S_flow_Next (fun δ M' => ∃ d, evD Tryd.prog M' δ R_flow_Next = some d ∧ R d M') (fun _ _ _ => False) (fun δ M' => ∃ d, evD Tryd.prog M' δ R_flow_Next = some d ∧ R d M') (argD ds) M) :
    PC Tryd.prog F_flow_Next ds R M :=
  pc_opt Tryd.func86 (c := Tryd.f86.body.getD .skip) (by kernel_rfl) (by kernel_rfl) (by kernel_rfl) dec_flow_Next res_flow_Next _ hl h
abbrev F_slices_IndexFunc_api_Src_api_Src : Nat := 88
def G_slices_IndexFunc_api_Src_api_Src : List Nat := [0, 1, 4, 5, 7, 8, 9, 16]
def MU_slices_IndexFunc_api_Src_api_Src (d : Nat) : Bool := ([] : List Nat).contains d
noncomputable def S1_slices_IndexFunc_api_Src_api_Src : St := (.seq (.sets [(9, (.bin .lss (.s 8) (.s 7)))] []) (.seq (.ite (.s 9) .nop (.exit 0)) (.seq (.block 1 (.seq (.sets [(5, (.s 8))] []) (.seq (.sets [(11, (.s 1)), (15, (.ldn 2 (.ix 2 (.s 0) (.s 5))))] []) (.seq (.act (some 16) (.callv 11 [(.tmp 15)])) (.ite (.s 16) (.seq (.sets [(4, (.s 5))] []) .ret) .nop))))) (.sets [(8, (.bin .add (.s 8) (.k (.int .i64 1))))] []))))
noncomputable def S_slices_IndexFunc_api_Src_api_Src : St := (.seq (.sets [(4, (.k (.int .i64 0)))] []) (.seq (.sets [(7, (.len (.s 0))), (8, (.k (.int .i64 0)))] []) (.seq (.block 0 (.loop S1_slices_IndexFunc_api_Src_api_Src)) (.seq (.sets [(4, (.k (.int .i64 (-1))))] []) .ret))))
noncomputable def R_slices_IndexFunc_api_Src_api_Src : Ex := (.s 4)
theorem dec_slices_IndexFunc_api_Src_api_Src : opt (dec Tryd.prog (fun f => roL.contains f) (fun t => G_slices_IndexFunc_api_Src_api_Src.contains t) 19 (Tryd.f88.body.getD .skip)) = S_slices_IndexFunc_api_Src_api_Src := by kernel_rfl
theorem res_slices_IndexFunc_api_Src_api_Src : resE Tryd.prog (fun t => G_slices_IndexFunc_api_Src_api_Src.contains t) Tryd.f88.results.toList = some R_slices_IndexFunc_api_Src_api_Src := by kernel_rfl
theorem pc_slices_IndexFunc_api_Src_api_Src {ds : List DV} {R : DV → DMem → Prop} {M : DMem} (hl : ds.length ≤ 19)
    (h : wpD Tryd.prog MU_slices_IndexFunc_api_Src_api_Src (fun f => roL.contains f) (fun t => G_slices_IndexFunc_api_Src_api_Src.contains t) 19 S_slices_IndexFunc_api_Src_api_Src (fun δ M' => ∃ d, evD Tryd.prog M' δ R_slices_IndexFunc_api_Src_api_Src = some d ∧ R d M') (fun _ _ _ => False) (fun δ M' => ∃ d, evD Tryd.prog M' δ R_slices_IndexFunc_api_Src_api_Src = some d ∧ R d M') (argD ds) M) :
    PC Tryd.prog F_slices_IndexFunc_api_Src_api_Src ds R M :=
  pc_opt Tryd.func88 (c := Tryd.f88.body.getD .skip) (by kernel_rfl) (by kernel_rfl) (by kernel_rfl) dec_slices_IndexFunc_api_Src_api_Src res_slices_IndexFunc_api_Src_api_Src _ hl h
abbrev F_ins_below : Nat := 91
def G_ins_below : List Nat := [0, 2, 3, 4, 7, 10]
def MU_ins_below (d : Nat) : Bool := ([] : List Nat).contains d
noncomputable def S_ins_below : St := (.seq (.sets [(2, (.k (.int .i64 0)))] []) (.seq (.sets [(3, (.s 0))] []) (.seq (.block 0 (.seq (.sets [(4, (.or (.bin .eql (.s 3) (.k (.int .i64 1))) (.bin .eql (.s 3) (.k (.int .i64 2)))))] []) (.ite (.s 4) (.seq (.sets [(2, (.k (.int .i64 8)))] []) .ret) (.seq (.sets [(7, (.or (.bin .eql (.s 3) (.k (.int .i64 12))) (.bin .eql (.s 3) (.k (.int .i64 13)))))] []) (.ite (.s 7) (.seq (.sets [(2, (.k (.int .i64 64)))] []) .ret) (.seq (.sets [(10, (.bin .eql (.s 3) (.k (.int .i64 14))))] []) (.ite (.s 10) (.seq (.sets [(2, (.k (.int .i64 8)))] []) .ret) .nop))))))) (.seq (.sets [(2, (.k (.int .i64 1)))] []) .ret))))
noncomputable def R_ins_below : Ex := (.s 2)
theorem dec_ins_below : opt (dec Tryd.prog (fun f => roL.contains f) (fun t => G_ins_below.contains t) 12 (Tryd.f91.body.getD .skip)) = S_ins_below := by kernel_rfl
theorem res_ins_below : resE Tryd.prog (fun t => G_ins_below.contains t) Tryd.f91.results.toList = some R_ins_below := by kernel_rfl
theorem pc_ins_below {ds : List DV} {R : DV → DMem → Prop} {M : DMem} (hl : ds.length ≤ 12)
    (h : wpD Tryd.prog MU_ins_below (fun f => roL.contains f) (fun t => G_ins_below.contains t) 12 S_ins_below (fun δ M' => ∃ d, evD Tryd.prog M' δ R_ins_below = some d ∧ R d M') (fun _ _ _ => False) (fun δ M' => ∃ d, evD Tryd.prog M' δ R_ins_below = some d ∧ R d M') (argD ds) M) :
    PC Tryd.prog F_ins_below ds R M :=
  pc_opt Tryd.func91 (c := Tryd.f91.body.getD .skip) (by kernel_rfl) (by kernel_rfl) (by kernel_rfl) dec_ins_below res_ins_below _ hl h
abbrev F_slices_IndexFunc_api_Ins_api_Ins : Nat := 92
def G_slices_IndexFunc_api_Ins_api_Ins : List Nat := [0, 1, 4, 5, 7, 8, 9, 16]
def MU_slices_IndexFunc_api_Ins_api_Ins (d : Nat) : Bool := ([] : List Nat).contains d
noncomputable def S1_slices_IndexFunc_api_Ins_api_Ins : St := (.seq (.sets [(9, (.bin .lss (.s 8) (.s 7)))] []) (.seq (.ite (.s 9) .nop (.exit 0)) (.seq (.block 1 (.seq (.sets [(5, (.s 8))] []) (.seq (.sets [(11, (.s 1)), (15, (.ldn 2 (.ix 2 (.s 0) (.s 5))))] []) (.seq (.act (some 16) (.callv 11 [(.tmp 15)])) (.ite (.s 16) (.seq (.sets [(4, (.s 5))] []) .ret) .nop))))) (.sets [(8, (.bin .add (.s 8) (.k (.int .i64 1))))] []))))
noncomputable def S_slices_IndexFunc_api_Ins_api_Ins : St := (.seq (.sets [(4, (.k (.int .i64 0)))] []) (.seq (.sets [(7, (.len (.s 0))), (8, (.k (.int .i64 0)))] []) (.seq (.block 0 (.loop S1_slices_IndexFunc_api_Ins_api_Ins)) (.seq (.sets [(4, (.k (.int .i64 (-1))))] []) .ret))))
noncomputable def R_slices_IndexFunc_api_Ins_api_Ins : Ex := (.s 4)
theorem dec_slices_IndexFunc_api_Ins_api_Ins : opt (dec Tryd.prog (fun f => roL.contains f) (fun t => G_slices_IndexFunc_api_Ins_api_Ins.contains t) 19 (Tryd.f92.body.getD .skip)) = S_slices_IndexFunc_api_Ins_api_Ins := by kernel_rfl
theorem res_slices_IndexFunc_api_Ins_api_Ins : resE Tryd.prog (fun t => G_slices_IndexFunc_api_Ins_api_Ins.contains t) Tryd.f92.results.toList = some R_slices_IndexFunc_api_Ins_api_Ins := by kernel_rfl
theorem pc_slices_IndexFunc_api_Ins_api_Ins {ds : List DV} {R : DV → DMem → Prop} {M : DMem} (hl : ds.length ≤ 19)
    (h : wpD Tryd.prog MU_slices_IndexFunc_api_Ins_api_Ins (fun f => roL.contains f) (fun t => G_slices_IndexFunc_api_Ins_api_Ins.contains t) 19 S_slices_IndexFunc_api_Ins_api_Ins (fun δ M' => ∃ d, evD Tryd.prog M' δ R_slices_IndexFunc_api_Ins_api_Ins = some d ∧ R d M') (fun _ _ _ => False) (fun δ M' => ∃ d, evD Tryd.prog M' δ R_slices_IndexFunc_api_Ins_api_Ins = some d ∧ R d M') (argD ds) M) :
    PC Tryd.prog F_slices_IndexFunc_api_Ins_api_Ins ds R M :=
  pc_opt Tryd.func92 (c := Tryd.f92.body.getD .skip) (by kernel_rfl) (by kernel_rfl) (by kernel_rfl) dec_slices_IndexFunc_api_Ins_api_Ins res_slices_IndexFunc_api_Ins_api_Ins _ hl h
abbrev F_flow_may_1 : Nat := 93
def G_flow_may_1 : List Nat := [0, 1, 2]
def MU_flow_may_1 (d : Nat) : Bool := ([] : List Nat).contains d
noncomputable def S_flow_may_1 : St := (.seq (.act (some 1) (.box 40 (.tmp 0))) (.seq (.sets [(2, (.k (.bool false)))] []) (.seq (.sets [(2, (.un .not (.call 78 (.cs (.ldn 2 (.s 1)) .nl))))] []) .ret)))
noncomputable def R_flow_may_1 : Ex := (.s 2)
theorem dec_flow_may_1 : opt (dec Tryd.prog (fun f => roL.contains f) (fun t => G_flow_may_1.contains t) 6 (Tryd.f93.body.getD .skip)) = S_flow_may_1 := by kernel_rfl
theorem res_flow_may_1 : resE Tryd.prog (fun t => G_flow_may_1.contains t) Tryd.f93.results.toList = some R_flow_may_1 := by kernel_rfl
theorem pc_flow_may_1 {ds : List DV} {R : DV → DMem → Prop} {M : DMem} (hl : ds.length ≤ 6)
    (h : wpD Tryd.prog MU_flow_may_1 (fun f => roL.contains f) (fun t => G_flow_may_1.contains t) 6 S_flow_may_1 (fun δ M' => ∃ d, evD Tryd.prog M' δ R_flow_may_1 = some d ∧ R d M') (fun _ _ _ => False) (fun δ M' => ∃ d, evD Tryd.prog M' δ R_flow_may_1 = some d ∧ R d M') (argD ds) M) :
    PC Tryd.prog F_flow_may_1 ds R M :=
  pc_opt Tryd.func93 (c := Tryd.f93.body.getD .skip) (by kernel_rfl) (by kernel_rfl) (by kernel_rfl) dec_flow_may_1 res_flow_may_1 _ hl h
abbrev F_flow_next_1 : Nat := 94
def G_flow_next_1 : List Nat := [0, 1, 3]
def MU_flow_next_1 (d : Nat) : Bool := ([] : List Nat).contains d
noncomputable def S_flow_next_1 : St := (.seq (.sets [(3, (.k (.bool false)))] []) (.seq (.sets [(3, (.bin .geq (.s 0) (.len (.ld (.fa 2 (.nck (.ld (.s 1))))))))] []) .ret))
noncomputable def R_flow_next_1 : Ex := (.s 3)
theorem dec_flow_next_1 : opt (dec Tryd.prog (fun f => roL.contains f) (fun t => G_flow_next_1.contains t) 11 (Tryd.f94.body.getD .skip)) = S_flow_next_1 := by kernel_rfl
theorem res_flow_next_1 : resE Tryd.prog (fun t => G_flow_next_1.contains t) Tryd.f94.results.toList = some R_flow_next_1 := by kernel_rfl
theorem pc_flow_next_1 {ds : List DV} {R : DV → DMem → Prop} {M : DMem} (hl : ds.length ≤ 11)
    (h : wpD Tryd.prog MU_flow_next_1 (fun f => roL.contains f) (fun t => G_flow_next_1.contains t) 11 S_flow_next_1 (fun δ M' => ∃ d, evD Tryd.prog M' δ R_flow_next_1 = some d ∧ R d M') (fun _ _ _ => False) (fun δ M' => ∃ d, evD Tryd.prog M' δ R_flow_next_1 = some d ∧ R d M') (argD ds) M) :
    PC Tryd.prog F_flow_next_1 ds R M :=
  pc_opt Tryd.func94 (c := Tryd.f94.body.getD .skip) (by kernel_rfl) (by kernel_rfl) (by kernel_rfl) dec_flow_next_1 res_flow_next_1 _ hl h
abbrev F_slices_Compact_int_int : Nat := 95
def G_slices_Compact_int_int : List Nat := [0, 2, 3, 4, 5, 8, 13, 25, 32, 44]
def MU_slices_Compact_int_int (d : Nat) : Bool := ([] : List Nat).contains d
noncomputable def S1_slices_Compact_int_int : St := (.seq (.sets [(32, (.bin .lss (.s 5) (.len (.s 4))))] []) (.seq (.ite (.s 32) .nop (.exit 2)) (.seq (.block 3 (.seq (.sets [(44, (.bin .neq (.ld (.ix 1 (.s 4) (.s 5))) (.ld (.ix 1 (.s 4) (.bin .sub (.s 5) (.k (.int .i64 1)))))))] []) (.ite (.s 44) (.seq (.sets [(50, (.ld (.ix 1 (.s 4) (.s 5)))), (51, (.ix 1 (.s 0) (.s 3)))] []) (.seq (.act none (.store 1 (.tmp 51) (.tmp 50))) (.sets [(3, (.bin .add (.s 3) (.k (.int .i64 1))))] []))) .nop))) (.sets [(5, (.bin .add (.s 5) (.k (.int .i64 1))))] []))))
noncomputable def S2_slices_Compact_int_int : St := (.seq (.sets [(56, (.slc 1 (.s 0) (.cs (.s 3) .nl) .nl .nl))] []) (.seq (.act none (.clr 1 (.int .i64 0) (.tmp 56))) (.seq (.sets [(2, (.slc 1 (.s 0) .nl (.cs (.s 3) .nl) .nl))] []) .ret)))
noncomputable def S3_slices_Compact_int_int : St := (.seq (.sets [(13, (.bin .lss (.s 3) (.len (.s 0))))] []) (.seq (.ite (.s 13) .nop (.exit 0)) (.seq (.block 1 (.seq (.sets [(25, (.bin .eql (.ld (.ix 1 (.s 0) (.s 3))) (.ld (.ix 1 (.s 0) (.bin .sub (.s 3) (.k (.int .i64 1)))))))] []) (.ite (.s 25) (.seq (.sets [(4, (.slc 1 (.s 0) (.cs (.s 3) .nl) .nl .nl))] []) (.seq (.sets [(5, (.k (.int .i64 1)))] []) (.seq (.block 2 (.loop S1_slices_Compact_int_int)) S2_slices_Compact_int_int))) .nop))) (.sets [(3, (.bin .add (.s 3) (.k (.int .i64 1))))] []))))
noncomputable def S_slices_Compact_int_int : St := (.seq (.sets [(2, (.k (.slice none 0 0)))] []) (.seq (.sets [(8, (.bin .lss (.len (.s 0)) (.k (.int .i64 2))))] []) (.seq (.ite (.s 8) (.seq (.sets [(2, (.s 0))] []) .ret) .nop) (.seq (.sets [(3, (.k (.int .i64 1)))] []) (.seq (.block 0 (.loop S3_slices_Compact_int_int)) (.seq (.sets [(2, (.s 0))] []) .ret))))))
noncomputable def R_slices_Compact_int_int : Ex := (.s 2)
theorem dec_slices_Compact_int_int : opt (dec Tryd.prog (fun f => roL.contains f) (fun t => G_slices_Compact_int_int.contains t) 61 (Tryd.f95.body.getD .skip)) = S_slices_Compact_int_int := by kernel_rfl
theorem res_slices_Compact_int_int : resE Tryd.prog (fun t => G_slices_Compact_int_int.contains t) Tryd.f95.results.toList = some R_slices_Compact_int_int := by kernel_rfl
theorem pc_slices_Compact_int_int {ds : List DV} {R : DV → DMem → Prop} {M : DMem} (hl : ds.length ≤ 61)
    (h : wpD Tryd.prog MU_slices_Compact_int_int (fun f => roL.contains f) (fun t => G_slices_Compact_int_int.contains t) 61 S_slices_Compact_int_int (fun δ M' => ∃ d, evD Tryd.prog M' δ R_slices_Compact_int_int = some d ∧ R d M') (fun _ _ _ => False) (fun δ M' => ∃ d, evD Tryd.prog M' δ R_slices_Compact_int_int = some d ∧ R d M') (argD ds) M) :
    PC Tryd.prog F_slices_Compact_int_int ds R M :=
  pc_opt Tryd.func95 (c := Tryd.f95.body.getD .skip) (by kernel_rfl) (by kernel_rfl) (by kernel_rfl) dec_slices_Compact_int_int res_slices_Compact_int_int _ hl h
abbrev F_slices_DeleteFunc_int_int : Nat := 96
def G_slices_DeleteFunc_int_int : List Nat := [0, 1, 4, 5, 6, 7, 12, 19, 29]
def MU_slices_DeleteFunc_int_int (d : Nat) : Bool := ([] : List Nat).contains d
noncomputable def S1_slices_DeleteFunc_int_int : St := (.seq (.sets [(29, (.un .not (.s 28)))] []) (.ite (.s 29) (.seq (.sets [(32, (.s 7)), (33, (.ix 1 (.s 0) (.s 5)))] []) (.seq (.act none (.store 1 (.tmp 33) (.tmp 32))) (.sets [(5, (.bin .add (.s 5) (.k (.int .i64 1))))] []))) .nop))
noncomputable def S2_slices_DeleteFunc_int_int : St := (.seq (.sets [(19, (.bin .lss (.s 6) (.len (.s 0))))] []) (.seq (.ite (.s 19) .nop (.exit 0)) (.seq (.block 1 (.seq (.sets [(7, (.ld (.ix 1 (.s 0) (.s 6))))] []) (.seq (.sets [(26, (.s 1)), (27, (.s 7))] []) (.seq (.act (some 28) (.callv 26 [(.tmp 27)])) S1_slices_DeleteFunc_int_int)))) (.sets [(6, (.bin .add (.s 6) (.k (.int .i64 1))))] []))))
noncomputable def S3_slices_DeleteFunc_int_int : St := (.seq (.sets [(38, (.slc 1 (.s 0) (.cs (.s 5) .nl) .nl .nl))] []) (.seq (.act none (.clr 1 (.int .i64 0) (.tmp 38))) (.seq (.sets [(4, (.slc 1 (.s 0) .nl (.cs (.s 5) .nl) .nl))] []) .ret)))
noncomputable def S_slices_DeleteFunc_int_int : St := (.seq (.sets [(4, (.k (.slice none 0 0)))] []) (.seq (.sets [(5, (.call 102 (.cs (.s 0) (.cs (.s 1) .nl))))] []) (.seq (.sets [(12, (.bin .eql (.s 5) (.k (.int .i64 (-1)))))] []) (.seq (.ite (.s 12) (.seq (.sets [(4, (.s 0))] []) .ret) .nop) (.seq (.sets [(6, (.bin .add (.s 5) (.k (.int .i64 1))))] []) (.seq (.block 0 (.loop S2_slices_DeleteFunc_int_int)) S3_slices_DeleteFunc_int_int))))))
noncomputable def R_slices_DeleteFunc_int_int : Ex := (.s 4)
theorem dec_slices_DeleteFunc_int_int : opt (dec Tryd.prog (fun f => roL.contains f) (fun t => G_slices_DeleteFunc_int_int.contains t) 42 (Tryd.f96.body.getD .skip)) = S_slices_DeleteFunc_int_int := by kernel_rfl
theorem res_slices_DeleteFunc_int_int : resE Tryd.prog (fun t => G_slices_DeleteFunc_int_int.contains t) Tryd.f96.results.toList = some R_slices_DeleteFunc_int_int := by kernel_rfl
theorem pc_slices_DeleteFunc_int_int {ds : List DV} {R : DV → DMem → Prop} {M : DMem} (hl : ds.length ≤ 42)
    (h : wpD Tryd.prog MU_slices_DeleteFunc_int_int (fun f => roL.contains f) (fun t => G_slices_DeleteFunc_int_int.contains t) 42 S_slices_DeleteFunc_int_int (fun δ M' => ∃ d, evD Tryd.prog M' δ R_slices_DeleteFunc_int_int = some d ∧ R d M') (fun _ _ _ => False) (fun δ M' => ∃ d, evD Tryd.prog M' δ R_slices_DeleteFunc_int_int = some d ∧ R d M') (argD ds) M) :
    PC Tryd.prog F_slices_DeleteFunc_int_int ds R M :=
  pc_opt Tryd.func96 (c := Tryd.f96.body.getD .skip) (by kernel_rfl) (by kernel_rfl) (by kernel_rfl) dec_slices_DeleteFunc_int_int res_slices_DeleteFunc_int_int _ hl h
abbrev F_math_bits_Mul : Nat := 97
def G_math_bits_Mul : List Nat := [0, 1, 4, 5, 6, 7, 8, 9]
def MU_math_bits_Mul (d : Nat) : Bool := ([] : List Nat).contains d
noncomputable def S1_math_bits_Mul : St := (.seq (.sets [(6, (.ext 0 (.s 15))), (7, (.ext 1 (.s 15)))] []) (.seq (.sets [(4, (.cvt .u64 (.s 6))), (5, (.cvt .u64 (.s 7)))] []) .ret))
noncomputable def S2_math_bits_Mul : St := (.seq (.sets [(8, (.ext 0 (.s 25))), (9, (.ext 1 (.s 25)))] []) (.seq (.sets [(4, (.s 8)), (5, (.s 9))] []) .ret))
noncomputable def S3_math_bits_Mul : St := (.seq (.sets [(23, (.s 0)), (24, (.s 1))] []) (.seq (.act (some 25) (.call 104 [(.tmp 23), (.tmp 24)])) S2_math_bits_Mul))
noncomputable def S_math_bits_Mul : St := (.seq (.sets [(4, (.k (.int .u64 0))), (5, (.k (.int .u64 0)))] []) (.seq (.ite (.k (.bool false)) (.seq (.sets [(12, (.cvt .u32 (.s 0))), (14, (.cvt .u32 (.s 1)))] []) (.seq (.act (some 15) (.call 103 [(.tmp 12), (.tmp 14)])) S1_math_bits_Mul)) .nop) S3_math_bits_Mul))
noncomputable def R_math_bits_Mul : Ex := (.cs (.s 4) (.cs (.s 5) .nl))
theorem dec_math_bits_Mul : opt (dec Tryd.prog (fun f => roL.contains f) (fun t => G_math_bits_Mul.contains t) 30 (Tryd.f97.body.getD .skip)) = S_math_bits_Mul := by kernel_rfl
theorem res_math_bits_Mul : resE Tryd.prog (fun t => G_math_bits_Mul.contains t) Tryd.f97.results.toList = some R_math_bits_Mul := by kernel_rfl
theorem pc_math_bits_Mul {ds : List DV} {R : DV → DMem → Prop} {M : DMem} (hl : ds.length ≤ 30)
    (h : wpD Tryd.prog MU_math_bits_Mul (fun f => roL.contains f) (fun t => G_math_bits_Mul.contains t) 30 S_math_bits_Mul (fun δ M' => ∃ d, evD Tryd.prog M' δ R_math_bits_Mul = some d ∧ R d M') (fun _ _ _ => False) (fun δ M' => ∃ d, evD Tryd.prog M' δ R_math_bits_Mul = some d ∧ R d M') (argD ds) M) :
    PC Tryd.prog F_math_bits_Mul ds R M :=
  pc_opt Tryd.func97 (c := Tryd.f97.body.getD .skip) (by kernel_rfl) (by kernel_rfl) (by kernel_rfl) dec_math_bits_Mul res_math_bits_Mul _ hl h
abbrev F_slices_IndexFunc_int_int : Nat := 102
def G_slices_IndexFunc_int_int : List Nat := [0, 1, 4, 5, 7, 8, 9, 16]
def MU_slices_IndexFunc_int_int (d : Nat) : Bool := ([] : List Nat).contains d
noncomputable def S1_slices_IndexFunc_int_int : St := (.seq (.sets [(9, (.bin .lss (.s 8) (.s 7)))] []) (.seq (.ite (.s 9) .nop (.exit 0)) (.seq (.block 1 (.seq (.sets [(5, (.s 8))] []) (.seq (.sets [(11, (.s 1)), (15, (.ld (.ix 1 (.s 0) (.s 5))))] []) (.seq (.act (some 16) (.callv 11 [(.tmp 15)])) (.ite (.s 16) (.seq (.sets [(4, (.s 5))] []) .ret) .nop))))) (.sets [(8, (.bin .add (.s 8) (.k (.int .i64 1))))] []))))
noncomputable def S_slices_IndexFunc_int_int : St := (.seq (.sets [(4, (.k (.int .i64 0)))] []) (.seq (.sets [(7, (.len (.s 0))), (8, (.k (.int .i64 0)))] []) (.seq (.block 0 (.loop S1_slices_IndexFunc_int_int)) (.seq (.sets [(4, (.k (.int .i64 (-1))))] []) .ret))))
noncomputable def R_slices_IndexFunc_int_int : Ex := (.s 4)
theorem dec_slices_IndexFunc_int_int : opt (dec Tryd.prog (fun f => roL.contains f) (fun t => G_slices_IndexFunc_int_int.contains t) 19 (Tryd.f102.body.getD .skip)) = S_slices_IndexFunc_int_int := by kernel_rfl
theorem res_slices_IndexFunc_int_int : resE Tryd.prog (fun t => G_slices_IndexFunc_int_int.contains t) Tryd.f102.results.toList = some R_slices_IndexFunc_int_int := by kernel_rfl
theorem pc_slices_IndexFunc_int_int {ds : List DV} {R : DV → DMem → Prop} {M : DMem} (hl : ds.length ≤ 19)
    (h : wpD Tryd.prog MU_slices_IndexFunc_int_int (fun f => roL.contains f) (fun t => G_slices_IndexFunc_int_int.contains t) 19 S_slices_IndexFunc_int_int (fun δ M' => ∃ d, evD Tryd.prog M' δ R_slices_IndexFunc_int_int = some d ∧ R d M') (fun _ _ _ => False) (fun δ M' => ∃ d, evD Tryd.prog M' δ R_slices_IndexFunc_int_int = some d ∧ R d M') (argD ds) M) :
    PC Tryd.prog F_slices_IndexFunc_int_int ds R M :=
  pc_opt Tryd.func102 (c := Tryd.f102.body.getD .skip) (by kernel_rfl) (by kernel_rfl) (by kernel_rfl) dec_slices_IndexFunc_int_int res_slices_IndexFunc_int_int _ hl h
abbrev F_math_bits_Mul64 : Nat := 104
def G_math_bits_Mul64 : List Nat := [0, 1, 4, 5, 6, 7, 8, 9, 10, 11, 12, 13]
def MU_math_bits_Mul64 (d : Nat) : Bool := ([] : List Nat).contains d
noncomputable def S_math_bits_Mul64 : St := (.seq (.sets [(4, (.k (.int .u64 0))), (5, (.k (.int .u64 0)))] []) (.seq (.sets [(6, (.bin .and (.s 0) (.k (.int .u64 4294967295))))] []) (.seq (.sets [(7, (.bin .shr (.s 0) (.k (.int .u64 32))))] []) (.seq (.sets [(8, (.bin .and (.s 1) (.k (.int .u64 4294967295))))] []) (.seq (.sets [(9, (.bin .shr (.s 1) (.k (.int .u64 32))))] []) (.seq (.sets [(10, (.bin .mul (.s 6) (.s 8)))] []) (.seq (.sets [(11, (.bin .add (.bin .mul (.s 7) (.s 8)) (.bin .shr (.s 10) (.k (.int .u64 32)))))] []) (.seq (.sets [(12, (.bin .and (.s 11) (.k (.int .u64 4294967295))))] []) (.seq (.sets [(13, (.bin .shr (.s 11) (.k (.int .u64 32))))] []) (.seq (.sets [(12, (.bin .add (.s 12) (.bin .mul (.s 6) (.s 9))))] []) (.seq (.sets [(4, (.bin .add (.bin .add (.bin .mul (.s 7) (.s 9)) (.s 13)) (.bin .shr (.s 12) (.k (.int .u64 32)))))] []) (.seq (.sets [(5, (.bin .mul (.s 0) (.s 1)))] []) .ret))))))))))))
noncomputable def R_math_bits_Mul64 : Ex := (.cs (.s 4) (.cs (.s 5) .nl))
theorem dec_math_bits_Mul64 : opt (dec Tryd.prog (fun f => roL.contains f) (fun t => G_math_bits_Mul64.contains t) 51 (Tryd.f104.body.getD .skip)) = S_math_bits_Mul64 := by kernel_rfl
theorem res_math_bits_Mul64 : resE Tryd.prog (fun t => G_math_bits_Mul64.contains t) Tryd.f104.results.toList = some R_math_bits_Mul64 := by kernel_rfl
theorem pc_math_bits_Mul64 {ds : List DV} {R : DV → DMem → Prop} {M : DMem} (hl : ds.length ≤ 51)
    (h : wpD Tryd.prog MU_math_bits_Mul64 (fun f => roL.contains f) (fun t => G_math_bits_Mul64.contains t) 51 S_math_bits_Mul64 (fun δ M' => ∃ d, evD Tryd.prog M' δ R_math_bits_Mul64 = some d ∧ R d M') (fun _ _ _ => False) (fun δ M' => ∃ d, evD Tryd.prog M' δ R_math_bits_Mul64 = some d ∧ R d M') (argD ds) M) :
    PC Tryd.prog F_math_bits_Mul64 ds R M :=
  pc_opt Tryd.func104 (c := Tryd.f104.body.getD .skip) (by kernel_rfl) (by kernel_rfl) (by kernel_rfl) dec_math_bits_Mul64 res_math_bits_Mul64 _ hl h
end Go.Proofs.YticlgdhhnjpkjaaDoor.Sx
