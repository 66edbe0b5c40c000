/- Sr Sa Sx: joined texts of this claim. No condition. -/
import Derived.Test.YticlgdhhnjpkjaaGreatDoorProg
import Derived.Test.YticlgdhhnjpkjaaGreatDoorJmjb
namespace Go.Proofs.YticlgdhhnjpkjaaGreatDoor.Sx
open Go Go.Proofs Go.Proofs.YticlgdhhnjpkjaaGreatDoor.Mw
set_option linter.unusedVariables false
set_option maxRecDepth 20000
def roL : List Nat := [12, 13, 16, 18, 19, 20, 23, 26, 29, 32, 42, 43, 46, 47, 53, 54, 55, 56, 57, 64, 66, 73, 81, 86, 87, 90, 91, 92, 93, 94, 95, 96, 97, 98, 99, 100, 101, 109, 110, 111, 118, 120, 122, 123, 124, 125, 126, 127, 128, 129, 130, 131, 133, 135, 136, 139, 141, 142, 143, 144, 145, 146, 147, 148, 156]
end Go.Proofs.YticlgdhhnjpkjaaGreatDoor.Sx
namespace Go.Proofs.YticlgdhhnjpkjaaGreatDoor.Sx
open Go Go.Proofs Go.Proofs.YticlgdhhnjpkjaaGreatDoor.Mw
set_option linter.unusedVariables false
set_option maxRecDepth 20000
abbrev F_verify_All : Nat := 34
def G_verify_All : List Nat := [0, 2, 3, 4, 5, 6, 8, 11, 16, 17, 18, 30]
def MU_verify_All (d : Nat) : Bool := ([] : List Nat).contains d
noncomputable def S1_verify_All : St := (.seq (.sets [(6, (.ext 0 (.s 25))), (8, (.ext 2 (.s 25)))] [(.ext 1 (.s 25))]) (.seq (.sets [(30, (.bin .neq (.s 8) (.k (.int .i64 0))))] []) (.seq (.ite (.s 30) (.seq (.sets [(2, (.k (.slice none 0 0))), (3, (.s 8))] []) .ret) .nop) (.seq (.sets [(32, (.s 4)), (33, (.s 6))] []) (.seq (.act (some 34) (.bslice 48 1 [(.slice none 0 0)] 1 [(0, (.tmp 33))])) (.seq (.act (some 35) (.app 48 1 24 (.tmp 32) (.tmp 34))) (.sets [(4, (.s 35))] [])))))))
noncomputable def S2_verify_All : St := (.seq (.sets [(18, (.bin .lss (.s 17) (.s 16)))] []) (.seq (.ite (.s 18) .nop (.exit 0)) (.seq (.block 1 (.seq (.sets [(5, (.s 17))] []) (.seq (.sets [(23, (.ldn 1 (.nck (.s 0)))), (24, (.s 5))] []) (.seq (.act (some 25) (.call 82 [(.tmp 23), (.tmp 24)])) S1_verify_All)))) (.sets [(17, (.bin .add (.s 17) (.k (.int .i64 1))))] []))))
noncomputable def S3_verify_All : St := (.seq (.sets [(2, (.s 4)), (3, (.k (.int .i64 0)))] []) .ret)
noncomputable def S_verify_All : St := (.seq (.sets [(2, (.k (.slice none 0 0))), (3, (.k (.int .i64 0)))] []) (.seq (.sets [(11, (.un .not (.call 81 (.cs (.s 0) .nl))))] []) (.seq (.ite (.s 11) (.seq (.sets [(2, (.k (.slice none 0 0))), (3, (.k (.int .i64 500)))] []) .ret) .nop) (.seq (.sets [(4, (.k (.slice none 0 0)))] []) (.seq (.sets [(16, (.len (.ld (.fa 0 (.nck (.s 0)))))), (17, (.k (.int .i64 0)))] []) (.seq (.block 0 (.loop S2_verify_All)) S3_verify_All))))))
noncomputable def R_verify_All : Ex := (.cs (.s 2) (.cs (.s 3) .nl))
theorem dec_verify_All : opt (dec Tryz.prog (fun f => roL.contains f) (fun t => G_verify_All.contains t) 38 (Tryz.f34.body.getD .skip)) = S_verify_All := by kernel_rfl
theorem res_verify_All : resE Tryz.prog (fun t => G_verify_All.contains t) Tryz.f34.results.toList = some R_verify_All := by kernel_rfl
theorem pc_verify_All {ds : List DV} {R : DV → DMem → Prop} {M : DMem} (hl : ds.length ≤ 38)
    (h : wpD Tryz.prog MU_verify_All (fun f => roL.contains f) (fun t => G_verify_All.contains t) 38 S_verify_All (fun δ M' => ∃ d, evD Tryz.prog M' δ R_verify_All = some d ∧ R d M') (fun _ _ _ => False) (fun δ M' => ∃ d, evD Tryz.prog M' δ R_verify_All = some d ∧ R d M') (argD ds) M) :
    PC Tryz.prog F_verify_All ds R M :=
  pc_opt Tryz.func34 (c := Tryz.f34.body.getD .skip) (by kernel_rfl) (by kernel_rfl) (by kernel_rfl) dec_verify_All res_verify_All _ hl h
abbrev F_swageref1_Verify : Nat := 42
def G_swageref1_Verify : List Nat := [0, 1, 2, 3, 6, 9, 14, 25]
def MU_swageref1_Verify (d : Nat) : Bool := ([] : List Nat).contains d
noncomputable def S1_swageref1_Verify : St := (.seq (.sets [(6, (.ext 2 (.s 20)))] [(.ext 1 (.s 20)), (.ext 0 (.s 20))]) (.seq (.sets [(25, (.bin .neq (.s 6) (.k (.int .i64 0))))] []) (.ite (.s 25) (.seq (.sets [(2, (.s 6))] []) .ret) .nop)))
noncomputable def S2_swageref1_Verify : St := (.seq (.sets [(14, (.bin .lss (.s 3) (.len (.ld (.fa 0 (.s 1))))))] []) (.seq (.ite (.s 14) .nop (.exit 0)) (.seq (.block 1 (.seq (.sets [(18, (.ldn 1 (.s 1))), (19, (.s 3))] []) (.seq (.act (some 20) (.call 88 [(.tmp 18), (.tmp 19)])) S1_swageref1_Verify))) (.sets [(3, (.bin .add (.s 3) (.k (.int .i64 1))))] []))))
noncomputable def S_swageref1_Verify : St := (.seq (.act (some 1) (.box 24 (.tmp 0))) (.seq (.sets [(2, (.k (.int .i64 0)))] []) (.seq (.sets [(9, (.un .not (.call 87 (.cs (.ldn 1 (.s 1)) .nl))))] []) (.seq (.ite (.s 9) (.seq (.sets [(2, (.k (.int .i64 500)))] []) .ret) .nop) (.seq (.sets [(3, (.k (.int .i64 0)))] []) (.seq (.block 0 (.loop S2_swageref1_Verify)) (.seq (.sets [(2, (.k (.int .i64 0)))] []) .ret)))))))
noncomputable def R_swageref1_Verify : Ex := (.s 2)
theorem dec_swageref1_Verify : opt (dec Tryz.prog (fun f => roL.contains f) (fun t => G_swageref1_Verify.contains t) 27 (Tryz.f42.body.getD .skip)) = S_swageref1_Verify := by kernel_rfl
theorem res_swageref1_Verify : resE Tryz.prog (fun t => G_swageref1_Verify.contains t) Tryz.f42.results.toList = some R_swageref1_Verify := by kernel_rfl
theorem pc_swageref1_Verify {ds : List DV} {R : DV → DMem → Prop} {M : DMem} (hl : ds.length ≤ 27)
    (h : wpD Tryz.prog MU_swageref1_Verify (fun f => roL.contains f) (fun t => G_swageref1_Verify.contains t) 27 S_swageref1_Verify (fun δ M' => ∃ d, evD Tryz.prog M' δ R_swageref1_Verify = some d ∧ R d M') (fun _ _ _ => False) (fun δ M' => ∃ d, evD Tryz.prog M' δ R_swageref1_Verify = some d ∧ R d M') (argD ds) M) :
    PC Tryz.prog F_swageref1_Verify ds R M :=
  pc_opt Tryz.func42 (c := Tryz.f42.body.getD .skip) (by kernel_rfl) (by kernel_rfl) (by kernel_rfl) dec_swageref1_Verify res_swageref1_Verify _ hl h
abbrev F_swageref1_Height : Nat := 43
def G_swageref1_Height : List Nat := [0, 1, 2, 3, 6, 7, 9, 28]
def MU_swageref1_Height (d : Nat) : Bool := ([] : List Nat).contains d
noncomputable def S1_swageref1_Height : St := (.seq (.sets [(7, (.ext 0 (.s 13))), (9, (.ext 2 (.s 13)))] [(.ext 1 (.s 13))]) (.seq (.sets [(28, (.or (.or (.bin .neq (.s 9) (.k (.int .i64 0))) (.bin .lss (.s 2) (.k (.int .i64 0)))) (.bin .geq (.s 2) (.len (.s 7)))))] []) (.seq (.ite (.s 28) (.seq (.sets [(6, (.k (.int .i64 (-1))))] []) .ret) .nop) (.seq (.sets [(6, (.ld (.ix 1 (.s 7) (.s 2))))] []) .ret))))
noncomputable def S_swageref1_Height : St := (.seq (.act (some 3) (.box 24 (.tmp 0))) (.seq (.sets [(6, (.k (.int .i64 0)))] []) (.seq (.sets [(11, (.ldn 1 (.s 3))), (12, (.s 1))] []) (.seq (.act (some 13) (.call 88 [(.tmp 11), (.tmp 12)])) S1_swageref1_Height))))
noncomputable def R_swageref1_Height : Ex := (.s 6)
theorem dec_swageref1_Height : opt (dec Tryz.prog (fun f => roL.contains f) (fun t => G_swageref1_Height.contains t) 33 (Tryz.f43.body.getD .skip)) = S_swageref1_Height := by kernel_rfl
theorem res_swageref1_Height : resE Tryz.prog (fun t => G_swageref1_Height.contains t) Tryz.f43.results.toList = some R_swageref1_Height := by kernel_rfl
theorem pc_swageref1_Height {ds : List DV} {R : DV → DMem → Prop} {M : DMem} (hl : ds.length ≤ 33)
    (h : wpD Tryz.prog MU_swageref1_Height (fun f => roL.contains f) (fun t => G_swageref1_Height.contains t) 33 S_swageref1_Height (fun δ M' => ∃ d, evD Tryz.prog M' δ R_swageref1_Height = some d ∧ R d M') (fun _ _ _ => False) (fun δ M' => ∃ d, evD Tryz.prog M' δ R_swageref1_Height = some d ∧ R d M') (argD ds) M) :
    PC Tryz.prog F_swageref1_Height ds R M :=
  pc_opt Tryz.func43 (c := Tryz.f43.body.getD .skip) (by kernel_rfl) (by kernel_rfl) (by kernel_rfl) dec_swageref1_Height res_swageref1_Height _ hl h
abbrev F_slices_ContainsFunc_api_Meta_api_Meta : Nat := 54
def G_slices_ContainsFunc_api_Meta_api_Meta : List Nat := [0, 1, 4]
def MU_slices_ContainsFunc_api_Meta_api_Meta (d : Nat) : Bool := ([] : List Nat).contains d
noncomputable def S_slices_ContainsFunc_api_Meta_api_Meta : St := (.seq (.sets [(4, (.k (.bool false)))] []) (.seq (.sets [(4, (.bin .geq (.call 95 (.cs (.s 0) (.cs (.s 1) .nl))) (.k (.int .i64 0))))] []) .ret))
noncomputable def R_slices_ContainsFunc_api_Meta_api_Meta : Ex := (.s 4)
theorem dec_slices_ContainsFunc_api_Meta_api_Meta : opt (dec Tryz.prog (fun f => roL.contains f) (fun t => G_slices_ContainsFunc_api_Meta_api_Meta.contains t) 9 (Tryz.f54.body.getD .skip)) = S_slices_ContainsFunc_api_Meta_api_Meta := by kernel_rfl
theorem res_slices_ContainsFunc_api_Meta_api_Meta : resE Tryz.prog (fun t => G_slices_ContainsFunc_api_Meta_api_Meta.contains t) Tryz.f54.results.toList = some R_slices_ContainsFunc_api_Meta_api_Meta := by kernel_rfl
theorem pc_slices_ContainsFunc_api_Meta_api_Meta {ds : List DV} {R : DV → DMem → Prop} {M : DMem} (hl : ds.length ≤ 9)
    (h : wpD Tryz.prog MU_slices_ContainsFunc_api_Meta_api_Meta (fun f => roL.contains f) (fun t => G_slices_ContainsFunc_api_Meta_api_Meta.contains t) 9 S_slices_ContainsFunc_api_Meta_api_Meta (fun δ M' => ∃ d, evD Tryz.prog M' δ R_slices_ContainsFunc_api_Meta_api_Meta = some d ∧ R d M') (fun _ _ _ => False) (fun δ M' => ∃ d, evD Tryz.prog M' δ R_slices_ContainsFunc_api_Meta_api_Meta = some d ∧ R d M') (argD ds) M) :
    PC Tryz.prog F_slices_ContainsFunc_api_Meta_api_Meta ds R M :=
  pc_opt Tryz.func54 (c := Tryz.f54.body.getD .skip) (by kernel_rfl) (by kernel_rfl) (by kernel_rfl) dec_slices_ContainsFunc_api_Meta_api_Meta res_slices_ContainsFunc_api_Meta_api_Meta _ hl h
abbrev F_pack_May : Nat := 81
def G_pack_May : List Nat := [0, 2]
def MU_pack_May (d : Nat) : Bool := ([] : List Nat).contains d
noncomputable def S_pack_May : St := (.seq (.sets [(2, (.k (.bool false)))] []) (.seq (.sets [(2, (.and (.and (.bin .geq (.len (.ld (.fa 0 (.nck (.s 0))))) (.k (.int .i64 1))) (.bin .leq (.len (.ld (.fa 0 (.nck (.s 0))))) (.k (.int .i64 8)))) (.un .not (.call 110 (.cs (.ld (.fa 0 (.nck (.s 0)))) (.cs (.k (.func (.func 111) #[] #[])) .nl))))))] []) .ret))
noncomputable def R_pack_May : Ex := (.s 2)
theorem dec_pack_May : opt (dec Tryz.prog (fun f => roL.contains f) (fun t => G_pack_May.contains t) 25 (Tryz.f81.body.getD .skip)) = S_pack_May := by kernel_rfl
theorem res_pack_May : resE Tryz.prog (fun t => G_pack_May.contains t) Tryz.f81.results.toList = some R_pack_May := by kernel_rfl
theorem pc_pack_May {ds : List DV} {R : DV → DMem → Prop} {M : DMem} (hl : ds.length ≤ 25)
    (h : wpD Tryz.prog MU_pack_May (fun f => roL.contains f) (fun t => G_pack_May.contains t) 25 S_pack_May (fun δ M' => ∃ d, evD Tryz.prog M' δ R_pack_May = some d ∧ R d M') (fun _ _ _ => False) (fun δ M' => ∃ d, evD Tryz.prog M' δ R_pack_May = some d ∧ R d M') (argD ds) M) :
    PC Tryz.prog F_pack_May ds R M :=
  pc_opt Tryz.func81 (c := Tryz.f81.body.getD .skip) (by kernel_rfl) (by kernel_rfl) (by kernel_rfl) dec_pack_May res_pack_May _ hl h
abbrev F_verify_Heights : Nat := 82
def G_verify_Heights : List Nat := [0, 1, 2, 4, 5, 6, 7, 8, 10, 11, 12, 13, 26, 42]
def MU_verify_Heights (d : Nat) : Bool := ([] : List Nat).contains d
noncomputable def S1_verify_Heights : St := (.seq (.sets [(12, (.ext 0 (.s 50))), (13, (.ext 1 (.s 50)))] []) (.seq (.sets [(4, (.s 11)), (5, (.s 12)), (6, (.s 13))] []) .ret))
noncomputable def S2_verify_Heights : St := (.seq (.sets [(49, (.s 10))] []) (.seq (.act (some 50) (.call 115 [(.tmp 49)])) S1_verify_Heights))
noncomputable def S3_verify_Heights : St := (.seq (.sets [(10, (.s 40))] []) (.seq (.sets [(11, (.k (.slice none 0 0)))] []) (.seq (.sets [(41, (.s 10))] []) (.seq (.eff ⟨(some 42), (.binOp .eql 162 (.tmp 41) (.const .nilIface) 162), 4, "", #[], none⟩) (.seq (.ite (.s 42) (.seq (.sets [(44, (.s 7))] []) (.seq (.act (some 45) (.call 114 [(.tmp 2), (.tmp 44)])) (.sets [(11, (.ext 0 (.s 45))), (10, (.ext 1 (.s 45)))] []))) .nop) S2_verify_Heights)))))
noncomputable def S4_verify_Heights : St := (.seq (.sets [(8, (.ext 0 (.s 35)))] [(.ext 1 (.s 35))]) (.seq (.sets [(38, (.s 7)), (39, (.s 8))] []) (.seq (.act (some 40) (.call 113 [(.tmp 2), (.tmp 38), (.tmp 39)])) S3_verify_Heights)))
noncomputable def S_verify_Heights : St := (.seq (.act (some 2) (.box 24 (.tmp 0))) (.seq (.sets [(4, (.k (.slice none 0 0))), (5, (.k (.int .i64 0))), (6, (.k (.int .i64 0)))] []) (.seq (.sets [(26, (.or (.or (.un .not (.call 81 (.cs (.s 2) .nl))) (.bin .lss (.s 1) (.k (.int .i64 0)))) (.bin .geq (.s 1) (.len (.ld (.fa 0 (.s 2)))))))] []) (.seq (.ite (.s 26) (.seq (.sets [(4, (.k (.slice none 0 0))), (5, (.k (.int .i64 0))), (6, (.k (.int .i64 500)))] []) .ret) .nop) (.seq (.sets [(7, (.ix 3 (.ld (.fa 0 (.s 2))) (.s 1)))] []) (.seq (.sets [(34, (.ldn 3 (.nck (.s 7))))] []) (.seq (.act (some 35) (.call 112 [(.tmp 34)])) S4_verify_Heights)))))))
noncomputable def R_verify_Heights : Ex := (.cs (.s 4) (.cs (.s 5) (.cs (.s 6) .nl)))
theorem dec_verify_Heights : opt (dec Tryz.prog (fun f => roL.contains f) (fun t => G_verify_Heights.contains t) 56 (Tryz.f82.body.getD .skip)) = S_verify_Heights := by kernel_rfl
theorem res_verify_Heights : resE Tryz.prog (fun t => G_verify_Heights.contains t) Tryz.f82.results.toList = some R_verify_Heights := by kernel_rfl
theorem pc_verify_Heights {ds : List DV} {R : DV → DMem → Prop} {M : DMem} (hl : ds.length ≤ 56)
    (h : wpD Tryz.prog MU_verify_Heights (fun f => roL.contains f) (fun t => G_verify_Heights.contains t) 56 S_verify_Heights (fun δ M' => ∃ d, evD Tryz.prog M' δ R_verify_Heights = some d ∧ R d M') (fun _ _ _ => False) (fun δ M' => ∃ d, evD Tryz.prog M' δ R_verify_Heights = some d ∧ R d M') (argD ds) M) :
    PC Tryz.prog F_verify_Heights ds R M :=
  pc_opt Tryz.func82 (c := Tryz.f82.body.getD .skip) (by kernel_rfl) (by kernel_rfl) (by kernel_rfl) dec_verify_Heights res_verify_Heights _ hl h
abbrev F_swageref1_Packs : Nat := 87
def G_swageref1_Packs : List Nat := [0, 1, 2, 3, 4, 14, 19, 51]
def MU_swageref1_Packs (d : Nat) : Bool := ([] : List Nat).contains d
noncomputable def S1_swageref1_Packs : St := (.seq (.sets [(19, (.bin .lss (.s 3) (.len (.ld (.fa 0 (.s 1))))))] []) (.seq (.ite (.s 19) .nop (.exit 0)) (.seq (.block 1 (.seq (.sets [(26, (.ldn 3 (.ix 3 (.ld (.fa 0 (.s 1))) (.s 3))))] []) (.seq (.act (some 4) (.var 53 3 (.tmp 26))) (.seq (.sets [(51, (.or (.or (.or (.or (.bin .lss (.ld (.fa 0 (.s 4))) (.k (.int .i64 0))) (.bin .gtr (.ld (.fa 0 (.s 4))) (.k (.int .i64 4)))) (.bin .lss (.ld (.fa 1 (.s 4))) (.ld (.fa 0 (.s 4))))) (.bin .gtr (.ld (.fa 1 (.s 4))) (.k (.int .i64 8)))) (.un .not (.call 118 (.cs (.ldn 3 (.s 4)) .nl)))))] []) (.ite (.s 51) (.seq (.sets [(2, (.k (.bool false)))] []) .ret) .nop))))) (.sets [(3, (.bin .add (.s 3) (.k (.int .i64 1))))] []))))
noncomputable def S_swageref1_Packs : St := (.seq (.act (some 1) (.box 24 (.tmp 0))) (.seq (.sets [(2, (.k (.bool false)))] []) (.seq (.sets [(14, (.or (.bin .lss (.len (.ld (.fa 0 (.s 1)))) (.k (.int .i64 1))) (.bin .gtr (.len (.ld (.fa 0 (.s 1)))) (.k (.int .i64 8)))))] []) (.seq (.ite (.s 14) (.seq (.sets [(2, (.k (.bool false)))] []) .ret) .nop) (.seq (.sets [(3, (.k (.int .i64 0)))] []) (.seq (.block 0 (.loop S1_swageref1_Packs)) (.seq (.sets [(2, (.k (.bool true)))] []) .ret)))))))
noncomputable def R_swageref1_Packs : Ex := (.s 2)
theorem dec_swageref1_Packs : opt (dec Tryz.prog (fun f => roL.contains f) (fun t => G_swageref1_Packs.contains t) 52 (Tryz.f87.body.getD .skip)) = S_swageref1_Packs := by kernel_rfl
theorem res_swageref1_Packs : resE Tryz.prog (fun t => G_swageref1_Packs.contains t) Tryz.f87.results.toList = some R_swageref1_Packs := by kernel_rfl
theorem pc_swageref1_Packs {ds : List DV} {R : DV → DMem → Prop} {M : DMem} (hl : ds.length ≤ 52)
    (h : wpD Tryz.prog MU_swageref1_Packs (fun f => roL.contains f) (fun t => G_swageref1_Packs.contains t) 52 S_swageref1_Packs (fun δ M' => ∃ d, evD Tryz.prog M' δ R_swageref1_Packs = some d ∧ R d M') (fun _ _ _ => False) (fun δ M' => ∃ d, evD Tryz.prog M' δ R_swageref1_Packs = some d ∧ R d M') (argD ds) M) :
    PC Tryz.prog F_swageref1_Packs ds R M :=
  pc_opt Tryz.func87 (c := Tryz.f87.body.getD .skip) (by kernel_rfl) (by kernel_rfl) (by kernel_rfl) dec_swageref1_Packs res_swageref1_Packs _ hl h
abbrev F_swageref1_Heights : Nat := 88
def G_swageref1_Heights : List Nat := [0, 1, 2, 4, 5, 6, 7, 8, 10, 11, 25, 39, 56, 82]
def MU_swageref1_Heights (d : Nat) : Bool := ([] : List Nat).contains d
noncomputable def S1_swageref1_Heights : St := (.seq (.sets [(39, (.bin .lss (.s 10) (.len (.s 8))))] []) (.seq (.ite (.s 39) .nop (.exit 0)) (.seq (.block 1 (.seq (.sets [(56, (.and (.ld (.ix 1 (.s 8) (.s 10))) (.un .not (.call 120 (.cs (.ldn 1 (.s 2)) (.cs (.ldn 3 (.s 7)) (.cs (.ldn 2 (.ix 2 (.ld (.fa 2 (.s 7))) (.s 10))) .nl)))))))] []) (.ite (.s 56) (.seq (.sets [(4, (.k (.slice none 0 0))), (5, (.s 10)), (6, (.k (.int .i64 501)))] []) .ret) .nop))) (.sets [(10, (.bin .add (.s 10) (.k (.int .i64 1))))] []))))
noncomputable def S2_swageref1_Heights : St := (.seq (.sets [(4, (.ext 0 (.s 86))), (5, (.ext 1 (.s 86))), (6, (.ext 2 (.s 86)))] []) .ret)
noncomputable def S3_swageref1_Heights : St := (.seq (.sets [(11, (.bin .sub (.len (.s 8)) (.k (.int .i64 1))))] []) (.seq (.sets [(82, (.and (.and (.ld (.ix 1 (.s 8) (.s 11))) (.bin .neq (.ld (.fa 0 (.ix 2 (.ld (.fa 2 (.s 7))) (.s 11)))) (.k (.int .i64 12)))) (.bin .neq (.ld (.fa 0 (.ix 2 (.ld (.fa 2 (.s 7))) (.s 11)))) (.k (.int .i64 16)))))] []) (.seq (.ite (.s 82) (.seq (.sets [(4, (.k (.slice none 0 0))), (5, (.s 11)), (6, (.k (.int .i64 503)))] []) .ret) .nop) (.seq (.sets [(84, (.ldn 1 (.s 2))), (85, (.ldn 3 (.s 7)))] []) (.seq (.act (some 86) (.call 121 [(.tmp 84), (.tmp 85)])) S2_swageref1_Heights)))))
noncomputable def S4_swageref1_Heights : St := (.seq (.sets [(8, (.ext 0 (.s 33)))] [(.ext 1 (.s 33))]) (.seq (.sets [(10, (.k (.int .i64 0)))] []) (.seq (.block 0 (.loop S1_swageref1_Heights)) S3_swageref1_Heights)))
noncomputable def S_swageref1_Heights : St := (.seq (.act (some 2) (.box 24 (.tmp 0))) (.seq (.sets [(4, (.k (.slice none 0 0))), (5, (.k (.int .i64 0))), (6, (.k (.int .i64 0)))] []) (.seq (.sets [(25, (.or (.or (.un .not (.call 87 (.cs (.ldn 1 (.s 2)) .nl))) (.bin .lss (.s 1) (.k (.int .i64 0)))) (.bin .geq (.s 1) (.len (.ld (.fa 0 (.s 2)))))))] []) (.seq (.ite (.s 25) (.seq (.sets [(4, (.k (.slice none 0 0))), (5, (.k (.int .i64 0))), (6, (.k (.int .i64 500)))] []) .ret) .nop) (.seq (.sets [(30, (.ldn 3 (.ix 3 (.ld (.fa 0 (.s 2))) (.s 1))))] []) (.seq (.act (some 7) (.var 53 3 (.tmp 30))) (.seq (.sets [(32, (.ldn 3 (.s 7)))] []) (.seq (.act (some 33) (.call 119 [(.tmp 32)])) S4_swageref1_Heights))))))))
noncomputable def R_swageref1_Heights : Ex := (.cs (.s 4) (.cs (.s 5) (.cs (.s 6) .nl)))
theorem dec_swageref1_Heights : opt (dec Tryz.prog (fun f => roL.contains f) (fun t => G_swageref1_Heights.contains t) 90 (Tryz.f88.body.getD .skip)) = S_swageref1_Heights := by kernel_rfl
theorem res_swageref1_Heights : resE Tryz.prog (fun t => G_swageref1_Heights.contains t) Tryz.f88.results.toList = some R_swageref1_Heights := by kernel_rfl
theorem pc_swageref1_Heights {ds : List DV} {R : DV → DMem → Prop} {M : DMem} (hl : ds.length ≤ 90)
    (h : wpD Tryz.prog MU_swageref1_Heights (fun f => roL.contains f) (fun t => G_swageref1_Heights.contains t) 90 S_swageref1_Heights (fun δ M' => ∃ d, evD Tryz.prog M' δ R_swageref1_Heights = some d ∧ R d M') (fun _ _ _ => False) (fun δ M' => ∃ d, evD Tryz.prog M' δ R_swageref1_Heights = some d ∧ R d M') (argD ds) M) :
    PC Tryz.prog F_swageref1_Heights ds R M :=
  pc_opt Tryz.func88 (c := Tryz.f88.body.getD .skip) (by kernel_rfl) (by kernel_rfl) (by kernel_rfl) dec_swageref1_Heights res_swageref1_Heights _ hl h
abbrev F_slices_IndexFunc_api_Meta_api_Meta : Nat := 95
def G_slices_IndexFunc_api_Meta_api_Meta : List Nat := [0, 1, 4, 5, 7, 8, 9, 16]
def MU_slices_IndexFunc_api_Meta_api_Meta (d : Nat) : Bool := ([] : List Nat).contains d
noncomputable def S1_slices_IndexFunc_api_Meta_api_Meta : St := (.seq (.sets [(9, (.bin .lss (.s 8) (.s 7)))] []) (.seq (.ite (.s 9) .nop (.exit 0)) (.seq (.block 1 (.seq (.sets [(5, (.s 8))] []) (.seq (.sets [(11, (.s 1)), (15, (.ldn 1 (.ix 1 (.s 0) (.s 5))))] []) (.seq (.act (some 16) (.callv 11 [(.tmp 15)])) (.ite (.s 16) (.seq (.sets [(4, (.s 5))] []) .ret) .nop))))) (.sets [(8, (.bin .add (.s 8) (.k (.int .i64 1))))] []))))
noncomputable def S_slices_IndexFunc_api_Meta_api_Meta : St := (.seq (.sets [(4, (.k (.int .i64 0)))] []) (.seq (.sets [(7, (.len (.s 0))), (8, (.k (.int .i64 0)))] []) (.seq (.block 0 (.loop S1_slices_IndexFunc_api_Meta_api_Meta)) (.seq (.sets [(4, (.k (.int .i64 (-1))))] []) .ret))))
noncomputable def R_slices_IndexFunc_api_Meta_api_Meta : Ex := (.s 4)
theorem dec_slices_IndexFunc_api_Meta_api_Meta : opt (dec Tryz.prog (fun f => roL.contains f) (fun t => G_slices_IndexFunc_api_Meta_api_Meta.contains t) 19 (Tryz.f95.body.getD .skip)) = S_slices_IndexFunc_api_Meta_api_Meta := by kernel_rfl
theorem res_slices_IndexFunc_api_Meta_api_Meta : resE Tryz.prog (fun t => G_slices_IndexFunc_api_Meta_api_Meta.contains t) Tryz.f95.results.toList = some R_slices_IndexFunc_api_Meta_api_Meta := by kernel_rfl
theorem pc_slices_IndexFunc_api_Meta_api_Meta {ds : List DV} {R : DV → DMem → Prop} {M : DMem} (hl : ds.length ≤ 19)
    (h : wpD Tryz.prog MU_slices_IndexFunc_api_Meta_api_Meta (fun f => roL.contains f) (fun t => G_slices_IndexFunc_api_Meta_api_Meta.contains t) 19 S_slices_IndexFunc_api_Meta_api_Meta (fun δ M' => ∃ d, evD Tryz.prog M' δ R_slices_IndexFunc_api_Meta_api_Meta = some d ∧ R d M') (fun _ _ _ => False) (fun δ M' => ∃ d, evD Tryz.prog M' δ R_slices_IndexFunc_api_Meta_api_Meta = some d ∧ R d M') (argD ds) M) :
    PC Tryz.prog F_slices_IndexFunc_api_Meta_api_Meta ds R M :=
  pc_opt Tryz.func95 (c := Tryz.f95.body.getD .skip) (by kernel_rfl) (by kernel_rfl) (by kernel_rfl) dec_slices_IndexFunc_api_Meta_api_Meta res_slices_IndexFunc_api_Meta_api_Meta _ hl h
abbrev F_frame_After : Nat := 97
def G_frame_After : List Nat := [0, 1, 2, 3, 4, 10]
def MU_frame_After (d : Nat) : Bool := ([] : List Nat).contains d
noncomputable def S_frame_After : St := (.seq (.sets [(10, (.k (.bool false)))] []) (.seq (.sets [(10, (.and (.and (.and (.bin .gtr (.s 3) (.k (.int .i64 0))) (.bin .leq (.s 3) (.len (.ld (.fa 2 (.ix 3 (.ld (.fa 0 (.nck (.s 0)))) (.s 2))))))) (.bin .neq (.ld (.ix 1 (.ld (.ix 1 (.s 1) (.s 2))) (.bin .sub (.s 3) (.k (.int .i64 1))))) (.k (.int .i64 (-1))))) (.eqs false 2 (.ldn 2 (.ix 2 (.ld (.fa 2 (.ix 3 (.ld (.fa 0 (.nck (.s 0)))) (.s 2)))) (.bin .sub (.s 3) (.k (.int .i64 1))))) (.bld [(.int .i64 0), (.int .i64 0)] [(0, 1), (1, 1)] (.cs (.k (.int .i64 14)) (.cs (.s 4) .nl))))))] []) .ret))
noncomputable def R_frame_After : Ex := (.s 10)
theorem dec_frame_After : opt (dec Tryz.prog (fun f => roL.contains f) (fun t => G_frame_After.contains t) 54 (Tryz.f97.body.getD .skip)) = S_frame_After := by kernel_rfl
theorem res_frame_After : resE Tryz.prog (fun t => G_frame_After.contains t) Tryz.f97.results.toList = some R_frame_After := by kernel_rfl
theorem pc_frame_After {ds : List DV} {R : DV → DMem → Prop} {M : DMem} (hl : ds.length ≤ 54)
    (h : wpD Tryz.prog MU_frame_After (fun f => roL.contains f) (fun t => G_frame_After.contains t) 54 S_frame_After (fun δ M' => ∃ d, evD Tryz.prog M' δ R_frame_After = some d ∧ R d M') (fun _ _ _ => False) (fun δ M' => ∃ d, evD Tryz.prog M' δ R_frame_After = some d ∧ R d M') (argD ds) M) :
    PC Tryz.prog F_frame_After ds R M :=
  pc_opt Tryz.func97 (c := Tryz.f97.body.getD .skip) (by kernel_rfl) (by kernel_rfl) (by kernel_rfl) dec_frame_After res_frame_After _ hl h
abbrev F_swageref1_Number : Nat := 99
def G_swageref1_Number : List Nat := [0, 2]
def MU_swageref1_Number (d : Nat) : Bool := ([] : List Nat).contains d
noncomputable def S_swageref1_Number : St := (.seq (.sets [(2, (.k (.bool false)))] []) (.seq (.sets [(2, (.and (.bin .geq (.s 0) (.k (.int .i64 (-2147483648)))) (.bin .leq (.s 0) (.k (.int .i64 2147483647)))))] []) .ret))
noncomputable def R_swageref1_Number : Ex := (.s 2)
theorem dec_swageref1_Number : opt (dec Tryz.prog (fun f => roL.contains f) (fun t => G_swageref1_Number.contains t) 9 (Tryz.f99.body.getD .skip)) = S_swageref1_Number := by kernel_rfl
theorem res_swageref1_Number : resE Tryz.prog (fun t => G_swageref1_Number.contains t) Tryz.f99.results.toList = some R_swageref1_Number := by kernel_rfl
theorem pc_swageref1_Number {ds : List DV} {R : DV → DMem → Prop} {M : DMem} (hl : ds.length ≤ 9)
    (h : wpD Tryz.prog MU_swageref1_Number (fun f => roL.contains f) (fun t => G_swageref1_Number.contains t) 9 S_swageref1_Number (fun δ M' => ∃ d, evD Tryz.prog M' δ R_swageref1_Number = some d ∧ R d M') (fun _ _ _ => False) (fun δ M' => ∃ d, evD Tryz.prog M' δ R_swageref1_Number = some d ∧ R d M') (argD ds) M) :
    PC Tryz.prog F_swageref1_Number ds R M :=
  pc_opt Tryz.func99 (c := Tryz.f99.body.getD .skip) (by kernel_rfl) (by kernel_rfl) (by kernel_rfl) dec_swageref1_Number res_swageref1_Number _ hl h
abbrev F_swageref1_Behind : Nat := 101
def G_swageref1_Behind : List Nat := [0, 1, 2, 3, 4, 8, 14]
def MU_swageref1_Behind (d : Nat) : Bool := ([] : List Nat).contains d
noncomputable def S_swageref1_Behind : St := (.seq (.act (some 4) (.box 24 (.tmp 0))) (.seq (.sets [(8, (.k (.bool false)))] []) (.seq (.sets [(14, (.bin .lss (.call 43 (.cs (.ldn 1 (.s 4)) (.cs (.s 1) (.cs (.bin .sub (.s 2) (.k (.int .i64 1))) .nl)))) (.k (.int .i64 0))))] []) (.seq (.ite (.s 14) (.seq (.sets [(8, (.k (.bool false)))] []) .ret) .nop) (.seq (.sets [(8, (.eqs false 2 (.ldn 2 (.ix 2 (.ld (.fa 2 (.ix 3 (.ld (.fa 0 (.s 4))) (.s 1)))) (.bin .sub (.s 2) (.k (.int .i64 1))))) (.bld [(.int .i64 0), (.int .i64 0)] [(0, 1), (1, 1)] (.cs (.k (.int .i64 14)) (.cs (.s 3) .nl)))))] []) .ret)))))
noncomputable def R_swageref1_Behind : Ex := (.s 8)
theorem dec_swageref1_Behind : opt (dec Tryz.prog (fun f => roL.contains f) (fun t => G_swageref1_Behind.contains t) 28 (Tryz.f101.body.getD .skip)) = S_swageref1_Behind := by kernel_rfl
theorem res_swageref1_Behind : resE Tryz.prog (fun t => G_swageref1_Behind.contains t) Tryz.f101.results.toList = some R_swageref1_Behind := by kernel_rfl
theorem pc_swageref1_Behind {ds : List DV} {R : DV → DMem → Prop} {M : DMem} (hl : ds.length ≤ 28)
    (h : wpD Tryz.prog MU_swageref1_Behind (fun f => roL.contains f) (fun t => G_swageref1_Behind.contains t) 28 S_swageref1_Behind (fun δ M' => ∃ d, evD Tryz.prog M' δ R_swageref1_Behind = some d ∧ R d M') (fun _ _ _ => False) (fun δ M' => ∃ d, evD Tryz.prog M' δ R_swageref1_Behind = some d ∧ R d M') (argD ds) M) :
    PC Tryz.prog F_swageref1_Behind ds R M :=
  pc_opt Tryz.func101 (c := Tryz.f101.body.getD .skip) (by kernel_rfl) (by kernel_rfl) (by kernel_rfl) dec_swageref1_Behind res_swageref1_Behind _ hl h
abbrev F_slices_ContainsFunc_api_Func_api_Func : Nat := 110
def G_slices_ContainsFunc_api_Func_api_Func : List Nat := [0, 1, 4]
def MU_slices_ContainsFunc_api_Func_api_Func (d : Nat) : Bool := ([] : List Nat).contains d
noncomputable def S_slices_ContainsFunc_api_Func_api_Func : St := (.seq (.sets [(4, (.k (.bool false)))] []) (.seq (.sets [(4, (.bin .geq (.call 127 (.cs (.s 0) (.cs (.s 1) .nl))) (.k (.int .i64 0))))] []) .ret))
noncomputable def R_slices_ContainsFunc_api_Func_api_Func : Ex := (.s 4)
theorem dec_slices_ContainsFunc_api_Func_api_Func : opt (dec Tryz.prog (fun f => roL.contains f) (fun t => G_slices_ContainsFunc_api_Func_api_Func.contains t) 9 (Tryz.f110.body.getD .skip)) = S_slices_ContainsFunc_api_Func_api_Func := by kernel_rfl
theorem res_slices_ContainsFunc_api_Func_api_Func : resE Tryz.prog (fun t => G_slices_ContainsFunc_api_Func_api_Func.contains t) Tryz.f110.results.toList = some R_slices_ContainsFunc_api_Func_api_Func := by kernel_rfl
theorem pc_slices_ContainsFunc_api_Func_api_Func {ds : List DV} {R : DV → DMem → Prop} {M : DMem} (hl : ds.length ≤ 9)
    (h : wpD Tryz.prog MU_slices_ContainsFunc_api_Func_api_Func (fun f => roL.contains f) (fun t => G_slices_ContainsFunc_api_Func_api_Func.contains t) 9 S_slices_ContainsFunc_api_Func_api_Func (fun δ M' => ∃ d, evD Tryz.prog M' δ R_slices_ContainsFunc_api_Func_api_Func = some d ∧ R d M') (fun _ _ _ => False) (fun δ M' => ∃ d, evD Tryz.prog M' δ R_slices_ContainsFunc_api_Func_api_Func = some d ∧ R d M') (argD ds) M) :
    PC Tryz.prog F_slices_ContainsFunc_api_Func_api_Func ds R M :=
  pc_opt Tryz.func110 (c := Tryz.f110.body.getD .skip) (by kernel_rfl) (by kernel_rfl) (by kernel_rfl) dec_slices_ContainsFunc_api_Func_api_Func res_slices_ContainsFunc_api_Func_api_Func _ hl h
abbrev F_pack_not : Nat := 111
def G_pack_not : List Nat := [0, 1, 2, 3]
def MU_pack_not (d : Nat) : Bool := ([] : List Nat).contains d
noncomputable def S_pack_not : St := (.seq (.act (some 1) (.box 53 (.tmp 0))) (.seq (.sets [(2, (.k (.bool false)))] []) (.seq (.sets [(3, (.k (.func (.func 128) #[] #[])))] []) (.seq (.sets [(2, (.or (.or (.or (.or (.or (.or (.bin .lss (.ld (.fa 0 (.s 1))) (.k (.int .i64 0))) (.bin .gtr (.ld (.fa 0 (.s 1))) (.k (.int .i64 4)))) (.bin .lss (.ld (.fa 1 (.s 1))) (.ld (.fa 0 (.s 1))))) (.bin .gtr (.ld (.fa 1 (.s 1))) (.k (.int .i64 8)))) (.bin .lss (.len (.ld (.fa 2 (.s 1)))) (.k (.int .i64 1)))) (.bin .gtr (.len (.ld (.fa 2 (.s 1)))) (.k (.int .i64 64)))) (.call 130 (.cs (.ld (.fa 2 (.s 1))) (.cs (.s 3) .nl)))))] []) .ret))))
noncomputable def R_pack_not : Ex := (.s 2)
theorem dec_pack_not : opt (dec Tryz.prog (fun f => roL.contains f) (fun t => G_pack_not.contains t) 42 (Tryz.f111.body.getD .skip)) = S_pack_not := by kernel_rfl
theorem res_pack_not : resE Tryz.prog (fun t => G_pack_not.contains t) Tryz.f111.results.toList = some R_pack_not := by kernel_rfl
theorem pc_pack_not {ds : List DV} {R : DV → DMem → Prop} {M : DMem} (hl : ds.length ≤ 42)
    (h : wpD Tryz.prog MU_pack_not (fun f => roL.contains f) (fun t => G_pack_not.contains t) 42 S_pack_not (fun δ M' => ∃ d, evD Tryz.prog M' δ R_pack_not = some d ∧ R d M') (fun _ _ _ => False) (fun δ M' => ∃ d, evD Tryz.prog M' δ R_pack_not = some d ∧ R d M') (argD ds) M) :
    PC Tryz.prog F_pack_not ds R M :=
  pc_opt Tryz.func111 (c := Tryz.f111.body.getD .skip) (by kernel_rfl) (by kernel_rfl) (by kernel_rfl) dec_pack_not res_pack_not _ hl h
abbrev F_flow_Reached : Nat := 112
def G_flow_Reached : List Nat := [0, 1, 2, 3, 4, 5, 7, 9, 19, 25, 26, 27, 28, 35]
def MU_flow_Reached (d : Nat) : Bool := ([16] : List Nat).contains d
noncomputable def S1_flow_Reached : St := (.seq (.sets [(28, (.bin .lss (.s 27) (.s 26)))] []) (.seq (.ite (.s 28) .nop (.exit 2)) (.seq (.block 3 (.seq (.sets [(7, (.ld (.ix 1 (.s 25) (.s 27))))] []) (.seq (.sets [(35, (.un .not (.ld (.ix 1 (.s 4) (.s 7)))))] []) (.ite (.s 35) (.seq (.sets [(38, (.ix 1 (.s 4) (.s 7)))] []) (.seq (.act none (.store 1 (.tmp 38) (.const (.bool true)))) (.seq (.sets [(39, (.s 5)), (40, (.s 7))] []) (.seq (.act (some 41) (.bslice 3 1 [(.int .i64 0)] 1 [(0, (.tmp 40))])) (.seq (.act (some 42) (.app 3 1 8 (.tmp 39) (.tmp 41))) (.sets [(5, (.s 42))] [])))))) .nop)))) (.sets [(27, (.bin .add (.s 27) (.k (.int .i64 1))))] []))))
noncomputable def S2_flow_Reached : St := (.seq (.sets [(26, (.len (.s 25))), (27, (.k (.int .i64 0)))] []) (.block 2 (.loop S1_flow_Reached)))
noncomputable def S3_flow_Reached : St := (.sets [(5, (.slc 1 (.s 5) (.cs (.k (.int .i64 1)) .nl) .nl .nl))] [])
noncomputable def S4_flow_Reached : St := (.seq (.sets [(19, (.bin .gtr (.len (.s 5)) (.k (.int .i64 0))))] []) (.seq (.ite (.s 19) .nop (.exit 0)) (.seq (.block 1 (.seq (.sets [(24, (.ld (.ix 1 (.s 5) (.k (.int .i64 0)))))] []) (.seq (.act (some 25) (.call 132 [(.tmp 1), (.tmp 24)])) S2_flow_Reached))) S3_flow_Reached)))
noncomputable def S5_flow_Reached : St := (.seq (.sets [(2, (.s 4)), (3, (.k (.int .i64 0)))] []) .ret)
noncomputable def S_flow_Reached : St := (.seq (.act (some 1) (.box 53 (.tmp 0))) (.seq (.sets [(2, (.k (.slice none 0 0))), (3, (.k (.int .i64 0)))] []) (.seq (.sets [(9, (.un .not (.call 131 (.cs (.s 1) .nl))))] []) (.seq (.ite (.s 9) (.seq (.sets [(2, (.k (.slice none 0 0))), (3, (.k (.int .i64 400)))] []) .ret) .nop) (.seq (.sets [(12, (.len (.ld (.fa 2 (.s 1)))))] []) (.seq (.act (some 13) (.make 4 1 1 (.bool false) (.tmp 12) (.tmp 12))) (.seq (.sets [(4, (.s 13))] []) (.seq (.sets [(15, (.ix 1 (.s 4) (.k (.int .i64 0))))] []) (.seq (.act none (.store 1 (.tmp 15) (.const (.bool true)))) (.seq (.act (some 16) (.bslice 3 1 [(.int .i64 0)] 1 [(0, (.const (.int .i64 0)))])) (.seq (.sets [(5, (.s 16))] []) (.seq (.block 0 (.loop S4_flow_Reached)) S5_flow_Reached))))))))))))
noncomputable def R_flow_Reached : Ex := (.cs (.s 2) (.cs (.s 3) .nl))
theorem dec_flow_Reached : opt (dec Tryz.prog (fun f => roL.contains f) (fun t => G_flow_Reached.contains t) 45 (Tryz.f112.body.getD .skip)) = S_flow_Reached := by kernel_rfl
theorem res_flow_Reached : resE Tryz.prog (fun t => G_flow_Reached.contains t) Tryz.f112.results.toList = some R_flow_Reached := by kernel_rfl
theorem pc_flow_Reached {ds : List DV} {R : DV → DMem → Prop} {M : DMem} (hl : ds.length ≤ 45)
    (h : wpD Tryz.prog MU_flow_Reached (fun f => roL.contains f) (fun t => G_flow_Reached.contains t) 45 S_flow_Reached (fun δ M' => ∃ d, evD Tryz.prog M' δ R_flow_Reached = some d ∧ R d M') (fun _ _ _ => False) (fun δ M' => ∃ d, evD Tryz.prog M' δ R_flow_Reached = some d ∧ R d M') (argD ds) M) :
    PC Tryz.prog F_flow_Reached ds R M :=
  pc_opt Tryz.func112 (c := Tryz.f112.body.getD .skip) (by kernel_rfl) (by kernel_rfl) (by kernel_rfl) dec_flow_Reached res_flow_Reached _ hl h
abbrev F_verify_plain : Nat := 113
def G_verify_plain : List Nat := [0, 1, 2, 6, 7, 8, 9, 10, 14, 15, 16, 17, 30, 62]
def MU_verify_plain (d : Nat) : Bool := ([] : List Nat).contains d
noncomputable def S1_verify_plain : St := (.seq (.sets [(17, (.bin .lss (.s 16) (.s 15)))] []) (.seq (.ite (.s 17) .nop (.exit 0)) (.seq (.block 1 (.seq (.sets [(18, (.s 16)), (20, (.ldn 2 (.ix 2 (.s 14) (.s 16))))] []) (.seq (.act (some 8) (.alloc 63 (.agg #[(.int .i64 0), (.int .i64 0)]))) (.seq (.sets [(7, (.s 18))] []) (.seq (.act none (.store 2 (.tmp 8) (.tmp 20))) (.seq (.sets [(30, (.and (.ld (.ix 1 (.s 2) (.s 7))) (.call 133 (.cs (.s 0) (.cs (.s 1) (.cs (.ldn 2 (.s 8)) .nl))))))] []) (.ite (.s 30) (.seq (.sets [(33, (.bld [(.int .i64 0), .nilIface] [(0, 1), (1, 1)] (.cs (.s 7) (.cs (.ifc 30 (.k (.int .i64 501))) .nl))))] []) (.seq (.act (some 34) (.box 187 (.tmp 33))) (.seq (.sets [(6, (.ifc 185 (.s 34)))] []) .ret))) .nop))))))) (.sets [(16, (.bin .add (.s 16) (.k (.int .i64 1))))] []))))
noncomputable def S2_verify_plain : St := (.seq (.sets [(9, (.bin .sub (.len (.ld (.fa 2 (.nck (.s 1))))) (.k (.int .i64 1))))] []) (.seq (.sets [(10, (.ld (.fa 0 (.ix 2 (.ld (.fa 2 (.nck (.s 1)))) (.s 9)))))] []) (.seq (.sets [(62, (.and (.and (.ld (.ix 1 (.s 2) (.s 9))) (.bin .neq (.s 10) (.k (.int .i64 12)))) (.bin .neq (.s 10) (.k (.int .i64 16)))))] []) (.seq (.ite (.s 62) (.seq (.sets [(65, (.bld [(.int .i64 0), .nilIface] [(0, 1), (1, 1)] (.cs (.s 9) (.cs (.ifc 30 (.k (.int .i64 503))) .nl))))] []) (.seq (.act (some 66) (.box 187 (.tmp 65))) (.seq (.sets [(6, (.ifc 185 (.s 66)))] []) .ret))) .nop) (.seq (.sets [(6, (.k .nilIface))] []) .ret)))))
noncomputable def S_verify_plain : St := (.seq (.sets [(6, (.k .nilIface))] []) (.seq (.sets [(14, (.ld (.fa 2 (.nck (.s 1))))), (15, (.len (.ld (.fa 2 (.nck (.s 1)))))), (16, (.k (.int .i64 0)))] []) (.seq (.block 0 (.loop S1_verify_plain)) S2_verify_plain)))
noncomputable def R_verify_plain : Ex := (.s 6)
theorem dec_verify_plain : opt (dec Tryz.prog (fun f => roL.contains f) (fun t => G_verify_plain.contains t) 68 (Tryz.f113.body.getD .skip)) = S_verify_plain := by kernel_rfl
theorem res_verify_plain : resE Tryz.prog (fun t => G_verify_plain.contains t) Tryz.f113.results.toList = some R_verify_plain := by kernel_rfl
theorem pc_verify_plain {ds : List DV} {R : DV → DMem → Prop} {M : DMem} (hl : ds.length ≤ 68)
    (h : wpD Tryz.prog MU_verify_plain (fun f => roL.contains f) (fun t => G_verify_plain.contains t) 68 S_verify_plain (fun δ M' => ∃ d, evD Tryz.prog M' δ R_verify_plain = some d ∧ R d M') (fun _ _ _ => False) (fun δ M' => ∃ d, evD Tryz.prog M' δ R_verify_plain = some d ∧ R d M') (argD ds) M) :
    PC Tryz.prog F_verify_plain ds R M :=
  pc_opt Tryz.func113 (c := Tryz.f113.body.getD .skip) (by kernel_rfl) (by kernel_rfl) (by kernel_rfl) dec_verify_plain res_verify_plain _ hl h
abbrev F_verify_heights : Nat := 114
def G_verify_heights : List Nat := [0, 1, 4, 5, 6, 7, 8, 9, 10, 12, 13, 16, 29, 73, 87, 88, 89, 90, 96, 102, 112]
def MU_verify_heights (d : Nat) : Bool := ([26] : List Nat).contains d
noncomputable def S1_verify_heights : St := (.seq (.sets [(90, (.bin .lss (.s 89) (.s 88)))] []) (.seq (.ite (.s 90) .nop (.exit 2)) (.seq (.block 3 (.seq (.sets [(16, (.ld (.ix 1 (.s 87) (.s 89))))] []) (.seq (.sets [(96, (.ld (.ix 1 (.s 6) (.s 16))))] []) (.block 4 (.seq (.sets [(102, (.bin .eql (.s 96) (.k (.int .i64 (-1)))))] []) (.ite (.s 102) (.seq (.sets [(106, (.s 12)), (107, (.ix 1 (.s 6) (.s 16)))] []) (.seq (.act none (.store 1 (.tmp 107) (.tmp 106))) (.seq (.sets [(108, (.s 7)), (109, (.s 16))] []) (.seq (.act (some 110) (.bslice 3 1 [(.int .i64 0)] 1 [(0, (.tmp 109))])) (.seq (.act (some 111) (.app 3 1 8 (.tmp 108) (.tmp 110))) (.sets [(7, (.s 111))] [])))))) (.seq (.sets [(112, (.bin .eql (.s 96) (.s 12)))] []) (.ite (.s 112) .nop (.seq (.sets [(99, (.bld [(.int .i64 0), .nilIface] [(0, 1), (1, 1)] (.cs (.s 8) (.cs (.ifc 30 (.k (.int .i64 502))) .nl))))] []) (.seq (.act (some 100) (.box 187 (.tmp 99))) (.seq (.sets [(4, (.k (.slice none 0 0))), (5, (.ifc 185 (.s 100)))] []) .ret))))))))))) (.sets [(89, (.bin .add (.s 89) (.k (.int .i64 1))))] []))))
noncomputable def S2_verify_heights : St := (.seq (.sets [(13, (.ext 0 (.s 84)))] [(.ext 1 (.s 84))]) (.seq (.sets [(87, (.s 13)), (88, (.len (.s 13))), (89, (.k (.int .i64 0)))] []) (.block 2 (.loop S1_verify_heights))))
noncomputable def S3_verify_heights : St := (.sets [(7, (.slc 1 (.s 7) (.cs (.k (.int .i64 1)) .nl) .nl .nl))] [])
noncomputable def S4_verify_heights : St := (.seq (.sets [(29, (.bin .gtr (.len (.s 7)) (.k (.int .i64 0))))] []) (.seq (.ite (.s 29) .nop (.exit 0)) (.seq (.block 1 (.seq (.sets [(8, (.ld (.ix 1 (.s 7) (.k (.int .i64 0)))))] []) (.seq (.sets [(9, (.ext 0 (.call 135 (.cs (.ldn 2 (.ix 2 (.ld (.fa 2 (.nck (.s 1)))) (.s 8))) (.cs (.call 136 (.cs (.s 0) (.cs (.ldn 2 (.ix 2 (.ld (.fa 2 (.nck (.s 1)))) (.s 8))) .nl))) .nl))))), (10, (.ext 1 (.call 135 (.cs (.ldn 2 (.ix 2 (.ld (.fa 2 (.nck (.s 1)))) (.s 8))) (.cs (.call 136 (.cs (.s 0) (.cs (.ldn 2 (.ix 2 (.ld (.fa 2 (.nck (.s 1)))) (.s 8))) .nl))) .nl)))))] [(.ext 2 (.call 135 (.cs (.ldn 2 (.ix 2 (.ld (.fa 2 (.nck (.s 1)))) (.s 8))) (.cs (.call 136 (.cs (.s 0) (.cs (.ldn 2 (.ix 2 (.ld (.fa 2 (.nck (.s 1)))) (.s 8))) .nl))) .nl))))]) (.seq (.sets [(12, (.bin .add (.bin .sub (.ld (.ix 1 (.s 6) (.s 8))) (.s 9)) (.s 10)))] []) (.seq (.sets [(73, (.or (.bin .lss (.ld (.ix 1 (.s 6) (.s 8))) (.s 9)) (.bin .gtr (.s 12) (.k (.int .i64 8)))))] []) (.seq (.ite (.s 73) (.seq (.sets [(76, (.bld [(.int .i64 0), .nilIface] [(0, 1), (1, 1)] (.cs (.s 8) (.cs (.ifc 30 (.k (.int .i64 502))) .nl))))] []) (.seq (.act (some 77) (.box 187 (.tmp 76))) (.seq (.sets [(4, (.k (.slice none 0 0))), (5, (.ifc 185 (.s 77)))] []) .ret))) .nop) (.seq (.sets [(82, (.ldn 3 (.nck (.s 1)))), (83, (.s 8))] []) (.seq (.act (some 84) (.call 137 [(.tmp 82), (.tmp 83)])) S2_verify_heights)))))))) S3_verify_heights)))
noncomputable def S5_verify_heights : St := (.seq (.sets [(6, (.s 23))] []) (.seq (.sets [(25, (.ix 1 (.s 6) (.k (.int .i64 0))))] []) (.seq (.act none (.store 1 (.tmp 25) (.const (.int .i64 0)))) (.seq (.act (some 26) (.bslice 3 1 [(.int .i64 0)] 1 [(0, (.const (.int .i64 0)))])) (.seq (.sets [(7, (.s 26))] []) (.seq (.block 0 (.loop S4_verify_heights)) (.seq (.sets [(4, (.s 6)), (5, (.k .nilIface))] []) .ret)))))))
noncomputable def S_verify_heights : St := (.seq (.sets [(4, (.k (.slice none 0 0))), (5, (.k .nilIface))] []) (.seq (.act (some 17) (.bslice 3 1 [(.int .i64 0)] 1 [(0, (.const (.int .i64 (-1))))])) (.seq (.sets [(22, (.len (.ld (.fa 2 (.nck (.s 1))))))] []) (.seq (.act (some 23) (.call 134 [(.tmp 17), (.tmp 22)])) S5_verify_heights))))
noncomputable def R_verify_heights : Ex := (.cs (.s 4) (.cs (.s 5) .nl))
theorem dec_verify_heights : opt (dec Tryz.prog (fun f => roL.contains f) (fun t => G_verify_heights.contains t) 117 (Tryz.f114.body.getD .skip)) = S_verify_heights := by kernel_rfl
theorem res_verify_heights : resE Tryz.prog (fun t => G_verify_heights.contains t) Tryz.f114.results.toList = some R_verify_heights := by kernel_rfl
theorem pc_verify_heights {ds : List DV} {R : DV → DMem → Prop} {M : DMem} (hl : ds.length ≤ 117)
    (h : wpD Tryz.prog MU_verify_heights (fun f => roL.contains f) (fun t => G_verify_heights.contains t) 117 S_verify_heights (fun δ M' => ∃ d, evD Tryz.prog M' δ R_verify_heights = some d ∧ R d M') (fun _ _ _ => False) (fun δ M' => ∃ d, evD Tryz.prog M' δ R_verify_heights = some d ∧ R d M') (argD ds) M) :
    PC Tryz.prog F_verify_heights ds R M :=
  pc_opt Tryz.func114 (c := Tryz.f114.body.getD .skip) (by kernel_rfl) (by kernel_rfl) (by kernel_rfl) dec_verify_heights res_verify_heights _ hl h
abbrev F_verify_told : Nat := 115
def G_verify_told : List Nat := [0, 2, 3, 4, 5, 15]
def MU_verify_told (d : Nat) : Bool := ([] : List Nat).contains d
noncomputable def S1_verify_told : St := (.seq (.sets [(15, (.or (.s 10) (.un .not (.s 13))))] []) (.seq (.ite (.s 15) (.seq (.sets [(2, (.k (.int .i64 0))), (3, (.k (.int .i64 0)))] []) .ret) .nop) (.seq (.sets [(2, (.ld (.fa 0 (.nck (.ld (.s 4)))))), (3, (.ld (.s 5)))] []) .ret)))
noncomputable def S2_verify_told : St := (.seq (.sets [(10, (.un .not (.s 8))), (11, (.grd (.un .not (.s 8)) false (.s 0))), (12, (.grd (.un .not (.s 8)) false (.ifc 196 (.s 5))))] []) (.seq (.ite (.s 10) (.sets [(13, (.k (.tuple #[])))] []) (.act (some 13) (.call 138 [(.tmp 11), (.tmp 12)]))) S1_verify_told))
noncomputable def S_verify_told : St := (.seq (.sets [(2, (.k (.int .i64 0))), (3, (.k (.int .i64 0)))] []) (.seq (.act (some 4) (.alloc 185 (.pointer none))) (.seq (.act (some 5) (.alloc 30 (.int .i64 0))) (.seq (.sets [(6, (.s 0)), (7, (.ifc 195 (.s 4)))] []) (.seq (.act (some 8) (.call 138 [(.tmp 6), (.tmp 7)])) S2_verify_told)))))
noncomputable def R_verify_told : Ex := (.cs (.s 2) (.cs (.s 3) .nl))
theorem dec_verify_told : opt (dec Tryz.prog (fun f => roL.contains f) (fun t => G_verify_told.contains t) 21 (Tryz.f115.body.getD .skip)) = S_verify_told := by kernel_rfl
theorem res_verify_told : resE Tryz.prog (fun t => G_verify_told.contains t) Tryz.f115.results.toList = some R_verify_told := by kernel_rfl
theorem pc_verify_told {ds : List DV} {R : DV → DMem → Prop} {M : DMem} (hl : ds.length ≤ 21)
    (h : wpD Tryz.prog MU_verify_told (fun f => roL.contains f) (fun t => G_verify_told.contains t) 21 S_verify_told (fun δ M' => ∃ d, evD Tryz.prog M' δ R_verify_told = some d ∧ R d M') (fun _ _ _ => False) (fun δ M' => ∃ d, evD Tryz.prog M' δ R_verify_told = some d ∧ R d M') (argD ds) M) :
    PC Tryz.prog F_verify_told ds R M :=
  pc_opt Tryz.func115 (c := Tryz.f115.body.getD .skip) (by kernel_rfl) (by kernel_rfl) (by kernel_rfl) dec_verify_told res_verify_told _ hl h
abbrev F_slices_Clone_api_Part_api_Part : Nat := 116
def G_slices_Clone_api_Part_api_Part : List Nat := [0, 2, 4]
def MU_slices_Clone_api_Part_api_Part (d : Nat) : Bool := ([] : List Nat).contains d
noncomputable def S_slices_Clone_api_Part_api_Part : St := (.seq (.sets [(2, (.k (.slice none 0 0)))] []) (.seq (.sets [(4, (.eqz false (.s 0) (.k (.slice none 0 0))))] []) (.seq (.ite (.s 4) (.seq (.sets [(2, (.k (.slice none 0 0)))] []) .ret) .nop) (.seq (.act (some 5) (.bslice 69 4 [] 0 [])) (.seq (.sets [(6, (.s 0))] []) (.seq (.act (some 7) (.app 69 4 64 (.tmp 5) (.tmp 6))) (.seq (.sets [(2, (.s 7))] []) .ret)))))))
noncomputable def R_slices_Clone_api_Part_api_Part : Ex := (.s 2)
theorem dec_slices_Clone_api_Part_api_Part : opt (dec Tryz.prog (fun f => roL.contains f) (fun t => G_slices_Clone_api_Part_api_Part.contains t) 8 (Tryz.f116.body.getD .skip)) = S_slices_Clone_api_Part_api_Part := by kernel_rfl
theorem res_slices_Clone_api_Part_api_Part : resE Tryz.prog (fun t => G_slices_Clone_api_Part_api_Part.contains t) Tryz.f116.results.toList = some R_slices_Clone_api_Part_api_Part := by kernel_rfl
theorem pc_slices_Clone_api_Part_api_Part {ds : List DV} {R : DV → DMem → Prop} {M : DMem} (hl : ds.length ≤ 8)
    (h : wpD Tryz.prog MU_slices_Clone_api_Part_api_Part (fun f => roL.contains f) (fun t => G_slices_Clone_api_Part_api_Part.contains t) 8 S_slices_Clone_api_Part_api_Part (fun δ M' => ∃ d, evD Tryz.prog M' δ R_slices_Clone_api_Part_api_Part = some d ∧ R d M') (fun _ _ _ => False) (fun δ M' => ∃ d, evD Tryz.prog M' δ R_slices_Clone_api_Part_api_Part = some d ∧ R d M') (argD ds) M) :
    PC Tryz.prog F_slices_Clone_api_Part_api_Part ds R M :=
  pc_opt Tryz.func116 (c := Tryz.f116.body.getD .skip) (by kernel_rfl) (by kernel_rfl) (by kernel_rfl) dec_slices_Clone_api_Part_api_Part res_slices_Clone_api_Part_api_Part _ hl h
abbrev F_swageref1_FuncMay : Nat := 118
def G_swageref1_FuncMay : List Nat := [0, 1, 2, 3, 13, 18, 27]
def MU_swageref1_FuncMay (d : Nat) : Bool := ([] : List Nat).contains d
noncomputable def S1_swageref1_FuncMay : St := (.seq (.sets [(18, (.bin .lss (.s 3) (.len (.ld (.fa 2 (.s 1))))))] []) (.seq (.ite (.s 18) .nop (.exit 0)) (.seq (.block 1 (.seq (.sets [(27, (.un .not (.call 139 (.cs (.ldn 2 (.ix 2 (.ld (.fa 2 (.s 1))) (.s 3))) .nl))))] []) (.ite (.s 27) (.seq (.sets [(2, (.k (.bool false)))] []) .ret) .nop))) (.sets [(3, (.bin .add (.s 3) (.k (.int .i64 1))))] []))))
noncomputable def S_swageref1_FuncMay : St := (.seq (.act (some 1) (.box 53 (.tmp 0))) (.seq (.sets [(2, (.k (.bool false)))] []) (.seq (.sets [(13, (.or (.bin .lss (.len (.ld (.fa 2 (.s 1)))) (.k (.int .i64 1))) (.bin .gtr (.len (.ld (.fa 2 (.s 1)))) (.k (.int .i64 64)))))] []) (.seq (.ite (.s 13) (.seq (.sets [(2, (.k (.bool false)))] []) .ret) .nop) (.seq (.sets [(3, (.k (.int .i64 0)))] []) (.seq (.block 0 (.loop S1_swageref1_FuncMay)) (.seq (.sets [(2, (.k (.bool true)))] []) .ret)))))))
noncomputable def R_swageref1_FuncMay : Ex := (.s 2)
theorem dec_swageref1_FuncMay : opt (dec Tryz.prog (fun f => roL.contains f) (fun t => G_swageref1_FuncMay.contains t) 28 (Tryz.f118.body.getD .skip)) = S_swageref1_FuncMay := by kernel_rfl
theorem res_swageref1_FuncMay : resE Tryz.prog (fun t => G_swageref1_FuncMay.contains t) Tryz.f118.results.toList = some R_swageref1_FuncMay := by kernel_rfl
theorem pc_swageref1_FuncMay {ds : List DV} {R : DV → DMem → Prop} {M : DMem} (hl : ds.length ≤ 28)
    (h : wpD Tryz.prog MU_swageref1_FuncMay (fun f => roL.contains f) (fun t => G_swageref1_FuncMay.contains t) 28 S_swageref1_FuncMay (fun δ M' => ∃ d, evD Tryz.prog M' δ R_swageref1_FuncMay = some d ∧ R d M') (fun _ _ _ => False) (fun δ M' => ∃ d, evD Tryz.prog M' δ R_swageref1_FuncMay = some d ∧ R d M') (argD ds) M) :
    PC Tryz.prog F_swageref1_FuncMay ds R M :=
  pc_opt Tryz.func118 (c := Tryz.f118.body.getD .skip) (by kernel_rfl) (by kernel_rfl) (by kernel_rfl) dec_swageref1_FuncMay res_swageref1_FuncMay _ hl h
abbrev F_swageref1_Reached : Nat := 119
def G_swageref1_Reached : List Nat := [0, 1, 2, 3, 4, 5, 6, 7, 11, 19, 28]
def MU_swageref1_Reached (d : Nat) : Bool := ([16] : List Nat).contains d
noncomputable def S1_swageref1_Reached : St := (.seq (.sets [(7, (.ext 0 (.s 35)))] [(.ext 1 (.s 35))]) (.seq (.sets [(38, (.s 5)), (39, (.s 7))] []) (.seq (.act (some 40) (.app 3 1 8 (.tmp 38) (.tmp 39))) (.sets [(5, (.s 40))] []))))
noncomputable def S2_swageref1_Reached : St := (.seq (.sets [(19, (.bin .gtr (.len (.s 5)) (.k (.int .i64 0))))] []) (.seq (.ite (.s 19) .nop (.exit 0)) (.block 1 (.seq (.sets [(6, (.ld (.ix 1 (.s 5) (.k (.int .i64 0)))))] []) (.seq (.sets [(5, (.slc 1 (.s 5) (.cs (.k (.int .i64 1)) .nl) .nl .nl))] []) (.seq (.sets [(28, (.ld (.ix 1 (.s 4) (.s 6))))] []) (.seq (.ite (.s 28) (.exit 1) .nop) (.seq (.sets [(31, (.ix 1 (.s 4) (.s 6)))] []) (.seq (.act none (.store 1 (.tmp 31) (.const (.bool true)))) (.seq (.sets [(33, (.ldn 3 (.s 1))), (34, (.s 6))] []) (.seq (.act (some 35) (.call 140 [(.tmp 33), (.tmp 34)])) S1_swageref1_Reached)))))))))))
noncomputable def S3_swageref1_Reached : St := (.seq (.sets [(2, (.s 4)), (3, (.k (.int .i64 0)))] []) .ret)
noncomputable def S_swageref1_Reached : St := (.seq (.act (some 1) (.box 53 (.tmp 0))) (.seq (.sets [(2, (.k (.slice none 0 0))), (3, (.k (.int .i64 0)))] []) (.seq (.sets [(11, (.un .not (.call 118 (.cs (.ldn 3 (.s 1)) .nl))))] []) (.seq (.ite (.s 11) (.seq (.sets [(2, (.k (.slice none 0 0))), (3, (.k (.int .i64 400)))] []) .ret) .nop) (.seq (.sets [(14, (.len (.ld (.fa 2 (.s 1)))))] []) (.seq (.act (some 15) (.make 4 1 1 (.bool false) (.tmp 14) (.tmp 14))) (.seq (.sets [(4, (.s 15))] []) (.seq (.act (some 16) (.bslice 3 1 [(.int .i64 0)] 1 [(0, (.const (.int .i64 0)))])) (.seq (.sets [(5, (.s 16))] []) (.seq (.block 0 (.loop S2_swageref1_Reached)) S3_swageref1_Reached))))))))))
noncomputable def R_swageref1_Reached : Ex := (.cs (.s 2) (.cs (.s 3) .nl))
theorem dec_swageref1_Reached : opt (dec Tryz.prog (fun f => roL.contains f) (fun t => G_swageref1_Reached.contains t) 42 (Tryz.f119.body.getD .skip)) = S_swageref1_Reached := by kernel_rfl
theorem res_swageref1_Reached : resE Tryz.prog (fun t => G_swageref1_Reached.contains t) Tryz.f119.results.toList = some R_swageref1_Reached := by kernel_rfl
theorem pc_swageref1_Reached {ds : List DV} {R : DV → DMem → Prop} {M : DMem} (hl : ds.length ≤ 42)
    (h : wpD Tryz.prog MU_swageref1_Reached (fun f => roL.contains f) (fun t => G_swageref1_Reached.contains t) 42 S_swageref1_Reached (fun δ M' => ∃ d, evD Tryz.prog M' δ R_swageref1_Reached = some d ∧ R d M') (fun _ _ _ => False) (fun δ M' => ∃ d, evD Tryz.prog M' δ R_swageref1_Reached = some d ∧ R d M') (argD ds) M) :
    PC Tryz.prog F_swageref1_Reached ds R M :=
  pc_opt Tryz.func119 (c := Tryz.f119.body.getD .skip) (by kernel_rfl) (by kernel_rfl) (by kernel_rfl) dec_swageref1_Reached res_swageref1_Reached _ hl h
abbrev F_swageref1_ranged : Nat := 120
def G_swageref1_ranged : List Nat := [0, 1, 2, 3, 4, 5, 6, 8, 9, 17, 26]
def MU_swageref1_ranged (d : Nat) : Bool := ([] : List Nat).contains d
noncomputable def S_swageref1_ranged : St := (.seq (.act (some 3) (.box 24 (.tmp 0))) (.seq (.act (some 4) (.box 53 (.tmp 1))) (.seq (.act (some 5) (.box 63 (.tmp 2))) (.seq (.sets [(6, (.k (.bool false)))] []) (.seq (.sets [(8, (.ld (.fa 0 (.s 5))))] []) (.seq (.block 0 (.seq (.sets [(9, (.or (.bin .eql (.s 8) (.k (.int .i64 1))) (.bin .eql (.s 8) (.k (.int .i64 2)))))] []) (.ite (.s 9) (.seq (.sets [(6, (.bin .lss (.ld (.fa 1 (.s 5))) (.ld (.fa 1 (.s 4)))))] []) .ret) (.seq (.sets [(17, (.or (.bin .eql (.s 8) (.k (.int .i64 12))) (.bin .eql (.s 8) (.k (.int .i64 13)))))] []) (.ite (.s 17) (.seq (.sets [(6, (.bin .lss (.ld (.fa 1 (.s 5))) (.len (.ld (.fa 2 (.s 4))))))] []) .ret) (.seq (.sets [(26, (.bin .eql (.s 8) (.k (.int .i64 14))))] []) (.ite (.s 26) (.seq (.sets [(6, (.bin .lss (.ld (.fa 1 (.s 5))) (.len (.ld (.fa 0 (.s 3))))))] []) .ret) .nop))))))) (.seq (.sets [(6, (.k (.bool true)))] []) .ret)))))))
noncomputable def R_swageref1_ranged : Ex := (.s 6)
theorem dec_swageref1_ranged : opt (dec Tryz.prog (fun f => roL.contains f) (fun t => G_swageref1_ranged.contains t) 34 (Tryz.f120.body.getD .skip)) = S_swageref1_ranged := by kernel_rfl
theorem res_swageref1_ranged : resE Tryz.prog (fun t => G_swageref1_ranged.contains t) Tryz.f120.results.toList = some R_swageref1_ranged := by kernel_rfl
theorem pc_swageref1_ranged {ds : List DV} {R : DV → DMem → Prop} {M : DMem} (hl : ds.length ≤ 34)
    (h : wpD Tryz.prog MU_swageref1_ranged (fun f => roL.contains f) (fun t => G_swageref1_ranged.contains t) 34 S_swageref1_ranged (fun δ M' => ∃ d, evD Tryz.prog M' δ R_swageref1_ranged = some d ∧ R d M') (fun _ _ _ => False) (fun δ M' => ∃ d, evD Tryz.prog M' δ R_swageref1_ranged = some d ∧ R d M') (argD ds) M) :
    PC Tryz.prog F_swageref1_ranged ds R M :=
  pc_opt Tryz.func120 (c := Tryz.f120.body.getD .skip) (by kernel_rfl) (by kernel_rfl) (by kernel_rfl) dec_swageref1_ranged res_swageref1_ranged _ hl h
abbrev F_swageref1_walk : Nat := 121
def G_swageref1_walk : List Nat := [0, 1, 2, 3, 4, 5, 6, 7, 8, 9, 10, 11, 12, 13, 15, 16, 18, 26, 37, 49, 89, 100, 110, 133]
def MU_swageref1_walk (d : Nat) : Bool := ([34] : List Nat).contains d
noncomputable def S1_swageref1_walk : St := (.seq (.sets [(26, (.bin .lss (.s 8) (.len (.s 7))))] []) (.seq (.ite (.s 26) .nop (.exit 0)) (.seq (.block 1 (.seq (.sets [(31, (.ix 1 (.s 7) (.s 8)))] []) (.seq (.act none (.store 1 (.tmp 31) (.const (.int .i64 (-1))))) (.sets [] [])))) (.sets [(8, (.bin .add (.s 8) (.k (.int .i64 1))))] []))))
noncomputable def S2_swageref1_walk : St := (.seq (.sets [(100, (.bin .lss (.s 18) (.len (.s 16))))] []) (.seq (.ite (.s 100) .nop (.exit 4)) (.seq (.block 5 (.seq (.sets [(110, (.bin .lss (.ld (.ix 1 (.s 7) (.ld (.ix 1 (.s 16) (.s 18))))) (.k (.int .i64 0))))] []) (.seq (.ite (.s 110) (.seq (.sets [(116, (.s 15)), (117, (.ix 1 (.s 7) (.ld (.ix 1 (.s 16) (.s 18)))))] []) (.seq (.act none (.store 1 (.tmp 117) (.tmp 116))) (.seq (.sets [(118, (.s 9)), (122, (.ld (.ix 1 (.s 16) (.s 18))))] []) (.seq (.act (some 123) (.bslice 3 1 [(.int .i64 0)] 1 [(0, (.tmp 122))])) (.seq (.act (some 124) (.app 3 1 8 (.tmp 118) (.tmp 123))) (.sets [(9, (.s 124))] [])))))) .nop) (.seq (.sets [(133, (.bin .neq (.ld (.ix 1 (.s 7) (.ld (.ix 1 (.s 16) (.s 18))))) (.s 15)))] []) (.ite (.s 133) (.seq (.sets [(4, (.k (.slice none 0 0))), (5, (.s 10)), (6, (.k (.int .i64 502)))] []) .ret) .nop))))) (.sets [(18, (.bin .add (.s 18) (.k (.int .i64 1))))] []))))
noncomputable def S3_swageref1_walk : St := (.seq (.sets [(16, (.ext 0 (.s 94)))] [(.ext 1 (.s 94))]) (.seq (.sets [(18, (.k (.int .i64 0)))] []) (.block 4 (.loop S2_swageref1_walk))))
noncomputable def S4_swageref1_walk : St := (.seq (.sets [(37, (.bin .gtr (.len (.s 9)) (.k (.int .i64 0))))] []) (.seq (.ite (.s 37) .nop (.exit 2)) (.block 3 (.seq (.sets [(10, (.ld (.ix 1 (.s 9) (.k (.int .i64 0)))))] []) (.seq (.sets [(9, (.slc 1 (.s 9) (.cs (.k (.int .i64 1)) .nl) .nl .nl))] []) (.seq (.sets [(11, (.k (.int .i64 0)))] []) (.seq (.sets [(49, (.bin .eql (.ld (.fa 0 (.ix 2 (.ld (.fa 2 (.s 3))) (.s 10)))) (.k (.int .i64 14))))] []) (.seq (.ite (.s 49) (.sets [(11, (.ld (.fa 0 (.ix 3 (.ld (.fa 0 (.s 2))) (.ld (.fa 1 (.ix 2 (.ld (.fa 2 (.s 3))) (.s 10))))))))] []) .nop) (.seq (.sets [(12, (.ext 0 (.call 141 (.cs (.ldn 2 (.ix 2 (.ld (.fa 2 (.s 3))) (.s 10))) (.cs (.s 11) .nl))))), (13, (.ext 1 (.call 141 (.cs (.ldn 2 (.ix 2 (.ld (.fa 2 (.s 3))) (.s 10))) (.cs (.s 11) .nl)))))] [(.ext 2 (.call 141 (.cs (.ldn 2 (.ix 2 (.ld (.fa 2 (.s 3))) (.s 10))) (.cs (.s 11) .nl))))]) (.seq (.sets [(15, (.bin .add (.bin .sub (.ld (.ix 1 (.s 7) (.s 10))) (.s 12)) (.s 13)))] []) (.seq (.sets [(89, (.or (.bin .lss (.ld (.ix 1 (.s 7) (.s 10))) (.s 12)) (.bin .gtr (.s 15) (.k (.int .i64 8)))))] []) (.seq (.ite (.s 89) (.seq (.sets [(4, (.k (.slice none 0 0))), (5, (.s 10)), (6, (.k (.int .i64 502)))] []) .ret) .nop) (.seq (.sets [(92, (.ldn 3 (.s 3))), (93, (.s 10))] []) (.seq (.act (some 94) (.call 140 [(.tmp 92), (.tmp 93)])) S3_swageref1_walk))))))))))))))
noncomputable def S5_swageref1_walk : St := (.seq (.sets [(4, (.s 7)), (5, (.k (.int .i64 0))), (6, (.k (.int .i64 0)))] []) .ret)
noncomputable def S6_swageref1_walk : St := (.seq (.sets [(33, (.ix 1 (.s 7) (.k (.int .i64 0))))] []) (.seq (.act none (.store 1 (.tmp 33) (.const (.int .i64 0)))) (.seq (.act (some 34) (.bslice 3 1 [(.int .i64 0)] 1 [(0, (.const (.int .i64 0)))])) (.seq (.sets [(9, (.s 34))] []) (.seq (.block 2 (.loop S4_swageref1_walk)) S5_swageref1_walk)))))
noncomputable def S_swageref1_walk : St := (.seq (.act (some 2) (.box 24 (.tmp 0))) (.seq (.act (some 3) (.box 53 (.tmp 1))) (.seq (.sets [(4, (.k (.slice none 0 0))), (5, (.k (.int .i64 0))), (6, (.k (.int .i64 0)))] []) (.seq (.sets [(21, (.len (.ld (.fa 2 (.s 3)))))] []) (.seq (.act (some 22) (.make 3 1 8 (.int .i64 0) (.tmp 21) (.tmp 21))) (.seq (.sets [(7, (.s 22))] []) (.seq (.sets [(8, (.k (.int .i64 0)))] []) (.seq (.block 0 (.loop S1_swageref1_walk)) S6_swageref1_walk))))))))
noncomputable def R_swageref1_walk : Ex := (.cs (.s 4) (.cs (.s 5) (.cs (.s 6) .nl)))
theorem dec_swageref1_walk : opt (dec Tryz.prog (fun f => roL.contains f) (fun t => G_swageref1_walk.contains t) 136 (Tryz.f121.body.getD .skip)) = S_swageref1_walk := by kernel_rfl
theorem res_swageref1_walk : resE Tryz.prog (fun t => G_swageref1_walk.contains t) Tryz.f121.results.toList = some R_swageref1_walk := by kernel_rfl
theorem pc_swageref1_walk {ds : List DV} {R : DV → DMem → Prop} {M : DMem} (hl : ds.length ≤ 136)
    (h : wpD Tryz.prog MU_swageref1_walk (fun f => roL.contains f) (fun t => G_swageref1_walk.contains t) 136 S_swageref1_walk (fun δ M' => ∃ d, evD Tryz.prog M' δ R_swageref1_walk = some d ∧ R d M') (fun _ _ _ => False) (fun δ M' => ∃ d, evD Tryz.prog M' δ R_swageref1_walk = some d ∧ R d M') (argD ds) M) :
    PC Tryz.prog F_swageref1_walk ds R M :=
  pc_opt Tryz.func121 (c := Tryz.f121.body.getD .skip) (by kernel_rfl) (by kernel_rfl) (by kernel_rfl) dec_swageref1_walk res_swageref1_walk _ hl h
abbrev F_wrap_Is : Nat := 122
def G_wrap_Is : List Nat := [0, 2]
def MU_wrap_Is (d : Nat) : Bool := ([] : List Nat).contains d
noncomputable def S_wrap_Is : St := (.seq (.sets [(2, (.k (.bool false)))] []) (.seq (.sets [(2, (.bin .eql (.cvt .i64 (.cvt .i32 (.s 0))) (.s 0)))] []) .ret))
noncomputable def R_wrap_Is : Ex := (.s 2)
theorem dec_wrap_Is : opt (dec Tryz.prog (fun f => roL.contains f) (fun t => G_wrap_Is.contains t) 8 (Tryz.f122.body.getD .skip)) = S_wrap_Is := by kernel_rfl
theorem res_wrap_Is : resE Tryz.prog (fun t => G_wrap_Is.contains t) Tryz.f122.results.toList = some R_wrap_Is := by kernel_rfl
theorem pc_wrap_Is {ds : List DV} {R : DV → DMem → Prop} {M : DMem} (hl : ds.length ≤ 8)
    (h : wpD Tryz.prog MU_wrap_Is (fun f => roL.contains f) (fun t => G_wrap_Is.contains t) 8 S_wrap_Is (fun δ M' => ∃ d, evD Tryz.prog M' δ R_wrap_Is = some d ∧ R d M') (fun _ _ _ => False) (fun δ M' => ∃ d, evD Tryz.prog M' δ R_wrap_Is = some d ∧ R d M') (argD ds) M) :
    PC Tryz.prog F_wrap_Is ds R M :=
  pc_opt Tryz.func122 (c := Tryz.f122.body.getD .skip) (by kernel_rfl) (by kernel_rfl) (by kernel_rfl) dec_wrap_Is res_wrap_Is _ hl h
abbrev F_slices_ContainsFunc_api_Src_api_Src : Nat := 123
def G_slices_ContainsFunc_api_Src_api_Src : List Nat := [0, 1, 4]
def MU_slices_ContainsFunc_api_Src_api_Src (d : Nat) : Bool := ([] : List Nat).contains d
noncomputable def S_slices_ContainsFunc_api_Src_api_Src : St := (.seq (.sets [(4, (.k (.bool false)))] []) (.seq (.sets [(4, (.bin .geq (.call 142 (.cs (.s 0) (.cs (.s 1) .nl))) (.k (.int .i64 0))))] []) .ret))
noncomputable def R_slices_ContainsFunc_api_Src_api_Src : Ex := (.s 4)
theorem dec_slices_ContainsFunc_api_Src_api_Src : opt (dec Tryz.prog (fun f => roL.contains f) (fun t => G_slices_ContainsFunc_api_Src_api_Src.contains t) 9 (Tryz.f123.body.getD .skip)) = S_slices_ContainsFunc_api_Src_api_Src := by kernel_rfl
theorem res_slices_ContainsFunc_api_Src_api_Src : resE Tryz.prog (fun t => G_slices_ContainsFunc_api_Src_api_Src.contains t) Tryz.f123.results.toList = some R_slices_ContainsFunc_api_Src_api_Src := by kernel_rfl
theorem pc_slices_ContainsFunc_api_Src_api_Src {ds : List DV} {R : DV → DMem → Prop} {M : DMem} (hl : ds.length ≤ 9)
    (h : wpD Tryz.prog MU_slices_ContainsFunc_api_Src_api_Src (fun f => roL.contains f) (fun t => G_slices_ContainsFunc_api_Src_api_Src.contains t) 9 S_slices_ContainsFunc_api_Src_api_Src (fun δ M' => ∃ d, evD Tryz.prog M' δ R_slices_ContainsFunc_api_Src_api_Src = some d ∧ R d M') (fun _ _ _ => False) (fun δ M' => ∃ d, evD Tryz.prog M' δ R_slices_ContainsFunc_api_Src_api_Src = some d ∧ R d M') (argD ds) M) :
    PC Tryz.prog F_slices_ContainsFunc_api_Src_api_Src ds R M :=
  pc_opt Tryz.func123 (c := Tryz.f123.body.getD .skip) (by kernel_rfl) (by kernel_rfl) (by kernel_rfl) dec_slices_ContainsFunc_api_Src_api_Src res_slices_ContainsFunc_api_Src_api_Src _ hl h
abbrev F_slices_IndexFunc_api_Func_api_Func : Nat := 127
def G_slices_IndexFunc_api_Func_api_Func : List Nat := [0, 1, 4, 5, 7, 8, 9, 16]
def MU_slices_IndexFunc_api_Func_api_Func (d : Nat) : Bool := ([] : List Nat).contains d
noncomputable def S1_slices_IndexFunc_api_Func_api_Func : St := (.seq (.sets [(9, (.bin .lss (.s 8) (.s 7)))] []) (.seq (.ite (.s 9) .nop (.exit 0)) (.seq (.block 1 (.seq (.sets [(5, (.s 8))] []) (.seq (.sets [(11, (.s 1)), (15, (.ldn 3 (.ix 3 (.s 0) (.s 5))))] []) (.seq (.act (some 16) (.callv 11 [(.tmp 15)])) (.ite (.s 16) (.seq (.sets [(4, (.s 5))] []) .ret) .nop))))) (.sets [(8, (.bin .add (.s 8) (.k (.int .i64 1))))] []))))
noncomputable def S_slices_IndexFunc_api_Func_api_Func : St := (.seq (.sets [(4, (.k (.int .i64 0)))] []) (.seq (.sets [(7, (.len (.s 0))), (8, (.k (.int .i64 0)))] []) (.seq (.block 0 (.loop S1_slices_IndexFunc_api_Func_api_Func)) (.seq (.sets [(4, (.k (.int .i64 (-1))))] []) .ret))))
noncomputable def R_slices_IndexFunc_api_Func_api_Func : Ex := (.s 4)
theorem dec_slices_IndexFunc_api_Func_api_Func : opt (dec Tryz.prog (fun f => roL.contains f) (fun t => G_slices_IndexFunc_api_Func_api_Func.contains t) 19 (Tryz.f127.body.getD .skip)) = S_slices_IndexFunc_api_Func_api_Func := by kernel_rfl
theorem res_slices_IndexFunc_api_Func_api_Func : resE Tryz.prog (fun t => G_slices_IndexFunc_api_Func_api_Func.contains t) Tryz.f127.results.toList = some R_slices_IndexFunc_api_Func_api_Func := by kernel_rfl
theorem pc_slices_IndexFunc_api_Func_api_Func {ds : List DV} {R : DV → DMem → Prop} {M : DMem} (hl : ds.length ≤ 19)
    (h : wpD Tryz.prog MU_slices_IndexFunc_api_Func_api_Func (fun f => roL.contains f) (fun t => G_slices_IndexFunc_api_Func_api_Func.contains t) 19 S_slices_IndexFunc_api_Func_api_Func (fun δ M' => ∃ d, evD Tryz.prog M' δ R_slices_IndexFunc_api_Func_api_Func = some d ∧ R d M') (fun _ _ _ => False) (fun δ M' => ∃ d, evD Tryz.prog M' δ R_slices_IndexFunc_api_Func_api_Func = some d ∧ R d M') (argD ds) M) :
    PC Tryz.prog F_slices_IndexFunc_api_Func_api_Func ds R M :=
  pc_opt Tryz.func127 (c := Tryz.f127.body.getD .skip) (by kernel_rfl) (by kernel_rfl) (by kernel_rfl) dec_slices_IndexFunc_api_Func_api_Func res_slices_IndexFunc_api_Func_api_Func _ hl h
abbrev F_pack_not_1 : Nat := 128
def G_pack_not_1 : List Nat := [0, 1, 2]
def MU_pack_not_1 (d : Nat) : Bool := ([] : List Nat).contains d
noncomputable def S_pack_not_1 : St := (.seq (.act (some 1) (.box 63 (.tmp 0))) (.seq (.sets [(2, (.k (.bool false)))] []) (.seq (.sets [(2, (.un .not (.call 129 (.cs (.ldn 2 (.s 1)) .nl))))] []) .ret)))
noncomputable def R_pack_not_1 : Ex := (.s 2)
theorem dec_pack_not_1 : opt (dec Tryz.prog (fun f => roL.contains f) (fun t => G_pack_not_1.contains t) 6 (Tryz.f128.body.getD .skip)) = S_pack_not_1 := by kernel_rfl
theorem res_pack_not_1 : resE Tryz.prog (fun t => G_pack_not_1.contains t) Tryz.f128.results.toList = some R_pack_not_1 := by kernel_rfl
theorem pc_pack_not_1 {ds : List DV} {R : DV → DMem → Prop} {M : DMem} (hl : ds.length ≤ 6)
    (h : wpD Tryz.prog MU_pack_not_1 (fun f => roL.contains f) (fun t => G_pack_not_1.contains t) 6 S_pack_not_1 (fun δ M' => ∃ d, evD Tryz.prog M' δ R_pack_not_1 = some d ∧ R d M') (fun _ _ _ => False) (fun δ M' => ∃ d, evD Tryz.prog M' δ R_pack_not_1 = some d ∧ R d M') (argD ds) M) :
    PC Tryz.prog F_pack_not_1 ds R M :=
  pc_opt Tryz.func128 (c := Tryz.f128.body.getD .skip) (by kernel_rfl) (by kernel_rfl) (by kernel_rfl) dec_pack_not_1 res_pack_not_1 _ hl h
abbrev F_ins_May : Nat := 129
def G_ins_May : List Nat := [0, 1, 2, 3, 12]
def MU_ins_May (d : Nat) : Bool := ([] : List Nat).contains d
noncomputable def S_ins_May : St := (.seq (.act (some 1) (.box 63 (.tmp 0))) (.seq (.sets [(2, (.k (.bool false)))] []) (.seq (.block 0 (.seq (.sets [(3, (.or (.bin .lss (.ld (.fa 0 (.s 1))) (.k (.int .i64 0))) (.bin .gtr (.ld (.fa 0 (.s 1))) (.k (.int .i64 16)))))] []) (.ite (.s 3) (.seq (.sets [(2, (.k (.bool false)))] []) .ret) (.seq (.sets [(12, (.bin .eql (.ld (.fa 0 (.s 1))) (.k (.int .i64 0))))] []) (.ite (.s 12) (.seq (.sets [(2, (.call 122 (.cs (.ld (.fa 1 (.s 1))) .nl)))] []) .ret) .nop))))) (.seq (.sets [(2, (.and (.bin .geq (.ld (.fa 1 (.s 1))) (.k (.int .i64 0))) (.bin .lss (.ld (.fa 1 (.s 1))) (.call 145 (.cs (.ld (.fa 0 (.s 1))) .nl)))))] []) .ret))))
noncomputable def R_ins_May : Ex := (.s 2)
theorem dec_ins_May : opt (dec Tryz.prog (fun f => roL.contains f) (fun t => G_ins_May.contains t) 30 (Tryz.f129.body.getD .skip)) = S_ins_May := by kernel_rfl
theorem res_ins_May : resE Tryz.prog (fun t => G_ins_May.contains t) Tryz.f129.results.toList = some R_ins_May := by kernel_rfl
theorem pc_ins_May {ds : List DV} {R : DV → DMem → Prop} {M : DMem} (hl : ds.length ≤ 30)
    (h : wpD Tryz.prog MU_ins_May (fun f => roL.contains f) (fun t => G_ins_May.contains t) 30 S_ins_May (fun δ M' => ∃ d, evD Tryz.prog M' δ R_ins_May = some d ∧ R d M') (fun _ _ _ => False) (fun δ M' => ∃ d, evD Tryz.prog M' δ R_ins_May = some d ∧ R d M') (argD ds) M) :
    PC Tryz.prog F_ins_May ds R M :=
  pc_opt Tryz.func129 (c := Tryz.f129.body.getD .skip) (by kernel_rfl) (by kernel_rfl) (by kernel_rfl) dec_ins_May res_ins_May _ hl h
abbrev F_slices_ContainsFunc_api_Ins_api_Ins : Nat := 130
def G_slices_ContainsFunc_api_Ins_api_Ins : List Nat := [0, 1, 4]
def MU_slices_ContainsFunc_api_Ins_api_Ins (d : Nat) : Bool := ([] : List Nat).contains d
noncomputable def S_slices_ContainsFunc_api_Ins_api_Ins : St := (.seq (.sets [(4, (.k (.bool false)))] []) (.seq (.sets [(4, (.bin .geq (.call 146 (.cs (.s 0) (.cs (.s 1) .nl))) (.k (.int .i64 0))))] []) .ret))
noncomputable def R_slices_ContainsFunc_api_Ins_api_Ins : Ex := (.s 4)
theorem dec_slices_ContainsFunc_api_Ins_api_Ins : opt (dec Tryz.prog (fun f => roL.contains f) (fun t => G_slices_ContainsFunc_api_Ins_api_Ins.contains t) 9 (Tryz.f130.body.getD .skip)) = S_slices_ContainsFunc_api_Ins_api_Ins := by kernel_rfl
theorem res_slices_ContainsFunc_api_Ins_api_Ins : resE Tryz.prog (fun t => G_slices_ContainsFunc_api_Ins_api_Ins.contains t) Tryz.f130.results.toList = some R_slices_ContainsFunc_api_Ins_api_Ins := by kernel_rfl
theorem pc_slices_ContainsFunc_api_Ins_api_Ins {ds : List DV} {R : DV → DMem → Prop} {M : DMem} (hl : ds.length ≤ 9)
    (h : wpD Tryz.prog MU_slices_ContainsFunc_api_Ins_api_Ins (fun f => roL.contains f) (fun t => G_slices_ContainsFunc_api_Ins_api_Ins.contains t) 9 S_slices_ContainsFunc_api_Ins_api_Ins (fun δ M' => ∃ d, evD Tryz.prog M' δ R_slices_ContainsFunc_api_Ins_api_Ins = some d ∧ R d M') (fun _ _ _ => False) (fun δ M' => ∃ d, evD Tryz.prog M' δ R_slices_ContainsFunc_api_Ins_api_Ins = some d ∧ R d M') (argD ds) M) :
    PC Tryz.prog F_slices_ContainsFunc_api_Ins_api_Ins ds R M :=
  pc_opt Tryz.func130 (c := Tryz.f130.body.getD .skip) (by kernel_rfl) (by kernel_rfl) (by kernel_rfl) dec_slices_ContainsFunc_api_Ins_api_Ins res_slices_ContainsFunc_api_Ins_api_Ins _ hl h
abbrev F_flow_may : Nat := 131
def G_flow_may : List Nat := [0, 2, 3]
def MU_flow_may (d : Nat) : Bool := ([] : List Nat).contains d
noncomputable def S_flow_may : St := (.seq (.sets [(2, (.k (.bool false)))] []) (.seq (.sets [(3, (.k (.func (.func 147) #[] #[])))] []) (.seq (.sets [(2, (.and (.and (.bin .geq (.len (.ld (.fa 2 (.nck (.s 0))))) (.k (.int .i64 1))) (.bin .leq (.len (.ld (.fa 2 (.nck (.s 0))))) (.k (.int .i64 64)))) (.un .not (.call 130 (.cs (.ld (.fa 2 (.nck (.s 0)))) (.cs (.s 3) .nl))))))] []) .ret)))
noncomputable def R_flow_may : Ex := (.s 2)
theorem dec_flow_may : opt (dec Tryz.prog (fun f => roL.contains f) (fun t => G_flow_may.contains t) 27 (Tryz.f131.body.getD .skip)) = S_flow_may := by kernel_rfl
theorem res_flow_may : resE Tryz.prog (fun t => G_flow_may.contains t) Tryz.f131.results.toList = some R_flow_may := by kernel_rfl
theorem pc_flow_may {ds : List DV} {R : DV → DMem → Prop} {M : DMem} (hl : ds.length ≤ 27)
    (h : wpD Tryz.prog MU_flow_may (fun f => roL.contains f) (fun t => G_flow_may.contains t) 27 S_flow_may (fun δ M' => ∃ d, evD Tryz.prog M' δ R_flow_may = some d ∧ R d M') (fun _ _ _ => False) (fun δ M' => ∃ d, evD Tryz.prog M' δ R_flow_may = some d ∧ R d M') (argD ds) M) :
    PC Tryz.prog F_flow_may ds R M :=
  pc_opt Tryz.func131 (c := Tryz.f131.body.getD .skip) (by kernel_rfl) (by kernel_rfl) (by kernel_rfl) dec_flow_may res_flow_may _ hl h
abbrev F_flow_next : Nat := 132
def G_flow_next : List Nat := [0, 1, 2, 4, 5, 6, 7, 16, 20, 22, 27]
def MU_flow_next (d : Nat) : Bool := ([19, 26, 33] : List Nat).contains d
noncomputable def S1_flow_next : St := (.seq (.act (some 38) (.call 149 [(.tmp 37)])) (.seq (.sets [(4, (.s 38))] []) .ret))
noncomputable def S_flow_next : St := (.seq (.act (some 2) (.box 59 (.tmp 0))) (.seq (.sets [(4, (.k (.slice none 0 0)))] []) (.seq (.sets [(14, (.ldn 2 (.ix 2 (.ld (.fa 2 (.nck (.ld (.s 2))))) (.s 1))))] []) (.seq (.act (some 5) (.var 63 2 (.tmp 14))) (.seq (.sets [(6, (.k (.slice none 0 0)))] []) (.seq (.sets [(16, (.ld (.fa 0 (.s 5))))] []) (.seq (.block 0 (.seq (.sets [(20, (.bin .eql (.s 16) (.k (.int .i64 16))))] []) (.ite (.s 20) .nop (.seq (.sets [(22, (.bin .eql (.s 16) (.k (.int .i64 12))))] []) (.ite (.s 22) (.seq (.sets [(25, (.ld (.fa 1 (.s 5))))] []) (.seq (.act (some 26) (.bslice 3 1 [(.int .i64 0)] 1 [(0, (.tmp 25))])) (.sets [(6, (.s 26))] []))) (.seq (.sets [(27, (.bin .eql (.s 16) (.k (.int .i64 13))))] []) (.ite (.s 27) (.seq (.sets [(30, (.bin .add (.s 1) (.k (.int .i64 1)))), (32, (.ld (.fa 1 (.s 5))))] []) (.seq (.act (some 33) (.bslice 3 1 [(.int .i64 0), (.int .i64 0)] 2 [(0, (.tmp 30)), (1, (.tmp 32))])) (.sets [(6, (.s 33))] []))) (.seq (.sets [(18, (.bin .add (.s 1) (.k (.int .i64 1))))] []) (.seq (.act (some 19) (.bslice 3 1 [(.int .i64 0)] 1 [(0, (.tmp 18))])) (.sets [(6, (.s 19))] [])))))))))) (.seq (.sets [(7, (.mkf (.func 148) .nl (.cs (.s 2) .nl)))] []) (.seq (.sets [(35, (.s 6)), (36, (.s 7))] []) (.seq (.act (some 37) (.call 150 [(.tmp 35), (.tmp 36)])) S1_flow_next))))))))))
noncomputable def R_flow_next : Ex := (.s 4)
theorem dec_flow_next : opt (dec Tryz.prog (fun f => roL.contains f) (fun t => G_flow_next.contains t) 39 (Tryz.f132.body.getD .skip)) = S_flow_next := by kernel_rfl
theorem res_flow_next : resE Tryz.prog (fun t => G_flow_next.contains t) Tryz.f132.results.toList = some R_flow_next := by kernel_rfl
theorem pc_flow_next {ds : List DV} {R : DV → DMem → Prop} {M : DMem} (hl : ds.length ≤ 39)
    (h : wpD Tryz.prog MU_flow_next (fun f => roL.contains f) (fun t => G_flow_next.contains t) 39 S_flow_next (fun δ M' => ∃ d, evD Tryz.prog M' δ R_flow_next = some d ∧ R d M') (fun _ _ _ => False) (fun δ M' => ∃ d, evD Tryz.prog M' δ R_flow_next = some d ∧ R d M') (argD ds) M) :
    PC Tryz.prog F_flow_next ds R M :=
  pc_opt Tryz.func132 (c := Tryz.f132.body.getD .skip) (by kernel_rfl) (by kernel_rfl) (by kernel_rfl) dec_flow_next res_flow_next _ hl h
abbrev F_verify_outside : Nat := 133
def G_verify_outside : List Nat := [0, 1, 2, 5, 6, 8, 9, 19, 30]
def MU_verify_outside (d : Nat) : Bool := ([] : List Nat).contains d
noncomputable def S_verify_outside : St := (.seq (.act (some 5) (.box 63 (.tmp 2))) (.seq (.sets [(6, (.k (.bool false)))] []) (.seq (.sets [(8, (.ld (.fa 0 (.s 5))))] []) (.seq (.block 0 (.seq (.sets [(9, (.or (.bin .eql (.s 8) (.k (.int .i64 1))) (.bin .eql (.s 8) (.k (.int .i64 2)))))] []) (.ite (.s 9) (.seq (.sets [(6, (.bin .geq (.ld (.fa 1 (.s 5))) (.ld (.fa 1 (.nck (.s 1))))))] []) .ret) (.seq (.sets [(19, (.or (.bin .eql (.s 8) (.k (.int .i64 12))) (.bin .eql (.s 8) (.k (.int .i64 13)))))] []) (.ite (.s 19) (.seq (.sets [(6, (.bin .geq (.ld (.fa 1 (.s 5))) (.len (.ld (.fa 2 (.nck (.s 1)))))))] []) .ret) (.seq (.sets [(30, (.bin .eql (.s 8) (.k (.int .i64 14))))] []) (.ite (.s 30) (.seq (.sets [(6, (.bin .geq (.ld (.fa 1 (.s 5))) (.len (.ld (.fa 0 (.nck (.s 0)))))))] []) .ret) .nop))))))) (.seq (.sets [(6, (.k (.bool false)))] []) .ret)))))
noncomputable def R_verify_outside : Ex := (.s 6)
theorem dec_verify_outside : opt (dec Tryz.prog (fun f => roL.contains f) (fun t => G_verify_outside.contains t) 40 (Tryz.f133.body.getD .skip)) = S_verify_outside := by kernel_rfl
theorem res_verify_outside : resE Tryz.prog (fun t => G_verify_outside.contains t) Tryz.f133.results.toList = some R_verify_outside := by kernel_rfl
theorem pc_verify_outside {ds : List DV} {R : DV → DMem → Prop} {M : DMem} (hl : ds.length ≤ 40)
    (h : wpD Tryz.prog MU_verify_outside (fun f => roL.contains f) (fun t => G_verify_outside.contains t) 40 S_verify_outside (fun δ M' => ∃ d, evD Tryz.prog M' δ R_verify_outside = some d ∧ R d M') (fun _ _ _ => False) (fun δ M' => ∃ d, evD Tryz.prog M' δ R_verify_outside = some d ∧ R d M') (argD ds) M) :
    PC Tryz.prog F_verify_outside ds R M :=
  pc_opt Tryz.func133 (c := Tryz.f133.body.getD .skip) (by kernel_rfl) (by kernel_rfl) (by kernel_rfl) dec_verify_outside res_verify_outside _ hl h
abbrev F_slices_Repeat_int_int : Nat := 134
def G_slices_Repeat_int_int : List Nat := [0, 1, 4, 5, 6, 7, 8, 10, 26, 37]
def MU_slices_Repeat_int_int (d : Nat) : Bool := ([] : List Nat).contains d
def O0_slices_Repeat_int_int : Array Oper := #[⟨(some 38), (.move (.tmp 8)), 3, "slices.go:528", #[], none⟩, ⟨(some 39), (.move (.tmp 7)), 48, "slices.go:528", #[], none⟩, ⟨(some 40), (.move (.tmp 8)), 3, "slices.go:528", #[], none⟩, ⟨(some 41), (.slice 48 (.tmp 39) (some (.tmp 40)) none none), 48, "slices.go:528", #[⟨1, .data⟩, ⟨2, .data⟩], none⟩, ⟨(some 42), (.move (.tmp 7)), 48, "slices.go:528", #[], none⟩, ⟨(some 43), (.move (.tmp 8)), 3, "slices.go:528", #[], none⟩, ⟨(some 44), (.slice 48 (.tmp 42) none (some (.tmp 43)) none), 48, "slices.go:528", #[⟨4, .data⟩, ⟨5, .data⟩], none⟩, ⟨(some 45), (.call ⟨(.builtin .copy), #[(.tmp 41), (.tmp 44)], #[48, 48]⟩), 3, "slices.go:528", #[⟨3, .data⟩, ⟨6, .data⟩], none⟩, ⟨(some 46), (.binOp .add 3 (.tmp 38) (.tmp 45) 3), 3, "slices.go:528", #[⟨0, .data⟩, ⟨7, .data⟩], none⟩, ⟨(some 8), (.assign (.tmp 46)), 3, "slices.go:528", #[⟨8, .data⟩, ⟨7, .chain⟩, ⟨0, .phase⟩, ⟨1, .phase⟩, ⟨2, .phase⟩, ⟨3, .phase⟩, ⟨4, .phase⟩, ⟨5, .phase⟩, ⟨6, .phase⟩, ⟨7, .phase⟩, ⟨8, .phase⟩], none⟩]
def P0_slices_Repeat_int_int : List Sp := [.rd 38 (.s 8), .rd 39 (.s 7), .rd 40 (.s 8), .rd 41 (.slc 1 (.s 39) (.cs (.s 40) .nl) .nl .nl), .rd 42 (.s 7), .rd 43 (.s 8), .rd 44 (.slc 1 (.s 42) .nl (.cs (.s 43) .nl) .nl), .ck 38 (.s 8), .ck 39 (.s 7), .ck 40 (.s 8), .ck 41 (.slc 1 (.s 39) (.cs (.s 40) .nl) .nl .nl), .ck 42 (.s 7), .ck 43 (.s 8), .ck 44 (.slc 1 (.s 42) .nl (.cs (.s 43) .nl) .nl), .hd (some 45) (.cpy 1 (.tmp 41) (.tmp 44)), .rd 46 (.bin .add (.s 38) (.s 45)), .ck 38 (.s 8), .ck 46 (.bin .add (.s 38) (.s 45)), .rd 8 (.s 46)]
theorem plan0_slices_Repeat_int_int : planD Tryz.prog (fun f => roL.contains f) (fun t => G_slices_Repeat_int_int.contains t) 48 MU_slices_Repeat_int_int O0_slices_Repeat_int_int = some P0_slices_Repeat_int_int := by kernel_rfl
theorem raw0_slices_Repeat_int_int (K : DEnv → DMem → Prop) (X : Nat → DEnv → DMem → Prop) (R : DEnv → DMem → Prop) (δ : DEnv) (M : DMem) : rawW Tryz.prog MU_slices_Repeat_int_int (fun f => roL.contains f) (fun t => G_slices_Repeat_int_int.contains t) 48 (.region 9 O0_slices_Repeat_int_int true) K X R δ M = wpSp Tryz.prog MU_slices_Repeat_int_int K P0_slices_Repeat_int_int δ M := rawW_eq plan0_slices_Repeat_int_int K X R δ M
noncomputable def S1_slices_Repeat_int_int : St := (.seq (.sets [(37, (.bin .lss (.s 8) (.len (.s 7))))] []) (.seq (.ite (.s 37) .nop (.exit 0)) (.block 1 (.raw (.region 9 O0_slices_Repeat_int_int true)))))
noncomputable def S2_slices_Repeat_int_int : St := (.seq (.sets [(5, (.ext 0 (.s 18))), (6, (.ext 1 (.s 18)))] []) (.seq (.sets [(26, (.or (.bin .gtr (.s 5) (.k (.int .u64 0))) (.bin .gtr (.s 6) (.k (.int .u64 9223372036854775807)))))] []) (.seq (.ite (.s 26) (.seq (.sets [(27, (.ifc 9 (.k (.string ⟨#[116, 104, 101, 32, 114, 101, 115, 117, 108, 116, 32, 111, 102, 32, 40, 108, 101, 110, 40, 120, 41, 32, 42, 32, 99, 111, 117, 110, 116, 41, 32, 111, 118, 101, 114, 102, 108, 111, 119, 115]⟩))))] []) (.seq (.eff ⟨none, (.panic (.tmp 27)), 0, "", #[], none⟩) (.sets [] []))) .nop) (.seq (.sets [(29, (.cvt .i64 (.s 6)))] []) (.seq (.act (some 30) (.make 3 1 8 (.int .i64 0) (.tmp 29) (.tmp 29))) (.seq (.sets [(7, (.s 30))] []) (.seq (.sets [(31, (.s 7)), (32, (.s 0))] []) (.seq (.act (some 33) (.cpy 1 (.tmp 31) (.tmp 32))) (.seq (.sets [(8, (.s 33))] []) (.seq (.block 0 (.loop S1_slices_Repeat_int_int)) (.seq (.sets [(4, (.s 7))] []) .ret)))))))))))
noncomputable def S_slices_Repeat_int_int : St := (.seq (.sets [(4, (.k (.slice none 0 0)))] []) (.seq (.sets [(10, (.bin .lss (.s 1) (.k (.int .i64 0))))] []) (.seq (.ite (.s 10) (.seq (.sets [(11, (.ifc 9 (.k (.string ⟨#[99, 97, 110, 110, 111, 116, 32, 98, 101, 32, 110, 101, 103, 97, 116, 105, 118, 101]⟩))))] []) (.seq (.eff ⟨none, (.panic (.tmp 11)), 0, "", #[], none⟩) (.sets [] []))) .nop) (.seq (.sets [(15, (.cvt .u64 (.len (.s 0)))), (17, (.cvt .u64 (.s 1)))] []) (.seq (.act (some 18) (.call 151 [(.tmp 15), (.tmp 17)])) S2_slices_Repeat_int_int)))))
noncomputable def R_slices_Repeat_int_int : Ex := (.s 4)
theorem dec_slices_Repeat_int_int : opt (dec Tryz.prog (fun f => roL.contains f) (fun t => G_slices_Repeat_int_int.contains t) 48 (Tryz.f134.body.getD .skip)) = S_slices_Repeat_int_int := by kernel_rfl
theorem res_slices_Repeat_int_int : resE Tryz.prog (fun t => G_slices_Repeat_int_int.contains t) Tryz.f134.results.toList = some R_slices_Repeat_int_int := by kernel_rfl
theorem pc_slices_Repeat_int_int {ds : List DV} {R : DV → DMem → Prop} {M : DMem} (hl : ds.length ≤ 48)
    (h : wpD Tryz.prog MU_slices_Repeat_int_int (fun f => roL.contains f) (fun t => G_slices_Repeat_int_int.contains t) 48 S_slices_Repeat_int_int (fun δ M' => ∃ d, evD Tryz.prog M' δ R_slices_Repeat_int_int = some d ∧ R d M') (fun _ _ _ => False) (fun δ M' => ∃ d, evD Tryz.prog M' δ R_slices_Repeat_int_int = some d ∧ R d M') (argD ds) M) :
    PC Tryz.prog F_slices_Repeat_int_int ds R M :=
  pc_opt Tryz.func134 (c := Tryz.f134.body.getD .skip) (by kernel_rfl) (by kernel_rfl) (by kernel_rfl) dec_slices_Repeat_int_int res_slices_Repeat_int_int _ hl h
abbrev F_ins_Effect : Nat := 135
def G_ins_Effect : List Nat := [0, 1, 2, 4, 5, 6, 7, 8, 19, 21, 22, 25, 33, 39, 41]
def MU_ins_Effect (d : Nat) : Bool := ([] : List Nat).contains d
noncomputable def S_ins_Effect : St := (.seq (.act (some 2) (.box 63 (.tmp 0))) (.seq (.sets [(4, (.k (.int .i64 0))), (5, (.k (.int .i64 0))), (6, (.k (.int .i64 0)))] []) (.seq (.sets [(19, (.or (.or (.un .not (.call 129 (.cs (.ldn 2 (.s 2)) .nl))) (.bin .lss (.s 1) (.k (.int .i64 0)))) (.bin .gtr (.s 1) (.k (.int .i64 4)))))] []) (.seq (.ite (.s 19) (.seq (.sets [(4, (.k (.int .i64 0))), (5, (.k (.int .i64 0))), (6, (.k (.int .i64 200)))] []) .ret) .nop) (.seq (.sets [(7, (.k (.int .i64 0))), (8, (.k (.int .i64 0)))] []) (.seq (.sets [(21, (.ld (.fa 0 (.s 2))))] []) (.seq (.block 0 (.seq (.block 5 (.seq (.block 4 (.seq (.block 3 (.seq (.block 2 (.seq (.block 1 (.seq (.sets [(22, (.or (.bin .eql (.s 21) (.k (.int .i64 0))) (.bin .eql (.s 21) (.k (.int .i64 1)))))] []) (.seq (.ite (.s 22) (.exit 1) .nop) (.seq (.sets [(25, (.or (.bin .eql (.s 21) (.k (.int .i64 3))) (.or (.bin .eql (.s 21) (.k (.int .i64 4))) (.or (.bin .eql (.s 21) (.k (.int .i64 5))) (.or (.bin .eql (.s 21) (.k (.int .i64 6))) (.or (.bin .eql (.s 21) (.k (.int .i64 7))) (.or (.bin .eql (.s 21) (.k (.int .i64 8))) (.bin .eql (.s 21) (.k (.int .i64 9))))))))))] []) (.seq (.ite (.s 25) (.exit 2) .nop) (.seq (.sets [(33, (.or (.bin .eql (.s 21) (.k (.int .i64 2))) (.or (.bin .eql (.s 21) (.k (.int .i64 11))) (.or (.bin .eql (.s 21) (.k (.int .i64 13))) (.or (.bin .eql (.s 21) (.k (.int .i64 15))) (.bin .eql (.s 21) (.k (.int .i64 16))))))))] []) (.seq (.ite (.s 33) (.exit 3) .nop) (.seq (.sets [(39, (.bin .eql (.s 21) (.k (.int .i64 10))))] []) (.seq (.ite (.s 39) (.exit 4) .nop) (.seq (.sets [(41, (.bin .eql (.s 21) (.k (.int .i64 14))))] []) (.seq (.ite (.s 41) (.exit 5) .nop) (.exit 0)))))))))))) (.seq (.sets [(8, (.k (.int .i64 1)))] []) (.exit 0)))) (.seq (.sets [(8, (.k (.int .i64 1)))] []) (.sets [(7, (.bin .add (.s 7) (.k (.int .i64 1))))] [])))) (.seq (.sets [(7, (.bin .add (.s 7) (.k (.int .i64 1))))] []) (.exit 0)))) (.seq (.sets [(7, (.k (.int .i64 1))), (8, (.k (.int .i64 2)))] []) (.exit 0)))) (.seq (.sets [(7, (.s 1)), (8, (.k (.int .i64 1)))] []) (.exit 0)))) (.seq (.sets [(4, (.s 7)), (5, (.s 8)), (6, (.k (.int .i64 0)))] []) .ret))))))))
noncomputable def R_ins_Effect : Ex := (.cs (.s 4) (.cs (.s 5) (.cs (.s 6) .nl)))
theorem dec_ins_Effect : opt (dec Tryz.prog (fun f => roL.contains f) (fun t => G_ins_Effect.contains t) 50 (Tryz.f135.body.getD .skip)) = S_ins_Effect := by kernel_rfl
theorem res_ins_Effect : resE Tryz.prog (fun t => G_ins_Effect.contains t) Tryz.f135.results.toList = some R_ins_Effect := by kernel_rfl
theorem pc_ins_Effect {ds : List DV} {R : DV → DMem → Prop} {M : DMem} (hl : ds.length ≤ 50)
    (h : wpD Tryz.prog MU_ins_Effect (fun f => roL.contains f) (fun t => G_ins_Effect.contains t) 50 S_ins_Effect (fun δ M' => ∃ d, evD Tryz.prog M' δ R_ins_Effect = some d ∧ R d M') (fun _ _ _ => False) (fun δ M' => ∃ d, evD Tryz.prog M' δ R_ins_Effect = some d ∧ R d M') (argD ds) M) :
    PC Tryz.prog F_ins_Effect ds R M :=
  pc_opt Tryz.func135 (c := Tryz.f135.body.getD .skip) (by kernel_rfl) (by kernel_rfl) (by kernel_rfl) dec_ins_Effect res_ins_Effect _ hl h
abbrev F_verify_args : Nat := 136
def G_verify_args : List Nat := [0, 1, 3, 4, 7]
def MU_verify_args (d : Nat) : Bool := ([] : List Nat).contains d
noncomputable def S_verify_args : St := (.seq (.act (some 3) (.box 63 (.tmp 1))) (.seq (.sets [(4, (.k (.int .i64 0)))] []) (.seq (.sets [(7, (.bin .eql (.ld (.fa 0 (.s 3))) (.k (.int .i64 14))))] []) (.seq (.ite (.s 7) (.seq (.sets [(4, (.ld (.fa 0 (.ix 3 (.ld (.fa 0 (.nck (.s 0)))) (.ld (.fa 1 (.s 3)))))))] []) .ret) .nop) (.seq (.sets [(4, (.k (.int .i64 0)))] []) .ret)))))
noncomputable def R_verify_args : Ex := (.s 4)
theorem dec_verify_args : opt (dec Tryz.prog (fun f => roL.contains f) (fun t => G_verify_args.contains t) 17 (Tryz.f136.body.getD .skip)) = S_verify_args := by kernel_rfl
theorem res_verify_args : resE Tryz.prog (fun t => G_verify_args.contains t) Tryz.f136.results.toList = some R_verify_args := by kernel_rfl
theorem pc_verify_args {ds : List DV} {R : DV → DMem → Prop} {M : DMem} (hl : ds.length ≤ 17)
    (h : wpD Tryz.prog MU_verify_args (fun f => roL.contains f) (fun t => G_verify_args.contains t) 17 S_verify_args (fun δ M' => ∃ d, evD Tryz.prog M' δ R_verify_args = some d ∧ R d M') (fun _ _ _ => False) (fun δ M' => ∃ d, evD Tryz.prog M' δ R_verify_args = some d ∧ R d M') (argD ds) M) :
    PC Tryz.prog F_verify_args ds R M :=
  pc_opt Tryz.func136 (c := Tryz.f136.body.getD .skip) (by kernel_rfl) (by kernel_rfl) (by kernel_rfl) dec_verify_args res_verify_args _ hl h
abbrev F_flow_Next : Nat := 137
def G_flow_Next : List Nat := [0, 1, 2, 4, 5, 18]
def MU_flow_Next (d : Nat) : Bool := ([] : List Nat).contains d
noncomputable def S1_flow_Next : St := (.seq (.sets [(4, (.s 20)), (5, (.k (.int .i64 0)))] []) .ret)
noncomputable def S_flow_Next : St := (.seq (.act (some 2) (.box 53 (.tmp 0))) (.seq (.sets [(4, (.k (.slice none 0 0))), (5, (.k (.int .i64 0)))] []) (.seq (.sets [(18, (.or (.or (.un .not (.call 131 (.cs (.s 2) .nl))) (.bin .lss (.s 1) (.k (.int .i64 0)))) (.bin .geq (.s 1) (.len (.ld (.fa 2 (.s 2)))))))] []) (.seq (.ite (.s 18) (.seq (.sets [(4, (.k (.slice none 0 0))), (5, (.k (.int .i64 400)))] []) .ret) .nop) (.seq (.sets [(19, (.s 1))] []) (.seq (.act (some 20) (.call 132 [(.tmp 2), (.tmp 19)])) S1_flow_Next))))))
noncomputable def R_flow_Next : Ex := (.cs (.s 4) (.cs (.s 5) .nl))
theorem dec_flow_Next : opt (dec Tryz.prog (fun f => roL.contains f) (fun t => G_flow_Next.contains t) 21 (Tryz.f137.body.getD .skip)) = S_flow_Next := by kernel_rfl
theorem res_flow_Next : resE Tryz.prog (fun t => G_flow_Next.contains t) Tryz.f137.results.toList = some R_flow_Next := by kernel_rfl
theorem pc_flow_Next {ds : List DV} {R : DV → DMem → Prop} {M : DMem} (hl : ds.length ≤ 21)
    (h : wpD Tryz.prog MU_flow_Next (fun f => roL.contains f) (fun t => G_flow_Next.contains t) 21 S_flow_Next (fun δ M' => ∃ d, evD Tryz.prog M' δ R_flow_Next = some d ∧ R d M') (fun _ _ _ => False) (fun δ M' => ∃ d, evD Tryz.prog M' δ R_flow_Next = some d ∧ R d M') (argD ds) M) :
    PC Tryz.prog F_flow_Next ds R M :=
  pc_opt Tryz.func137 (c := Tryz.f137.body.getD .skip) (by kernel_rfl) (by kernel_rfl) (by kernel_rfl) dec_flow_Next res_flow_Next _ hl h
abbrev F_swageref1_InsMay : Nat := 139
def G_swageref1_InsMay : List Nat := [0, 1, 2, 4, 5, 10, 21, 32]
def MU_swageref1_InsMay (d : Nat) : Bool := ([] : List Nat).contains d
noncomputable def S_swageref1_InsMay : St := (.seq (.act (some 1) (.box 63 (.tmp 0))) (.seq (.sets [(2, (.k (.bool false)))] []) (.seq (.sets [(4, (.ld (.fa 0 (.s 1))))] []) (.seq (.block 0 (.seq (.sets [(5, (.bin .eql (.s 4) (.k (.int .i64 0))))] []) (.ite (.s 5) (.seq (.sets [(2, (.call 99 (.cs (.ld (.fa 1 (.s 1))) .nl)))] []) .ret) (.seq (.sets [(10, (.or (.bin .eql (.s 4) (.k (.int .i64 1))) (.bin .eql (.s 4) (.k (.int .i64 2)))))] []) (.ite (.s 10) (.seq (.sets [(2, (.and (.bin .geq (.ld (.fa 1 (.s 1))) (.k (.int .i64 0))) (.bin .lss (.ld (.fa 1 (.s 1))) (.k (.int .i64 8)))))] []) .ret) (.seq (.sets [(21, (.or (.bin .eql (.s 4) (.k (.int .i64 12))) (.bin .eql (.s 4) (.k (.int .i64 13)))))] []) (.ite (.s 21) (.seq (.sets [(2, (.and (.bin .geq (.ld (.fa 1 (.s 1))) (.k (.int .i64 0))) (.bin .lss (.ld (.fa 1 (.s 1))) (.k (.int .i64 64)))))] []) .ret) (.seq (.sets [(32, (.bin .eql (.s 4) (.k (.int .i64 14))))] []) (.ite (.s 32) (.seq (.sets [(2, (.and (.bin .geq (.ld (.fa 1 (.s 1))) (.k (.int .i64 0))) (.bin .lss (.ld (.fa 1 (.s 1))) (.k (.int .i64 8)))))] []) .ret) .nop))))))))) (.seq (.sets [(2, (.and (.and (.bin .geq (.ld (.fa 0 (.s 1))) (.k (.int .i64 3))) (.bin .leq (.ld (.fa 0 (.s 1))) (.k (.int .i64 16)))) (.bin .eql (.ld (.fa 1 (.s 1))) (.k (.int .i64 0)))))] []) .ret)))))
noncomputable def R_swageref1_InsMay : Ex := (.s 2)
theorem dec_swageref1_InsMay : opt (dec Tryz.prog (fun f => roL.contains f) (fun t => G_swageref1_InsMay.contains t) 55 (Tryz.f139.body.getD .skip)) = S_swageref1_InsMay := by kernel_rfl
theorem res_swageref1_InsMay : resE Tryz.prog (fun t => G_swageref1_InsMay.contains t) Tryz.f139.results.toList = some R_swageref1_InsMay := by kernel_rfl
theorem pc_swageref1_InsMay {ds : List DV} {R : DV → DMem → Prop} {M : DMem} (hl : ds.length ≤ 55)
    (h : wpD Tryz.prog MU_swageref1_InsMay (fun f => roL.contains f) (fun t => G_swageref1_InsMay.contains t) 55 S_swageref1_InsMay (fun δ M' => ∃ d, evD Tryz.prog M' δ R_swageref1_InsMay = some d ∧ R d M') (fun _ _ _ => False) (fun δ M' => ∃ d, evD Tryz.prog M' δ R_swageref1_InsMay = some d ∧ R d M') (argD ds) M) :
    PC Tryz.prog F_swageref1_InsMay ds R M :=
  pc_opt Tryz.func139 (c := Tryz.f139.body.getD .skip) (by kernel_rfl) (by kernel_rfl) (by kernel_rfl) dec_swageref1_InsMay res_swageref1_InsMay _ hl h
abbrev F_swageref1_Next : Nat := 140
def G_swageref1_Next : List Nat := [0, 1, 2, 4, 5, 6, 7, 21, 42, 76]
def MU_swageref1_Next (d : Nat) : Bool := ([] : List Nat).contains d
noncomputable def S_swageref1_Next : St := (.seq (.act (some 2) (.box 53 (.tmp 0))) (.seq (.sets [(4, (.k (.slice none 0 0))), (5, (.k (.int .i64 0)))] []) (.seq (.sets [(21, (.or (.or (.un .not (.call 118 (.cs (.ldn 3 (.s 2)) .nl))) (.bin .lss (.s 1) (.k (.int .i64 0)))) (.bin .geq (.s 1) (.len (.ld (.fa 2 (.s 2)))))))] []) (.seq (.ite (.s 21) (.seq (.sets [(4, (.k (.slice none 0 0))), (5, (.k (.int .i64 400)))] []) .ret) .nop) (.seq (.sets [(26, (.ldn 2 (.ix 2 (.ld (.fa 2 (.s 2))) (.s 1))))] []) (.seq (.act (some 6) (.var 63 2 (.tmp 26))) (.seq (.sets [(7, (.k (.slice none 0 0)))] []) (.seq (.sets [(42, (.and (.and (.bin .neq (.ld (.fa 0 (.s 6))) (.k (.int .i64 16))) (.bin .neq (.ld (.fa 0 (.s 6))) (.k (.int .i64 12)))) (.bin .lss (.bin .add (.s 1) (.k (.int .i64 1))) (.len (.ld (.fa 2 (.s 2)))))))] []) (.seq (.ite (.s 42) (.seq (.sets [(43, (.s 7)), (45, (.bin .add (.s 1) (.k (.int .i64 1))))] []) (.seq (.act (some 46) (.bslice 3 1 [(.int .i64 0)] 1 [(0, (.tmp 45))])) (.seq (.act (some 47) (.app 3 1 8 (.tmp 43) (.tmp 46))) (.sets [(7, (.s 47))] [])))) .nop) (.seq (.sets [(76, (.and (.and (.or (.bin .eql (.ld (.fa 0 (.s 6))) (.k (.int .i64 12))) (.bin .eql (.ld (.fa 0 (.s 6))) (.k (.int .i64 13)))) (.bin .lss (.ld (.fa 1 (.s 6))) (.len (.ld (.fa 2 (.s 2)))))) (.or (.grd (.and (.or (.bin .eql (.ld (.fa 0 (.s 6))) (.k (.int .i64 12))) (.bin .eql (.ld (.fa 0 (.s 6))) (.k (.int .i64 13)))) (.bin .lss (.ld (.fa 1 (.s 6))) (.len (.ld (.fa 2 (.s 2)))))) true (.bin .eql (.len (.s 7)) (.k (.int .i64 0)))) (.bin .neq (.ld (.ix 1 (.s 7) (.k (.int .i64 0)))) (.ld (.fa 1 (.s 6)))))))] [(.grd (.grd (.and (.or (.bin .eql (.ld (.fa 0 (.s 6))) (.k (.int .i64 12))) (.bin .eql (.ld (.fa 0 (.s 6))) (.k (.int .i64 13)))) (.bin .lss (.ld (.fa 1 (.s 6))) (.len (.ld (.fa 2 (.s 2)))))) true (.bin .eql (.len (.s 7)) (.k (.int .i64 0)))) false (.bin .neq (.ld (.ix 1 (.s 7) (.k (.int .i64 0)))) (.ld (.fa 1 (.s 6)))))]) (.seq (.ite (.s 76) (.seq (.sets [(77, (.s 7)), (79, (.ld (.fa 1 (.s 6))))] []) (.seq (.act (some 80) (.bslice 3 1 [(.int .i64 0)] 1 [(0, (.tmp 79))])) (.seq (.act (some 81) (.app 3 1 8 (.tmp 77) (.tmp 80))) (.sets [(7, (.s 81))] [])))) .nop) (.seq (.sets [(4, (.s 7)), (5, (.k (.int .i64 0)))] []) .ret))))))))))))
noncomputable def R_swageref1_Next : Ex := (.cs (.s 4) (.cs (.s 5) .nl))
theorem dec_swageref1_Next : opt (dec Tryz.prog (fun f => roL.contains f) (fun t => G_swageref1_Next.contains t) 83 (Tryz.f140.body.getD .skip)) = S_swageref1_Next := by kernel_rfl
theorem res_swageref1_Next : resE Tryz.prog (fun t => G_swageref1_Next.contains t) Tryz.f140.results.toList = some R_swageref1_Next := by kernel_rfl
theorem pc_swageref1_Next {ds : List DV} {R : DV → DMem → Prop} {M : DMem} (hl : ds.length ≤ 83)
    (h : wpD Tryz.prog MU_swageref1_Next (fun f => roL.contains f) (fun t => G_swageref1_Next.contains t) 83 S_swageref1_Next (fun δ M' => ∃ d, evD Tryz.prog M' δ R_swageref1_Next = some d ∧ R d M') (fun _ _ _ => False) (fun δ M' => ∃ d, evD Tryz.prog M' δ R_swageref1_Next = some d ∧ R d M') (argD ds) M) :
    PC Tryz.prog F_swageref1_Next ds R M :=
  pc_opt Tryz.func140 (c := Tryz.f140.body.getD .skip) (by kernel_rfl) (by kernel_rfl) (by kernel_rfl) dec_swageref1_Next res_swageref1_Next _ hl h
abbrev F_swageref1_Effect : Nat := 141
def G_swageref1_Effect : List Nat := [0, 1, 2, 4, 5, 6, 17, 19, 20, 23, 29, 31, 33]
def MU_swageref1_Effect (d : Nat) : Bool := ([] : List Nat).contains d
noncomputable def S_swageref1_Effect : St := (.seq (.act (some 2) (.box 63 (.tmp 0))) (.seq (.sets [(4, (.k (.int .i64 0))), (5, (.k (.int .i64 0))), (6, (.k (.int .i64 0)))] []) (.seq (.sets [(17, (.or (.or (.un .not (.call 139 (.cs (.ldn 2 (.s 2)) .nl))) (.bin .lss (.s 1) (.k (.int .i64 0)))) (.bin .gtr (.s 1) (.k (.int .i64 4)))))] []) (.seq (.ite (.s 17) (.seq (.sets [(4, (.k (.int .i64 0))), (5, (.k (.int .i64 0))), (6, (.k (.int .i64 200)))] []) .ret) .nop) (.seq (.sets [(19, (.ld (.fa 0 (.s 2))))] []) (.seq (.block 0 (.seq (.sets [(20, (.or (.bin .eql (.s 19) (.k (.int .i64 0))) (.bin .eql (.s 19) (.k (.int .i64 1)))))] []) (.ite (.s 20) (.seq (.sets [(4, (.k (.int .i64 0))), (5, (.k (.int .i64 1))), (6, (.k (.int .i64 0)))] []) .ret) (.seq (.sets [(23, (.or (.bin .eql (.s 19) (.k (.int .i64 2))) (.or (.bin .eql (.s 19) (.k (.int .i64 11))) (.or (.bin .eql (.s 19) (.k (.int .i64 13))) (.or (.bin .eql (.s 19) (.k (.int .i64 15))) (.bin .eql (.s 19) (.k (.int .i64 16))))))))] []) (.ite (.s 23) (.seq (.sets [(4, (.k (.int .i64 1))), (5, (.k (.int .i64 0))), (6, (.k (.int .i64 0)))] []) .ret) (.seq (.sets [(29, (.bin .eql (.s 19) (.k (.int .i64 10))))] []) (.ite (.s 29) (.seq (.sets [(4, (.k (.int .i64 1))), (5, (.k (.int .i64 2))), (6, (.k (.int .i64 0)))] []) .ret) (.seq (.sets [(31, (.bin .eql (.s 19) (.k (.int .i64 12))))] []) (.ite (.s 31) (.seq (.sets [(4, (.k (.int .i64 0))), (5, (.k (.int .i64 0))), (6, (.k (.int .i64 0)))] []) .ret) (.seq (.sets [(33, (.bin .eql (.s 19) (.k (.int .i64 14))))] []) (.ite (.s 33) (.seq (.sets [(4, (.s 1)), (5, (.k (.int .i64 1))), (6, (.k (.int .i64 0)))] []) .ret) .nop))))))))))) (.seq (.sets [(4, (.k (.int .i64 2))), (5, (.k (.int .i64 1))), (6, (.k (.int .i64 0)))] []) .ret)))))))
noncomputable def R_swageref1_Effect : Ex := (.cs (.s 4) (.cs (.s 5) (.cs (.s 6) .nl)))
theorem dec_swageref1_Effect : opt (dec Tryz.prog (fun f => roL.contains f) (fun t => G_swageref1_Effect.contains t) 36 (Tryz.f141.body.getD .skip)) = S_swageref1_Effect := by kernel_rfl
theorem res_swageref1_Effect : resE Tryz.prog (fun t => G_swageref1_Effect.contains t) Tryz.f141.results.toList = some R_swageref1_Effect := by kernel_rfl
theorem pc_swageref1_Effect {ds : List DV} {R : DV → DMem → Prop} {M : DMem} (hl : ds.length ≤ 36)
    (h : wpD Tryz.prog MU_swageref1_Effect (fun f => roL.contains f) (fun t => G_swageref1_Effect.contains t) 36 S_swageref1_Effect (fun δ M' => ∃ d, evD Tryz.prog M' δ R_swageref1_Effect = some d ∧ R d M') (fun _ _ _ => False) (fun δ M' => ∃ d, evD Tryz.prog M' δ R_swageref1_Effect = some d ∧ R d M') (argD ds) M) :
    PC Tryz.prog F_swageref1_Effect ds R M :=
  pc_opt Tryz.func141 (c := Tryz.f141.body.getD .skip) (by kernel_rfl) (by kernel_rfl) (by kernel_rfl) dec_swageref1_Effect res_swageref1_Effect _ hl h
abbrev F_slices_IndexFunc_api_Src_api_Src : Nat := 142
def G_slices_IndexFunc_api_Src_api_Src : List Nat := [0, 1, 4, 5, 7, 8, 9, 16]
def MU_slices_IndexFunc_api_Src_api_Src (d : Nat) : Bool := ([] : List Nat).contains d
noncomputable def S1_slices_IndexFunc_api_Src_api_Src : St := (.seq (.sets [(9, (.bin .lss (.s 8) (.s 7)))] []) (.seq (.ite (.s 9) .nop (.exit 0)) (.seq (.block 1 (.seq (.sets [(5, (.s 8))] []) (.seq (.sets [(11, (.s 1)), (15, (.ldn 2 (.ix 2 (.s 0) (.s 5))))] []) (.seq (.act (some 16) (.callv 11 [(.tmp 15)])) (.ite (.s 16) (.seq (.sets [(4, (.s 5))] []) .ret) .nop))))) (.sets [(8, (.bin .add (.s 8) (.k (.int .i64 1))))] []))))
noncomputable def S_slices_IndexFunc_api_Src_api_Src : St := (.seq (.sets [(4, (.k (.int .i64 0)))] []) (.seq (.sets [(7, (.len (.s 0))), (8, (.k (.int .i64 0)))] []) (.seq (.block 0 (.loop S1_slices_IndexFunc_api_Src_api_Src)) (.seq (.sets [(4, (.k (.int .i64 (-1))))] []) .ret))))
noncomputable def R_slices_IndexFunc_api_Src_api_Src : Ex := (.s 4)
theorem dec_slices_IndexFunc_api_Src_api_Src : opt (dec Tryz.prog (fun f => roL.contains f) (fun t => G_slices_IndexFunc_api_Src_api_Src.contains t) 19 (Tryz.f142.body.getD .skip)) = S_slices_IndexFunc_api_Src_api_Src := by kernel_rfl
theorem res_slices_IndexFunc_api_Src_api_Src : resE Tryz.prog (fun t => G_slices_IndexFunc_api_Src_api_Src.contains t) Tryz.f142.results.toList = some R_slices_IndexFunc_api_Src_api_Src := by kernel_rfl
theorem pc_slices_IndexFunc_api_Src_api_Src {ds : List DV} {R : DV → DMem → Prop} {M : DMem} (hl : ds.length ≤ 19)
    (h : wpD Tryz.prog MU_slices_IndexFunc_api_Src_api_Src (fun f => roL.contains f) (fun t => G_slices_IndexFunc_api_Src_api_Src.contains t) 19 S_slices_IndexFunc_api_Src_api_Src (fun δ M' => ∃ d, evD Tryz.prog M' δ R_slices_IndexFunc_api_Src_api_Src = some d ∧ R d M') (fun _ _ _ => False) (fun δ M' => ∃ d, evD Tryz.prog M' δ R_slices_IndexFunc_api_Src_api_Src = some d ∧ R d M') (argD ds) M) :
    PC Tryz.prog F_slices_IndexFunc_api_Src_api_Src ds R M :=
  pc_opt Tryz.func142 (c := Tryz.f142.body.getD .skip) (by kernel_rfl) (by kernel_rfl) (by kernel_rfl) dec_slices_IndexFunc_api_Src_api_Src res_slices_IndexFunc_api_Src_api_Src _ hl h
abbrev F_ins_below : Nat := 145
def G_ins_below : List Nat := [0, 2, 3, 4, 7, 10]
def MU_ins_below (d : Nat) : Bool := ([] : List Nat).contains d
noncomputable def S_ins_below : St := (.seq (.sets [(2, (.k (.int .i64 0)))] []) (.seq (.sets [(3, (.s 0))] []) (.seq (.block 0 (.seq (.sets [(4, (.or (.bin .eql (.s 3) (.k (.int .i64 1))) (.bin .eql (.s 3) (.k (.int .i64 2)))))] []) (.ite (.s 4) (.seq (.sets [(2, (.k (.int .i64 8)))] []) .ret) (.seq (.sets [(7, (.or (.bin .eql (.s 3) (.k (.int .i64 12))) (.bin .eql (.s 3) (.k (.int .i64 13)))))] []) (.ite (.s 7) (.seq (.sets [(2, (.k (.int .i64 64)))] []) .ret) (.seq (.sets [(10, (.bin .eql (.s 3) (.k (.int .i64 14))))] []) (.ite (.s 10) (.seq (.sets [(2, (.k (.int .i64 8)))] []) .ret) .nop))))))) (.seq (.sets [(2, (.k (.int .i64 1)))] []) .ret))))
noncomputable def R_ins_below : Ex := (.s 2)
theorem dec_ins_below : opt (dec Tryz.prog (fun f => roL.contains f) (fun t => G_ins_below.contains t) 12 (Tryz.f145.body.getD .skip)) = S_ins_below := by kernel_rfl
theorem res_ins_below : resE Tryz.prog (fun t => G_ins_below.contains t) Tryz.f145.results.toList = some R_ins_below := by kernel_rfl
theorem pc_ins_below {ds : List DV} {R : DV → DMem → Prop} {M : DMem} (hl : ds.length ≤ 12)
    (h : wpD Tryz.prog MU_ins_below (fun f => roL.contains f) (fun t => G_ins_below.contains t) 12 S_ins_below (fun δ M' => ∃ d, evD Tryz.prog M' δ R_ins_below = some d ∧ R d M') (fun _ _ _ => False) (fun δ M' => ∃ d, evD Tryz.prog M' δ R_ins_below = some d ∧ R d M') (argD ds) M) :
    PC Tryz.prog F_ins_below ds R M :=
  pc_opt Tryz.func145 (c := Tryz.f145.body.getD .skip) (by kernel_rfl) (by kernel_rfl) (by kernel_rfl) dec_ins_below res_ins_below _ hl h
abbrev F_slices_IndexFunc_api_Ins_api_Ins : Nat := 146
def G_slices_IndexFunc_api_Ins_api_Ins : List Nat := [0, 1, 4, 5, 7, 8, 9, 16]
def MU_slices_IndexFunc_api_Ins_api_Ins (d : Nat) : Bool := ([] : List Nat).contains d
noncomputable def S1_slices_IndexFunc_api_Ins_api_Ins : St := (.seq (.sets [(9, (.bin .lss (.s 8) (.s 7)))] []) (.seq (.ite (.s 9) .nop (.exit 0)) (.seq (.block 1 (.seq (.sets [(5, (.s 8))] []) (.seq (.sets [(11, (.s 1)), (15, (.ldn 2 (.ix 2 (.s 0) (.s 5))))] []) (.seq (.act (some 16) (.callv 11 [(.tmp 15)])) (.ite (.s 16) (.seq (.sets [(4, (.s 5))] []) .ret) .nop))))) (.sets [(8, (.bin .add (.s 8) (.k (.int .i64 1))))] []))))
noncomputable def S_slices_IndexFunc_api_Ins_api_Ins : St := (.seq (.sets [(4, (.k (.int .i64 0)))] []) (.seq (.sets [(7, (.len (.s 0))), (8, (.k (.int .i64 0)))] []) (.seq (.block 0 (.loop S1_slices_IndexFunc_api_Ins_api_Ins)) (.seq (.sets [(4, (.k (.int .i64 (-1))))] []) .ret))))
noncomputable def R_slices_IndexFunc_api_Ins_api_Ins : Ex := (.s 4)
theorem dec_slices_IndexFunc_api_Ins_api_Ins : opt (dec Tryz.prog (fun f => roL.contains f) (fun t => G_slices_IndexFunc_api_Ins_api_Ins.contains t) 19 (Tryz.f146.body.getD .skip)) = S_slices_IndexFunc_api_Ins_api_Ins := by kernel_rfl
theorem res_slices_IndexFunc_api_Ins_api_Ins : resE Tryz.prog (fun t => G_slices_IndexFunc_api_Ins_api_Ins.contains t) Tryz.f146.results.toList = some R_slices_IndexFunc_api_Ins_api_Ins := by kernel_rfl
theorem pc_slices_IndexFunc_api_Ins_api_Ins {ds : List DV} {R : DV → DMem → Prop} {M : DMem} (hl : ds.length ≤ 19)
    (h : wpD Tryz.prog MU_slices_IndexFunc_api_Ins_api_Ins (fun f => roL.contains f) (fun t => G_slices_IndexFunc_api_Ins_api_Ins.contains t) 19 S_slices_IndexFunc_api_Ins_api_Ins (fun δ M' => ∃ d, evD Tryz.prog M' δ R_slices_IndexFunc_api_Ins_api_Ins = some d ∧ R d M') (fun _ _ _ => False) (fun δ M' => ∃ d, evD Tryz.prog M' δ R_slices_IndexFunc_api_Ins_api_Ins = some d ∧ R d M') (argD ds) M) :
    PC Tryz.prog F_slices_IndexFunc_api_Ins_api_Ins ds R M :=
  pc_opt Tryz.func146 (c := Tryz.f146.body.getD .skip) (by kernel_rfl) (by kernel_rfl) (by kernel_rfl) dec_slices_IndexFunc_api_Ins_api_Ins res_slices_IndexFunc_api_Ins_api_Ins _ hl h
abbrev F_flow_may_1 : Nat := 147
def G_flow_may_1 : List Nat := [0, 1, 2]
def MU_flow_may_1 (d : Nat) : Bool := ([] : List Nat).contains d
noncomputable def S_flow_may_1 : St := (.seq (.act (some 1) (.box 63 (.tmp 0))) (.seq (.sets [(2, (.k (.bool false)))] []) (.seq (.sets [(2, (.un .not (.call 129 (.cs (.ldn 2 (.s 1)) .nl))))] []) .ret)))
noncomputable def R_flow_may_1 : Ex := (.s 2)
theorem dec_flow_may_1 : opt (dec Tryz.prog (fun f => roL.contains f) (fun t => G_flow_may_1.contains t) 6 (Tryz.f147.body.getD .skip)) = S_flow_may_1 := by kernel_rfl
theorem res_flow_may_1 : resE Tryz.prog (fun t => G_flow_may_1.contains t) Tryz.f147.results.toList = some R_flow_may_1 := by kernel_rfl
theorem pc_flow_may_1 {ds : List DV} {R : DV → DMem → Prop} {M : DMem} (hl : ds.length ≤ 6)
    (h : wpD Tryz.prog MU_flow_may_1 (fun f => roL.contains f) (fun t => G_flow_may_1.contains t) 6 S_flow_may_1 (fun δ M' => ∃ d, evD Tryz.prog M' δ R_flow_may_1 = some d ∧ R d M') (fun _ _ _ => False) (fun δ M' => ∃ d, evD Tryz.prog M' δ R_flow_may_1 = some d ∧ R d M') (argD ds) M) :
    PC Tryz.prog F_flow_may_1 ds R M :=
  pc_opt Tryz.func147 (c := Tryz.f147.body.getD .skip) (by kernel_rfl) (by kernel_rfl) (by kernel_rfl) dec_flow_may_1 res_flow_may_1 _ hl h
abbrev F_flow_next_1 : Nat := 148
def G_flow_next_1 : List Nat := [0, 1, 3]
def MU_flow_next_1 (d : Nat) : Bool := ([] : List Nat).contains d
noncomputable def S_flow_next_1 : St := (.seq (.sets [(3, (.k (.bool false)))] []) (.seq (.sets [(3, (.bin .geq (.s 0) (.len (.ld (.fa 2 (.nck (.ld (.s 1))))))))] []) .ret))
noncomputable def R_flow_next_1 : Ex := (.s 3)
theorem dec_flow_next_1 : opt (dec Tryz.prog (fun f => roL.contains f) (fun t => G_flow_next_1.contains t) 11 (Tryz.f148.body.getD .skip)) = S_flow_next_1 := by kernel_rfl
theorem res_flow_next_1 : resE Tryz.prog (fun t => G_flow_next_1.contains t) Tryz.f148.results.toList = some R_flow_next_1 := by kernel_rfl
theorem pc_flow_next_1 {ds : List DV} {R : DV → DMem → Prop} {M : DMem} (hl : ds.length ≤ 11)
    (h : wpD Tryz.prog MU_flow_next_1 (fun f => roL.contains f) (fun t => G_flow_next_1.contains t) 11 S_flow_next_1 (fun δ M' => ∃ d, evD Tryz.prog M' δ R_flow_next_1 = some d ∧ R d M') (fun _ _ _ => False) (fun δ M' => ∃ d, evD Tryz.prog M' δ R_flow_next_1 = some d ∧ R d M') (argD ds) M) :
    PC Tryz.prog F_flow_next_1 ds R M :=
  pc_opt Tryz.func148 (c := Tryz.f148.body.getD .skip) (by kernel_rfl) (by kernel_rfl) (by kernel_rfl) dec_flow_next_1 res_flow_next_1 _ hl h
abbrev F_slices_Compact_int_int : Nat := 149
def G_slices_Compact_int_int : List Nat := [0, 2, 3, 4, 5, 8, 13, 25, 32, 44]
def MU_slices_Compact_int_int (d : Nat) : Bool := ([] : List Nat).contains d
noncomputable def S1_slices_Compact_int_int : St := (.seq (.sets [(32, (.bin .lss (.s 5) (.len (.s 4))))] []) (.seq (.ite (.s 32) .nop (.exit 2)) (.seq (.block 3 (.seq (.sets [(44, (.bin .neq (.ld (.ix 1 (.s 4) (.s 5))) (.ld (.ix 1 (.s 4) (.bin .sub (.s 5) (.k (.int .i64 1)))))))] []) (.ite (.s 44) (.seq (.sets [(50, (.ld (.ix 1 (.s 4) (.s 5)))), (51, (.ix 1 (.s 0) (.s 3)))] []) (.seq (.act none (.store 1 (.tmp 51) (.tmp 50))) (.sets [(3, (.bin .add (.s 3) (.k (.int .i64 1))))] []))) .nop))) (.sets [(5, (.bin .add (.s 5) (.k (.int .i64 1))))] []))))
noncomputable def S2_slices_Compact_int_int : St := (.seq (.sets [(56, (.slc 1 (.s 0) (.cs (.s 3) .nl) .nl .nl))] []) (.seq (.act none (.clr 1 (.int .i64 0) (.tmp 56))) (.seq (.sets [(2, (.slc 1 (.s 0) .nl (.cs (.s 3) .nl) .nl))] []) .ret)))
noncomputable def S3_slices_Compact_int_int : St := (.seq (.sets [(13, (.bin .lss (.s 3) (.len (.s 0))))] []) (.seq (.ite (.s 13) .nop (.exit 0)) (.seq (.block 1 (.seq (.sets [(25, (.bin .eql (.ld (.ix 1 (.s 0) (.s 3))) (.ld (.ix 1 (.s 0) (.bin .sub (.s 3) (.k (.int .i64 1)))))))] []) (.ite (.s 25) (.seq (.sets [(4, (.slc 1 (.s 0) (.cs (.s 3) .nl) .nl .nl))] []) (.seq (.sets [(5, (.k (.int .i64 1)))] []) (.seq (.block 2 (.loop S1_slices_Compact_int_int)) S2_slices_Compact_int_int))) .nop))) (.sets [(3, (.bin .add (.s 3) (.k (.int .i64 1))))] []))))
noncomputable def S_slices_Compact_int_int : St := (.seq (.sets [(2, (.k (.slice none 0 0)))] []) (.seq (.sets [(8, (.bin .lss (.len (.s 0)) (.k (.int .i64 2))))] []) (.seq (.ite (.s 8) (.seq (.sets [(2, (.s 0))] []) .ret) .nop) (.seq (.sets [(3, (.k (.int .i64 1)))] []) (.seq (.block 0 (.loop S3_slices_Compact_int_int)) (.seq (.sets [(2, (.s 0))] []) .ret))))))
noncomputable def R_slices_Compact_int_int : Ex := (.s 2)
theorem dec_slices_Compact_int_int : opt (dec Tryz.prog (fun f => roL.contains f) (fun t => G_slices_Compact_int_int.contains t) 61 (Tryz.f149.body.getD .skip)) = S_slices_Compact_int_int := by kernel_rfl
theorem res_slices_Compact_int_int : resE Tryz.prog (fun t => G_slices_Compact_int_int.contains t) Tryz.f149.results.toList = some R_slices_Compact_int_int := by kernel_rfl
theorem pc_slices_Compact_int_int {ds : List DV} {R : DV → DMem → Prop} {M : DMem} (hl : ds.length ≤ 61)
    (h : wpD Tryz.prog MU_slices_Compact_int_int (fun f => roL.contains f) (fun t => G_slices_Compact_int_int.contains t) 61 S_slices_Compact_int_int (fun δ M' => ∃ d, evD Tryz.prog M' δ R_slices_Compact_int_int = some d ∧ R d M') (fun _ _ _ => False) (fun δ M' => ∃ d, evD Tryz.prog M' δ R_slices_Compact_int_int = some d ∧ R d M') (argD ds) M) :
    PC Tryz.prog F_slices_Compact_int_int ds R M :=
  pc_opt Tryz.func149 (c := Tryz.f149.body.getD .skip) (by kernel_rfl) (by kernel_rfl) (by kernel_rfl) dec_slices_Compact_int_int res_slices_Compact_int_int _ hl h
abbrev F_slices_DeleteFunc_int_int : Nat := 150
def G_slices_DeleteFunc_int_int : List Nat := [0, 1, 4, 5, 6, 7, 12, 19, 29]
def MU_slices_DeleteFunc_int_int (d : Nat) : Bool := ([] : List Nat).contains d
noncomputable def S1_slices_DeleteFunc_int_int : St := (.seq (.sets [(29, (.un .not (.s 28)))] []) (.ite (.s 29) (.seq (.sets [(32, (.s 7)), (33, (.ix 1 (.s 0) (.s 5)))] []) (.seq (.act none (.store 1 (.tmp 33) (.tmp 32))) (.sets [(5, (.bin .add (.s 5) (.k (.int .i64 1))))] []))) .nop))
noncomputable def S2_slices_DeleteFunc_int_int : St := (.seq (.sets [(19, (.bin .lss (.s 6) (.len (.s 0))))] []) (.seq (.ite (.s 19) .nop (.exit 0)) (.seq (.block 1 (.seq (.sets [(7, (.ld (.ix 1 (.s 0) (.s 6))))] []) (.seq (.sets [(26, (.s 1)), (27, (.s 7))] []) (.seq (.act (some 28) (.callv 26 [(.tmp 27)])) S1_slices_DeleteFunc_int_int)))) (.sets [(6, (.bin .add (.s 6) (.k (.int .i64 1))))] []))))
noncomputable def S3_slices_DeleteFunc_int_int : St := (.seq (.sets [(38, (.slc 1 (.s 0) (.cs (.s 5) .nl) .nl .nl))] []) (.seq (.act none (.clr 1 (.int .i64 0) (.tmp 38))) (.seq (.sets [(4, (.slc 1 (.s 0) .nl (.cs (.s 5) .nl) .nl))] []) .ret)))
noncomputable def S_slices_DeleteFunc_int_int : St := (.seq (.sets [(4, (.k (.slice none 0 0)))] []) (.seq (.sets [(5, (.call 156 (.cs (.s 0) (.cs (.s 1) .nl))))] []) (.seq (.sets [(12, (.bin .eql (.s 5) (.k (.int .i64 (-1)))))] []) (.seq (.ite (.s 12) (.seq (.sets [(4, (.s 0))] []) .ret) .nop) (.seq (.sets [(6, (.bin .add (.s 5) (.k (.int .i64 1))))] []) (.seq (.block 0 (.loop S2_slices_DeleteFunc_int_int)) S3_slices_DeleteFunc_int_int))))))
noncomputable def R_slices_DeleteFunc_int_int : Ex := (.s 4)
theorem dec_slices_DeleteFunc_int_int : opt (dec Tryz.prog (fun f => roL.contains f) (fun t => G_slices_DeleteFunc_int_int.contains t) 42 (Tryz.f150.body.getD .skip)) = S_slices_DeleteFunc_int_int := by kernel_rfl
theorem res_slices_DeleteFunc_int_int : resE Tryz.prog (fun t => G_slices_DeleteFunc_int_int.contains t) Tryz.f150.results.toList = some R_slices_DeleteFunc_int_int := by kernel_rfl
theorem pc_slices_DeleteFunc_int_int {ds : List DV} {R : DV → DMem → Prop} {M : DMem} (hl : ds.length ≤ 42)
    (h : wpD Tryz.prog MU_slices_DeleteFunc_int_int (fun f => roL.contains f) (fun t => G_slices_DeleteFunc_int_int.contains t) 42 S_slices_DeleteFunc_int_int (fun δ M' => ∃ d, evD Tryz.prog M' δ R_slices_DeleteFunc_int_int = some d ∧ R d M') (fun _ _ _ => False) (fun δ M' => ∃ d, evD Tryz.prog M' δ R_slices_DeleteFunc_int_int = some d ∧ R d M') (argD ds) M) :
    PC Tryz.prog F_slices_DeleteFunc_int_int ds R M :=
  pc_opt Tryz.func150 (c := Tryz.f150.body.getD .skip) (by kernel_rfl) (by kernel_rfl) (by kernel_rfl) dec_slices_DeleteFunc_int_int res_slices_DeleteFunc_int_int _ hl h
abbrev F_math_bits_Mul : Nat := 151
def G_math_bits_Mul : List Nat := [0, 1, 4, 5, 6, 7, 8, 9]
def MU_math_bits_Mul (d : Nat) : Bool := ([] : List Nat).contains d
noncomputable def S1_math_bits_Mul : St := (.seq (.sets [(6, (.ext 0 (.s 15))), (7, (.ext 1 (.s 15)))] []) (.seq (.sets [(4, (.cvt .u64 (.s 6))), (5, (.cvt .u64 (.s 7)))] []) .ret))
noncomputable def S2_math_bits_Mul : St := (.seq (.sets [(8, (.ext 0 (.s 25))), (9, (.ext 1 (.s 25)))] []) (.seq (.sets [(4, (.s 8)), (5, (.s 9))] []) .ret))
noncomputable def S3_math_bits_Mul : St := (.seq (.sets [(23, (.s 0)), (24, (.s 1))] []) (.seq (.act (some 25) (.call 158 [(.tmp 23), (.tmp 24)])) S2_math_bits_Mul))
noncomputable def S_math_bits_Mul : St := (.seq (.sets [(4, (.k (.int .u64 0))), (5, (.k (.int .u64 0)))] []) (.seq (.ite (.k (.bool false)) (.seq (.sets [(12, (.cvt .u32 (.s 0))), (14, (.cvt .u32 (.s 1)))] []) (.seq (.act (some 15) (.call 157 [(.tmp 12), (.tmp 14)])) S1_math_bits_Mul)) .nop) S3_math_bits_Mul))
noncomputable def R_math_bits_Mul : Ex := (.cs (.s 4) (.cs (.s 5) .nl))
theorem dec_math_bits_Mul : opt (dec Tryz.prog (fun f => roL.contains f) (fun t => G_math_bits_Mul.contains t) 30 (Tryz.f151.body.getD .skip)) = S_math_bits_Mul := by kernel_rfl
theorem res_math_bits_Mul : resE Tryz.prog (fun t => G_math_bits_Mul.contains t) Tryz.f151.results.toList = some R_math_bits_Mul := by kernel_rfl
theorem pc_math_bits_Mul {ds : List DV} {R : DV → DMem → Prop} {M : DMem} (hl : ds.length ≤ 30)
    (h : wpD Tryz.prog MU_math_bits_Mul (fun f => roL.contains f) (fun t => G_math_bits_Mul.contains t) 30 S_math_bits_Mul (fun δ M' => ∃ d, evD Tryz.prog M' δ R_math_bits_Mul = some d ∧ R d M') (fun _ _ _ => False) (fun δ M' => ∃ d, evD Tryz.prog M' δ R_math_bits_Mul = some d ∧ R d M') (argD ds) M) :
    PC Tryz.prog F_math_bits_Mul ds R M :=
  pc_opt Tryz.func151 (c := Tryz.f151.body.getD .skip) (by kernel_rfl) (by kernel_rfl) (by kernel_rfl) dec_math_bits_Mul res_math_bits_Mul _ hl h
abbrev F_slices_IndexFunc_int_int : Nat := 156
def G_slices_IndexFunc_int_int : List Nat := [0, 1, 4, 5, 7, 8, 9, 16]
def MU_slices_IndexFunc_int_int (d : Nat) : Bool := ([] : List Nat).contains d
noncomputable def S1_slices_IndexFunc_int_int : St := (.seq (.sets [(9, (.bin .lss (.s 8) (.s 7)))] []) (.seq (.ite (.s 9) .nop (.exit 0)) (.seq (.block 1 (.seq (.sets [(5, (.s 8))] []) (.seq (.sets [(11, (.s 1)), (15, (.ld (.ix 1 (.s 0) (.s 5))))] []) (.seq (.act (some 16) (.callv 11 [(.tmp 15)])) (.ite (.s 16) (.seq (.sets [(4, (.s 5))] []) .ret) .nop))))) (.sets [(8, (.bin .add (.s 8) (.k (.int .i64 1))))] []))))
noncomputable def S_slices_IndexFunc_int_int : St := (.seq (.sets [(4, (.k (.int .i64 0)))] []) (.seq (.sets [(7, (.len (.s 0))), (8, (.k (.int .i64 0)))] []) (.seq (.block 0 (.loop S1_slices_IndexFunc_int_int)) (.seq (.sets [(4, (.k (.int .i64 (-1))))] []) .ret))))
noncomputable def R_slices_IndexFunc_int_int : Ex := (.s 4)
theorem dec_slices_IndexFunc_int_int : opt (dec Tryz.prog (fun f => roL.contains f) (fun t => G_slices_IndexFunc_int_int.contains t) 19 (Tryz.f156.body.getD .skip)) = S_slices_IndexFunc_int_int := by kernel_rfl
theorem res_slices_IndexFunc_int_int : resE Tryz.prog (fun t => G_slices_IndexFunc_int_int.contains t) Tryz.f156.results.toList = some R_slices_IndexFunc_int_int := by kernel_rfl
theorem pc_slices_IndexFunc_int_int {ds : List DV} {R : DV → DMem → Prop} {M : DMem} (hl : ds.length ≤ 19)
    (h : wpD Tryz.prog MU_slices_IndexFunc_int_int (fun f => roL.contains f) (fun t => G_slices_IndexFunc_int_int.contains t) 19 S_slices_IndexFunc_int_int (fun δ M' => ∃ d, evD Tryz.prog M' δ R_slices_IndexFunc_int_int = some d ∧ R d M') (fun _ _ _ => False) (fun δ M' => ∃ d, evD Tryz.prog M' δ R_slices_IndexFunc_int_int = some d ∧ R d M') (argD ds) M) :
    PC Tryz.prog F_slices_IndexFunc_int_int ds R M :=
  pc_opt Tryz.func156 (c := Tryz.f156.body.getD .skip) (by kernel_rfl) (by kernel_rfl) (by kernel_rfl) dec_slices_IndexFunc_int_int res_slices_IndexFunc_int_int _ hl h
abbrev F_math_bits_Mul64 : Nat := 158
def G_math_bits_Mul64 : List Nat := [0, 1, 4, 5, 6, 7, 8, 9, 10, 11, 12, 13]
def MU_math_bits_Mul64 (d : Nat) : Bool := ([] : List Nat).contains d
noncomputable def S_math_bits_Mul64 : St := (.seq (.sets [(4, (.k (.int .u64 0))), (5, (.k (.int .u64 0)))] []) (.seq (.sets [(6, (.bin .and (.s 0) (.k (.int .u64 4294967295))))] []) (.seq (.sets [(7, (.bin .shr (.s 0) (.k (.int .u64 32))))] []) (.seq (.sets [(8, (.bin .and (.s 1) (.k (.int .u64 4294967295))))] []) (.seq (.sets [(9, (.bin .shr (.s 1) (.k (.int .u64 32))))] []) (.seq (.sets [(10, (.bin .mul (.s 6) (.s 8)))] []) (.seq (.sets [(11, (.bin .add (.bin .mul (.s 7) (.s 8)) (.bin .shr (.s 10) (.k (.int .u64 32)))))] []) (.seq (.sets [(12, (.bin .and (.s 11) (.k (.int .u64 4294967295))))] []) (.seq (.sets [(13, (.bin .shr (.s 11) (.k (.int .u64 32))))] []) (.seq (.sets [(12, (.bin .add (.s 12) (.bin .mul (.s 6) (.s 9))))] []) (.seq (.sets [(4, (.bin .add (.bin .add (.bin .mul (.s 7) (.s 9)) (.s 13)) (.bin .shr (.s 12) (.k (.int .u64 32)))))] []) (.seq (.sets [(5, (.bin .mul (.s 0) (.s 1)))] []) .ret))))))))))))
noncomputable def R_math_bits_Mul64 : Ex := (.cs (.s 4) (.cs (.s 5) .nl))
theorem dec_math_bits_Mul64 : opt (dec Tryz.prog (fun f => roL.contains f) (fun t => G_math_bits_Mul64.contains t) 51 (Tryz.f158.body.getD .skip)) = S_math_bits_Mul64 := by kernel_rfl
theorem res_math_bits_Mul64 : resE Tryz.prog (fun t => G_math_bits_Mul64.contains t) Tryz.f158.results.toList = some R_math_bits_Mul64 := by kernel_rfl
theorem pc_math_bits_Mul64 {ds : List DV} {R : DV → DMem → Prop} {M : DMem} (hl : ds.length ≤ 51)
    (h : wpD Tryz.prog MU_math_bits_Mul64 (fun f => roL.contains f) (fun t => G_math_bits_Mul64.contains t) 51 S_math_bits_Mul64 (fun δ M' => ∃ d, evD Tryz.prog M' δ R_math_bits_Mul64 = some d ∧ R d M') (fun _ _ _ => False) (fun δ M' => ∃ d, evD Tryz.prog M' δ R_math_bits_Mul64 = some d ∧ R d M') (argD ds) M) :
    PC Tryz.prog F_math_bits_Mul64 ds R M :=
  pc_opt Tryz.func158 (c := Tryz.f158.body.getD .skip) (by kernel_rfl) (by kernel_rfl) (by kernel_rfl) dec_math_bits_Mul64 res_math_bits_Mul64 _ hl h
end Go.Proofs.YticlgdhhnjpkjaaGreatDoor.Sx
