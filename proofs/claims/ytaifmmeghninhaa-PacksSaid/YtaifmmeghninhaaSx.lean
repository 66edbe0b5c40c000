/- The functions of this seat as statements, printed by Lean's evaluation of the translation, and held against it. No condition. -/
import Derived.Test.YtaifmmeghninhaaProg
import Derived.Test.YtaifmmeghninhaaDf
namespace Go.Proofs.Ytaifmmeghninhaa.Sx
open Go Go.Proofs Go.Proofs.Ytaifmmeghninhaa.Mw
set_option linter.unusedVariables false
def roL : List Nat := [13, 14, 16, 18, 19, 20, 21, 22, 27, 28, 30, 31, 32, 33, 38, 39, 40, 41, 42, 43, 44, 45, 46, 47, 48, 66]

/-! swage/swagelaw3.Packs -/
abbrev F_swagelaw3_Packs : Nat := 3
def G_swagelaw3_Packs : List Nat := [0, 1, 2, 4, 5, 6, 7, 8, 9, 10, 11, 12, 13, 56]
def MU_swagelaw3_Packs (d : Nat) : Bool := ([] : List Nat).contains d
noncomputable def S1_swagelaw3_Packs : St := (.seq (.sets [(4, (.and (.call 14 (.cs (.ldn 1 (.s 5)) (.cs (.ldn 1 (.s 2)) .nl))) (.call 16 .nl)))] []) .ret)
noncomputable def S2_swagelaw3_Packs : St := (.seq (.sets [(34, (.ext 0 (.s 33))), (35, (.ext 1 (.s 33)))] []) (.seq (.act (some 12) (.var 24 1 (.tmp 34))) (.seq (.sets [(13, (.s 35))] []) (.seq (.sets [(56, (.or (.or (.or (.bin .neq (.s 6) (.s 8)) (.bin .neq (.call 13 (.cs (.s 7) .nl)) (.s 9))) (.un .not (.call 14 (.cs (.ldn 1 (.s 10)) (.cs (.ldn 1 (.s 12)) .nl))))) (.bin .neq (.call 13 (.cs (.s 11) .nl)) (.s 13))))] []) (.seq (.ite (.s 56) (.seq (.sets [(4, (.k (.bool false)))] []) .ret) .nop) (.seq (.sets [(57, (.ldn 1 (.s 10)))] []) (.seq (.act (some 58) (.call 15 [(.tmp 57)])) S1_swagelaw3_Packs)))))))
noncomputable def S3_swagelaw3_Packs : St := (.seq (.sets [(29, (.ext 0 (.s 28))), (30, (.ext 1 (.s 28)))] []) (.seq (.act (some 10) (.var 24 1 (.tmp 29))) (.seq (.sets [(11, (.s 30))] []) (.seq (.sets [(32, (.s 1))] []) (.seq (.act (some 33) (.call 12 [(.tmp 32)])) S2_swagelaw3_Packs)))))
noncomputable def S4_swagelaw3_Packs : St := (.seq (.sets [(8, (.ext 0 (.s 23))), (9, (.ext 1 (.s 23)))] []) (.seq (.sets [(27, (.s 1))] []) (.seq (.act (some 28) (.call 11 [(.tmp 27)])) S3_swagelaw3_Packs)))
noncomputable def S5_swagelaw3_Packs : St := (.seq (.sets [(6, (.ext 0 (.s 18))), (7, (.ext 1 (.s 18)))] []) (.seq (.sets [(22, (.ldn 1 (.s 2)))] []) (.seq (.act (some 23) (.call 10 [(.tmp 22)])) S4_swagelaw3_Packs)))
noncomputable def S6_swagelaw3_Packs : St := (.seq (.act (some 5) (.var 24 1 (.tmp 15))) (.seq (.sets [(17, (.ldn 1 (.s 5)))] []) (.seq (.act (some 18) (.call 9 [(.tmp 17)])) S5_swagelaw3_Packs)))
noncomputable def S_swagelaw3_Packs : St := (.seq (.act (some 2) (.box 24 (.tmp 0))) (.seq (.sets [(4, (.k (.bool false)))] []) (.seq (.sets [(14, (.ldn 1 (.s 2)))] []) (.seq (.act (some 15) (.call 8 [(.tmp 14)])) S6_swagelaw3_Packs))))
noncomputable def R_swagelaw3_Packs : Ex := (.s 4)
theorem dec_swagelaw3_Packs : opt (dec Try.prog (fun f => roL.contains f) (fun t => G_swagelaw3_Packs.contains t) 65 (Try.f3.body.getD .skip)) = S_swagelaw3_Packs := by kernel_rfl
theorem res_swagelaw3_Packs : resE Try.prog (fun t => G_swagelaw3_Packs.contains t) Try.f3.results.toList = some R_swagelaw3_Packs := by kernel_rfl
theorem pc_swagelaw3_Packs {ds : List DV} {R : DV → DMem → Prop} {M : DMem} (hl : ds.length ≤ 65)
    (h : wpD Try.prog MU_swagelaw3_Packs (fun f => roL.contains f) (fun t => G_swagelaw3_Packs.contains t) 65 S_swagelaw3_Packs (fun δ M' => ∃ d, evD Try.prog M' δ R_swagelaw3_Packs = some d ∧ R d M') (fun _ _ _ => False) (fun δ M' => ∃ d, evD Try.prog M' δ R_swagelaw3_Packs = some d ∧ R d M') (argD ds) M) :
    PC Try.prog F_swagelaw3_Packs ds R M :=
  pc_opt Try.func3 (c := Try.f3.body.getD .skip) (by kernel_rfl) (by kernel_rfl) (by kernel_rfl) dec_swagelaw3_Packs res_swagelaw3_Packs _ hl h
/-! swage/swagelaw3.PackBack -/
abbrev F_swagelaw3_PackBack : Nat := 4
def G_swagelaw3_PackBack : List Nat := [0, 1, 2, 3, 6, 7, 8, 9, 10, 11, 13, 14, 15, 16, 17, 19, 27, 66, 74]
def MU_swagelaw3_PackBack (d : Nat) : Bool := ([] : List Nat).contains d
noncomputable def S1_swagelaw3_PackBack : St := (.seq (.sets [(46, (.ext 0 (.s 45))), (47, (.ext 1 (.s 45)))] []) (.seq (.act (some 12) (.var 24 1 (.tmp 46))) (.seq (.sets [(13, (.s 47))] []) (.seq (.sets [(66, (.or (.or (.bin .neq (.call 13 (.cs (.s 10) .nl)) (.k (.int .i64 0))) (.un .not (.call 14 (.cs (.ldn 1 (.s 3)) (.cs (.ldn 1 (.s 9)) .nl))))) (.eqb true (.bin .eql (.call 13 (.cs (.s 13) .nl)) (.k (.int .i64 0))) (.bin .eql (.s 11) (.slen (.s 7))))))] []) (.ite (.s 66) (.seq (.sets [(6, (.k (.bool false)))] []) .ret) .nop)))))
noncomputable def S2_swagelaw3_PackBack : St := (.seq (.sets [(31, (.ext 0 (.s 30))), (32, (.ext 1 (.s 30)))] []) (.seq (.act (some 9) (.var 24 1 (.tmp 31))) (.seq (.sets [(10, (.s 32))] []) (.seq (.sets [(11, (.cvt .i64 (.bin .rem (.cvt .u64 (.s 2)) (.cvt .u64 (.bin .add (.slen (.s 7)) (.k (.int .i64 1)))))))] []) (.seq (.sets [(44, (.sslc (.s 7) .nl (.cs (.s 11) .nl)))] []) (.seq (.act (some 45) (.call 11 [(.tmp 44)])) S1_swagelaw3_PackBack))))))
noncomputable def S3_swagelaw3_PackBack : St := (.seq (.sets [(16, (.ext 0 (.s 81))), (17, (.ext 1 (.s 81)))] []) (.seq (.sets [(6, (.and (.bin .eql (.call 13 (.cs (.s 17) .nl)) (.k (.int .i64 0))) (.bin .eql (.s 16) (.s 1))))] []) .ret))
noncomputable def S4_swagelaw3_PackBack : St := (.seq (.sets [(70, (.ext 0 (.s 69))), (71, (.ext 1 (.s 69)))] []) (.seq (.act (some 14) (.var 24 1 (.tmp 70))) (.seq (.sets [(15, (.s 71))] []) (.seq (.sets [(74, (.bin .neq (.call 13 (.cs (.s 15) .nl)) (.k (.int .i64 0))))] []) (.seq (.ite (.s 74) (.seq (.sets [(6, (.bin .eql (.len (.ld (.fa 0 (.s 14)))) (.k (.int .i64 0))))] []) .ret) .nop) (.seq (.sets [(80, (.ldn 1 (.s 14)))] []) (.seq (.act (some 81) (.call 9 [(.tmp 80)])) S3_swagelaw3_PackBack)))))))
noncomputable def S5_swagelaw3_PackBack : St := (.seq (.sets [(68, (.s 1))] []) (.seq (.act (some 69) (.call 11 [(.tmp 68)])) S4_swagelaw3_PackBack))
noncomputable def S6_swagelaw3_PackBack : St := (.seq (.sets [(7, (.ext 0 (.s 22))), (8, (.ext 1 (.s 22)))] []) (.seq (.sets [(27, (.bin .eql (.call 13 (.cs (.s 8) .nl)) (.k (.int .i64 0))))] []) (.seq (.ite (.s 27) (.seq (.sets [(29, (.s 7))] []) (.seq (.act (some 30) (.call 11 [(.tmp 29)])) S2_swagelaw3_PackBack)) .nop) S5_swagelaw3_PackBack)))
noncomputable def S_swagelaw3_PackBack : St := (.seq (.act (some 3) (.box 24 (.tmp 0))) (.seq (.sets [(6, (.k (.bool false)))] []) (.seq (.sets [(19, (.un .not (.call 16 .nl)))] []) (.seq (.ite (.s 19) (.seq (.sets [(6, (.k (.bool false)))] []) .ret) .nop) (.seq (.sets [(21, (.ldn 1 (.s 3)))] []) (.seq (.act (some 22) (.call 9 [(.tmp 21)])) S6_swagelaw3_PackBack))))))
noncomputable def R_swagelaw3_PackBack : Ex := (.s 6)
theorem dec_swagelaw3_PackBack : opt (dec Try.prog (fun f => roL.contains f) (fun t => G_swagelaw3_PackBack.contains t) 92 (Try.f4.body.getD .skip)) = S_swagelaw3_PackBack := by kernel_rfl
theorem res_swagelaw3_PackBack : resE Try.prog (fun t => G_swagelaw3_PackBack.contains t) Try.f4.results.toList = some R_swagelaw3_PackBack := by kernel_rfl
theorem pc_swagelaw3_PackBack {ds : List DV} {R : DV → DMem → Prop} {M : DMem} (hl : ds.length ≤ 92)
    (h : wpD Try.prog MU_swagelaw3_PackBack (fun f => roL.contains f) (fun t => G_swagelaw3_PackBack.contains t) 92 S_swagelaw3_PackBack (fun δ M' => ∃ d, evD Try.prog M' δ R_swagelaw3_PackBack = some d ∧ R d M') (fun _ _ _ => False) (fun δ M' => ∃ d, evD Try.prog M' δ R_swagelaw3_PackBack = some d ∧ R d M') (argD ds) M) :
    PC Try.prog F_swagelaw3_PackBack ds R M :=
  pc_opt Try.func4 (c := Try.f4.body.getD .skip) (by kernel_rfl) (by kernel_rfl) (by kernel_rfl) dec_swagelaw3_PackBack res_swagelaw3_PackBack _ hl h
/-! swage/swagelaw3.PackForms -/
abbrev F_swagelaw3_PackForms : Nat := 5
def G_swagelaw3_PackForms : List Nat := [0, 1, 4, 5, 6, 7, 8, 9, 10, 11, 12, 13, 14, 16, 39, 44, 46, 52, 60, 68, 74, 82, 88, 97, 108, 119, 129]
def MU_swagelaw3_PackForms (d : Nat) : Bool := ([9] : List Nat).contains d
def O0_swagelaw3_PackForms : Array Oper := #[⟨(some 90), (.fieldAddr 24 (.tmp 9) 0), 0, "more.go:36", #[], none⟩, ⟨(some 91), (.load 22 (.tmp 90)), 22, "more.go:36", #[⟨0, .data⟩], none⟩, ⟨(some 92), (.move (.tmp 5)), 3, "more.go:36", #[], none⟩, ⟨(some 93), (.binOp .add 3 (.const (.int .i64 64)) (.tmp 92) 3), 3, "more.go:36", #[⟨2, .data⟩], none⟩, ⟨(some 94), (.makeSlice 44 (.tmp 93) (.tmp 93)), 44, "more.go:36", #[⟨3, .data⟩, ⟨3, .data⟩], none⟩, ⟨(some 95), (.indexAddr 22 (.tmp 91) (.const (.int .i64 0))), 0, "more.go:36", #[⟨1, .data⟩, ⟨0, .phase⟩, ⟨1, .phase⟩, ⟨2, .phase⟩, ⟨3, .phase⟩, ⟨4, .phase⟩], none⟩, ⟨(some 96), (.fieldAddr 46 (.tmp 95) 2), 0, "more.go:36", #[⟨5, .data⟩, ⟨0, .phase⟩, ⟨1, .phase⟩, ⟨2, .phase⟩, ⟨3, .phase⟩, ⟨4, .phase⟩], none⟩, ⟨none, (.store 44 (.tmp 96) (.tmp 94)), 0, "more.go:36", #[⟨6, .data⟩, ⟨4, .data⟩, ⟨0, .phase⟩, ⟨1, .phase⟩, ⟨2, .phase⟩, ⟨3, .phase⟩, ⟨4, .phase⟩], none⟩]
def P0_swagelaw3_PackForms : List Sp := [.rd 90 (.fa 0 (.s 9)), .rd 91 (.ld (.s 90)), .rd 92 (.s 5), .rd 93 (.bin .add (.k (.int .i64 64)) (.s 92)), .ck 90 (.fa 0 (.s 9)), .ck 91 (.ld (.s 90)), .ck 92 (.s 5), .ck 93 (.bin .add (.k (.int .i64 64)) (.s 92)), .hd (some 94) (.make 43 2 16 (.agg #[(.int .i64 0), (.int .i64 0)]) (.tmp 93) (.tmp 93)), .rd 95 (.ix 3 (.s 91) (.k (.int .i64 0))), .rd 96 (.fa 2 (.s 95)), .ck 90 (.fa 0 (.s 9)), .ck 91 (.ld (.s 90)), .ck 95 (.ix 3 (.s 91) (.k (.int .i64 0))), .ck 96 (.fa 2 (.s 95)), .hd none (.store 1 (.tmp 96) (.tmp 94))]
theorem plan0_swagelaw3_PackForms : planD Try.prog (fun f => roL.contains f) (fun t => G_swagelaw3_PackForms.contains t) 188 MU_swagelaw3_PackForms O0_swagelaw3_PackForms = some P0_swagelaw3_PackForms := by kernel_rfl
theorem raw0_swagelaw3_PackForms (K : DEnv → DMem → Prop) (X : Nat → DEnv → DMem → Prop) (R : DEnv → DMem → Prop) (δ : DEnv) (M : DMem) : rawW Try.prog MU_swagelaw3_PackForms (fun f => roL.contains f) (fun t => G_swagelaw3_PackForms.contains t) 188 (.region 24 O0_swagelaw3_PackForms true) K X R δ M = wpSp Try.prog MU_swagelaw3_PackForms K P0_swagelaw3_PackForms δ M := rawW_eq plan0_swagelaw3_PackForms K X R δ M
def O1_swagelaw3_PackForms : Array Oper := #[⟨(some 145), (.move (.tmp 7)), 9, "more.go:49", #[], none⟩, ⟨(some 146), (.slice 9 (.tmp 145) (some (.const (.int .i64 3))) none none), 9, "more.go:49", #[⟨0, .data⟩], none⟩, ⟨(some 147), (.binOp .add 9 (.const (.string ⟨#[116, 105, 107]⟩)) (.tmp 146) 9), 9, "more.go:49", #[⟨1, .data⟩], none⟩, ⟨(some 148), (.move (.tmp 7)), 9, "more.go:49", #[], none⟩, ⟨(some 149), (.slice 9 (.tmp 148) (some (.const (.int .i64 4))) none none), 9, "more.go:49", #[⟨3, .data⟩], none⟩, ⟨(some 150), (.binOp .add 9 (.const (.string ⟨#[84, 105, 107, 9]⟩)) (.tmp 149) 9), 9, "more.go:49", #[⟨4, .data⟩], none⟩, ⟨(some 151), (.move (.tmp 7)), 9, "more.go:49", #[], none⟩, ⟨(some 152), (.binOp .add 9 (.tmp 151) (.const (.string ⟨#[0]⟩)) 9), 9, "more.go:49", #[⟨6, .data⟩], none⟩, ⟨(some 153), (.move (.tmp 7)), 9, "more.go:49", #[], none⟩, ⟨(some 154), (.move (.tmp 7)), 9, "more.go:49", #[], none⟩, ⟨(some 155), (.call ⟨(.builtin .len), #[(.tmp 154)], #[9]⟩), 3, "more.go:49", #[⟨9, .data⟩], none⟩, ⟨(some 156), (.binOp .sub 3 (.tmp 155) (.const (.int .i64 1)) 3), 3, "more.go:49", #[⟨10, .data⟩], none⟩, ⟨(some 157), (.slice 9 (.tmp 153) none (some (.tmp 156)) none), 9, "more.go:49", #[⟨8, .data⟩, ⟨11, .data⟩], none⟩, ⟨(some 158), (.buildSlice 47 14 #[(0, (.const (.string ⟨#[]⟩))), (1, (.const (.string ⟨#[84, 105, 107]⟩))), (2, (.tmp 147)), (3, (.const (.string ⟨#[84, 105, 107, 0]⟩))), (4, (.tmp 150)), (5, (.const (.string ⟨#[84, 105, 107, 1, 5, 5, 1, 16]⟩))), (6, (.const (.string ⟨#[84, 105, 107, 1, 2, 1, 1, 16]⟩))), (7, (.const (.string ⟨#[84, 105, 107, 1, 0, 9, 1, 16]⟩))), (8, (.const (.string ⟨#[84, 105, 107, 1, 0, 0, 0]⟩))), (9, (.const (.string ⟨#[84, 105, 107, 1, 0, 0, 1, 17]⟩))), (10, (.const (.string ⟨#[84, 105, 107, 1, 0, 0, 1, 1, 8]⟩))), (11, (.const (.string ⟨#[84, 105, 107, 1, 0, 0, 2, 16]⟩))), (12, (.tmp 152)), (13, (.tmp 157))]), 47, "more.go:49", #[⟨2, .data⟩, ⟨5, .data⟩, ⟨7, .data⟩, ⟨12, .data⟩], none⟩, ⟨(some 12), (.assign (.tmp 158)), 47, "more.go:49", #[⟨13, .data⟩, ⟨0, .phase⟩, ⟨1, .phase⟩, ⟨2, .phase⟩, ⟨3, .phase⟩, ⟨4, .phase⟩, ⟨5, .phase⟩, ⟨6, .phase⟩, ⟨7, .phase⟩, ⟨8, .phase⟩, ⟨9, .phase⟩, ⟨10, .phase⟩, ⟨11, .phase⟩, ⟨12, .phase⟩, ⟨13, .phase⟩], none⟩]
def P1_swagelaw3_PackForms : List Sp := [.rd 145 (.s 7), .rd 146 (.sslc (.s 145) (.cs (.k (.int .i64 3)) .nl) .nl), .rd 147 (.bin .add (.k (.string ⟨#[116, 105, 107]⟩)) (.s 146)), .rd 148 (.s 7), .rd 149 (.sslc (.s 148) (.cs (.k (.int .i64 4)) .nl) .nl), .rd 150 (.bin .add (.k (.string ⟨#[84, 105, 107, 9]⟩)) (.s 149)), .rd 151 (.s 7), .rd 152 (.bin .add (.s 151) (.k (.string ⟨#[0]⟩))), .rd 153 (.s 7), .rd 154 (.s 7), .rd 155 (.slen (.s 154)), .rd 156 (.bin .sub (.s 155) (.k (.int .i64 1))), .rd 157 (.sslc (.s 153) .nl (.cs (.s 156) .nl)), .fr 158 (.bslice 9 1 [(.string ⟨#[]⟩), (.string ⟨#[]⟩), (.string ⟨#[]⟩), (.string ⟨#[]⟩), (.string ⟨#[]⟩), (.string ⟨#[]⟩), (.string ⟨#[]⟩), (.string ⟨#[]⟩), (.string ⟨#[]⟩), (.string ⟨#[]⟩), (.string ⟨#[]⟩), (.string ⟨#[]⟩), (.string ⟨#[]⟩), (.string ⟨#[]⟩)] 14 [(0, (.const (.string ⟨#[]⟩))), (1, (.const (.string ⟨#[84, 105, 107]⟩))), (2, (.tmp 147)), (3, (.const (.string ⟨#[84, 105, 107, 0]⟩))), (4, (.tmp 150)), (5, (.const (.string ⟨#[84, 105, 107, 1, 5, 5, 1, 16]⟩))), (6, (.const (.string ⟨#[84, 105, 107, 1, 2, 1, 1, 16]⟩))), (7, (.const (.string ⟨#[84, 105, 107, 1, 0, 9, 1, 16]⟩))), (8, (.const (.string ⟨#[84, 105, 107, 1, 0, 0, 0]⟩))), (9, (.const (.string ⟨#[84, 105, 107, 1, 0, 0, 1, 17]⟩))), (10, (.const (.string ⟨#[84, 105, 107, 1, 0, 0, 1, 1, 8]⟩))), (11, (.const (.string ⟨#[84, 105, 107, 1, 0, 0, 2, 16]⟩))), (12, (.tmp 152)), (13, (.tmp 157))]), .rd 12 (.s 158), .ck 145 (.s 7), .ck 146 (.sslc (.s 145) (.cs (.k (.int .i64 3)) .nl) .nl), .ck 147 (.bin .add (.k (.string ⟨#[116, 105, 107]⟩)) (.s 146)), .ck 148 (.s 7), .ck 149 (.sslc (.s 148) (.cs (.k (.int .i64 4)) .nl) .nl), .ck 150 (.bin .add (.k (.string ⟨#[84, 105, 107, 9]⟩)) (.s 149)), .ck 151 (.s 7), .ck 152 (.bin .add (.s 151) (.k (.string ⟨#[0]⟩))), .ck 153 (.s 7), .ck 154 (.s 7), .ck 155 (.slen (.s 154)), .ck 156 (.bin .sub (.s 155) (.k (.int .i64 1))), .ck 157 (.sslc (.s 153) .nl (.cs (.s 156) .nl)), .cf 158 (.bslice 9 1 [(.string ⟨#[]⟩), (.string ⟨#[]⟩), (.string ⟨#[]⟩), (.string ⟨#[]⟩), (.string ⟨#[]⟩), (.string ⟨#[]⟩), (.string ⟨#[]⟩), (.string ⟨#[]⟩), (.string ⟨#[]⟩), (.string ⟨#[]⟩), (.string ⟨#[]⟩), (.string ⟨#[]⟩), (.string ⟨#[]⟩), (.string ⟨#[]⟩)] 14 [(0, (.const (.string ⟨#[]⟩))), (1, (.const (.string ⟨#[84, 105, 107]⟩))), (2, (.tmp 147)), (3, (.const (.string ⟨#[84, 105, 107, 0]⟩))), (4, (.tmp 150)), (5, (.const (.string ⟨#[84, 105, 107, 1, 5, 5, 1, 16]⟩))), (6, (.const (.string ⟨#[84, 105, 107, 1, 2, 1, 1, 16]⟩))), (7, (.const (.string ⟨#[84, 105, 107, 1, 0, 9, 1, 16]⟩))), (8, (.const (.string ⟨#[84, 105, 107, 1, 0, 0, 0]⟩))), (9, (.const (.string ⟨#[84, 105, 107, 1, 0, 0, 1, 17]⟩))), (10, (.const (.string ⟨#[84, 105, 107, 1, 0, 0, 1, 1, 8]⟩))), (11, (.const (.string ⟨#[84, 105, 107, 1, 0, 0, 2, 16]⟩))), (12, (.tmp 152)), (13, (.tmp 157))]), .ck 12 (.s 158)]
theorem plan1_swagelaw3_PackForms : planD Try.prog (fun f => roL.contains f) (fun t => G_swagelaw3_PackForms.contains t) 188 MU_swagelaw3_PackForms O1_swagelaw3_PackForms = some P1_swagelaw3_PackForms := by kernel_rfl
theorem raw1_swagelaw3_PackForms (K : DEnv → DMem → Prop) (X : Nat → DEnv → DMem → Prop) (R : DEnv → DMem → Prop) (δ : DEnv) (M : DMem) : rawW Try.prog MU_swagelaw3_PackForms (fun f => roL.contains f) (fun t => G_swagelaw3_PackForms.contains t) 188 (.region 34 O1_swagelaw3_PackForms true) K X R δ M = wpSp Try.prog MU_swagelaw3_PackForms K P1_swagelaw3_PackForms δ M := rawW_eq plan1_swagelaw3_PackForms K X R δ M
noncomputable def S1_swagelaw3_PackForms : St := (.seq (.sets [(168, (.ext 0 (.s 167))), (169, (.ext 1 (.s 167)))] []) (.seq (.act (some 13) (.var 24 1 (.tmp 168))) (.seq (.sets [(14, (.s 169))] []) (.seq (.sets [(4, (.and (.and (.and (.bin .eql (.s 10) (.k (.string ⟨#[]⟩))) (.bin .eql (.call 13 (.cs (.s 11) .nl)) (.k (.int .i64 300)))) (.bin .eql (.len (.ld (.fa 0 (.s 13)))) (.k (.int .i64 0)))) (.bin .eql (.call 13 (.cs (.s 14) .nl)) (.k (.int .i64 300)))))] []) .ret))))
noncomputable def S2_swagelaw3_PackForms : St := (.seq (.sets [(166, (.ld (.ix 1 (.s 12) (.cvt .i64 (.bin .rem (.cvt .u64 (.s 0)) (.k (.int .u64 14)))))))] []) (.seq (.act (some 167) (.call 11 [(.tmp 166)])) S1_swagelaw3_PackForms))
noncomputable def S3_swagelaw3_PackForms : St := (.seq (.sets [(10, (.ext 0 (.s 142))), (11, (.ext 1 (.s 142)))] []) (.seq (.raw (.region 34 O1_swagelaw3_PackForms true)) S2_swagelaw3_PackForms))
noncomputable def S4_swagelaw3_PackForms : St := (.seq (.sets [(141, (.ldn 1 (.s 9)))] []) (.seq (.act (some 142) (.call 9 [(.tmp 141)])) S3_swagelaw3_PackForms))
noncomputable def S5_swagelaw3_PackForms : St := (.seq (.act (some 9) (.var 24 1 (.tmp 41))) (.seq (.sets [(44, (.bin .rem (.cvt .u64 (.s 0)) (.k (.int .u64 12))))] []) (.seq (.block 0 (.seq (.sets [(46, (.bin .eql (.s 44) (.k (.int .u64 0))))] []) (.ite (.s 46) (.seq (.sets [(49, (.bin .add (.k (.int .i64 8)) (.s 5)))] []) (.seq (.act (some 50) (.make 46 3 40 (.agg #[(.int .i64 0), (.int .i64 0), (.slice none 0 0)]) (.tmp 49) (.tmp 49))) (.seq (.sets [(51, (.fa 0 (.s 9)))] []) (.seq (.act none (.store 1 (.tmp 51) (.tmp 50))) (.sets [] []))))) (.seq (.sets [(52, (.bin .eql (.s 44) (.k (.int .u64 1))))] []) (.ite (.s 52) (.seq (.sets [(57, (.un .neg (.s 5))), (59, (.fa 0 (.ix 3 (.ld (.fa 0 (.s 9))) (.k (.int .i64 0)))))] []) (.seq (.act none (.store 1 (.tmp 59) (.tmp 57))) (.sets [] []))) (.seq (.sets [(60, (.bin .eql (.s 44) (.k (.int .u64 2))))] []) (.ite (.s 60) (.seq (.sets [(65, (.bin .add (.k (.int .i64 4)) (.s 5))), (67, (.fa 0 (.ix 3 (.ld (.fa 0 (.s 9))) (.k (.int .i64 0)))))] []) (.seq (.act none (.store 1 (.tmp 67) (.tmp 65))) (.sets [] []))) (.seq (.sets [(68, (.bin .eql (.s 44) (.k (.int .u64 3))))] []) (.ite (.s 68) (.seq (.sets [(73, (.fa 1 (.ix 3 (.ld (.fa 0 (.s 9))) (.k (.int .i64 0)))))] []) (.seq (.act none (.store 1 (.tmp 73) (.const (.int .i64 0)))) (.sets [] []))) (.seq (.sets [(74, (.bin .eql (.s 44) (.k (.int .u64 4))))] []) (.ite (.s 74) (.seq (.sets [(79, (.bin .add (.k (.int .i64 8)) (.s 5))), (81, (.fa 1 (.ix 3 (.ld (.fa 0 (.s 9))) (.k (.int .i64 0)))))] []) (.seq (.act none (.store 1 (.tmp 81) (.tmp 79))) (.sets [] []))) (.seq (.sets [(82, (.bin .eql (.s 44) (.k (.int .u64 5))))] []) (.ite (.s 82) (.seq (.sets [(87, (.fa 2 (.ix 3 (.ld (.fa 0 (.s 9))) (.k (.int .i64 0)))))] []) (.seq (.act none (.store 1 (.tmp 87) (.const (.slice none 0 0)))) (.sets [] []))) (.seq (.sets [(88, (.bin .eql (.s 44) (.k (.int .u64 6))))] []) (.ite (.s 88) (.raw (.region 24 O0_swagelaw3_PackForms true)) (.seq (.sets [(97, (.bin .eql (.s 44) (.k (.int .u64 7))))] []) (.ite (.s 97) (.seq (.sets [(105, (.bin .add (.k (.int .i64 2147483647)) (.s 5))), (107, (.fa 1 (.ix 2 (.ld (.fa 2 (.ix 3 (.ld (.fa 0 (.s 9))) (.k (.int .i64 0))))) (.k (.int .i64 0)))))] []) (.seq (.act none (.store 1 (.tmp 107) (.tmp 105))) (.sets [] []))) (.seq (.sets [(108, (.bin .eql (.s 44) (.k (.int .u64 8))))] []) (.ite (.s 108) (.seq (.sets [(116, (.bin .add (.k (.int .i64 7)) (.s 5))), (118, (.fa 1 (.ix 2 (.ld (.fa 2 (.ix 3 (.ld (.fa 0 (.s 9))) (.k (.int .i64 0))))) (.k (.int .i64 1)))))] []) (.seq (.act none (.store 1 (.tmp 118) (.tmp 116))) (.sets [] []))) (.seq (.sets [(119, (.bin .eql (.s 44) (.k (.int .u64 9))))] []) (.ite (.s 119) (.seq (.sets [(126, (.s 5)), (128, (.fa 1 (.ix 2 (.ld (.fa 2 (.ix 3 (.ld (.fa 0 (.s 9))) (.k (.int .i64 0))))) (.k (.int .i64 2)))))] []) (.seq (.act none (.store 1 (.tmp 128) (.tmp 126))) (.sets [] []))) (.seq (.sets [(129, (.bin .eql (.s 44) (.k (.int .u64 10))))] []) (.ite (.s 129) (.seq (.sets [(137, (.bin .add (.k (.int .i64 16)) (.s 5))), (139, (.fa 0 (.ix 2 (.ld (.fa 2 (.ix 3 (.ld (.fa 0 (.s 9))) (.k (.int .i64 0))))) (.k (.int .i64 2)))))] []) (.seq (.act none (.store 1 (.tmp 139) (.tmp 137))) (.sets [] []))) (.seq (.sets [(45, (.fa 0 (.s 9)))] []) (.seq (.act none (.store 1 (.tmp 45) (.const (.slice none 0 0)))) (.sets [] [])))))))))))))))))))))))))) S4_swagelaw3_PackForms)))
noncomputable def S6_swagelaw3_PackForms : St := (.seq (.sets [(7, (.ext 0 (.s 29))), (8, (.ext 1 (.s 29)))] []) (.seq (.sets [(39, (.or (.bin .neq (.call 13 (.cs (.s 8) .nl)) (.k (.int .i64 0))) (.bin .lss (.slen (.s 7)) (.k (.int .i64 14)))))] []) (.seq (.ite (.s 39) (.seq (.sets [(4, (.k (.bool false)))] []) .ret) .nop) (.seq (.sets [(40, (.ldn 1 (.s 6)))] []) (.seq (.act (some 41) (.call 8 [(.tmp 40)])) S5_swagelaw3_PackForms)))))
noncomputable def S_swagelaw3_PackForms : St := (.seq (.sets [(4, (.k (.bool false)))] []) (.seq (.sets [(16, (.un .not (.call 16 .nl)))] []) (.seq (.ite (.s 16) (.seq (.sets [(4, (.k (.bool false)))] []) .ret) .nop) (.seq (.sets [(5, (.bin .add (.k (.int .i64 1)) (.bin .and (.s 1) (.k (.int .i64 1023)))))] []) (.seq (.sets [(20, (.bld [(.int .i64 0), (.int .i64 0)] [(1, 1)] (.cs (.k (.int .i64 4)) .nl))), (21, (.bld [(.int .i64 0), (.int .i64 0)] [(0, 1), (1, 1)] (.cs (.k (.int .i64 2)) (.cs (.k (.int .i64 1)) .nl)))), (22, (.bld [(.int .i64 0), (.int .i64 0)] [(0, 1)] (.cs (.k (.int .i64 16)) .nl)))] []) (.seq (.act (some 23) (.bslice 43 2 [(.int .i64 0), (.int .i64 0), (.int .i64 0), (.int .i64 0), (.int .i64 0), (.int .i64 0)] 3 [(0, (.tmp 20)), (1, (.tmp 21)), (2, (.tmp 22))])) (.seq (.sets [(24, (.bld [(.int .i64 0), (.int .i64 0), (.slice none 0 0)] [(0, 1), (1, 1), (2, 1)] (.cs (.k (.int .i64 1)) (.cs (.k (.int .i64 2)) (.cs (.s 23) .nl)))))] []) (.seq (.act (some 25) (.bslice 46 3 [(.int .i64 0), (.int .i64 0), (.slice none 0 0)] 1 [(0, (.tmp 24))])) (.seq (.sets [(26, (.bld [(.slice none 0 0)] [(0, 1)] (.cs (.s 25) .nl)))] []) (.seq (.act (some 6) (.var 24 1 (.tmp 26))) (.seq (.sets [(28, (.ldn 1 (.s 6)))] []) (.seq (.act (some 29) (.call 9 [(.tmp 28)])) S6_swagelaw3_PackForms))))))))))))
noncomputable def R_swagelaw3_PackForms : Ex := (.s 4)
theorem dec_swagelaw3_PackForms : opt (dec Try.prog (fun f => roL.contains f) (fun t => G_swagelaw3_PackForms.contains t) 188 (Try.f5.body.getD .skip)) = S_swagelaw3_PackForms := by kernel_rfl
theorem res_swagelaw3_PackForms : resE Try.prog (fun t => G_swagelaw3_PackForms.contains t) Try.f5.results.toList = some R_swagelaw3_PackForms := by kernel_rfl
theorem pc_swagelaw3_PackForms {ds : List DV} {R : DV → DMem → Prop} {M : DMem} (hl : ds.length ≤ 188)
    (h : wpD Try.prog MU_swagelaw3_PackForms (fun f => roL.contains f) (fun t => G_swagelaw3_PackForms.contains t) 188 S_swagelaw3_PackForms (fun δ M' => ∃ d, evD Try.prog M' δ R_swagelaw3_PackForms = some d ∧ R d M') (fun _ _ _ => False) (fun δ M' => ∃ d, evD Try.prog M' δ R_swagelaw3_PackForms = some d ∧ R d M') (argD ds) M) :
    PC Try.prog F_swagelaw3_PackForms ds R M :=
  pc_opt Try.func5 (c := Try.f5.body.getD .skip) (by kernel_rfl) (by kernel_rfl) (by kernel_rfl) dec_swagelaw3_PackForms res_swagelaw3_PackForms _ hl h
/-! swage/swagelaw3.PackNumbers -/
abbrev F_swagelaw3_PackNumbers : Nat := 6
def G_swagelaw3_PackNumbers : List Nat := [0, 2, 3, 4, 5, 6, 7, 8, 9, 11, 36]
def MU_swagelaw3_PackNumbers (d : Nat) : Bool := ([] : List Nat).contains d
noncomputable def S1_swagelaw3_PackNumbers : St := (.seq (.sets [(58, (.ext 0 (.s 57))), (59, (.ext 1 (.s 57)))] []) (.seq (.act (some 8) (.var 24 1 (.tmp 58))) (.seq (.sets [(9, (.s 59))] []) (.seq (.sets [(2, (.and (.and (.and (.and (.bin .eql (.s 7) (.cvt .u32 (.cvt .u64 (.s 0)))) (.bin .eql (.sidx (.s 5) (.k (.int .i64 7))) (.k (.int .u8 0)))) (.bin .eql (.sidx (.s 5) (.k (.int .i64 12))) (.k (.int .u8 16)))) (.bin .eql (.call 13 (.cs (.s 9) .nl)) (.k (.int .i64 0)))) (.call 14 (.cs (.ldn 1 (.s 4)) (.cs (.ldn 1 (.s 8)) .nl)))))] []) .ret))))
noncomputable def S2_swagelaw3_PackNumbers : St := (.seq (.sets [(5, (.ext 0 (.s 26))), (6, (.ext 1 (.s 26)))] []) (.seq (.sets [(36, (.or (.bin .neq (.call 13 (.cs (.s 6) .nl)) (.k (.int .i64 0))) (.bin .neq (.slen (.s 5)) (.k (.int .i64 13)))))] []) (.seq (.ite (.s 36) (.seq (.sets [(2, (.k (.bool false)))] []) .ret) .nop) (.seq (.sets [(7, (.bin .or (.bin .or (.bin .or (.cvt .u32 (.sidx (.s 5) (.k (.int .i64 8)))) (.bin .shl (.cvt .u32 (.sidx (.s 5) (.k (.int .i64 9)))) (.k (.int .u64 8)))) (.bin .shl (.cvt .u32 (.sidx (.s 5) (.k (.int .i64 10)))) (.k (.int .u64 16)))) (.bin .shl (.cvt .u32 (.sidx (.s 5) (.k (.int .i64 11)))) (.k (.int .u64 24)))))] []) (.seq (.sets [(56, (.s 5))] []) (.seq (.act (some 57) (.call 11 [(.tmp 56)])) S1_swagelaw3_PackNumbers))))))
noncomputable def S_swagelaw3_PackNumbers : St := (.seq (.sets [(2, (.k (.bool false)))] []) (.seq (.sets [(11, (.un .not (.call 16 .nl)))] []) (.seq (.ite (.s 11) (.seq (.sets [(2, (.k (.bool false)))] []) .ret) .nop) (.seq (.sets [(3, (.cvt .i64 (.cvt .i32 (.cvt .u32 (.cvt .u64 (.s 0))))))] []) (.seq (.sets [(18, (.bld [(.int .i64 0), (.int .i64 0)] [(1, 1)] (.cs (.s 3) .nl))), (19, (.bld [(.int .i64 0), (.int .i64 0)] [(0, 1)] (.cs (.k (.int .i64 16)) .nl)))] []) (.seq (.act (some 20) (.bslice 43 2 [(.int .i64 0), (.int .i64 0), (.int .i64 0), (.int .i64 0)] 2 [(0, (.tmp 18)), (1, (.tmp 19))])) (.seq (.sets [(21, (.bld [(.int .i64 0), (.int .i64 0), (.slice none 0 0)] [(2, 1)] (.cs (.s 20) .nl)))] []) (.seq (.act (some 22) (.bslice 46 3 [(.int .i64 0), (.int .i64 0), (.slice none 0 0)] 1 [(0, (.tmp 21))])) (.seq (.sets [(23, (.bld [(.slice none 0 0)] [(0, 1)] (.cs (.s 22) .nl)))] []) (.seq (.act (some 4) (.var 24 1 (.tmp 23))) (.seq (.sets [(25, (.ldn 1 (.s 4)))] []) (.seq (.act (some 26) (.call 9 [(.tmp 25)])) S2_swagelaw3_PackNumbers))))))))))))
noncomputable def R_swagelaw3_PackNumbers : Ex := (.s 2)
theorem dec_swagelaw3_PackNumbers : opt (dec Try.prog (fun f => roL.contains f) (fun t => G_swagelaw3_PackNumbers.contains t) 85 (Try.f6.body.getD .skip)) = S_swagelaw3_PackNumbers := by kernel_rfl
theorem res_swagelaw3_PackNumbers : resE Try.prog (fun t => G_swagelaw3_PackNumbers.contains t) Try.f6.results.toList = some R_swagelaw3_PackNumbers := by kernel_rfl
theorem pc_swagelaw3_PackNumbers {ds : List DV} {R : DV → DMem → Prop} {M : DMem} (hl : ds.length ≤ 85)
    (h : wpD Try.prog MU_swagelaw3_PackNumbers (fun f => roL.contains f) (fun t => G_swagelaw3_PackNumbers.contains t) 85 S_swagelaw3_PackNumbers (fun δ M' => ∃ d, evD Try.prog M' δ R_swagelaw3_PackNumbers = some d ∧ R d M') (fun _ _ _ => False) (fun δ M' => ∃ d, evD Try.prog M' δ R_swagelaw3_PackNumbers = some d ∧ R d M') (argD ds) M) :
    PC Try.prog F_swagelaw3_PackNumbers ds R M :=
  pc_opt Try.func6 (c := Try.f6.body.getD .skip) (by kernel_rfl) (by kernel_rfl) (by kernel_rfl) dec_swagelaw3_PackNumbers res_swagelaw3_PackNumbers _ hl h
/-! swage/swagelaw3.PackSizes -/
abbrev F_swagelaw3_PackSizes : Nat := 7
def G_swagelaw3_PackSizes : List Nat := [0, 1, 2, 3, 4, 5, 6, 7, 9, 17, 29, 42, 54, 57, 61]
def MU_swagelaw3_PackSizes (d : Nat) : Bool := ([] : List Nat).contains d
noncomputable def S1_swagelaw3_PackSizes : St := (.seq (.sets [(42, (.bin .lss (.s 7) (.len (.ld (.fa 2 (.ix 3 (.ld (.fa 0 (.s 1))) (.s 6)))))))] []) (.seq (.ite (.s 42) .nop (.exit 2)) (.seq (.block 3 (.seq (.sets [(54, (.ld (.fa 0 (.ix 2 (.ld (.fa 2 (.ix 3 (.ld (.fa 0 (.s 1))) (.s 6)))) (.s 7)))))] []) (.block 4 (.seq (.sets [(57, (.bin .eql (.s 54) (.k (.int .i64 0))))] []) (.ite (.s 57) (.sets [(5, (.bin .add (.s 5) (.k (.int .i64 5))))] []) (.seq (.sets [(61, (.or (.bin .eql (.s 54) (.k (.int .i64 1))) (.or (.bin .eql (.s 54) (.k (.int .i64 2))) (.or (.bin .eql (.s 54) (.k (.int .i64 12))) (.or (.bin .eql (.s 54) (.k (.int .i64 13))) (.bin .eql (.s 54) (.k (.int .i64 14))))))))] []) (.ite (.s 61) (.sets [(5, (.bin .add (.s 5) (.k (.int .i64 2))))] []) (.sets [(5, (.bin .add (.s 5) (.k (.int .i64 1))))] [])))))))) (.sets [(7, (.bin .add (.s 7) (.k (.int .i64 1))))] []))))
noncomputable def S2_swagelaw3_PackSizes : St := (.seq (.sets [(29, (.bin .lss (.s 6) (.len (.ld (.fa 0 (.s 1))))))] []) (.seq (.ite (.s 29) .nop (.exit 0)) (.seq (.block 1 (.seq (.sets [(5, (.bin .add (.s 5) (.k (.int .i64 3))))] []) (.seq (.sets [(7, (.k (.int .i64 0)))] []) (.block 2 (.loop S1_swagelaw3_PackSizes))))) (.sets [(6, (.bin .add (.s 6) (.k (.int .i64 1))))] []))))
noncomputable def S3_swagelaw3_PackSizes : St := (.seq (.sets [(2, (.and (.bin .eql (.slen (.s 3)) (.s 5)) (.bin .leq (.s 5) (.k (.int .i64 4096)))))] []) .ret)
noncomputable def S4_swagelaw3_PackSizes : St := (.seq (.sets [(3, (.ext 0 (.s 12))), (4, (.ext 1 (.s 12)))] []) (.seq (.sets [(17, (.bin .neq (.call 13 (.cs (.s 4) .nl)) (.k (.int .i64 0))))] []) (.seq (.ite (.s 17) (.seq (.sets [(2, (.and (.bin .eql (.s 3) (.k (.string ⟨#[]⟩))) (.bin .eql (.call 13 (.cs (.s 4) .nl)) (.k (.int .i64 300)))))] []) .ret) .nop) (.seq (.sets [(5, (.k (.int .i64 4)))] []) (.seq (.sets [(6, (.k (.int .i64 0)))] []) (.seq (.block 0 (.loop S2_swagelaw3_PackSizes)) S3_swagelaw3_PackSizes))))))
noncomputable def S_swagelaw3_PackSizes : St := (.seq (.act (some 1) (.box 24 (.tmp 0))) (.seq (.sets [(2, (.k (.bool false)))] []) (.seq (.sets [(9, (.un .not (.call 16 .nl)))] []) (.seq (.ite (.s 9) (.seq (.sets [(2, (.k (.bool false)))] []) .ret) .nop) (.seq (.sets [(11, (.ldn 1 (.s 1)))] []) (.seq (.act (some 12) (.call 9 [(.tmp 11)])) S4_swagelaw3_PackSizes))))))
noncomputable def R_swagelaw3_PackSizes : Ex := (.s 2)
theorem dec_swagelaw3_PackSizes : opt (dec Try.prog (fun f => roL.contains f) (fun t => G_swagelaw3_PackSizes.contains t) 77 (Try.f7.body.getD .skip)) = S_swagelaw3_PackSizes := by kernel_rfl
theorem res_swagelaw3_PackSizes : resE Try.prog (fun t => G_swagelaw3_PackSizes.contains t) Try.f7.results.toList = some R_swagelaw3_PackSizes := by kernel_rfl
theorem pc_swagelaw3_PackSizes {ds : List DV} {R : DV → DMem → Prop} {M : DMem} (hl : ds.length ≤ 77)
    (h : wpD Try.prog MU_swagelaw3_PackSizes (fun f => roL.contains f) (fun t => G_swagelaw3_PackSizes.contains t) 77 S_swagelaw3_PackSizes (fun δ M' => ∃ d, evD Try.prog M' δ R_swagelaw3_PackSizes = some d ∧ R d M') (fun _ _ _ => False) (fun δ M' => ∃ d, evD Try.prog M' δ R_swagelaw3_PackSizes = some d ∧ R d M') (argD ds) M) :
    PC Try.prog F_swagelaw3_PackSizes ds R M :=
  pc_opt Try.func7 (c := Try.f7.body.getD .skip) (by kernel_rfl) (by kernel_rfl) (by kernel_rfl) dec_swagelaw3_PackSizes res_swagelaw3_PackSizes _ hl h
/-! swage/swagelaw0.CopyProgram -/
abbrev F_swagelaw0_CopyProgram : Nat := 8
def G_swagelaw0_CopyProgram : List Nat := [0, 1, 2, 3, 4, 5, 10]
def MU_swagelaw0_CopyProgram (d : Nat) : Bool := ([5] : List Nat).contains d
noncomputable def S1_swagelaw0_CopyProgram : St := (.seq (.sets [(21, (.fa 2 (.s 5)))] []) (.seq (.act none (.store 1 (.tmp 21) (.tmp 20))) (.seq (.sets [(23, (.ld (.fa 0 (.s 3)))), (24, (.ldn 3 (.s 5)))] []) (.seq (.act (some 25) (.bslice 46 3 [(.int .i64 0), (.int .i64 0), (.slice none 0 0)] 1 [(0, (.tmp 24))])) (.seq (.act (some 26) (.app 46 3 40 (.tmp 23) (.tmp 25))) (.seq (.sets [(27, (.fa 0 (.s 3)))] []) (.seq (.act none (.store 1 (.tmp 27) (.tmp 26))) (.sets [] []))))))))
noncomputable def S2_swagelaw0_CopyProgram : St := (.seq (.sets [(10, (.bin .lss (.s 4) (.len (.ld (.fa 0 (.s 1))))))] []) (.seq (.ite (.s 10) .nop (.exit 0)) (.seq (.block 1 (.seq (.sets [(17, (.ldn 3 (.ix 3 (.ld (.fa 0 (.s 1))) (.s 4))))] []) (.seq (.act (some 5) (.var 46 3 (.tmp 17))) (.seq (.sets [(19, (.ld (.fa 2 (.s 5))))] []) (.seq (.act (some 20) (.call 17 [(.tmp 19)])) S1_swagelaw0_CopyProgram))))) (.sets [(4, (.bin .add (.s 4) (.k (.int .i64 1))))] []))))
noncomputable def S3_swagelaw0_CopyProgram : St := (.seq (.sets [(28, (.ldn 1 (.s 3)))] []) (.seq (.act none (.store 1 (.tmp 2) (.tmp 28))) .ret))
noncomputable def S_swagelaw0_CopyProgram : St := (.seq (.act (some 1) (.box 24 (.tmp 0))) (.seq (.act (some 2) (.alloc 24 (.agg #[(.slice none 0 0)]))) (.seq (.act (some 3) (.alloc 24 (.agg #[(.slice none 0 0)]))) (.seq (.sets [(4, (.k (.int .i64 0)))] []) (.seq (.block 0 (.loop S2_swagelaw0_CopyProgram)) S3_swagelaw0_CopyProgram)))))
noncomputable def R_swagelaw0_CopyProgram : Ex := (.ldn 1 (.s 2))
theorem dec_swagelaw0_CopyProgram : opt (dec Try.prog (fun f => roL.contains f) (fun t => G_swagelaw0_CopyProgram.contains t) 29 (Try.f8.body.getD .skip)) = S_swagelaw0_CopyProgram := by kernel_rfl
theorem res_swagelaw0_CopyProgram : resE Try.prog (fun t => G_swagelaw0_CopyProgram.contains t) Try.f8.results.toList = some R_swagelaw0_CopyProgram := by kernel_rfl
theorem pc_swagelaw0_CopyProgram {ds : List DV} {R : DV → DMem → Prop} {M : DMem} (hl : ds.length ≤ 29)
    (h : wpD Try.prog MU_swagelaw0_CopyProgram (fun f => roL.contains f) (fun t => G_swagelaw0_CopyProgram.contains t) 29 S_swagelaw0_CopyProgram (fun δ M' => ∃ d, evD Try.prog M' δ R_swagelaw0_CopyProgram = some d ∧ R d M') (fun _ _ _ => False) (fun δ M' => ∃ d, evD Try.prog M' δ R_swagelaw0_CopyProgram = some d ∧ R d M') (argD ds) M) :
    PC Try.prog F_swagelaw0_CopyProgram ds R M :=
  pc_opt Try.func8 (c := Try.f8.body.getD .skip) (by kernel_rfl) (by kernel_rfl) (by kernel_rfl) dec_swagelaw0_CopyProgram res_swagelaw0_CopyProgram _ hl h
/-! swage/pack.Put -/
abbrev F_pack_Put : Nat := 9
def G_pack_Put : List Nat := [0, 1, 2, 3, 4, 6, 8, 9, 11, 21, 22, 23, 24, 41, 42, 43, 44, 53, 75]
def MU_pack_Put (d : Nat) : Bool := ([12] : List Nat).contains d
noncomputable def S1_pack_Put : St := (.seq (.sets [(44, (.bin .lss (.s 43) (.s 42)))] []) (.seq (.ite (.s 44) .nop (.exit 2)) (.seq (.block 3 (.seq (.sets [(46, (.ldn 2 (.ix 2 (.s 41) (.s 43))))] []) (.seq (.act (some 8) (.var 43 2 (.tmp 46))) (.seq (.sets [(47, (.s 4)), (50, (.cvt .u8 (.ld (.fa 0 (.s 8)))))] []) (.seq (.act (some 51) (.bslice 5 1 [(.int .u8 0)] 1 [(0, (.tmp 50))])) (.seq (.act (some 52) (.app 5 1 1 (.tmp 47) (.tmp 51))) (.seq (.sets [(4, (.s 52))] []) (.block 4 (.seq (.sets [(53, (.bin .eql (.ld (.fa 0 (.s 8))) (.k (.int .i64 0))))] []) (.ite (.s 53) (.seq (.sets [(9, (.cvt .u32 (.cvt .i32 (.ld (.fa 1 (.s 8))))))] []) (.seq (.sets [(61, (.s 4)), (63, (.cvt .u8 (.s 9))), (66, (.cvt .u8 (.bin .shr (.s 9) (.k (.int .u64 8))))), (69, (.cvt .u8 (.bin .shr (.s 9) (.k (.int .u64 16))))), (72, (.cvt .u8 (.bin .shr (.s 9) (.k (.int .u64 24)))))] []) (.seq (.act (some 73) (.bslice 5 1 [(.int .u8 0), (.int .u8 0), (.int .u8 0), (.int .u8 0)] 4 [(0, (.tmp 63)), (1, (.tmp 66)), (2, (.tmp 69)), (3, (.tmp 72))])) (.seq (.act (some 74) (.app 5 1 1 (.tmp 61) (.tmp 73))) (.sets [(4, (.s 74))] []))))) (.seq (.sets [(75, (.call 19 (.cs (.ld (.fa 0 (.s 8))) .nl)))] []) (.ite (.s 75) (.seq (.sets [(79, (.s 4)), (82, (.cvt .u8 (.ld (.fa 1 (.s 8)))))] []) (.seq (.act (some 83) (.bslice 5 1 [(.int .u8 0)] 1 [(0, (.tmp 82))])) (.seq (.act (some 84) (.app 5 1 1 (.tmp 79) (.tmp 83))) (.sets [(4, (.s 84))] [])))) .nop)))))))))))) (.sets [(43, (.bin .add (.s 43) (.k (.int .i64 1))))] []))))
noncomputable def S2_pack_Put : St := (.seq (.sets [(24, (.bin .lss (.s 23) (.s 22)))] []) (.seq (.ite (.s 24) .nop (.exit 0)) (.seq (.block 1 (.seq (.sets [(26, (.ldn 3 (.ix 3 (.s 21) (.s 23))))] []) (.seq (.act (some 6) (.var 46 3 (.tmp 26))) (.seq (.sets [(27, (.s 4)), (30, (.cvt .u8 (.ld (.fa 0 (.s 6))))), (33, (.cvt .u8 (.ld (.fa 1 (.s 6))))), (37, (.cvt .u8 (.len (.ld (.fa 2 (.s 6))))))] []) (.seq (.act (some 38) (.bslice 5 1 [(.int .u8 0), (.int .u8 0), (.int .u8 0)] 3 [(0, (.tmp 30)), (1, (.tmp 33)), (2, (.tmp 37))])) (.seq (.act (some 39) (.app 5 1 1 (.tmp 27) (.tmp 38))) (.seq (.sets [(4, (.s 39))] []) (.seq (.sets [(41, (.ld (.fa 2 (.s 6)))), (42, (.len (.ld (.fa 2 (.s 6))))), (43, (.k (.int .i64 0)))] []) (.block 2 (.loop S1_pack_Put)))))))))) (.sets [(23, (.bin .add (.s 23) (.k (.int .i64 1))))] []))))
noncomputable def S3_pack_Put : St := (.seq (.sets [(87, (.s 4))] []) (.seq (.eff ⟨(some 88), (.convert 56 9 (.tmp 87)), 9, "", #[], none⟩) (.seq (.sets [(2, (.s 88)), (3, (.k (.int .i64 0)))] []) .ret)))
noncomputable def S_pack_Put : St := (.seq (.act (some 1) (.box 24 (.tmp 0))) (.seq (.sets [(2, (.k (.string ⟨#[]⟩))), (3, (.k (.int .i64 0)))] []) (.seq (.sets [(11, (.un .not (.call 18 (.cs (.s 1) .nl))))] []) (.seq (.ite (.s 11) (.seq (.sets [(2, (.k (.string ⟨#[]⟩))), (3, (.k (.int .i64 300)))] []) .ret) .nop) (.seq (.act (some 12) (.bslice 5 1 [(.int .u8 0), (.int .u8 0), (.int .u8 0)] 3 [(0, (.const (.int .u8 84))), (1, (.const (.int .u8 105))), (2, (.const (.int .u8 107)))])) (.seq (.eff ⟨(some 13), (.convert 56 56 (.tmp 12)), 56, "", #[], none⟩) (.seq (.sets [(17, (.cvt .u8 (.len (.ld (.fa 0 (.s 1))))))] []) (.seq (.act (some 18) (.bslice 5 1 [(.int .u8 0)] 1 [(0, (.tmp 17))])) (.seq (.act (some 19) (.app 5 1 1 (.tmp 13) (.tmp 18))) (.seq (.sets [(4, (.s 19))] []) (.seq (.sets [(21, (.ld (.fa 0 (.s 1)))), (22, (.len (.ld (.fa 0 (.s 1))))), (23, (.k (.int .i64 0)))] []) (.seq (.block 0 (.loop S2_pack_Put)) S3_pack_Put))))))))))))
noncomputable def R_pack_Put : Ex := (.cs (.s 2) (.cs (.s 3) .nl))
theorem dec_pack_Put : opt (dec Try.prog (fun f => roL.contains f) (fun t => G_pack_Put.contains t) 89 (Try.f9.body.getD .skip)) = S_pack_Put := by kernel_rfl
theorem res_pack_Put : resE Try.prog (fun t => G_pack_Put.contains t) Try.f9.results.toList = some R_pack_Put := by kernel_rfl
theorem pc_pack_Put {ds : List DV} {R : DV → DMem → Prop} {M : DMem} (hl : ds.length ≤ 89)
    (h : wpD Try.prog MU_pack_Put (fun f => roL.contains f) (fun t => G_pack_Put.contains t) 89 S_pack_Put (fun δ M' => ∃ d, evD Try.prog M' δ R_pack_Put = some d ∧ R d M') (fun _ _ _ => False) (fun δ M' => ∃ d, evD Try.prog M' δ R_pack_Put = some d ∧ R d M') (argD ds) M) :
    PC Try.prog F_pack_Put ds R M :=
  pc_opt Try.func9 (c := Try.f9.body.getD .skip) (by kernel_rfl) (by kernel_rfl) (by kernel_rfl) dec_pack_Put res_pack_Put _ hl h
/-! swage/swageref1.Put -/
abbrev F_swageref1_Put : Nat := 10
def G_swageref1_Put : List Nat := [0, 1, 2, 3, 4, 5, 6, 7, 8, 9, 12, 22, 47, 63, 84]
def MU_swageref1_Put (d : Nat) : Bool := ([17] : List Nat).contains d
noncomputable def S1_swageref1_Put : St := (.seq (.sets [(47, (.bin .lss (.s 7) (.len (.ld (.fa 2 (.s 6))))))] []) (.seq (.ite (.s 47) .nop (.exit 2)) (.seq (.block 3 (.seq (.sets [(54, (.ldn 2 (.ix 2 (.ld (.fa 2 (.s 6))) (.s 7))))] []) (.seq (.act (some 8) (.var 43 2 (.tmp 54))) (.seq (.sets [(55, (.s 4)), (58, (.cvt .u8 (.ld (.fa 0 (.s 8)))))] []) (.seq (.act (some 59) (.bslice 5 1 [(.int .u8 0)] 1 [(0, (.tmp 58))])) (.seq (.act (some 60) (.app 5 1 1 (.tmp 55) (.tmp 59))) (.seq (.sets [(4, (.s 60))] []) (.seq (.sets [(63, (.bin .eql (.ld (.fa 0 (.s 8))) (.k (.int .i64 0))))] []) (.seq (.ite (.s 63) (.seq (.sets [(9, (.cvt .u32 (.cvt .u64 (.ld (.fa 1 (.s 8))))))] []) (.seq (.sets [(68, (.s 4)), (70, (.cvt .u8 (.s 9))), (73, (.cvt .u8 (.bin .shr (.s 9) (.k (.int .u64 8))))), (76, (.cvt .u8 (.bin .shr (.s 9) (.k (.int .u64 16))))), (79, (.cvt .u8 (.bin .shr (.s 9) (.k (.int .u64 24)))))] []) (.seq (.act (some 80) (.bslice 5 1 [(.int .u8 0), (.int .u8 0), (.int .u8 0), (.int .u8 0)] 4 [(0, (.tmp 70)), (1, (.tmp 73)), (2, (.tmp 76)), (3, (.tmp 79))])) (.seq (.act (some 81) (.app 5 1 1 (.tmp 68) (.tmp 80))) (.sets [(4, (.s 81))] []))))) .nop) (.seq (.sets [(84, (.call 21 (.cs (.ld (.fa 0 (.s 8))) .nl)))] []) (.ite (.s 84) (.seq (.sets [(85, (.s 4)), (88, (.cvt .u8 (.ld (.fa 1 (.s 8)))))] []) (.seq (.act (some 89) (.bslice 5 1 [(.int .u8 0)] 1 [(0, (.tmp 88))])) (.seq (.act (some 90) (.app 5 1 1 (.tmp 85) (.tmp 89))) (.sets [(4, (.s 90))] [])))) .nop))))))))))) (.sets [(7, (.bin .add (.s 7) (.k (.int .i64 1))))] []))))
noncomputable def S2_swageref1_Put : St := (.seq (.sets [(22, (.bin .lss (.s 5) (.len (.ld (.fa 0 (.s 1))))))] []) (.seq (.ite (.s 22) .nop (.exit 0)) (.seq (.block 1 (.seq (.sets [(29, (.ldn 3 (.ix 3 (.ld (.fa 0 (.s 1))) (.s 5))))] []) (.seq (.act (some 6) (.var 46 3 (.tmp 29))) (.seq (.sets [(30, (.s 4)), (33, (.cvt .u8 (.ld (.fa 0 (.s 6))))), (36, (.cvt .u8 (.ld (.fa 1 (.s 6))))), (40, (.cvt .u8 (.len (.ld (.fa 2 (.s 6))))))] []) (.seq (.act (some 41) (.bslice 5 1 [(.int .u8 0), (.int .u8 0), (.int .u8 0)] 3 [(0, (.tmp 33)), (1, (.tmp 36)), (2, (.tmp 40))])) (.seq (.act (some 42) (.app 5 1 1 (.tmp 30) (.tmp 41))) (.seq (.sets [(4, (.s 42))] []) (.seq (.sets [(7, (.k (.int .i64 0)))] []) (.block 2 (.loop S1_swageref1_Put)))))))))) (.sets [(5, (.bin .add (.s 5) (.k (.int .i64 1))))] []))))
noncomputable def S3_swageref1_Put : St := (.seq (.sets [(91, (.s 4))] []) (.seq (.eff ⟨(some 92), (.convert 56 9 (.tmp 91)), 9, "", #[], none⟩) (.seq (.sets [(2, (.s 92)), (3, (.k (.int .i64 0)))] []) .ret)))
noncomputable def S_swageref1_Put : St := (.seq (.act (some 1) (.box 24 (.tmp 0))) (.seq (.sets [(2, (.k (.string ⟨#[]⟩))), (3, (.k (.int .i64 0)))] []) (.seq (.sets [(12, (.un .not (.call 20 (.cs (.ldn 1 (.s 1)) .nl))))] []) (.seq (.ite (.s 12) (.seq (.sets [(2, (.k (.string ⟨#[]⟩))), (3, (.k (.int .i64 300)))] []) .ret) .nop) (.seq (.sets [(16, (.cvt .u8 (.len (.ld (.fa 0 (.s 1))))))] []) (.seq (.act (some 17) (.bslice 5 1 [(.int .u8 0), (.int .u8 0), (.int .u8 0), (.int .u8 0)] 4 [(0, (.const (.int .u8 84))), (1, (.const (.int .u8 105))), (2, (.const (.int .u8 107))), (3, (.tmp 16))])) (.seq (.sets [(4, (.s 17))] []) (.seq (.sets [(5, (.k (.int .i64 0)))] []) (.seq (.block 0 (.loop S2_swageref1_Put)) S3_swageref1_Put)))))))))
noncomputable def R_swageref1_Put : Ex := (.cs (.s 2) (.cs (.s 3) .nl))
theorem dec_swageref1_Put : opt (dec Try.prog (fun f => roL.contains f) (fun t => G_swageref1_Put.contains t) 93 (Try.f10.body.getD .skip)) = S_swageref1_Put := by kernel_rfl
theorem res_swageref1_Put : resE Try.prog (fun t => G_swageref1_Put.contains t) Try.f10.results.toList = some R_swageref1_Put := by kernel_rfl
theorem pc_swageref1_Put {ds : List DV} {R : DV → DMem → Prop} {M : DMem} (hl : ds.length ≤ 93)
    (h : wpD Try.prog MU_swageref1_Put (fun f => roL.contains f) (fun t => G_swageref1_Put.contains t) 93 S_swageref1_Put (fun δ M' => ∃ d, evD Try.prog M' δ R_swageref1_Put = some d ∧ R d M') (fun _ _ _ => False) (fun δ M' => ∃ d, evD Try.prog M' δ R_swageref1_Put = some d ∧ R d M') (argD ds) M) :
    PC Try.prog F_swageref1_Put ds R M :=
  pc_opt Try.func10 (c := Try.f10.body.getD .skip) (by kernel_rfl) (by kernel_rfl) (by kernel_rfl) dec_swageref1_Put res_swageref1_Put _ hl h
/-! swage/pack.Get -/
abbrev F_pack_Get : Nat := 11
def G_pack_Get : List Nat := [0, 2, 3, 4, 5, 6, 7, 8, 9, 10, 29, 62]
def MU_pack_Get (d : Nat) : Bool := ([18] : List Nat).contains d
def O0_pack_Get : Array Oper := #[⟨(some 32), (.fieldAddr 24 (.tmp 7) 0), 0, "pack.go:116", #[], none⟩, ⟨(some 33), (.load 22 (.tmp 32)), 22, "pack.go:116", #[⟨0, .data⟩], none⟩, ⟨(some 34), (.move (.tmp 6)), 59, "pack.go:116", #[], none⟩, ⟨(some 35), (.call ⟨(.value (.func 24)), #[(.tmp 34)], #[59]⟩), 46, "pack.go:116", #[⟨2, .data⟩], none⟩, ⟨(some 36), (.buildSlice 22 1 #[(0, (.tmp 35))]), 22, "pack.go:116", #[⟨3, .data⟩], none⟩, ⟨(some 37), (.call ⟨(.builtin .append), #[(.tmp 33), (.tmp 36)], #[22, 22]⟩), 22, "pack.go:116", #[⟨1, .data⟩, ⟨4, .data⟩, ⟨3, .chain⟩], none⟩, ⟨(some 38), (.fieldAddr 24 (.tmp 7) 0), 0, "pack.go:116", #[⟨0, .phase⟩, ⟨1, .phase⟩, ⟨2, .phase⟩, ⟨3, .phase⟩, ⟨4, .phase⟩, ⟨5, .phase⟩], none⟩, ⟨none, (.store 22 (.tmp 38) (.tmp 37)), 0, "pack.go:116", #[⟨6, .data⟩, ⟨5, .data⟩, ⟨5, .chain⟩, ⟨0, .phase⟩, ⟨1, .phase⟩, ⟨2, .phase⟩, ⟨3, .phase⟩, ⟨4, .phase⟩, ⟨5, .phase⟩], none⟩]
def P0_pack_Get : List Sp := [.rd 32 (.fa 0 (.s 7)), .rd 33 (.ld (.s 32)), .rd 34 (.s 6), .ck 32 (.fa 0 (.s 7)), .ck 33 (.ld (.s 32)), .ck 34 (.s 6), .hd (some 35) (.call 24 [(.tmp 34)]), .fr 36 (.bslice 46 3 [(.int .i64 0), (.int .i64 0), (.slice none 0 0)] 1 [(0, (.tmp 35))]), .ck 32 (.fa 0 (.s 7)), .ck 33 (.ld (.s 32)), .cf 36 (.bslice 46 3 [(.int .i64 0), (.int .i64 0), (.slice none 0 0)] 1 [(0, (.tmp 35))]), .hd (some 37) (.app 46 3 40 (.tmp 33) (.tmp 36)), .rd 38 (.fa 0 (.s 7)), .ck 38 (.fa 0 (.s 7)), .hd none (.store 1 (.tmp 38) (.tmp 37))]
theorem plan0_pack_Get : planD Try.prog (fun f => roL.contains f) (fun t => G_pack_Get.contains t) 65 MU_pack_Get O0_pack_Get = some P0_pack_Get := by kernel_rfl
theorem raw0_pack_Get (K : DEnv → DMem → Prop) (X : Nat → DEnv → DMem → Prop) (R : DEnv → DMem → Prop) (δ : DEnv) (M : DMem) : rawW Try.prog MU_pack_Get (fun f => roL.contains f) (fun t => G_pack_Get.contains t) 65 (.region 7 O0_pack_Get true) K X R δ M = wpSp Try.prog MU_pack_Get K P0_pack_Get δ M := rawW_eq plan0_pack_Get K X R δ M
noncomputable def S1_pack_Get : St := (.seq (.sets [(23, (.bin .gtr (.s 8) (.k (.int .i64 0)))), (27, (.grd (.bin .gtr (.s 8) (.k (.int .i64 0))) true (.ld (.fa 1 (.nck (.s 6))))))] []) (.seq (.ite (.s 23) (.eff ⟨(some 28), (.binOp .eql 61 (.tmp 27) (.const .nilIface) 61), 4, "", #[], none⟩) (.sets [(28, (.k (.tuple #[])))] [])) (.seq (.sets [(29, (.pick (.s 23) (.s 28) (.k (.bool false))))] []) (.seq (.ite (.s 29) .nop (.exit 0)) (.seq (.block 1 (.raw (.region 7 O0_pack_Get true))) (.sets [(8, (.bin .sub (.s 8) (.k (.int .i64 1))))] []))))))
noncomputable def S2_pack_Get : St := (.seq (.sets [(62, (.or (.or (.pick (.s 46) (.k (.bool true)) (.s 52)) (.bin .neq (.s 10) (.k (.int .i64 0)))) (.bin .neq (.s 9) (.s 0))))] []) (.seq (.ite (.s 62) (.seq (.sets [(63, (.bld [(.slice none 0 0)] [] .nl))] []) (.seq (.act none (.store 1 (.tmp 2) (.tmp 63))) (.seq (.sets [(3, (.k (.int .i64 300)))] []) .ret))) .nop) (.seq (.sets [(64, (.ldn 1 (.s 7)))] []) (.seq (.act none (.store 1 (.tmp 2) (.tmp 64))) (.seq (.sets [(3, (.k (.int .i64 0)))] []) .ret)))))
noncomputable def S3_pack_Get : St := (.seq (.sets [(9, (.ext 0 (.s 41))), (10, (.ext 1 (.s 41)))] []) (.seq (.sets [(46, (.un .not (.s 5))), (50, (.grd (.un .not (.s 5)) false (.ld (.fa 1 (.nck (.s 6)))))), (51, (.grd (.un .not (.s 5)) false (.ifc 26 (.k (.int .i64 300)))))] []) (.seq (.ite (.s 46) (.sets [(52, (.k (.tuple #[])))] []) (.act (some 52) (.call 25 [(.tmp 50), (.tmp 51)]))) S2_pack_Get)))
noncomputable def S4_pack_Get : St := (.seq (.sets [(40, (.ldn 1 (.s 7)))] []) (.seq (.act (some 41) (.call 9 [(.tmp 40)])) S3_pack_Get))
noncomputable def S5_pack_Get : St := (.seq (.sets [(8, (.s 20))] []) (.seq (.block 0 (.loop S1_pack_Get)) S4_pack_Get))
noncomputable def S_pack_Get : St := (.seq (.act (some 2) (.alloc 24 (.agg #[(.slice none 0 0)]))) (.seq (.sets [(3, (.k (.int .i64 0)))] []) (.seq (.sets [(4, (.ext 0 (.call 22 (.cs (.s 0) (.cs (.k (.string ⟨#[84, 105, 107]⟩)) .nl))))), (5, (.ext 1 (.call 22 (.cs (.s 0) (.cs (.k (.string ⟨#[84, 105, 107]⟩)) .nl)))))] []) (.seq (.sets [(17, (.bld [(.string ⟨#[]⟩), .nilIface] [(0, 1)] (.cs (.s 4) .nl)))] []) (.seq (.act (some 18) (.box 63 (.tmp 17))) (.seq (.sets [(6, (.s 18))] []) (.seq (.act (some 7) (.alloc 24 (.agg #[(.slice none 0 0)]))) (.seq (.sets [(19, (.s 6))] []) (.seq (.act (some 20) (.call 23 [(.tmp 19), (.const (.string ⟨#[99, 111, 117, 110, 116]⟩))])) S5_pack_Get)))))))))
noncomputable def R_pack_Get : Ex := (.cs (.ldn 1 (.s 2)) (.cs (.s 3) .nl))
theorem dec_pack_Get : opt (dec Try.prog (fun f => roL.contains f) (fun t => G_pack_Get.contains t) 65 (Try.f11.body.getD .skip)) = S_pack_Get := by kernel_rfl
theorem res_pack_Get : resE Try.prog (fun t => G_pack_Get.contains t) Try.f11.results.toList = some R_pack_Get := by kernel_rfl
theorem pc_pack_Get {ds : List DV} {R : DV → DMem → Prop} {M : DMem} (hl : ds.length ≤ 65)
    (h : wpD Try.prog MU_pack_Get (fun f => roL.contains f) (fun t => G_pack_Get.contains t) 65 S_pack_Get (fun δ M' => ∃ d, evD Try.prog M' δ R_pack_Get = some d ∧ R d M') (fun _ _ _ => False) (fun δ M' => ∃ d, evD Try.prog M' δ R_pack_Get = some d ∧ R d M') (argD ds) M) :
    PC Try.prog F_pack_Get ds R M :=
  pc_opt Try.func11 (c := Try.f11.body.getD .skip) (by kernel_rfl) (by kernel_rfl) (by kernel_rfl) dec_pack_Get res_pack_Get _ hl h
/-! swage/swageref1.Get -/
abbrev F_swageref1_Get : Nat := 12
def G_swageref1_Get : List Nat := [0, 2, 3, 4, 5, 6, 7, 8, 9, 10, 11, 12, 13, 14, 29, 49, 57, 80, 113]
def MU_swageref1_Get (d : Nat) : Bool := ([17, 8, 11] : List Nat).contains d
noncomputable def S1_swageref1_Get : St := (.seq (.sets [(12, (.bin .add (.s 70) (.bin .shl (.s 72) (.k (.int .u64 24)))))] []) (.seq (.sets [(76, (.call 27 (.cs (.s 12) .nl))), (77, (.fa 1 (.s 11)))] []) (.seq (.act none (.store 1 (.tmp 77) (.tmp 76))) (.sets [] []))))
noncomputable def S2_swageref1_Get : St := (.seq (.sets [(12, (.bin .add (.s 65) (.bin .shl (.s 67) (.k (.int .u64 16)))))] []) (.seq (.sets [(70, (.s 12)), (71, (.s 4))] []) (.seq (.act (some 72) (.call 26 [(.tmp 71)])) S1_swageref1_Get)))
noncomputable def S3_swageref1_Get : St := (.seq (.sets [(12, (.bin .add (.s 60) (.bin .shl (.s 62) (.k (.int .u64 8)))))] []) (.seq (.sets [(65, (.s 12)), (66, (.s 4))] []) (.seq (.act (some 67) (.call 26 [(.tmp 66)])) S2_swageref1_Get)))
noncomputable def S4_swageref1_Get : St := (.seq (.sets [(12, (.s 59))] []) (.seq (.sets [(60, (.s 12)), (61, (.s 4))] []) (.seq (.act (some 62) (.call 26 [(.tmp 61)])) S3_swageref1_Get)))
noncomputable def S5_swageref1_Get : St := (.seq (.sets [(83, (.fa 1 (.s 11)))] []) (.seq (.act none (.store 1 (.tmp 83) (.tmp 82))) (.sets [] [])))
noncomputable def S6_swageref1_Get : St := (.seq (.sets [(85, (.ld (.fa 2 (.s 8)))), (86, (.ldn 2 (.s 11)))] []) (.seq (.act (some 87) (.bslice 43 2 [(.int .i64 0), (.int .i64 0)] 1 [(0, (.tmp 86))])) (.seq (.act (some 88) (.app 43 2 16 (.tmp 85) (.tmp 87))) (.seq (.sets [(89, (.fa 2 (.s 8)))] []) (.seq (.act none (.store 1 (.tmp 89) (.tmp 88))) (.sets [] []))))))
noncomputable def S7_swageref1_Get : St := (.seq (.sets [(80, (.call 21 (.cs (.ld (.fa 0 (.s 11))) .nl)))] []) (.seq (.ite (.s 80) (.seq (.sets [(81, (.s 4))] []) (.seq (.act (some 82) (.call 26 [(.tmp 81)])) S5_swageref1_Get)) .nop) S6_swageref1_Get))
noncomputable def S8_swageref1_Get : St := (.seq (.sets [(54, (.bld [(.int .i64 0), (.int .i64 0)] [(0, 1)] (.cs (.s 53) .nl)))] []) (.seq (.act (some 11) (.var 43 2 (.tmp 54))) (.seq (.sets [(57, (.bin .eql (.ld (.fa 0 (.s 11))) (.k (.int .i64 0))))] []) (.seq (.ite (.s 57) (.seq (.sets [(58, (.s 4))] []) (.seq (.act (some 59) (.call 26 [(.tmp 58)])) S4_swageref1_Get)) .nop) S7_swageref1_Get))))
noncomputable def S9_swageref1_Get : St := (.seq (.sets [(49, (.and (.bin .lss (.s 10) (.s 9)) (.un .not (.ld (.fa 2 (.nck (.s 4)))))))] []) (.seq (.ite (.s 49) .nop (.exit 2)) (.seq (.block 3 (.seq (.sets [(52, (.s 4))] []) (.seq (.act (some 53) (.call 26 [(.tmp 52)])) S8_swageref1_Get))) (.sets [(10, (.bin .add (.s 10) (.k (.int .i64 1))))] []))))
noncomputable def S10_swageref1_Get : St := (.seq (.sets [(91, (.ld (.fa 0 (.s 5)))), (92, (.ldn 3 (.s 8)))] []) (.seq (.act (some 93) (.bslice 46 3 [(.int .i64 0), (.int .i64 0), (.slice none 0 0)] 1 [(0, (.tmp 92))])) (.seq (.act (some 94) (.app 46 3 40 (.tmp 91) (.tmp 93))) (.seq (.sets [(95, (.fa 0 (.s 5)))] []) (.seq (.act none (.store 1 (.tmp 95) (.tmp 94))) (.sets [] []))))))
noncomputable def S11_swageref1_Get : St := (.seq (.sets [(9, (.s 39))] []) (.seq (.sets [(10, (.k (.int .i64 0)))] []) (.seq (.block 2 (.loop S9_swageref1_Get)) S10_swageref1_Get)))
noncomputable def S12_swageref1_Get : St := (.seq (.sets [(37, (.fa 1 (.s 8)))] []) (.seq (.act none (.store 1 (.tmp 37) (.tmp 36))) (.seq (.sets [(38, (.s 4))] []) (.seq (.act (some 39) (.call 26 [(.tmp 38)])) S11_swageref1_Get))))
noncomputable def S13_swageref1_Get : St := (.seq (.sets [(34, (.bld [(.int .i64 0), (.int .i64 0), (.slice none 0 0)] [(0, 1)] (.cs (.s 33) .nl)))] []) (.seq (.act (some 8) (.var 46 3 (.tmp 34))) (.seq (.sets [(35, (.s 4))] []) (.seq (.act (some 36) (.call 26 [(.tmp 35)])) S12_swageref1_Get))))
noncomputable def S14_swageref1_Get : St := (.seq (.sets [(29, (.and (.bin .lss (.s 7) (.s 6)) (.un .not (.ld (.fa 2 (.nck (.s 4)))))))] []) (.seq (.ite (.s 29) .nop (.exit 0)) (.seq (.block 1 (.seq (.sets [(32, (.s 4))] []) (.seq (.act (some 33) (.call 26 [(.tmp 32)])) S13_swageref1_Get))) (.sets [(7, (.bin .add (.s 7) (.k (.int .i64 1))))] []))))
noncomputable def S15_swageref1_Get : St := (.seq (.sets [(13, (.ext 0 (.s 98))), (14, (.ext 1 (.s 98)))] []) (.seq (.sets [(113, (.or (.or (.ld (.fa 2 (.nck (.s 4)))) (.bin .neq (.s 14) (.k (.int .i64 0)))) (.bin .neq (.s 13) (.s 0))))] []) (.seq (.ite (.s 113) (.seq (.sets [(114, (.bld [(.slice none 0 0)] [] .nl))] []) (.seq (.act none (.store 1 (.tmp 2) (.tmp 114))) (.seq (.sets [(3, (.k (.int .i64 300)))] []) .ret))) .nop) (.seq (.sets [(115, (.ldn 1 (.s 5)))] []) (.seq (.act none (.store 1 (.tmp 2) (.tmp 115))) (.seq (.sets [(3, (.k (.int .i64 0)))] []) .ret))))))
noncomputable def S16_swageref1_Get : St := (.seq (.sets [(97, (.ldn 1 (.s 5)))] []) (.seq (.act (some 98) (.call 10 [(.tmp 97)])) S15_swageref1_Get))
noncomputable def S17_swageref1_Get : St := (.seq (.sets [(6, (.s 19))] []) (.seq (.sets [(7, (.k (.int .i64 0)))] []) (.seq (.block 0 (.loop S14_swageref1_Get)) S16_swageref1_Get)))
noncomputable def S_swageref1_Get : St := (.seq (.act (some 2) (.alloc 24 (.agg #[(.slice none 0 0)]))) (.seq (.sets [(3, (.k (.int .i64 0)))] []) (.seq (.sets [(16, (.bld [(.string ⟨#[]⟩), (.int .i64 0), (.bool false)] [(0, 1), (1, 1)] (.cs (.s 0) (.cs (.k (.int .i64 3)) .nl))))] []) (.seq (.act (some 17) (.box 69 (.tmp 16))) (.seq (.sets [(4, (.s 17))] []) (.seq (.act (some 5) (.alloc 24 (.agg #[(.slice none 0 0)]))) (.seq (.sets [(18, (.s 4))] []) (.seq (.act (some 19) (.call 26 [(.tmp 18)])) S17_swageref1_Get))))))))
noncomputable def R_swageref1_Get : Ex := (.cs (.ldn 1 (.s 2)) (.cs (.s 3) .nl))
theorem dec_swageref1_Get : opt (dec Try.prog (fun f => roL.contains f) (fun t => G_swageref1_Get.contains t) 116 (Try.f12.body.getD .skip)) = S_swageref1_Get := by kernel_rfl
theorem res_swageref1_Get : resE Try.prog (fun t => G_swageref1_Get.contains t) Try.f12.results.toList = some R_swageref1_Get := by kernel_rfl
theorem pc_swageref1_Get {ds : List DV} {R : DV → DMem → Prop} {M : DMem} (hl : ds.length ≤ 116)
    (h : wpD Try.prog MU_swageref1_Get (fun f => roL.contains f) (fun t => G_swageref1_Get.contains t) 116 S_swageref1_Get (fun δ M' => ∃ d, evD Try.prog M' δ R_swageref1_Get = some d ∧ R d M') (fun _ _ _ => False) (fun δ M' => ∃ d, evD Try.prog M' δ R_swageref1_Get = some d ∧ R d M') (argD ds) M) :
    PC Try.prog F_swageref1_Get ds R M :=
  pc_opt Try.func12 (c := Try.f12.body.getD .skip) (by kernel_rfl) (by kernel_rfl) (by kernel_rfl) dec_swageref1_Get res_swageref1_Get _ hl h
/-! swage/swagelaw0.Num -/
abbrev F_swagelaw0_Num : Nat := 13
def G_swagelaw0_Num : List Nat := [0, 2]
def MU_swagelaw0_Num (d : Nat) : Bool := ([] : List Nat).contains d
noncomputable def S_swagelaw0_Num : St := (.seq (.sets [(2, (.k (.int .i64 0)))] []) (.seq (.sets [(2, (.s 0))] []) .ret))
noncomputable def R_swagelaw0_Num : Ex := (.s 2)
theorem dec_swagelaw0_Num : opt (dec Try.prog (fun f => roL.contains f) (fun t => G_swagelaw0_Num.contains t) 4 (Try.f13.body.getD .skip)) = S_swagelaw0_Num := by kernel_rfl
theorem res_swagelaw0_Num : resE Try.prog (fun t => G_swagelaw0_Num.contains t) Try.f13.results.toList = some R_swagelaw0_Num := by kernel_rfl
theorem pc_swagelaw0_Num {ds : List DV} {R : DV → DMem → Prop} {M : DMem} (hl : ds.length ≤ 4)
    (h : wpD Try.prog MU_swagelaw0_Num (fun f => roL.contains f) (fun t => G_swagelaw0_Num.contains t) 4 S_swagelaw0_Num (fun δ M' => ∃ d, evD Try.prog M' δ R_swagelaw0_Num = some d ∧ R d M') (fun _ _ _ => False) (fun δ M' => ∃ d, evD Try.prog M' δ R_swagelaw0_Num = some d ∧ R d M') (argD ds) M) :
    PC Try.prog F_swagelaw0_Num ds R M :=
  pc_opt Try.func13 (c := Try.f13.body.getD .skip) (by kernel_rfl) (by kernel_rfl) (by kernel_rfl) dec_swagelaw0_Num res_swagelaw0_Num _ hl h
/-! swage/swagelaw0.SameProgram -/
abbrev F_swagelaw0_SameProgram : Nat := 14
def G_swagelaw0_SameProgram : List Nat := [0, 1, 2, 3, 4, 5, 6, 7, 14, 19, 51]
def MU_swagelaw0_SameProgram (d : Nat) : Bool := ([] : List Nat).contains d
def O0_swagelaw0_SameProgram : Array Oper := #[⟨(some 22), (.fieldAddr 24 (.tmp 2) 0), 0, "memory.go:221", #[], none⟩, ⟨(some 23), (.load 22 (.tmp 22)), 22, "memory.go:221", #[⟨0, .data⟩], none⟩, ⟨(some 24), (.move (.tmp 5)), 3, "memory.go:221", #[], none⟩, ⟨(some 25), (.indexAddr 22 (.tmp 23) (.tmp 24)), 0, "memory.go:221", #[⟨1, .data⟩, ⟨2, .data⟩], none⟩, ⟨(some 26), (.load 46 (.tmp 25)), 46, "memory.go:221", #[⟨3, .data⟩], none⟩, ⟨(some 27), (.fieldAddr 24 (.tmp 3) 0), 0, "memory.go:221", #[⟨12, (.gcOnly .lateStores)⟩], none⟩, ⟨(some 28), (.load 22 (.tmp 27)), 22, "memory.go:221", #[⟨5, .data⟩, ⟨12, (.gcOnly .lateStores)⟩], none⟩, ⟨(some 29), (.move (.tmp 5)), 3, "memory.go:221", #[⟨12, (.gcOnly .lateStores)⟩], none⟩, ⟨(some 30), (.indexAddr 22 (.tmp 28) (.tmp 29)), 0, "memory.go:221", #[⟨6, .data⟩, ⟨7, .data⟩, ⟨12, (.gcOnly .lateStores)⟩], none⟩, ⟨(some 31), (.load 46 (.tmp 30)), 46, "memory.go:221", #[⟨8, .data⟩, ⟨12, (.gcOnly .lateStores)⟩], none⟩, ⟨(some 6), (.alloc 46), 0, "memory.go:221", #[], none⟩, ⟨(some 7), (.alloc 46), 0, "memory.go:221", #[], none⟩, ⟨none, (.store 46 (.tmp 6) (.tmp 26)), 0, "memory.go:221", #[⟨10, .data⟩, ⟨4, .data⟩, ⟨0, .phase⟩, ⟨1, .phase⟩, ⟨2, .phase⟩, ⟨3, .phase⟩, ⟨4, .phase⟩, ⟨5, (.textOnly .lateStores)⟩, ⟨6, (.textOnly .lateStores)⟩, ⟨7, (.textOnly .lateStores)⟩, ⟨8, (.textOnly .lateStores)⟩, ⟨9, (.textOnly .lateStores)⟩, ⟨10, .phase⟩, ⟨11, .phase⟩], none⟩, ⟨none, (.store 46 (.tmp 7) (.tmp 31)), 0, "memory.go:221", #[⟨11, .data⟩, ⟨9, .data⟩, ⟨12, .chain⟩, ⟨0, .phase⟩, ⟨1, .phase⟩, ⟨2, .phase⟩, ⟨3, .phase⟩, ⟨4, .phase⟩, ⟨5, .phase⟩, ⟨6, .phase⟩, ⟨7, .phase⟩, ⟨8, .phase⟩, ⟨9, .phase⟩, ⟨10, .phase⟩, ⟨11, .phase⟩, ⟨12, .phase⟩], none⟩]
def P0_swagelaw0_SameProgram : List Sp := [.rd 22 (.fa 0 (.s 2)), .rd 23 (.ld (.s 22)), .rd 24 (.s 5), .rd 25 (.ix 3 (.s 23) (.s 24)), .rd 26 (.ldn 3 (.s 25)), .rd 27 (.fa 0 (.s 3)), .rd 28 (.ld (.s 27)), .rd 29 (.s 5), .rd 30 (.ix 3 (.s 28) (.s 29)), .rd 31 (.ldn 3 (.s 30)), .ck 22 (.fa 0 (.s 2)), .ck 23 (.ld (.s 22)), .ck 24 (.s 5), .ck 25 (.ix 3 (.s 23) (.s 24)), .ck 26 (.ldn 3 (.s 25)), .ck 27 (.fa 0 (.s 3)), .ck 28 (.ld (.s 27)), .ck 29 (.s 5), .ck 30 (.ix 3 (.s 28) (.s 29)), .ck 31 (.ldn 3 (.s 30)), .hd (some 6) (.var 46 3 (.tmp 26)), .ck 27 (.fa 0 (.s 3)), .ck 28 (.ld (.s 27)), .ck 29 (.s 5), .ck 30 (.ix 3 (.s 28) (.s 29)), .ck 31 (.ldn 3 (.s 30)), .hd (some 7) (.var 46 3 (.tmp 31))]
theorem plan0_swagelaw0_SameProgram : planD Try.prog (fun f => roL.contains f) (fun t => G_swagelaw0_SameProgram.contains t) 52 MU_swagelaw0_SameProgram O0_swagelaw0_SameProgram = some P0_swagelaw0_SameProgram := by kernel_rfl
theorem raw0_swagelaw0_SameProgram (K : DEnv → DMem → Prop) (X : Nat → DEnv → DMem → Prop) (R : DEnv → DMem → Prop) (δ : DEnv) (M : DMem) : rawW Try.prog MU_swagelaw0_SameProgram (fun f => roL.contains f) (fun t => G_swagelaw0_SameProgram.contains t) 52 (.region 6 O0_swagelaw0_SameProgram true) K X R δ M = wpSp Try.prog MU_swagelaw0_SameProgram K P0_swagelaw0_SameProgram δ M := rawW_eq plan0_swagelaw0_SameProgram K X R δ M
noncomputable def S1_swagelaw0_SameProgram : St := (.seq (.sets [(51, (.or (.or (.bin .neq (.ld (.fa 0 (.s 6))) (.ld (.fa 0 (.s 7)))) (.bin .neq (.ld (.fa 1 (.s 6))) (.ld (.fa 1 (.s 7))))) (.un .not (.call 28 (.cs (.ld (.fa 2 (.s 6))) (.cs (.ld (.fa 2 (.s 7))) .nl))))))] []) (.ite (.s 51) (.seq (.sets [(4, (.k (.bool false)))] []) .ret) .nop))
noncomputable def S2_swagelaw0_SameProgram : St := (.seq (.sets [(19, (.bin .lss (.s 5) (.len (.ld (.fa 0 (.s 2))))))] []) (.seq (.ite (.s 19) .nop (.exit 0)) (.seq (.block 1 (.seq (.raw (.region 6 O0_swagelaw0_SameProgram true)) S1_swagelaw0_SameProgram)) (.sets [(5, (.bin .add (.s 5) (.k (.int .i64 1))))] []))))
noncomputable def S_swagelaw0_SameProgram : St := (.seq (.act (some 2) (.box 24 (.tmp 0))) (.seq (.act (some 3) (.box 24 (.tmp 1))) (.seq (.sets [(4, (.k (.bool false)))] []) (.seq (.sets [(14, (.bin .neq (.len (.ld (.fa 0 (.s 2)))) (.len (.ld (.fa 0 (.s 3))))))] []) (.seq (.ite (.s 14) (.seq (.sets [(4, (.k (.bool false)))] []) .ret) .nop) (.seq (.sets [(5, (.k (.int .i64 0)))] []) (.seq (.block 0 (.loop S2_swagelaw0_SameProgram)) (.seq (.sets [(4, (.k (.bool true)))] []) .ret))))))))
noncomputable def R_swagelaw0_SameProgram : Ex := (.s 4)
theorem dec_swagelaw0_SameProgram : opt (dec Try.prog (fun f => roL.contains f) (fun t => G_swagelaw0_SameProgram.contains t) 52 (Try.f14.body.getD .skip)) = S_swagelaw0_SameProgram := by kernel_rfl
theorem res_swagelaw0_SameProgram : resE Try.prog (fun t => G_swagelaw0_SameProgram.contains t) Try.f14.results.toList = some R_swagelaw0_SameProgram := by kernel_rfl
theorem pc_swagelaw0_SameProgram {ds : List DV} {R : DV → DMem → Prop} {M : DMem} (hl : ds.length ≤ 52)
    (h : wpD Try.prog MU_swagelaw0_SameProgram (fun f => roL.contains f) (fun t => G_swagelaw0_SameProgram.contains t) 52 S_swagelaw0_SameProgram (fun δ M' => ∃ d, evD Try.prog M' δ R_swagelaw0_SameProgram = some d ∧ R d M') (fun _ _ _ => False) (fun δ M' => ∃ d, evD Try.prog M' δ R_swagelaw0_SameProgram = some d ∧ R d M') (argD ds) M) :
    PC Try.prog F_swagelaw0_SameProgram ds R M :=
  pc_opt Try.func14 (c := Try.f14.body.getD .skip) (by kernel_rfl) (by kernel_rfl) (by kernel_rfl) dec_swagelaw0_SameProgram res_swagelaw0_SameProgram _ hl h
/-! swage/swagelaw0.SpoilProgram -/
abbrev F_swagelaw0_SpoilProgram : Nat := 15
def G_swagelaw0_SpoilProgram : List Nat := [0, 1, 2, 7]
def MU_swagelaw0_SpoilProgram (d : Nat) : Bool := ([] : List Nat).contains d
def O0_swagelaw0_SpoilProgram : Array Oper := #[⟨(some 17), (.fieldAddr 24 (.tmp 1) 0), 0, "memory.go:244", #[], none⟩, ⟨(some 18), (.load 22 (.tmp 17)), 22, "memory.go:244", #[⟨0, .data⟩], none⟩, ⟨(some 19), (.move (.tmp 2)), 3, "memory.go:244", #[], none⟩, ⟨(some 20), (.fieldAddr 24 (.tmp 1) 0), 0, "memory.go:244", #[], none⟩, ⟨(some 21), (.load 22 (.tmp 20)), 22, "memory.go:244", #[⟨3, .data⟩], none⟩, ⟨(some 22), (.move (.tmp 2)), 3, "memory.go:244", #[], none⟩, ⟨(some 23), (.indexAddr 22 (.tmp 21) (.tmp 22)), 0, "memory.go:244", #[⟨4, .data⟩, ⟨5, .data⟩], none⟩, ⟨(some 24), (.fieldAddr 46 (.tmp 23) 0), 0, "memory.go:244", #[⟨6, .data⟩], none⟩, ⟨(some 25), (.load 3 (.tmp 24)), 3, "memory.go:244", #[⟨7, .data⟩], none⟩, ⟨(some 26), (.binOp .xor 3 (.tmp 25) (.const (.int .i64 90)) 3), 3, "memory.go:244", #[⟨8, .data⟩], none⟩, ⟨(some 27), (.indexAddr 22 (.tmp 18) (.tmp 19)), 0, "memory.go:244", #[⟨1, .data⟩, ⟨2, .data⟩, ⟨0, .phase⟩, ⟨1, .phase⟩, ⟨2, .phase⟩, ⟨3, .phase⟩, ⟨4, .phase⟩, ⟨5, .phase⟩, ⟨6, .phase⟩, ⟨7, .phase⟩, ⟨8, .phase⟩, ⟨9, .phase⟩], none⟩, ⟨(some 28), (.fieldAddr 46 (.tmp 27) 0), 0, "memory.go:244", #[⟨10, .data⟩, ⟨0, .phase⟩, ⟨1, .phase⟩, ⟨2, .phase⟩, ⟨3, .phase⟩, ⟨4, .phase⟩, ⟨5, .phase⟩, ⟨6, .phase⟩, ⟨7, .phase⟩, ⟨8, .phase⟩, ⟨9, .phase⟩], none⟩, ⟨none, (.store 3 (.tmp 28) (.tmp 26)), 0, "memory.go:244", #[⟨11, .data⟩, ⟨9, .data⟩, ⟨0, .phase⟩, ⟨1, .phase⟩, ⟨2, .phase⟩, ⟨3, .phase⟩, ⟨4, .phase⟩, ⟨5, .phase⟩, ⟨6, .phase⟩, ⟨7, .phase⟩, ⟨8, .phase⟩, ⟨9, .phase⟩], none⟩]
def P0_swagelaw0_SpoilProgram : List Sp := [.rd 17 (.fa 0 (.s 1)), .rd 18 (.ld (.s 17)), .rd 19 (.s 2), .rd 20 (.fa 0 (.s 1)), .rd 21 (.ld (.s 20)), .rd 22 (.s 2), .rd 23 (.ix 3 (.s 21) (.s 22)), .rd 24 (.fa 0 (.s 23)), .rd 25 (.ld (.s 24)), .rd 26 (.bin .xor (.s 25) (.k (.int .i64 90))), .rd 27 (.ix 3 (.s 18) (.s 19)), .rd 28 (.fa 0 (.s 27)), .ck 17 (.fa 0 (.s 1)), .ck 18 (.ld (.s 17)), .ck 19 (.s 2), .ck 20 (.fa 0 (.s 1)), .ck 21 (.ld (.s 20)), .ck 22 (.s 2), .ck 23 (.ix 3 (.s 21) (.s 22)), .ck 24 (.fa 0 (.s 23)), .ck 25 (.ld (.s 24)), .ck 26 (.bin .xor (.s 25) (.k (.int .i64 90))), .ck 27 (.ix 3 (.s 18) (.s 19)), .ck 28 (.fa 0 (.s 27)), .hd none (.store 1 (.tmp 28) (.tmp 26))]
theorem plan0_swagelaw0_SpoilProgram : planD Try.prog (fun f => roL.contains f) (fun t => G_swagelaw0_SpoilProgram.contains t) 29 MU_swagelaw0_SpoilProgram O0_swagelaw0_SpoilProgram = some P0_swagelaw0_SpoilProgram := by kernel_rfl
theorem raw0_swagelaw0_SpoilProgram (K : DEnv → DMem → Prop) (X : Nat → DEnv → DMem → Prop) (R : DEnv → DMem → Prop) (δ : DEnv) (M : DMem) : rawW Try.prog MU_swagelaw0_SpoilProgram (fun f => roL.contains f) (fun t => G_swagelaw0_SpoilProgram.contains t) 29 (.region 5 O0_swagelaw0_SpoilProgram true) K X R δ M = wpSp Try.prog MU_swagelaw0_SpoilProgram K P0_swagelaw0_SpoilProgram δ M := rawW_eq plan0_swagelaw0_SpoilProgram K X R δ M
noncomputable def S1_swagelaw0_SpoilProgram : St := (.seq (.sets [(7, (.bin .lss (.s 2) (.len (.ld (.fa 0 (.s 1))))))] []) (.seq (.ite (.s 7) .nop (.exit 0)) (.seq (.block 1 (.seq (.sets [(15, (.ld (.fa 2 (.ix 3 (.ld (.fa 0 (.s 1))) (.s 2)))))] []) (.seq (.act (some 16) (.call 29 [(.tmp 15)])) (.raw (.region 5 O0_swagelaw0_SpoilProgram true))))) (.sets [(2, (.bin .add (.s 2) (.k (.int .i64 1))))] []))))
noncomputable def S_swagelaw0_SpoilProgram : St := (.seq (.act (some 1) (.box 24 (.tmp 0))) (.seq (.sets [(2, (.k (.int .i64 0)))] []) (.block 0 (.loop S1_swagelaw0_SpoilProgram))))
noncomputable def R_swagelaw0_SpoilProgram : Ex := .nl
theorem dec_swagelaw0_SpoilProgram : opt (dec Try.prog (fun f => roL.contains f) (fun t => G_swagelaw0_SpoilProgram.contains t) 29 (Try.f15.body.getD .skip)) = S_swagelaw0_SpoilProgram := by kernel_rfl
theorem res_swagelaw0_SpoilProgram : resE Try.prog (fun t => G_swagelaw0_SpoilProgram.contains t) Try.f15.results.toList = some R_swagelaw0_SpoilProgram := by kernel_rfl
theorem pc_swagelaw0_SpoilProgram {ds : List DV} {R : DV → DMem → Prop} {M : DMem} (hl : ds.length ≤ 29)
    (h : wpD Try.prog MU_swagelaw0_SpoilProgram (fun f => roL.contains f) (fun t => G_swagelaw0_SpoilProgram.contains t) 29 S_swagelaw0_SpoilProgram (fun δ M' => ∃ d, evD Try.prog M' δ R_swagelaw0_SpoilProgram = some d ∧ R d M') (fun _ _ _ => False) (fun δ M' => ∃ d, evD Try.prog M' δ R_swagelaw0_SpoilProgram = some d ∧ R d M') (argD ds) M) :
    PC Try.prog F_swagelaw0_SpoilProgram ds R M :=
  pc_opt Try.func15 (c := Try.f15.body.getD .skip) (by kernel_rfl) (by kernel_rfl) (by kernel_rfl) dec_swagelaw0_SpoilProgram res_swagelaw0_SpoilProgram _ hl h
/-! swage/swagelaw3.awake -/
abbrev F_swagelaw3_awake : Nat := 16
def G_swagelaw3_awake : List Nat := [0, 1, 2, 3, 4, 5, 7, 9]
def MU_swagelaw3_awake (d : Nat) : Bool := ([] : List Nat).contains d
noncomputable def S1_swagelaw3_awake : St := (.seq (.sets [(9, (.ext 1 (.s 35)))] [(.ext 0 (.s 35))]) (.seq (.sets [(0, (.and (.and (.and (.and (.and (.bin .eql (.s 2) (.k (.string ⟨#[84, 105, 107, 1, 1, 2, 3, 0, 254, 255, 255, 255, 2, 1, 16]⟩))) (.bin .eql (.call 13 (.cs (.s 3) .nl)) (.k (.int .i64 0)))) (.call 14 (.cs (.ldn 1 (.s 1)) (.cs (.ldn 1 (.s 4)) .nl)))) (.bin .eql (.call 13 (.cs (.s 5) .nl)) (.k (.int .i64 0)))) (.bin .eql (.call 13 (.cs (.s 7) .nl)) (.k (.int .i64 300)))) (.bin .eql (.call 13 (.cs (.s 9) .nl)) (.k (.int .i64 300)))))] []) .ret))
noncomputable def S2_swagelaw3_awake : St := (.seq (.sets [(31, (.ext 0 (.s 30))), (32, (.ext 1 (.s 30)))] []) (.seq (.act (some 6) (.var 24 1 (.tmp 31))) (.seq (.sets [(7, (.s 32))] []) (.seq (.sets [(34, (.bld [(.slice none 0 0)] [] .nl))] []) (.seq (.act (some 35) (.call 9 [(.tmp 34)])) S1_swagelaw3_awake)))))
noncomputable def S3_swagelaw3_awake : St := (.seq (.sets [(25, (.ext 0 (.s 24))), (26, (.ext 1 (.s 24)))] []) (.seq (.act (some 4) (.var 24 1 (.tmp 25))) (.seq (.sets [(5, (.s 26))] []) (.seq (.sets [(29, (.bin .add (.s 2) (.k (.string ⟨#[120]⟩))))] []) (.seq (.act (some 30) (.call 11 [(.tmp 29)])) S2_swagelaw3_awake)))))
noncomputable def S4_swagelaw3_awake : St := (.seq (.sets [(2, (.ext 0 (.s 19))), (3, (.ext 1 (.s 19)))] []) (.seq (.sets [(23, (.s 2))] []) (.seq (.act (some 24) (.call 11 [(.tmp 23)])) S3_swagelaw3_awake)))
noncomputable def S_swagelaw3_awake : St := (.seq (.sets [(0, (.k (.bool false)))] []) (.seq (.sets [(10, (.bld [(.int .i64 0), (.int .i64 0)] [(1, 1)] (.cs (.k (.int .i64 (-2))) .nl))), (11, (.bld [(.int .i64 0), (.int .i64 0)] [(0, 1), (1, 1)] (.cs (.k (.int .i64 2)) (.cs (.k (.int .i64 1)) .nl)))), (12, (.bld [(.int .i64 0), (.int .i64 0)] [(0, 1)] (.cs (.k (.int .i64 16)) .nl)))] []) (.seq (.act (some 13) (.bslice 43 2 [(.int .i64 0), (.int .i64 0), (.int .i64 0), (.int .i64 0), (.int .i64 0), (.int .i64 0)] 3 [(0, (.tmp 10)), (1, (.tmp 11)), (2, (.tmp 12))])) (.seq (.sets [(14, (.bld [(.int .i64 0), (.int .i64 0), (.slice none 0 0)] [(0, 1), (1, 1), (2, 1)] (.cs (.k (.int .i64 1)) (.cs (.k (.int .i64 2)) (.cs (.s 13) .nl)))))] []) (.seq (.act (some 15) (.bslice 46 3 [(.int .i64 0), (.int .i64 0), (.slice none 0 0)] 1 [(0, (.tmp 14))])) (.seq (.sets [(16, (.bld [(.slice none 0 0)] [(0, 1)] (.cs (.s 15) .nl)))] []) (.seq (.act (some 1) (.var 24 1 (.tmp 16))) (.seq (.sets [(18, (.ldn 1 (.s 1)))] []) (.seq (.act (some 19) (.call 9 [(.tmp 18)])) S4_swagelaw3_awake)))))))))
noncomputable def R_swagelaw3_awake : Ex := (.s 0)
theorem dec_swagelaw3_awake : opt (dec Try.prog (fun f => roL.contains f) (fun t => G_swagelaw3_awake.contains t) 65 (Try.f16.body.getD .skip)) = S_swagelaw3_awake := by kernel_rfl
theorem res_swagelaw3_awake : resE Try.prog (fun t => G_swagelaw3_awake.contains t) Try.f16.results.toList = some R_swagelaw3_awake := by kernel_rfl
theorem pc_swagelaw3_awake {ds : List DV} {R : DV → DMem → Prop} {M : DMem} (hl : ds.length ≤ 65)
    (h : wpD Try.prog MU_swagelaw3_awake (fun f => roL.contains f) (fun t => G_swagelaw3_awake.contains t) 65 S_swagelaw3_awake (fun δ M' => ∃ d, evD Try.prog M' δ R_swagelaw3_awake = some d ∧ R d M') (fun _ _ _ => False) (fun δ M' => ∃ d, evD Try.prog M' δ R_swagelaw3_awake = some d ∧ R d M') (argD ds) M) :
    PC Try.prog F_swagelaw3_awake ds R M :=
  pc_opt Try.func16 (c := Try.f16.body.getD .skip) (by kernel_rfl) (by kernel_rfl) (by kernel_rfl) dec_swagelaw3_awake res_swagelaw3_awake _ hl h
/-! swage/swagelaw0.CopyInss -/
abbrev F_swagelaw0_CopyInss : Nat := 17
def G_swagelaw0_CopyInss : List Nat := [0, 2]
def MU_swagelaw0_CopyInss (d : Nat) : Bool := ([] : List Nat).contains d
noncomputable def S_swagelaw0_CopyInss : St := (.seq (.sets [(2, (.k (.slice none 0 0)))] []) (.seq (.act (some 3) (.bslice 43 2 [] 0 [])) (.seq (.sets [(4, (.s 0))] []) (.seq (.act (some 5) (.app 43 2 16 (.tmp 3) (.tmp 4))) (.seq (.sets [(2, (.s 5))] []) .ret)))))
noncomputable def R_swagelaw0_CopyInss : Ex := (.s 2)
theorem dec_swagelaw0_CopyInss : opt (dec Try.prog (fun f => roL.contains f) (fun t => G_swagelaw0_CopyInss.contains t) 6 (Try.f17.body.getD .skip)) = S_swagelaw0_CopyInss := by kernel_rfl
theorem res_swagelaw0_CopyInss : resE Try.prog (fun t => G_swagelaw0_CopyInss.contains t) Try.f17.results.toList = some R_swagelaw0_CopyInss := by kernel_rfl
theorem pc_swagelaw0_CopyInss {ds : List DV} {R : DV → DMem → Prop} {M : DMem} (hl : ds.length ≤ 6)
    (h : wpD Try.prog MU_swagelaw0_CopyInss (fun f => roL.contains f) (fun t => G_swagelaw0_CopyInss.contains t) 6 S_swagelaw0_CopyInss (fun δ M' => ∃ d, evD Try.prog M' δ R_swagelaw0_CopyInss = some d ∧ R d M') (fun _ _ _ => False) (fun δ M' => ∃ d, evD Try.prog M' δ R_swagelaw0_CopyInss = some d ∧ R d M') (argD ds) M) :
    PC Try.prog F_swagelaw0_CopyInss ds R M :=
  pc_opt Try.func17 (c := Try.f17.body.getD .skip) (by kernel_rfl) (by kernel_rfl) (by kernel_rfl) dec_swagelaw0_CopyInss res_swagelaw0_CopyInss _ hl h
/-! swage/pack.May -/
abbrev F_pack_May : Nat := 18
def G_pack_May : List Nat := [0, 2]
def MU_pack_May (d : Nat) : Bool := ([] : List Nat).contains d
noncomputable def S_pack_May : St := (.seq (.sets [(2, (.k (.bool false)))] []) (.seq (.sets [(2, (.and (.and (.bin .geq (.len (.ld (.fa 0 (.nck (.s 0))))) (.k (.int .i64 1))) (.bin .leq (.len (.ld (.fa 0 (.nck (.s 0))))) (.k (.int .i64 8)))) (.un .not (.call 30 (.cs (.ld (.fa 0 (.nck (.s 0)))) (.cs (.k (.func (.func 31) #[] #[])) .nl))))))] []) .ret))
noncomputable def R_pack_May : Ex := (.s 2)
theorem dec_pack_May : opt (dec Try.prog (fun f => roL.contains f) (fun t => G_pack_May.contains t) 25 (Try.f18.body.getD .skip)) = S_pack_May := by kernel_rfl
theorem res_pack_May : resE Try.prog (fun t => G_pack_May.contains t) Try.f18.results.toList = some R_pack_May := by kernel_rfl
theorem pc_pack_May {ds : List DV} {R : DV → DMem → Prop} {M : DMem} (hl : ds.length ≤ 25)
    (h : wpD Try.prog MU_pack_May (fun f => roL.contains f) (fun t => G_pack_May.contains t) 25 S_pack_May (fun δ M' => ∃ d, evD Try.prog M' δ R_pack_May = some d ∧ R d M') (fun _ _ _ => False) (fun δ M' => ∃ d, evD Try.prog M' δ R_pack_May = some d ∧ R d M') (argD ds) M) :
    PC Try.prog F_pack_May ds R M :=
  pc_opt Try.func18 (c := Try.f18.body.getD .skip) (by kernel_rfl) (by kernel_rfl) (by kernel_rfl) dec_pack_May res_pack_May _ hl h
/-! swage/pack.has -/
abbrev F_pack_has : Nat := 19
def G_pack_has : List Nat := [0, 2, 3, 4]
def MU_pack_has (d : Nat) : Bool := ([] : List Nat).contains d
noncomputable def S_pack_has : St := (.seq (.sets [(2, (.k (.bool false)))] []) (.seq (.sets [(3, (.s 0))] []) (.seq (.block 0 (.seq (.sets [(4, (.or (.bin .eql (.s 3) (.k (.int .i64 1))) (.or (.bin .eql (.s 3) (.k (.int .i64 2))) (.or (.bin .eql (.s 3) (.k (.int .i64 12))) (.or (.bin .eql (.s 3) (.k (.int .i64 13))) (.bin .eql (.s 3) (.k (.int .i64 14))))))))] []) (.ite (.s 4) (.seq (.sets [(2, (.k (.bool true)))] []) .ret) .nop))) (.seq (.sets [(2, (.k (.bool false)))] []) .ret))))
noncomputable def R_pack_has : Ex := (.s 2)
theorem dec_pack_has : opt (dec Try.prog (fun f => roL.contains f) (fun t => G_pack_has.contains t) 10 (Try.f19.body.getD .skip)) = S_pack_has := by kernel_rfl
theorem res_pack_has : resE Try.prog (fun t => G_pack_has.contains t) Try.f19.results.toList = some R_pack_has := by kernel_rfl
theorem pc_pack_has {ds : List DV} {R : DV → DMem → Prop} {M : DMem} (hl : ds.length ≤ 10)
    (h : wpD Try.prog MU_pack_has (fun f => roL.contains f) (fun t => G_pack_has.contains t) 10 S_pack_has (fun δ M' => ∃ d, evD Try.prog M' δ R_pack_has = some d ∧ R d M') (fun _ _ _ => False) (fun δ M' => ∃ d, evD Try.prog M' δ R_pack_has = some d ∧ R d M') (argD ds) M) :
    PC Try.prog F_pack_has ds R M :=
  pc_opt Try.func19 (c := Try.f19.body.getD .skip) (by kernel_rfl) (by kernel_rfl) (by kernel_rfl) dec_pack_has res_pack_has _ hl h
/-! swage/swageref1.Packs -/
abbrev F_swageref1_Packs : Nat := 20
def G_swageref1_Packs : List Nat := [0, 1, 2, 3, 4, 14, 19, 51]
def MU_swageref1_Packs (d : Nat) : Bool := ([] : List Nat).contains d
noncomputable def S1_swageref1_Packs : St := (.seq (.sets [(19, (.bin .lss (.s 3) (.len (.ld (.fa 0 (.s 1))))))] []) (.seq (.ite (.s 19) .nop (.exit 0)) (.seq (.block 1 (.seq (.sets [(26, (.ldn 3 (.ix 3 (.ld (.fa 0 (.s 1))) (.s 3))))] []) (.seq (.act (some 4) (.var 46 3 (.tmp 26))) (.seq (.sets [(51, (.or (.or (.or (.or (.bin .lss (.ld (.fa 0 (.s 4))) (.k (.int .i64 0))) (.bin .gtr (.ld (.fa 0 (.s 4))) (.k (.int .i64 4)))) (.bin .lss (.ld (.fa 1 (.s 4))) (.ld (.fa 0 (.s 4))))) (.bin .gtr (.ld (.fa 1 (.s 4))) (.k (.int .i64 8)))) (.un .not (.call 32 (.cs (.ldn 3 (.s 4)) .nl)))))] []) (.ite (.s 51) (.seq (.sets [(2, (.k (.bool false)))] []) .ret) .nop))))) (.sets [(3, (.bin .add (.s 3) (.k (.int .i64 1))))] []))))
noncomputable def S_swageref1_Packs : St := (.seq (.act (some 1) (.box 24 (.tmp 0))) (.seq (.sets [(2, (.k (.bool false)))] []) (.seq (.sets [(14, (.or (.bin .lss (.len (.ld (.fa 0 (.s 1)))) (.k (.int .i64 1))) (.bin .gtr (.len (.ld (.fa 0 (.s 1)))) (.k (.int .i64 8)))))] []) (.seq (.ite (.s 14) (.seq (.sets [(2, (.k (.bool false)))] []) .ret) .nop) (.seq (.sets [(3, (.k (.int .i64 0)))] []) (.seq (.block 0 (.loop S1_swageref1_Packs)) (.seq (.sets [(2, (.k (.bool true)))] []) .ret)))))))
noncomputable def R_swageref1_Packs : Ex := (.s 2)
theorem dec_swageref1_Packs : opt (dec Try.prog (fun f => roL.contains f) (fun t => G_swageref1_Packs.contains t) 52 (Try.f20.body.getD .skip)) = S_swageref1_Packs := by kernel_rfl
theorem res_swageref1_Packs : resE Try.prog (fun t => G_swageref1_Packs.contains t) Try.f20.results.toList = some R_swageref1_Packs := by kernel_rfl
theorem pc_swageref1_Packs {ds : List DV} {R : DV → DMem → Prop} {M : DMem} (hl : ds.length ≤ 52)
    (h : wpD Try.prog MU_swageref1_Packs (fun f => roL.contains f) (fun t => G_swageref1_Packs.contains t) 52 S_swageref1_Packs (fun δ M' => ∃ d, evD Try.prog M' δ R_swageref1_Packs = some d ∧ R d M') (fun _ _ _ => False) (fun δ M' => ∃ d, evD Try.prog M' δ R_swageref1_Packs = some d ∧ R d M') (argD ds) M) :
    PC Try.prog F_swageref1_Packs ds R M :=
  pc_opt Try.func20 (c := Try.f20.body.getD .skip) (by kernel_rfl) (by kernel_rfl) (by kernel_rfl) dec_swageref1_Packs res_swageref1_Packs _ hl h
/-! swage/swageref1.small -/
abbrev F_swageref1_small : Nat := 21
def G_swageref1_small : List Nat := [0, 2]
def MU_swageref1_small (d : Nat) : Bool := ([] : List Nat).contains d
noncomputable def S_swageref1_small : St := (.seq (.sets [(2, (.k (.bool false)))] []) (.seq (.sets [(2, (.or (.or (.or (.or (.bin .eql (.s 0) (.k (.int .i64 1))) (.bin .eql (.s 0) (.k (.int .i64 2)))) (.bin .eql (.s 0) (.k (.int .i64 12)))) (.bin .eql (.s 0) (.k (.int .i64 13)))) (.bin .eql (.s 0) (.k (.int .i64 14)))))] []) .ret))
noncomputable def R_swageref1_small : Ex := (.s 2)
theorem dec_swageref1_small : opt (dec Try.prog (fun f => roL.contains f) (fun t => G_swageref1_small.contains t) 21 (Try.f21.body.getD .skip)) = S_swageref1_small := by kernel_rfl
theorem res_swageref1_small : resE Try.prog (fun t => G_swageref1_small.contains t) Try.f21.results.toList = some R_swageref1_small := by kernel_rfl
theorem pc_swageref1_small {ds : List DV} {R : DV → DMem → Prop} {M : DMem} (hl : ds.length ≤ 21)
    (h : wpD Try.prog MU_swageref1_small (fun f => roL.contains f) (fun t => G_swageref1_small.contains t) 21 S_swageref1_small (fun δ M' => ∃ d, evD Try.prog M' δ R_swageref1_small = some d ∧ R d M') (fun _ _ _ => False) (fun δ M' => ∃ d, evD Try.prog M' δ R_swageref1_small = some d ∧ R d M') (argD ds) M) :
    PC Try.prog F_swageref1_small ds R M :=
  pc_opt Try.func21 (c := Try.f21.body.getD .skip) (by kernel_rfl) (by kernel_rfl) (by kernel_rfl) dec_swageref1_small res_swageref1_small _ hl h
/-! strings.CutPrefix -/
abbrev F_strings_CutPrefix : Nat := 22
def G_strings_CutPrefix : List Nat := [0, 1, 4, 5]
def MU_strings_CutPrefix (d : Nat) : Bool := ([] : List Nat).contains d
noncomputable def S_strings_CutPrefix : St := (.seq (.sets [(4, (.k (.string ⟨#[]⟩))), (5, (.k (.bool false)))] []) (.seq (.sets [(4, (.ext 0 (.call 33 (.cs (.s 0) (.cs (.s 1) .nl))))), (5, (.ext 1 (.call 33 (.cs (.s 0) (.cs (.s 1) .nl)))))] []) .ret))
noncomputable def R_strings_CutPrefix : Ex := (.cs (.s 4) (.cs (.s 5) .nl))
theorem dec_strings_CutPrefix : opt (dec Try.prog (fun f => roL.contains f) (fun t => G_strings_CutPrefix.contains t) 11 (Try.f22.body.getD .skip)) = S_strings_CutPrefix := by kernel_rfl
theorem res_strings_CutPrefix : resE Try.prog (fun t => G_strings_CutPrefix.contains t) Try.f22.results.toList = some R_strings_CutPrefix := by kernel_rfl
theorem pc_strings_CutPrefix {ds : List DV} {R : DV → DMem → Prop} {M : DMem} (hl : ds.length ≤ 11)
    (h : wpD Try.prog MU_strings_CutPrefix (fun f => roL.contains f) (fun t => G_strings_CutPrefix.contains t) 11 S_strings_CutPrefix (fun δ M' => ∃ d, evD Try.prog M' δ R_strings_CutPrefix = some d ∧ R d M') (fun _ _ _ => False) (fun δ M' => ∃ d, evD Try.prog M' δ R_strings_CutPrefix = some d ∧ R d M') (argD ds) M) :
    PC Try.prog F_strings_CutPrefix ds R M :=
  pc_opt Try.func22 (c := Try.f22.body.getD .skip) (by kernel_rfl) (by kernel_rfl) (by kernel_rfl) dec_strings_CutPrefix res_strings_CutPrefix _ hl h
/-! (*swage/pack.taker).next -/
abbrev F_pack_taker_next : Nat := 23
def G_pack_taker_next : List Nat := [0, 1, 4, 5, 10]
def MU_pack_taker_next (d : Nat) : Bool := ([] : List Nat).contains d
noncomputable def S1_pack_taker_next : St := (.seq (.sets [(23, (.fa 1 (.nck (.s 11))))] []) (.seq (.act none (.store 1 (.tmp 23) (.tmp 21))) (.seq (.sets [(4, (.k (.int .i64 0)))] []) .ret)))
noncomputable def S2_pack_taker_next : St := (.seq (.sets [(5, (.sidx (.ld (.fa 0 (.nck (.s 0)))) (.k (.int .i64 0))))] []) (.seq (.sets [(34, (.sslc (.ld (.fa 0 (.nck (.s 0)))) (.cs (.k (.int .i64 1)) .nl) .nl)), (36, (.fa 0 (.nck (.s 0))))] []) (.seq (.act none (.store 1 (.tmp 36) (.tmp 34))) (.seq (.sets [(4, (.cvt .i64 (.s 5)))] []) .ret))))
noncomputable def S_pack_taker_next : St := (.seq (.sets [(4, (.k (.int .i64 0)))] []) (.seq (.sets [(10, (.bin .eql (.ld (.fa 0 (.nck (.s 0)))) (.k (.string ⟨#[]⟩))))] []) (.seq (.ite (.s 10) (.seq (.sets [(11, (.s 0)), (15, (.ld (.fa 1 (.nck (.s 0))))), (17, (.bld [(.string ⟨#[]⟩)] [(0, 1)] (.cs (.s 1) .nl)))] []) (.seq (.act (some 18) (.box 79 (.tmp 17))) (.seq (.sets [(19, (.ifc 77 (.s 18)))] []) (.seq (.act (some 20) (.bslice 61 1 [.nilIface, .nilIface] 2 [(0, (.tmp 15)), (1, (.tmp 19))])) (.seq (.act (some 21) (.call 34 [(.tmp 20)])) S1_pack_taker_next))))) .nop) S2_pack_taker_next)))
noncomputable def R_pack_taker_next : Ex := (.s 4)
theorem dec_pack_taker_next : opt (dec Try.prog (fun f => roL.contains f) (fun t => G_pack_taker_next.contains t) 39 (Try.f23.body.getD .skip)) = S_pack_taker_next := by kernel_rfl
theorem res_pack_taker_next : resE Try.prog (fun t => G_pack_taker_next.contains t) Try.f23.results.toList = some R_pack_taker_next := by kernel_rfl
theorem pc_pack_taker_next {ds : List DV} {R : DV → DMem → Prop} {M : DMem} (hl : ds.length ≤ 39)
    (h : wpD Try.prog MU_pack_taker_next (fun f => roL.contains f) (fun t => G_pack_taker_next.contains t) 39 S_pack_taker_next (fun δ M' => ∃ d, evD Try.prog M' δ R_pack_taker_next = some d ∧ R d M') (fun _ _ _ => False) (fun δ M' => ∃ d, evD Try.prog M' δ R_pack_taker_next = some d ∧ R d M') (argD ds) M) :
    PC Try.prog F_pack_taker_next ds R M :=
  pc_opt Try.func23 (c := Try.f23.body.getD .skip) (by kernel_rfl) (by kernel_rfl) (by kernel_rfl) dec_pack_taker_next res_pack_taker_next _ hl h
/-! (*swage/pack.taker).fn -/
abbrev F_pack_taker_fn : Nat := 24
def G_pack_taker_fn : List Nat := [0, 2, 3, 4, 21]
def MU_pack_taker_fn (d : Nat) : Bool := ([3] : List Nat).contains d
def O0_pack_taker_fn : Array Oper := #[⟨(some 24), (.fieldAddr 46 (.tmp 3) 2), 0, "pack.go:105", #[], none⟩, ⟨(some 25), (.load 44 (.tmp 24)), 44, "pack.go:105", #[⟨0, .data⟩], none⟩, ⟨(some 26), (.move (.tmp 0)), 59, "pack.go:105", #[], none⟩, ⟨(some 27), (.call ⟨(.value (.func 35)), #[(.tmp 26)], #[59]⟩), 43, "pack.go:105", #[⟨2, .data⟩], none⟩, ⟨(some 28), (.buildSlice 44 1 #[(0, (.tmp 27))]), 44, "pack.go:105", #[⟨3, .data⟩], none⟩, ⟨(some 29), (.call ⟨(.builtin .append), #[(.tmp 25), (.tmp 28)], #[44, 44]⟩), 44, "pack.go:105", #[⟨1, .data⟩, ⟨4, .data⟩, ⟨3, .chain⟩], none⟩, ⟨(some 30), (.fieldAddr 46 (.tmp 3) 2), 0, "pack.go:105", #[⟨0, .phase⟩, ⟨1, .phase⟩, ⟨2, .phase⟩, ⟨3, .phase⟩, ⟨4, .phase⟩, ⟨5, .phase⟩], none⟩, ⟨none, (.store 44 (.tmp 30) (.tmp 29)), 0, "pack.go:105", #[⟨6, .data⟩, ⟨5, .data⟩, ⟨5, .chain⟩, ⟨0, .phase⟩, ⟨1, .phase⟩, ⟨2, .phase⟩, ⟨3, .phase⟩, ⟨4, .phase⟩, ⟨5, .phase⟩], none⟩]
def P0_pack_taker_fn : List Sp := [.rd 24 (.fa 2 (.s 3)), .rd 25 (.ld (.s 24)), .rd 26 (.s 0), .ck 24 (.fa 2 (.s 3)), .ck 25 (.ld (.s 24)), .ck 26 (.s 0), .hd (some 27) (.call 35 [(.tmp 26)]), .fr 28 (.bslice 43 2 [(.int .i64 0), (.int .i64 0)] 1 [(0, (.tmp 27))]), .ck 24 (.fa 2 (.s 3)), .ck 25 (.ld (.s 24)), .cf 28 (.bslice 43 2 [(.int .i64 0), (.int .i64 0)] 1 [(0, (.tmp 27))]), .hd (some 29) (.app 43 2 16 (.tmp 25) (.tmp 28)), .rd 30 (.fa 2 (.s 3)), .ck 30 (.fa 2 (.s 3)), .hd none (.store 1 (.tmp 30) (.tmp 29))]
theorem plan0_pack_taker_fn : planD Try.prog (fun f => roL.contains f) (fun t => G_pack_taker_fn.contains t) 32 MU_pack_taker_fn O0_pack_taker_fn = some P0_pack_taker_fn := by kernel_rfl
theorem raw0_pack_taker_fn (K : DEnv → DMem → Prop) (X : Nat → DEnv → DMem → Prop) (R : DEnv → DMem → Prop) (δ : DEnv) (M : DMem) : rawW Try.prog MU_pack_taker_fn (fun f => roL.contains f) (fun t => G_pack_taker_fn.contains t) 32 (.region 6 O0_pack_taker_fn true) K X R δ M = wpSp Try.prog MU_pack_taker_fn K P0_pack_taker_fn δ M := rawW_eq plan0_pack_taker_fn K X R δ M
noncomputable def S1_pack_taker_fn : St := (.seq (.sets [(15, (.bin .gtr (.s 4) (.k (.int .i64 0)))), (19, (.grd (.bin .gtr (.s 4) (.k (.int .i64 0))) true (.ld (.fa 1 (.nck (.s 0))))))] []) (.seq (.ite (.s 15) (.eff ⟨(some 20), (.binOp .eql 61 (.tmp 19) (.const .nilIface) 61), 4, "", #[], none⟩) (.sets [(20, (.k (.tuple #[])))] [])) (.seq (.sets [(21, (.pick (.s 15) (.s 20) (.k (.bool false))))] []) (.seq (.ite (.s 21) .nop (.exit 0)) (.seq (.block 1 (.raw (.region 6 O0_pack_taker_fn true))) (.sets [(4, (.bin .sub (.s 4) (.k (.int .i64 1))))] []))))))
noncomputable def S2_pack_taker_fn : St := (.seq (.sets [(31, (.ldn 3 (.s 3)))] []) (.seq (.act none (.store 3 (.tmp 2) (.tmp 31))) .ret))
noncomputable def S3_pack_taker_fn : St := (.seq (.sets [(4, (.s 12))] []) (.seq (.block 0 (.loop S1_pack_taker_fn)) S2_pack_taker_fn))
noncomputable def S4_pack_taker_fn : St := (.seq (.sets [(10, (.fa 1 (.s 3)))] []) (.seq (.act none (.store 1 (.tmp 10) (.tmp 9))) (.seq (.sets [(11, (.s 0))] []) (.seq (.act (some 12) (.call 23 [(.tmp 11), (.const (.string ⟨#[108, 101, 110, 103, 116, 104]⟩))])) S3_pack_taker_fn))))
noncomputable def S5_pack_taker_fn : St := (.seq (.sets [(7, (.bld [(.int .i64 0), (.int .i64 0), (.slice none 0 0)] [(0, 1)] (.cs (.s 6) .nl)))] []) (.seq (.act (some 3) (.var 46 3 (.tmp 7))) (.seq (.sets [(8, (.s 0))] []) (.seq (.act (some 9) (.call 23 [(.tmp 8), (.const (.string ⟨#[108, 111, 99, 97, 108, 115]⟩))])) S4_pack_taker_fn))))
noncomputable def S_pack_taker_fn : St := (.seq (.act (some 2) (.alloc 46 (.agg #[(.int .i64 0), (.int .i64 0), (.slice none 0 0)]))) (.seq (.sets [(5, (.s 0))] []) (.seq (.act (some 6) (.call 23 [(.tmp 5), (.const (.string ⟨#[97, 114, 103, 115]⟩))])) S5_pack_taker_fn)))
noncomputable def R_pack_taker_fn : Ex := (.ldn 3 (.s 2))
theorem dec_pack_taker_fn : opt (dec Try.prog (fun f => roL.contains f) (fun t => G_pack_taker_fn.contains t) 32 (Try.f24.body.getD .skip)) = S_pack_taker_fn := by kernel_rfl
theorem res_pack_taker_fn : resE Try.prog (fun t => G_pack_taker_fn.contains t) Try.f24.results.toList = some R_pack_taker_fn := by kernel_rfl
theorem pc_pack_taker_fn {ds : List DV} {R : DV → DMem → Prop} {M : DMem} (hl : ds.length ≤ 32)
    (h : wpD Try.prog MU_pack_taker_fn (fun f => roL.contains f) (fun t => G_pack_taker_fn.contains t) 32 S_pack_taker_fn (fun δ M' => ∃ d, evD Try.prog M' δ R_pack_taker_fn = some d ∧ R d M') (fun _ _ _ => False) (fun δ M' => ∃ d, evD Try.prog M' δ R_pack_taker_fn = some d ∧ R d M') (argD ds) M) :
    PC Try.prog F_pack_taker_fn ds R M :=
  pc_opt Try.func24 (c := Try.f24.body.getD .skip) (by kernel_rfl) (by kernel_rfl) (by kernel_rfl) dec_pack_taker_fn res_pack_taker_fn _ hl h
/-! errors.Is -/
abbrev F_errors_Is : Nat := 25
def G_errors_Is : List Nat := [0, 1, 4, 5, 11]
def MU_errors_Is (d : Nat) : Bool := ([] : List Nat).contains d
noncomputable def S1_errors_Is : St := (.seq (.eff ⟨(some 17), (.call ⟨(.invoke (.tmp 16) "Comparable"), #[], #[]⟩), 4, "", #[], none⟩) (.seq (.sets [(5, (.s 17))] []) (.seq (.sets [(18, (.s 0)), (19, (.s 1)), (20, (.s 5))] []) (.seq (.act (some 21) (.call 37 [(.tmp 18), (.tmp 19), (.tmp 20)])) (.seq (.sets [(4, (.s 21))] []) .ret)))))
noncomputable def S_errors_Is : St := (.seq (.sets [(4, (.k (.bool false)))] []) (.seq (.sets [(6, (.s 0))] []) (.seq (.eff ⟨(some 7), (.binOp .eql 61 (.tmp 6) (.const .nilIface) 61), 4, "", #[], none⟩) (.seq (.sets [(8, (.s 7)), (9, (.grd (.s 7) false (.s 1)))] []) (.seq (.ite (.s 8) (.sets [(10, (.k (.tuple #[])))] []) (.eff ⟨(some 10), (.binOp .eql 61 (.tmp 9) (.const .nilIface) 61), 4, "", #[], none⟩)) (.seq (.sets [(11, (.pick (.s 8) (.k (.bool true)) (.s 10)))] []) (.seq (.ite (.s 11) (.seq (.sets [(12, (.s 0)), (13, (.s 1))] []) (.seq (.eff ⟨(some 14), (.binOp .eql 61 (.tmp 12) (.tmp 13) 61), 4, "", #[], none⟩) (.seq (.sets [(4, (.s 14))] []) .ret))) .nop) (.seq (.sets [(15, (.s 1))] []) (.seq (.act (some 16) (.call 36 [(.tmp 15)])) S1_errors_Is)))))))))
noncomputable def R_errors_Is : Ex := (.s 4)
theorem dec_errors_Is : opt (dec Try.prog (fun f => roL.contains f) (fun t => G_errors_Is.contains t) 22 (Try.f25.body.getD .skip)) = S_errors_Is := by kernel_rfl
theorem res_errors_Is : resE Try.prog (fun t => G_errors_Is.contains t) Try.f25.results.toList = some R_errors_Is := by kernel_rfl
theorem pc_errors_Is {ds : List DV} {R : DV → DMem → Prop} {M : DMem} (hl : ds.length ≤ 22)
    (h : wpD Try.prog MU_errors_Is (fun f => roL.contains f) (fun t => G_errors_Is.contains t) 22 S_errors_Is (fun δ M' => ∃ d, evD Try.prog M' δ R_errors_Is = some d ∧ R d M') (fun _ _ _ => False) (fun δ M' => ∃ d, evD Try.prog M' δ R_errors_Is = some d ∧ R d M') (argD ds) M) :
    PC Try.prog F_errors_Is ds R M :=
  pc_opt Try.func25 (c := Try.f25.body.getD .skip) (by kernel_rfl) (by kernel_rfl) (by kernel_rfl) dec_errors_Is res_errors_Is _ hl h
/-! (*swage/swageref1.taker).next -/
abbrev F_swageref1_taker_next : Nat := 26
def G_swageref1_taker_next : List Nat := [0, 2, 12]
def MU_swageref1_taker_next (d : Nat) : Bool := ([] : List Nat).contains d
noncomputable def S_swageref1_taker_next : St := (.seq (.sets [(2, (.k (.int .i64 0)))] []) (.seq (.sets [(12, (.bin .geq (.ld (.fa 1 (.nck (.s 0)))) (.slen (.ld (.fa 0 (.nck (.s 0)))))))] []) (.seq (.ite (.s 12) (.seq (.sets [(15, (.fa 2 (.nck (.s 0))))] []) (.seq (.act none (.store 1 (.tmp 15) (.const (.bool true)))) (.seq (.sets [(2, (.k (.int .i64 0)))] []) .ret))) .nop) (.seq (.sets [(20, (.bin .add (.ld (.fa 1 (.nck (.s 0)))) (.k (.int .i64 1)))), (22, (.fa 1 (.nck (.s 0))))] []) (.seq (.act none (.store 1 (.tmp 22) (.tmp 20))) (.seq (.sets [(2, (.cvt .i64 (.sidx (.ld (.fa 0 (.nck (.s 0)))) (.bin .sub (.ld (.fa 1 (.nck (.s 0)))) (.k (.int .i64 1))))))] []) .ret))))))
noncomputable def R_swageref1_taker_next : Ex := (.s 2)
theorem dec_swageref1_taker_next : opt (dec Try.prog (fun f => roL.contains f) (fun t => G_swageref1_taker_next.contains t) 34 (Try.f26.body.getD .skip)) = S_swageref1_taker_next := by kernel_rfl
theorem res_swageref1_taker_next : resE Try.prog (fun t => G_swageref1_taker_next.contains t) Try.f26.results.toList = some R_swageref1_taker_next := by kernel_rfl
theorem pc_swageref1_taker_next {ds : List DV} {R : DV → DMem → Prop} {M : DMem} (hl : ds.length ≤ 34)
    (h : wpD Try.prog MU_swageref1_taker_next (fun f => roL.contains f) (fun t => G_swageref1_taker_next.contains t) 34 S_swageref1_taker_next (fun δ M' => ∃ d, evD Try.prog M' δ R_swageref1_taker_next = some d ∧ R d M') (fun _ _ _ => False) (fun δ M' => ∃ d, evD Try.prog M' δ R_swageref1_taker_next = some d ∧ R d M') (argD ds) M) :
    PC Try.prog F_swageref1_taker_next ds R M :=
  pc_opt Try.func26 (c := Try.f26.body.getD .skip) (by kernel_rfl) (by kernel_rfl) (by kernel_rfl) dec_swageref1_taker_next res_swageref1_taker_next _ hl h
/-! swage/swageref1.Wrap -/
abbrev F_swageref1_Wrap : Nat := 27
def G_swageref1_Wrap : List Nat := [0, 2]
def MU_swageref1_Wrap (d : Nat) : Bool := ([] : List Nat).contains d
noncomputable def S_swageref1_Wrap : St := (.seq (.sets [(2, (.k (.int .i64 0)))] []) (.seq (.sets [(2, (.cvt .i64 (.cvt .i32 (.cvt .u32 (.cvt .u64 (.s 0))))))] []) .ret))
noncomputable def R_swageref1_Wrap : Ex := (.s 2)
theorem dec_swageref1_Wrap : opt (dec Try.prog (fun f => roL.contains f) (fun t => G_swageref1_Wrap.contains t) 8 (Try.f27.body.getD .skip)) = S_swageref1_Wrap := by kernel_rfl
theorem res_swageref1_Wrap : resE Try.prog (fun t => G_swageref1_Wrap.contains t) Try.f27.results.toList = some R_swageref1_Wrap := by kernel_rfl
theorem pc_swageref1_Wrap {ds : List DV} {R : DV → DMem → Prop} {M : DMem} (hl : ds.length ≤ 8)
    (h : wpD Try.prog MU_swageref1_Wrap (fun f => roL.contains f) (fun t => G_swageref1_Wrap.contains t) 8 S_swageref1_Wrap (fun δ M' => ∃ d, evD Try.prog M' δ R_swageref1_Wrap = some d ∧ R d M') (fun _ _ _ => False) (fun δ M' => ∃ d, evD Try.prog M' δ R_swageref1_Wrap = some d ∧ R d M') (argD ds) M) :
    PC Try.prog F_swageref1_Wrap ds R M :=
  pc_opt Try.func27 (c := Try.f27.body.getD .skip) (by kernel_rfl) (by kernel_rfl) (by kernel_rfl) dec_swageref1_Wrap res_swageref1_Wrap _ hl h
/-! swage/swagelaw0.SameInss -/
abbrev F_swagelaw0_SameInss : Nat := 28
def G_swagelaw0_SameInss : List Nat := [0, 1, 4, 5, 10, 14, 25]
def MU_swagelaw0_SameInss (d : Nat) : Bool := ([] : List Nat).contains d
noncomputable def S1_swagelaw0_SameInss : St := (.seq (.sets [(14, (.bin .lss (.s 5) (.len (.s 0))))] []) (.seq (.ite (.s 14) .nop (.exit 0)) (.seq (.block 1 (.seq (.sets [(25, (.eqs true 2 (.ldn 2 (.ix 2 (.s 0) (.s 5))) (.ldn 2 (.ix 2 (.s 1) (.s 5)))))] []) (.ite (.s 25) (.seq (.sets [(4, (.k (.bool false)))] []) .ret) .nop))) (.sets [(5, (.bin .add (.s 5) (.k (.int .i64 1))))] []))))
noncomputable def S_swagelaw0_SameInss : St := (.seq (.sets [(4, (.k (.bool false)))] []) (.seq (.sets [(10, (.bin .neq (.len (.s 0)) (.len (.s 1))))] []) (.seq (.ite (.s 10) (.seq (.sets [(4, (.k (.bool false)))] []) .ret) .nop) (.seq (.sets [(5, (.k (.int .i64 0)))] []) (.seq (.block 0 (.loop S1_swagelaw0_SameInss)) (.seq (.sets [(4, (.k (.bool true)))] []) .ret))))))
noncomputable def R_swagelaw0_SameInss : Ex := (.s 4)
theorem dec_swagelaw0_SameInss : opt (dec Try.prog (fun f => roL.contains f) (fun t => G_swagelaw0_SameInss.contains t) 26 (Try.f28.body.getD .skip)) = S_swagelaw0_SameInss := by kernel_rfl
theorem res_swagelaw0_SameInss : resE Try.prog (fun t => G_swagelaw0_SameInss.contains t) Try.f28.results.toList = some R_swagelaw0_SameInss := by kernel_rfl
theorem pc_swagelaw0_SameInss {ds : List DV} {R : DV → DMem → Prop} {M : DMem} (hl : ds.length ≤ 26)
    (h : wpD Try.prog MU_swagelaw0_SameInss (fun f => roL.contains f) (fun t => G_swagelaw0_SameInss.contains t) 26 S_swagelaw0_SameInss (fun δ M' => ∃ d, evD Try.prog M' δ R_swagelaw0_SameInss = some d ∧ R d M') (fun _ _ _ => False) (fun δ M' => ∃ d, evD Try.prog M' δ R_swagelaw0_SameInss = some d ∧ R d M') (argD ds) M) :
    PC Try.prog F_swagelaw0_SameInss ds R M :=
  pc_opt Try.func28 (c := Try.f28.body.getD .skip) (by kernel_rfl) (by kernel_rfl) (by kernel_rfl) dec_swagelaw0_SameInss res_swagelaw0_SameInss _ hl h
/-! swage/swagelaw0.SpoilInss -/
abbrev F_swagelaw0_SpoilInss : Nat := 29
def G_swagelaw0_SpoilInss : List Nat := [0, 2, 6]
def MU_swagelaw0_SpoilInss (d : Nat) : Bool := ([] : List Nat).contains d
noncomputable def S1_swagelaw0_SpoilInss : St := (.seq (.sets [(6, (.bin .lss (.s 2) (.len (.s 0))))] []) (.seq (.ite (.s 6) .nop (.exit 0)) (.seq (.block 1 (.seq (.sets [(16, (.bin .xor (.ld (.fa 1 (.ix 2 (.s 0) (.s 2)))) (.k (.int .i64 90)))), (18, (.fa 1 (.ix 2 (.s 0) (.s 2))))] []) (.seq (.act none (.store 1 (.tmp 18) (.tmp 16))) (.sets [] [])))) (.sets [(2, (.bin .add (.s 2) (.k (.int .i64 1))))] []))))
noncomputable def S_swagelaw0_SpoilInss : St := (.seq (.sets [(2, (.k (.int .i64 0)))] []) (.block 0 (.loop S1_swagelaw0_SpoilInss)))
noncomputable def R_swagelaw0_SpoilInss : Ex := .nl
theorem dec_swagelaw0_SpoilInss : opt (dec Try.prog (fun f => roL.contains f) (fun t => G_swagelaw0_SpoilInss.contains t) 19 (Try.f29.body.getD .skip)) = S_swagelaw0_SpoilInss := by kernel_rfl
theorem res_swagelaw0_SpoilInss : resE Try.prog (fun t => G_swagelaw0_SpoilInss.contains t) Try.f29.results.toList = some R_swagelaw0_SpoilInss := by kernel_rfl
theorem pc_swagelaw0_SpoilInss {ds : List DV} {R : DV → DMem → Prop} {M : DMem} (hl : ds.length ≤ 19)
    (h : wpD Try.prog MU_swagelaw0_SpoilInss (fun f => roL.contains f) (fun t => G_swagelaw0_SpoilInss.contains t) 19 S_swagelaw0_SpoilInss (fun δ M' => ∃ d, evD Try.prog M' δ R_swagelaw0_SpoilInss = some d ∧ R d M') (fun _ _ _ => False) (fun δ M' => ∃ d, evD Try.prog M' δ R_swagelaw0_SpoilInss = some d ∧ R d M') (argD ds) M) :
    PC Try.prog F_swagelaw0_SpoilInss ds R M :=
  pc_opt Try.func29 (c := Try.f29.body.getD .skip) (by kernel_rfl) (by kernel_rfl) (by kernel_rfl) dec_swagelaw0_SpoilInss res_swagelaw0_SpoilInss _ hl h
/-! slices.ContainsFunc[[]swage/api.Func,swage/api.Func] -/
abbrev F_slices_ContainsFunc_api_Func_api_Func : Nat := 30
def G_slices_ContainsFunc_api_Func_api_Func : List Nat := [0, 1, 4]
def MU_slices_ContainsFunc_api_Func_api_Func (d : Nat) : Bool := ([] : List Nat).contains d
noncomputable def S_slices_ContainsFunc_api_Func_api_Func : St := (.seq (.sets [(4, (.k (.bool false)))] []) (.seq (.sets [(4, (.bin .geq (.call 38 (.cs (.s 0) (.cs (.s 1) .nl))) (.k (.int .i64 0))))] []) .ret))
noncomputable def R_slices_ContainsFunc_api_Func_api_Func : Ex := (.s 4)
theorem dec_slices_ContainsFunc_api_Func_api_Func : opt (dec Try.prog (fun f => roL.contains f) (fun t => G_slices_ContainsFunc_api_Func_api_Func.contains t) 9 (Try.f30.body.getD .skip)) = S_slices_ContainsFunc_api_Func_api_Func := by kernel_rfl
theorem res_slices_ContainsFunc_api_Func_api_Func : resE Try.prog (fun t => G_slices_ContainsFunc_api_Func_api_Func.contains t) Try.f30.results.toList = some R_slices_ContainsFunc_api_Func_api_Func := by kernel_rfl
theorem pc_slices_ContainsFunc_api_Func_api_Func {ds : List DV} {R : DV → DMem → Prop} {M : DMem} (hl : ds.length ≤ 9)
    (h : wpD Try.prog MU_slices_ContainsFunc_api_Func_api_Func (fun f => roL.contains f) (fun t => G_slices_ContainsFunc_api_Func_api_Func.contains t) 9 S_slices_ContainsFunc_api_Func_api_Func (fun δ M' => ∃ d, evD Try.prog M' δ R_slices_ContainsFunc_api_Func_api_Func = some d ∧ R d M') (fun _ _ _ => False) (fun δ M' => ∃ d, evD Try.prog M' δ R_slices_ContainsFunc_api_Func_api_Func = some d ∧ R d M') (argD ds) M) :
    PC Try.prog F_slices_ContainsFunc_api_Func_api_Func ds R M :=
  pc_opt Try.func30 (c := Try.f30.body.getD .skip) (by kernel_rfl) (by kernel_rfl) (by kernel_rfl) dec_slices_ContainsFunc_api_Func_api_Func res_slices_ContainsFunc_api_Func_api_Func _ hl h
/-! swage/pack.not -/
abbrev F_pack_not : Nat := 31
def G_pack_not : List Nat := [0, 1, 2, 3]
def MU_pack_not (d : Nat) : Bool := ([] : List Nat).contains d
noncomputable def S_pack_not : St := (.seq (.act (some 1) (.box 46 (.tmp 0))) (.seq (.sets [(2, (.k (.bool false)))] []) (.seq (.sets [(3, (.k (.func (.func 39) #[] #[])))] []) (.seq (.sets [(2, (.or (.or (.or (.or (.or (.or (.bin .lss (.ld (.fa 0 (.s 1))) (.k (.int .i64 0))) (.bin .gtr (.ld (.fa 0 (.s 1))) (.k (.int .i64 4)))) (.bin .lss (.ld (.fa 1 (.s 1))) (.ld (.fa 0 (.s 1))))) (.bin .gtr (.ld (.fa 1 (.s 1))) (.k (.int .i64 8)))) (.bin .lss (.len (.ld (.fa 2 (.s 1)))) (.k (.int .i64 1)))) (.bin .gtr (.len (.ld (.fa 2 (.s 1)))) (.k (.int .i64 64)))) (.call 41 (.cs (.ld (.fa 2 (.s 1))) (.cs (.s 3) .nl)))))] []) .ret))))
noncomputable def R_pack_not : Ex := (.s 2)
theorem dec_pack_not : opt (dec Try.prog (fun f => roL.contains f) (fun t => G_pack_not.contains t) 42 (Try.f31.body.getD .skip)) = S_pack_not := by kernel_rfl
theorem res_pack_not : resE Try.prog (fun t => G_pack_not.contains t) Try.f31.results.toList = some R_pack_not := by kernel_rfl
theorem pc_pack_not {ds : List DV} {R : DV → DMem → Prop} {M : DMem} (hl : ds.length ≤ 42)
    (h : wpD Try.prog MU_pack_not (fun f => roL.contains f) (fun t => G_pack_not.contains t) 42 S_pack_not (fun δ M' => ∃ d, evD Try.prog M' δ R_pack_not = some d ∧ R d M') (fun _ _ _ => False) (fun δ M' => ∃ d, evD Try.prog M' δ R_pack_not = some d ∧ R d M') (argD ds) M) :
    PC Try.prog F_pack_not ds R M :=
  pc_opt Try.func31 (c := Try.f31.body.getD .skip) (by kernel_rfl) (by kernel_rfl) (by kernel_rfl) dec_pack_not res_pack_not _ hl h
/-! swage/swageref1.FuncMay -/
abbrev F_swageref1_FuncMay : Nat := 32
def G_swageref1_FuncMay : List Nat := [0, 1, 2, 3, 13, 18, 27]
def MU_swageref1_FuncMay (d : Nat) : Bool := ([] : List Nat).contains d
noncomputable def S1_swageref1_FuncMay : St := (.seq (.sets [(18, (.bin .lss (.s 3) (.len (.ld (.fa 2 (.s 1))))))] []) (.seq (.ite (.s 18) .nop (.exit 0)) (.seq (.block 1 (.seq (.sets [(27, (.un .not (.call 42 (.cs (.ldn 2 (.ix 2 (.ld (.fa 2 (.s 1))) (.s 3))) .nl))))] []) (.ite (.s 27) (.seq (.sets [(2, (.k (.bool false)))] []) .ret) .nop))) (.sets [(3, (.bin .add (.s 3) (.k (.int .i64 1))))] []))))
noncomputable def S_swageref1_FuncMay : St := (.seq (.act (some 1) (.box 46 (.tmp 0))) (.seq (.sets [(2, (.k (.bool false)))] []) (.seq (.sets [(13, (.or (.bin .lss (.len (.ld (.fa 2 (.s 1)))) (.k (.int .i64 1))) (.bin .gtr (.len (.ld (.fa 2 (.s 1)))) (.k (.int .i64 64)))))] []) (.seq (.ite (.s 13) (.seq (.sets [(2, (.k (.bool false)))] []) .ret) .nop) (.seq (.sets [(3, (.k (.int .i64 0)))] []) (.seq (.block 0 (.loop S1_swageref1_FuncMay)) (.seq (.sets [(2, (.k (.bool true)))] []) .ret)))))))
noncomputable def R_swageref1_FuncMay : Ex := (.s 2)
theorem dec_swageref1_FuncMay : opt (dec Try.prog (fun f => roL.contains f) (fun t => G_swageref1_FuncMay.contains t) 28 (Try.f32.body.getD .skip)) = S_swageref1_FuncMay := by kernel_rfl
theorem res_swageref1_FuncMay : resE Try.prog (fun t => G_swageref1_FuncMay.contains t) Try.f32.results.toList = some R_swageref1_FuncMay := by kernel_rfl
theorem pc_swageref1_FuncMay {ds : List DV} {R : DV → DMem → Prop} {M : DMem} (hl : ds.length ≤ 28)
    (h : wpD Try.prog MU_swageref1_FuncMay (fun f => roL.contains f) (fun t => G_swageref1_FuncMay.contains t) 28 S_swageref1_FuncMay (fun δ M' => ∃ d, evD Try.prog M' δ R_swageref1_FuncMay = some d ∧ R d M') (fun _ _ _ => False) (fun δ M' => ∃ d, evD Try.prog M' δ R_swageref1_FuncMay = some d ∧ R d M') (argD ds) M) :
    PC Try.prog F_swageref1_FuncMay ds R M :=
  pc_opt Try.func32 (c := Try.f32.body.getD .skip) (by kernel_rfl) (by kernel_rfl) (by kernel_rfl) dec_swageref1_FuncMay res_swageref1_FuncMay _ hl h
/-! internal/stringslite.CutPrefix -/
abbrev F_internal_stringslite_CutPrefix : Nat := 33
def G_internal_stringslite_CutPrefix : List Nat := [0, 1, 4, 5, 9]
def MU_internal_stringslite_CutPrefix (d : Nat) : Bool := ([] : List Nat).contains d
noncomputable def S_internal_stringslite_CutPrefix : St := (.seq (.sets [(4, (.k (.string ⟨#[]⟩))), (5, (.k (.bool false)))] []) (.seq (.sets [(9, (.un .not (.call 43 (.cs (.s 0) (.cs (.s 1) .nl)))))] []) (.seq (.ite (.s 9) (.seq (.sets [(4, (.s 0)), (5, (.k (.bool false)))] []) .ret) .nop) (.seq (.sets [(4, (.sslc (.s 0) (.cs (.slen (.s 1)) .nl) .nl)), (5, (.k (.bool true)))] []) .ret))))
noncomputable def R_internal_stringslite_CutPrefix : Ex := (.cs (.s 4) (.cs (.s 5) .nl))
theorem dec_internal_stringslite_CutPrefix : opt (dec Try.prog (fun f => roL.contains f) (fun t => G_internal_stringslite_CutPrefix.contains t) 15 (Try.f33.body.getD .skip)) = S_internal_stringslite_CutPrefix := by kernel_rfl
theorem res_internal_stringslite_CutPrefix : resE Try.prog (fun t => G_internal_stringslite_CutPrefix.contains t) Try.f33.results.toList = some R_internal_stringslite_CutPrefix := by kernel_rfl
theorem pc_internal_stringslite_CutPrefix {ds : List DV} {R : DV → DMem → Prop} {M : DMem} (hl : ds.length ≤ 15)
    (h : wpD Try.prog MU_internal_stringslite_CutPrefix (fun f => roL.contains f) (fun t => G_internal_stringslite_CutPrefix.contains t) 15 S_internal_stringslite_CutPrefix (fun δ M' => ∃ d, evD Try.prog M' δ R_internal_stringslite_CutPrefix = some d ∧ R d M') (fun _ _ _ => False) (fun δ M' => ∃ d, evD Try.prog M' δ R_internal_stringslite_CutPrefix = some d ∧ R d M') (argD ds) M) :
    PC Try.prog F_internal_stringslite_CutPrefix ds R M :=
  pc_opt Try.func33 (c := Try.f33.body.getD .skip) (by kernel_rfl) (by kernel_rfl) (by kernel_rfl) dec_internal_stringslite_CutPrefix res_internal_stringslite_CutPrefix _ hl h
/-! errors.Join -/
abbrev F_errors_Join : Nat := 34
def G_errors_Join : List Nat := [0, 2, 3, 5, 6, 8, 9, 10, 11, 12, 16, 21, 26, 27, 28, 29, 33]
def MU_errors_Join (d : Nat) : Bool := ([25] : List Nat).contains d
noncomputable def S1_errors_Join : St := (.seq (.sets [(12, (.bin .lss (.s 11) (.s 10)))] []) (.seq (.ite (.s 12) .nop (.exit 0)) (.seq (.block 1 (.seq (.sets [(5, (.ld (.ix 1 (.s 9) (.s 11))))] []) (.seq (.sets [(15, (.s 5))] []) (.seq (.eff ⟨(some 16), (.binOp .neq 61 (.tmp 15) (.const .nilIface) 61), 4, "", #[], none⟩) (.ite (.s 16) (.sets [(3, (.bin .add (.s 3) (.k (.int .i64 1))))] []) .nop))))) (.sets [(11, (.bin .add (.s 11) (.k (.int .i64 1))))] []))))
noncomputable def S2_errors_Join : St := (.seq (.sets [(29, (.bin .lss (.s 28) (.s 27)))] []) (.seq (.ite (.s 29) .nop (.exit 2)) (.seq (.block 3 (.seq (.sets [(8, (.ld (.ix 1 (.s 26) (.s 28))))] []) (.seq (.sets [(32, (.s 8))] []) (.seq (.eff ⟨(some 33), (.binOp .neq 61 (.tmp 32) (.const .nilIface) 61), 4, "", #[], none⟩) (.ite (.s 33) (.seq (.sets [(34, (.s 6)), (38, (.ld (.fa 0 (.nck (.s 6))))), (39, (.s 8))] []) (.seq (.act (some 40) (.bslice 61 1 [.nilIface] 1 [(0, (.tmp 39))])) (.seq (.act (some 41) (.app 61 1 16 (.tmp 38) (.tmp 40))) (.seq (.sets [(43, (.fa 0 (.nck (.s 34))))] []) (.seq (.act none (.store 1 (.tmp 43) (.tmp 41))) (.sets [] [])))))) .nop))))) (.sets [(28, (.bin .add (.s 28) (.k (.int .i64 1))))] []))))
noncomputable def S3_errors_Join : St := (.seq (.sets [(21, (.bin .eql (.s 3) (.k (.int .i64 0))))] []) (.seq (.ite (.s 21) (.seq (.sets [(2, (.k .nilIface))] []) .ret) .nop) (.seq (.sets [(22, (.s 3))] []) (.seq (.act (some 23) (.make 61 1 16 .nilIface (.const (.int .i64 0)) (.tmp 22))) (.seq (.sets [(24, (.bld [(.slice none 0 0)] [(0, 1)] (.cs (.s 23) .nl)))] []) (.seq (.act (some 25) (.box 92 (.tmp 24))) (.seq (.sets [(6, (.s 25))] []) (.seq (.sets [(26, (.s 0)), (27, (.len (.s 0))), (28, (.k (.int .i64 0)))] []) (.seq (.block 2 (.loop S2_errors_Join)) (.seq (.sets [(2, (.ifc 90 (.s 6)))] []) .ret))))))))))
noncomputable def S_errors_Join : St := (.seq (.sets [(2, (.k .nilIface))] []) (.seq (.sets [(3, (.k (.int .i64 0)))] []) (.seq (.sets [(9, (.s 0)), (10, (.len (.s 0))), (11, (.k (.int .i64 0)))] []) (.seq (.block 0 (.loop S1_errors_Join)) S3_errors_Join))))
noncomputable def R_errors_Join : Ex := (.s 2)
theorem dec_errors_Join : opt (dec Try.prog (fun f => roL.contains f) (fun t => G_errors_Join.contains t) 47 (Try.f34.body.getD .skip)) = S_errors_Join := by kernel_rfl
theorem res_errors_Join : resE Try.prog (fun t => G_errors_Join.contains t) Try.f34.results.toList = some R_errors_Join := by kernel_rfl
theorem pc_errors_Join {ds : List DV} {R : DV → DMem → Prop} {M : DMem} (hl : ds.length ≤ 47)
    (h : wpD Try.prog MU_errors_Join (fun f => roL.contains f) (fun t => G_errors_Join.contains t) 47 S_errors_Join (fun δ M' => ∃ d, evD Try.prog M' δ R_errors_Join = some d ∧ R d M') (fun _ _ _ => False) (fun δ M' => ∃ d, evD Try.prog M' δ R_errors_Join = some d ∧ R d M') (argD ds) M) :
    PC Try.prog F_errors_Join ds R M :=
  pc_opt Try.func34 (c := Try.f34.body.getD .skip) (by kernel_rfl) (by kernel_rfl) (by kernel_rfl) dec_errors_Join res_errors_Join _ hl h
/-! (*swage/pack.taker).ins -/
abbrev F_pack_taker_ins : Nat := 35
def G_pack_taker_ins : List Nat := [0, 2, 3, 4, 8, 13, 28]
def MU_pack_taker_ins (d : Nat) : Bool := ([3] : List Nat).contains d
def O0_pack_taker_ins : Array Oper := #[⟨(some 16), (.fieldAddr 43 (.tmp 3) 1), 0, "pack.go:91", #[], none⟩, ⟨(some 17), (.load 3 (.tmp 16)), 3, "pack.go:91", #[⟨0, .data⟩], none⟩, ⟨(some 18), (.move (.tmp 0)), 59, "pack.go:91", #[], none⟩, ⟨(some 19), (.call ⟨(.value (.func 23)), #[(.tmp 18), (.const (.string ⟨#[110, 117, 109, 98, 101, 114]⟩))], #[59, 9]⟩), 3, "pack.go:91", #[⟨2, .data⟩], none⟩, ⟨(some 20), (.move (.tmp 4)), 3, "pack.go:91", #[], none⟩, ⟨(some 21), (.binOp .shl 3 (.tmp 19) (.tmp 20) 3), 3, "pack.go:91", #[⟨3, .data⟩, ⟨4, .data⟩], none⟩, ⟨(some 22), (.binOp .or 3 (.tmp 17) (.tmp 21) 3), 3, "pack.go:91", #[⟨1, .data⟩, ⟨5, .data⟩], none⟩, ⟨(some 23), (.fieldAddr 43 (.tmp 3) 1), 0, "pack.go:91", #[⟨0, .phase⟩, ⟨1, .phase⟩, ⟨2, .phase⟩, ⟨3, .phase⟩, ⟨4, .phase⟩, ⟨5, .phase⟩, ⟨6, .phase⟩], none⟩, ⟨none, (.store 3 (.tmp 23) (.tmp 22)), 0, "pack.go:91", #[⟨7, .data⟩, ⟨6, .data⟩, ⟨3, .chain⟩, ⟨0, .phase⟩, ⟨1, .phase⟩, ⟨2, .phase⟩, ⟨3, .phase⟩, ⟨4, .phase⟩, ⟨5, .phase⟩, ⟨6, .phase⟩], none⟩]
def P0_pack_taker_ins : List Sp := [.rd 16 (.fa 1 (.s 3)), .rd 17 (.ld (.s 16)), .rd 18 (.s 0), .rd 20 (.s 4), .ck 16 (.fa 1 (.s 3)), .ck 17 (.ld (.s 16)), .ck 18 (.s 0), .ck 20 (.s 4), .hd (some 19) (.call 23 [(.tmp 18), (.const (.string ⟨#[110, 117, 109, 98, 101, 114]⟩))]), .rd 21 (.bin .shl (.s 19) (.s 20)), .rd 22 (.bin .or (.s 17) (.s 21)), .rd 23 (.fa 1 (.s 3)), .ck 16 (.fa 1 (.s 3)), .ck 17 (.ld (.s 16)), .ck 20 (.s 4), .ck 21 (.bin .shl (.s 19) (.s 20)), .ck 22 (.bin .or (.s 17) (.s 21)), .ck 23 (.fa 1 (.s 3)), .hd none (.store 1 (.tmp 23) (.tmp 22))]
theorem plan0_pack_taker_ins : planD Try.prog (fun f => roL.contains f) (fun t => G_pack_taker_ins.contains t) 36 MU_pack_taker_ins O0_pack_taker_ins = some P0_pack_taker_ins := by kernel_rfl
theorem raw0_pack_taker_ins (K : DEnv → DMem → Prop) (X : Nat → DEnv → DMem → Prop) (R : DEnv → DMem → Prop) (δ : DEnv) (M : DMem) : rawW Try.prog MU_pack_taker_ins (fun f => roL.contains f) (fun t => G_pack_taker_ins.contains t) 36 (.region 6 O0_pack_taker_ins true) K X R δ M = wpSp Try.prog MU_pack_taker_ins K P0_pack_taker_ins δ M := rawW_eq plan0_pack_taker_ins K X R δ M
noncomputable def S1_pack_taker_ins : St := (.seq (.sets [(13, (.bin .lss (.s 4) (.k (.int .i64 32))))] []) (.seq (.ite (.s 13) .nop (.exit 1)) (.seq (.block 2 (.raw (.region 6 O0_pack_taker_ins true))) (.sets [(4, (.bin .add (.s 4) (.k (.int .i64 8))))] []))))
noncomputable def S2_pack_taker_ins : St := (.seq (.sets [(26, (.call 44 (.cs (.ld (.fa 1 (.s 3))) .nl))), (27, (.fa 1 (.s 3)))] []) (.seq (.act none (.store 1 (.tmp 27) (.tmp 26))) (.sets [] [])))
noncomputable def S3_pack_taker_ins : St := (.seq (.sets [(34, (.fa 1 (.s 3)))] []) (.seq (.act none (.store 1 (.tmp 34) (.tmp 33))) (.sets [] [])))
noncomputable def S4_pack_taker_ins : St := (.seq (.sets [(35, (.ldn 2 (.s 3)))] []) (.seq (.act none (.store 2 (.tmp 2) (.tmp 35))) .ret))
noncomputable def S5_pack_taker_ins : St := (.seq (.sets [(7, (.bld [(.int .i64 0), (.int .i64 0)] [(0, 1)] (.cs (.s 6) .nl)))] []) (.seq (.act (some 3) (.var 43 2 (.tmp 7))) (.seq (.block 0 (.seq (.sets [(8, (.bin .eql (.ld (.fa 0 (.s 3))) (.k (.int .i64 0))))] []) (.ite (.s 8) (.seq (.sets [(4, (.k (.int .i64 0)))] []) (.seq (.block 1 (.loop S1_pack_taker_ins)) S2_pack_taker_ins)) (.seq (.sets [(28, (.call 19 (.cs (.ld (.fa 0 (.s 3))) .nl)))] []) (.ite (.s 28) (.seq (.sets [(32, (.s 0))] []) (.seq (.act (some 33) (.call 23 [(.tmp 32), (.const (.string ⟨#[112, 108, 97, 99, 101]⟩))])) S3_pack_taker_ins)) .nop))))) S4_pack_taker_ins)))
noncomputable def S_pack_taker_ins : St := (.seq (.act (some 2) (.alloc 43 (.agg #[(.int .i64 0), (.int .i64 0)]))) (.seq (.sets [(5, (.s 0))] []) (.seq (.act (some 6) (.call 23 [(.tmp 5), (.const (.string ⟨#[107, 105, 110, 100]⟩))])) S5_pack_taker_ins)))
noncomputable def R_pack_taker_ins : Ex := (.ldn 2 (.s 2))
theorem dec_pack_taker_ins : opt (dec Try.prog (fun f => roL.contains f) (fun t => G_pack_taker_ins.contains t) 36 (Try.f35.body.getD .skip)) = S_pack_taker_ins := by kernel_rfl
theorem res_pack_taker_ins : resE Try.prog (fun t => G_pack_taker_ins.contains t) Try.f35.results.toList = some R_pack_taker_ins := by kernel_rfl
theorem pc_pack_taker_ins {ds : List DV} {R : DV → DMem → Prop} {M : DMem} (hl : ds.length ≤ 36)
    (h : wpD Try.prog MU_pack_taker_ins (fun f => roL.contains f) (fun t => G_pack_taker_ins.contains t) 36 S_pack_taker_ins (fun δ M' => ∃ d, evD Try.prog M' δ R_pack_taker_ins = some d ∧ R d M') (fun _ _ _ => False) (fun δ M' => ∃ d, evD Try.prog M' δ R_pack_taker_ins = some d ∧ R d M') (argD ds) M) :
    PC Try.prog F_pack_taker_ins ds R M :=
  pc_opt Try.func35 (c := Try.f35.body.getD .skip) (by kernel_rfl) (by kernel_rfl) (by kernel_rfl) dec_pack_taker_ins res_pack_taker_ins _ hl h
/-! errors.is -/
abbrev F_errors_is : Nat := 37
def G_errors_is : List Nat := [0, 1, 2, 6, 7, 8, 9, 10, 12, 19, 30, 31, 33, 34, 38, 40, 41, 43, 44, 45, 46, 52]
def MU_errors_is (d : Nat) : Bool := ([] : List Nat).contains d
noncomputable def S1_errors_is : St := (.ite (.s 52) (.seq (.sets [(6, (.k (.bool true)))] []) .ret) .nop)
noncomputable def S2_errors_is : St := (.seq (.sets [(46, (.bin .lss (.s 45) (.s 44)))] []) (.seq (.ite (.s 46) .nop (.exit 3)) (.seq (.block 4 (.seq (.sets [(12, (.ld (.ix 1 (.s 43) (.s 45))))] []) (.seq (.sets [(49, (.s 12)), (50, (.s 1)), (51, (.s 2))] []) (.seq (.act (some 52) (.call 37 [(.tmp 49), (.tmp 50), (.tmp 51)])) S1_errors_is)))) (.sets [(45, (.bin .add (.s 45) (.k (.int .i64 1))))] []))))
noncomputable def S3_errors_is : St := (.block 1 (.seq (.sets [(15, (.s 2)), (16, (.grd (.s 2) true (.s 0))), (17, (.grd (.s 2) true (.s 1)))] []) (.seq (.ite (.s 15) (.eff ⟨(some 18), (.binOp .eql 61 (.tmp 16) (.tmp 17) 61), 4, "", #[], none⟩) (.sets [(18, (.k (.tuple #[])))] [])) (.seq (.sets [(19, (.pick (.s 15) (.s 18) (.k (.bool false))))] []) (.seq (.ite (.s 19) (.seq (.sets [(6, (.k (.bool true)))] []) .ret) .nop) (.seq (.sets [(21, (.s 0))] []) (.seq (.eff ⟨(some 22), (.typeAssert (.tmp 21) 61 96 .true), 97, "", #[], none⟩) (.seq (.sets [(7, (.ext 0 (.s 22))), (8, (.ext 1 (.s 22)))] []) (.seq (.sets [(26, (.s 8)), (27, (.grd (.s 8) true (.s 7))), (28, (.grd (.s 8) true (.s 1)))] []) (.seq (.ite (.s 26) (.eff ⟨(some 29), (.call ⟨(.invoke (.tmp 27) "Is"), #[(.tmp 28)], #[61]⟩), 4, "", #[], none⟩) (.sets [(29, (.k (.tuple #[])))] [])) (.seq (.sets [(30, (.pick (.s 26) (.s 29) (.k (.bool false))))] []) (.seq (.ite (.s 30) (.seq (.sets [(6, (.k (.bool true)))] []) .ret) .nop) (.seq (.sets [(31, (.s 0))] []) (.block 2 (.seq (.eff ⟨(some 32), (.typeAssert (.tmp 31) 61 99 .true), 0, "", #[], none⟩) (.seq (.sets [(33, (.ext 1 (.s 32))), (34, (.ext 0 (.s 32)))] []) (.ite (.s 33) (.seq (.sets [(9, (.s 34))] []) (.seq (.sets [(35, (.s 9))] []) (.seq (.eff ⟨(some 36), (.call ⟨(.invoke (.tmp 35) "Unwrap"), #[], #[]⟩), 61, "", #[], none⟩) (.seq (.sets [(0, (.s 36))] []) (.seq (.sets [(37, (.s 0))] []) (.seq (.eff ⟨(some 38), (.binOp .eql 61 (.tmp 37) (.const .nilIface) 61), 4, "", #[], none⟩) (.ite (.s 38) (.seq (.sets [(6, (.k (.bool false)))] []) .ret) .nop))))))) (.seq (.eff ⟨(some 39), (.typeAssert (.tmp 31) 61 101 .true), 0, "", #[], none⟩) (.seq (.sets [(40, (.ext 1 (.s 39))), (41, (.ext 0 (.s 39)))] []) (.ite (.s 40) (.seq (.sets [(10, (.s 41))] []) (.seq (.sets [(42, (.s 10))] []) (.seq (.eff ⟨(some 43), (.call ⟨(.invoke (.tmp 42) "Unwrap"), #[], #[]⟩), 89, "", #[], none⟩) (.seq (.sets [(44, (.len (.s 43))), (45, (.k (.int .i64 0)))] []) (.seq (.block 3 (.loop S2_errors_is)) (.seq (.sets [(6, (.k (.bool false)))] []) .ret)))))) (.seq (.sets [] [(.s 31)]) (.seq (.sets [(6, (.k (.bool false)))] []) .ret))))))))))))))))))))))
noncomputable def S_errors_is : St := (.seq (.sets [(6, (.k (.bool false)))] []) (.block 0 (.loop S3_errors_is)))
noncomputable def R_errors_is : Ex := (.s 6)
theorem dec_errors_is : opt (dec Try.prog (fun f => roL.contains f) (fun t => G_errors_is.contains t) 54 (Try.f37.body.getD .skip)) = S_errors_is := by kernel_rfl
theorem res_errors_is : resE Try.prog (fun t => G_errors_is.contains t) Try.f37.results.toList = some R_errors_is := by kernel_rfl
theorem pc_errors_is {ds : List DV} {R : DV → DMem → Prop} {M : DMem} (hl : ds.length ≤ 54)
    (h : wpD Try.prog MU_errors_is (fun f => roL.contains f) (fun t => G_errors_is.contains t) 54 S_errors_is (fun δ M' => ∃ d, evD Try.prog M' δ R_errors_is = some d ∧ R d M') (fun _ _ _ => False) (fun δ M' => ∃ d, evD Try.prog M' δ R_errors_is = some d ∧ R d M') (argD ds) M) :
    PC Try.prog F_errors_is ds R M :=
  pc_opt Try.func37 (c := Try.f37.body.getD .skip) (by kernel_rfl) (by kernel_rfl) (by kernel_rfl) dec_errors_is res_errors_is _ hl h
/-! slices.IndexFunc[[]swage/api.Func,swage/api.Func] -/
abbrev F_slices_IndexFunc_api_Func_api_Func : Nat := 38
def G_slices_IndexFunc_api_Func_api_Func : List Nat := [0, 1, 4, 5, 7, 8, 9, 16]
def MU_slices_IndexFunc_api_Func_api_Func (d : Nat) : Bool := ([] : List Nat).contains d
noncomputable def S1_slices_IndexFunc_api_Func_api_Func : St := (.seq (.sets [(9, (.bin .lss (.s 8) (.s 7)))] []) (.seq (.ite (.s 9) .nop (.exit 0)) (.seq (.block 1 (.seq (.sets [(5, (.s 8))] []) (.seq (.sets [(11, (.s 1)), (15, (.ldn 3 (.ix 3 (.s 0) (.s 5))))] []) (.seq (.act (some 16) (.callv 11 [(.tmp 15)])) (.ite (.s 16) (.seq (.sets [(4, (.s 5))] []) .ret) .nop))))) (.sets [(8, (.bin .add (.s 8) (.k (.int .i64 1))))] []))))
noncomputable def S_slices_IndexFunc_api_Func_api_Func : St := (.seq (.sets [(4, (.k (.int .i64 0)))] []) (.seq (.sets [(7, (.len (.s 0))), (8, (.k (.int .i64 0)))] []) (.seq (.block 0 (.loop S1_slices_IndexFunc_api_Func_api_Func)) (.seq (.sets [(4, (.k (.int .i64 (-1))))] []) .ret))))
noncomputable def R_slices_IndexFunc_api_Func_api_Func : Ex := (.s 4)
theorem dec_slices_IndexFunc_api_Func_api_Func : opt (dec Try.prog (fun f => roL.contains f) (fun t => G_slices_IndexFunc_api_Func_api_Func.contains t) 19 (Try.f38.body.getD .skip)) = S_slices_IndexFunc_api_Func_api_Func := by kernel_rfl
theorem res_slices_IndexFunc_api_Func_api_Func : resE Try.prog (fun t => G_slices_IndexFunc_api_Func_api_Func.contains t) Try.f38.results.toList = some R_slices_IndexFunc_api_Func_api_Func := by kernel_rfl
theorem pc_slices_IndexFunc_api_Func_api_Func {ds : List DV} {R : DV → DMem → Prop} {M : DMem} (hl : ds.length ≤ 19)
    (h : wpD Try.prog MU_slices_IndexFunc_api_Func_api_Func (fun f => roL.contains f) (fun t => G_slices_IndexFunc_api_Func_api_Func.contains t) 19 S_slices_IndexFunc_api_Func_api_Func (fun δ M' => ∃ d, evD Try.prog M' δ R_slices_IndexFunc_api_Func_api_Func = some d ∧ R d M') (fun _ _ _ => False) (fun δ M' => ∃ d, evD Try.prog M' δ R_slices_IndexFunc_api_Func_api_Func = some d ∧ R d M') (argD ds) M) :
    PC Try.prog F_slices_IndexFunc_api_Func_api_Func ds R M :=
  pc_opt Try.func38 (c := Try.f38.body.getD .skip) (by kernel_rfl) (by kernel_rfl) (by kernel_rfl) dec_slices_IndexFunc_api_Func_api_Func res_slices_IndexFunc_api_Func_api_Func _ hl h
/-! swage/pack.not$1 -/
abbrev F_pack_not_1 : Nat := 39
def G_pack_not_1 : List Nat := [0, 1, 2]
def MU_pack_not_1 (d : Nat) : Bool := ([] : List Nat).contains d
noncomputable def S_pack_not_1 : St := (.seq (.act (some 1) (.box 43 (.tmp 0))) (.seq (.sets [(2, (.k (.bool false)))] []) (.seq (.sets [(2, (.un .not (.call 40 (.cs (.ldn 2 (.s 1)) .nl))))] []) .ret)))
noncomputable def R_pack_not_1 : Ex := (.s 2)
theorem dec_pack_not_1 : opt (dec Try.prog (fun f => roL.contains f) (fun t => G_pack_not_1.contains t) 6 (Try.f39.body.getD .skip)) = S_pack_not_1 := by kernel_rfl
theorem res_pack_not_1 : resE Try.prog (fun t => G_pack_not_1.contains t) Try.f39.results.toList = some R_pack_not_1 := by kernel_rfl
theorem pc_pack_not_1 {ds : List DV} {R : DV → DMem → Prop} {M : DMem} (hl : ds.length ≤ 6)
    (h : wpD Try.prog MU_pack_not_1 (fun f => roL.contains f) (fun t => G_pack_not_1.contains t) 6 S_pack_not_1 (fun δ M' => ∃ d, evD Try.prog M' δ R_pack_not_1 = some d ∧ R d M') (fun _ _ _ => False) (fun δ M' => ∃ d, evD Try.prog M' δ R_pack_not_1 = some d ∧ R d M') (argD ds) M) :
    PC Try.prog F_pack_not_1 ds R M :=
  pc_opt Try.func39 (c := Try.f39.body.getD .skip) (by kernel_rfl) (by kernel_rfl) (by kernel_rfl) dec_pack_not_1 res_pack_not_1 _ hl h
/-! swage/ins.May -/
abbrev F_ins_May : Nat := 40
def G_ins_May : List Nat := [0, 1, 2, 3, 12]
def MU_ins_May (d : Nat) : Bool := ([] : List Nat).contains d
noncomputable def S_ins_May : St := (.seq (.act (some 1) (.box 43 (.tmp 0))) (.seq (.sets [(2, (.k (.bool false)))] []) (.seq (.block 0 (.seq (.sets [(3, (.or (.bin .lss (.ld (.fa 0 (.s 1))) (.k (.int .i64 0))) (.bin .gtr (.ld (.fa 0 (.s 1))) (.k (.int .i64 16)))))] []) (.ite (.s 3) (.seq (.sets [(2, (.k (.bool false)))] []) .ret) (.seq (.sets [(12, (.bin .eql (.ld (.fa 0 (.s 1))) (.k (.int .i64 0))))] []) (.ite (.s 12) (.seq (.sets [(2, (.call 45 (.cs (.ld (.fa 1 (.s 1))) .nl)))] []) .ret) .nop))))) (.seq (.sets [(2, (.and (.bin .geq (.ld (.fa 1 (.s 1))) (.k (.int .i64 0))) (.bin .lss (.ld (.fa 1 (.s 1))) (.call 46 (.cs (.ld (.fa 0 (.s 1))) .nl)))))] []) .ret))))
noncomputable def R_ins_May : Ex := (.s 2)
theorem dec_ins_May : opt (dec Try.prog (fun f => roL.contains f) (fun t => G_ins_May.contains t) 30 (Try.f40.body.getD .skip)) = S_ins_May := by kernel_rfl
theorem res_ins_May : resE Try.prog (fun t => G_ins_May.contains t) Try.f40.results.toList = some R_ins_May := by kernel_rfl
theorem pc_ins_May {ds : List DV} {R : DV → DMem → Prop} {M : DMem} (hl : ds.length ≤ 30)
    (h : wpD Try.prog MU_ins_May (fun f => roL.contains f) (fun t => G_ins_May.contains t) 30 S_ins_May (fun δ M' => ∃ d, evD Try.prog M' δ R_ins_May = some d ∧ R d M') (fun _ _ _ => False) (fun δ M' => ∃ d, evD Try.prog M' δ R_ins_May = some d ∧ R d M') (argD ds) M) :
    PC Try.prog F_ins_May ds R M :=
  pc_opt Try.func40 (c := Try.f40.body.getD .skip) (by kernel_rfl) (by kernel_rfl) (by kernel_rfl) dec_ins_May res_ins_May _ hl h
/-! slices.ContainsFunc[[]swage/api.Ins,swage/api.Ins] -/
abbrev F_slices_ContainsFunc_api_Ins_api_Ins : Nat := 41
def G_slices_ContainsFunc_api_Ins_api_Ins : List Nat := [0, 1, 4]
def MU_slices_ContainsFunc_api_Ins_api_Ins (d : Nat) : Bool := ([] : List Nat).contains d
noncomputable def S_slices_ContainsFunc_api_Ins_api_Ins : St := (.seq (.sets [(4, (.k (.bool false)))] []) (.seq (.sets [(4, (.bin .geq (.call 47 (.cs (.s 0) (.cs (.s 1) .nl))) (.k (.int .i64 0))))] []) .ret))
noncomputable def R_slices_ContainsFunc_api_Ins_api_Ins : Ex := (.s 4)
theorem dec_slices_ContainsFunc_api_Ins_api_Ins : opt (dec Try.prog (fun f => roL.contains f) (fun t => G_slices_ContainsFunc_api_Ins_api_Ins.contains t) 9 (Try.f41.body.getD .skip)) = S_slices_ContainsFunc_api_Ins_api_Ins := by kernel_rfl
theorem res_slices_ContainsFunc_api_Ins_api_Ins : resE Try.prog (fun t => G_slices_ContainsFunc_api_Ins_api_Ins.contains t) Try.f41.results.toList = some R_slices_ContainsFunc_api_Ins_api_Ins := by kernel_rfl
theorem pc_slices_ContainsFunc_api_Ins_api_Ins {ds : List DV} {R : DV → DMem → Prop} {M : DMem} (hl : ds.length ≤ 9)
    (h : wpD Try.prog MU_slices_ContainsFunc_api_Ins_api_Ins (fun f => roL.contains f) (fun t => G_slices_ContainsFunc_api_Ins_api_Ins.contains t) 9 S_slices_ContainsFunc_api_Ins_api_Ins (fun δ M' => ∃ d, evD Try.prog M' δ R_slices_ContainsFunc_api_Ins_api_Ins = some d ∧ R d M') (fun _ _ _ => False) (fun δ M' => ∃ d, evD Try.prog M' δ R_slices_ContainsFunc_api_Ins_api_Ins = some d ∧ R d M') (argD ds) M) :
    PC Try.prog F_slices_ContainsFunc_api_Ins_api_Ins ds R M :=
  pc_opt Try.func41 (c := Try.f41.body.getD .skip) (by kernel_rfl) (by kernel_rfl) (by kernel_rfl) dec_slices_ContainsFunc_api_Ins_api_Ins res_slices_ContainsFunc_api_Ins_api_Ins _ hl h
/-! swage/swageref1.InsMay -/
abbrev F_swageref1_InsMay : Nat := 42
def G_swageref1_InsMay : List Nat := [0, 1, 2, 4, 5, 10, 21, 32]
def MU_swageref1_InsMay (d : Nat) : Bool := ([] : List Nat).contains d
noncomputable def S_swageref1_InsMay : St := (.seq (.act (some 1) (.box 43 (.tmp 0))) (.seq (.sets [(2, (.k (.bool false)))] []) (.seq (.sets [(4, (.ld (.fa 0 (.s 1))))] []) (.seq (.block 0 (.seq (.sets [(5, (.bin .eql (.s 4) (.k (.int .i64 0))))] []) (.ite (.s 5) (.seq (.sets [(2, (.call 48 (.cs (.ld (.fa 1 (.s 1))) .nl)))] []) .ret) (.seq (.sets [(10, (.or (.bin .eql (.s 4) (.k (.int .i64 1))) (.bin .eql (.s 4) (.k (.int .i64 2)))))] []) (.ite (.s 10) (.seq (.sets [(2, (.and (.bin .geq (.ld (.fa 1 (.s 1))) (.k (.int .i64 0))) (.bin .lss (.ld (.fa 1 (.s 1))) (.k (.int .i64 8)))))] []) .ret) (.seq (.sets [(21, (.or (.bin .eql (.s 4) (.k (.int .i64 12))) (.bin .eql (.s 4) (.k (.int .i64 13)))))] []) (.ite (.s 21) (.seq (.sets [(2, (.and (.bin .geq (.ld (.fa 1 (.s 1))) (.k (.int .i64 0))) (.bin .lss (.ld (.fa 1 (.s 1))) (.k (.int .i64 64)))))] []) .ret) (.seq (.sets [(32, (.bin .eql (.s 4) (.k (.int .i64 14))))] []) (.ite (.s 32) (.seq (.sets [(2, (.and (.bin .geq (.ld (.fa 1 (.s 1))) (.k (.int .i64 0))) (.bin .lss (.ld (.fa 1 (.s 1))) (.k (.int .i64 8)))))] []) .ret) .nop))))))))) (.seq (.sets [(2, (.and (.and (.bin .geq (.ld (.fa 0 (.s 1))) (.k (.int .i64 3))) (.bin .leq (.ld (.fa 0 (.s 1))) (.k (.int .i64 16)))) (.bin .eql (.ld (.fa 1 (.s 1))) (.k (.int .i64 0)))))] []) .ret)))))
noncomputable def R_swageref1_InsMay : Ex := (.s 2)
theorem dec_swageref1_InsMay : opt (dec Try.prog (fun f => roL.contains f) (fun t => G_swageref1_InsMay.contains t) 55 (Try.f42.body.getD .skip)) = S_swageref1_InsMay := by kernel_rfl
theorem res_swageref1_InsMay : resE Try.prog (fun t => G_swageref1_InsMay.contains t) Try.f42.results.toList = some R_swageref1_InsMay := by kernel_rfl
theorem pc_swageref1_InsMay {ds : List DV} {R : DV → DMem → Prop} {M : DMem} (hl : ds.length ≤ 55)
    (h : wpD Try.prog MU_swageref1_InsMay (fun f => roL.contains f) (fun t => G_swageref1_InsMay.contains t) 55 S_swageref1_InsMay (fun δ M' => ∃ d, evD Try.prog M' δ R_swageref1_InsMay = some d ∧ R d M') (fun _ _ _ => False) (fun δ M' => ∃ d, evD Try.prog M' δ R_swageref1_InsMay = some d ∧ R d M') (argD ds) M) :
    PC Try.prog F_swageref1_InsMay ds R M :=
  pc_opt Try.func42 (c := Try.f42.body.getD .skip) (by kernel_rfl) (by kernel_rfl) (by kernel_rfl) dec_swageref1_InsMay res_swageref1_InsMay _ hl h
/-! internal/stringslite.HasPrefix -/
abbrev F_internal_stringslite_HasPrefix : Nat := 43
def G_internal_stringslite_HasPrefix : List Nat := [0, 1, 4]
def MU_internal_stringslite_HasPrefix (d : Nat) : Bool := ([] : List Nat).contains d
noncomputable def S_internal_stringslite_HasPrefix : St := (.seq (.sets [(4, (.k (.bool false)))] []) (.seq (.sets [(4, (.and (.bin .geq (.slen (.s 0)) (.slen (.s 1))) (.bin .eql (.sslc (.s 0) .nl (.cs (.slen (.s 1)) .nl)) (.s 1))))] []) .ret))
noncomputable def R_internal_stringslite_HasPrefix : Ex := (.s 4)
theorem dec_internal_stringslite_HasPrefix : opt (dec Try.prog (fun f => roL.contains f) (fun t => G_internal_stringslite_HasPrefix.contains t) 18 (Try.f43.body.getD .skip)) = S_internal_stringslite_HasPrefix := by kernel_rfl
theorem res_internal_stringslite_HasPrefix : resE Try.prog (fun t => G_internal_stringslite_HasPrefix.contains t) Try.f43.results.toList = some R_internal_stringslite_HasPrefix := by kernel_rfl
theorem pc_internal_stringslite_HasPrefix {ds : List DV} {R : DV → DMem → Prop} {M : DMem} (hl : ds.length ≤ 18)
    (h : wpD Try.prog MU_internal_stringslite_HasPrefix (fun f => roL.contains f) (fun t => G_internal_stringslite_HasPrefix.contains t) 18 S_internal_stringslite_HasPrefix (fun δ M' => ∃ d, evD Try.prog M' δ R_internal_stringslite_HasPrefix = some d ∧ R d M') (fun _ _ _ => False) (fun δ M' => ∃ d, evD Try.prog M' δ R_internal_stringslite_HasPrefix = some d ∧ R d M') (argD ds) M) :
    PC Try.prog F_internal_stringslite_HasPrefix ds R M :=
  pc_opt Try.func43 (c := Try.f43.body.getD .skip) (by kernel_rfl) (by kernel_rfl) (by kernel_rfl) dec_internal_stringslite_HasPrefix res_internal_stringslite_HasPrefix _ hl h
/-! swage/wrap.Wrap -/
abbrev F_wrap_Wrap : Nat := 44
def G_wrap_Wrap : List Nat := [0, 2]
def MU_wrap_Wrap (d : Nat) : Bool := ([] : List Nat).contains d
noncomputable def S_wrap_Wrap : St := (.seq (.sets [(2, (.k (.int .i64 0)))] []) (.seq (.sets [(2, (.cvt .i64 (.cvt .i32 (.s 0))))] []) .ret))
noncomputable def R_wrap_Wrap : Ex := (.s 2)
theorem dec_wrap_Wrap : opt (dec Try.prog (fun f => roL.contains f) (fun t => G_wrap_Wrap.contains t) 6 (Try.f44.body.getD .skip)) = S_wrap_Wrap := by kernel_rfl
theorem res_wrap_Wrap : resE Try.prog (fun t => G_wrap_Wrap.contains t) Try.f44.results.toList = some R_wrap_Wrap := by kernel_rfl
theorem pc_wrap_Wrap {ds : List DV} {R : DV → DMem → Prop} {M : DMem} (hl : ds.length ≤ 6)
    (h : wpD Try.prog MU_wrap_Wrap (fun f => roL.contains f) (fun t => G_wrap_Wrap.contains t) 6 S_wrap_Wrap (fun δ M' => ∃ d, evD Try.prog M' δ R_wrap_Wrap = some d ∧ R d M') (fun _ _ _ => False) (fun δ M' => ∃ d, evD Try.prog M' δ R_wrap_Wrap = some d ∧ R d M') (argD ds) M) :
    PC Try.prog F_wrap_Wrap ds R M :=
  pc_opt Try.func44 (c := Try.f44.body.getD .skip) (by kernel_rfl) (by kernel_rfl) (by kernel_rfl) dec_wrap_Wrap res_wrap_Wrap _ hl h
/-! swage/wrap.Is -/
abbrev F_wrap_Is : Nat := 45
def G_wrap_Is : List Nat := [0, 2]
def MU_wrap_Is (d : Nat) : Bool := ([] : List Nat).contains d
noncomputable def S_wrap_Is : St := (.seq (.sets [(2, (.k (.bool false)))] []) (.seq (.sets [(2, (.bin .eql (.cvt .i64 (.cvt .i32 (.s 0))) (.s 0)))] []) .ret))
noncomputable def R_wrap_Is : Ex := (.s 2)
theorem dec_wrap_Is : opt (dec Try.prog (fun f => roL.contains f) (fun t => G_wrap_Is.contains t) 8 (Try.f45.body.getD .skip)) = S_wrap_Is := by kernel_rfl
theorem res_wrap_Is : resE Try.prog (fun t => G_wrap_Is.contains t) Try.f45.results.toList = some R_wrap_Is := by kernel_rfl
theorem pc_wrap_Is {ds : List DV} {R : DV → DMem → Prop} {M : DMem} (hl : ds.length ≤ 8)
    (h : wpD Try.prog MU_wrap_Is (fun f => roL.contains f) (fun t => G_wrap_Is.contains t) 8 S_wrap_Is (fun δ M' => ∃ d, evD Try.prog M' δ R_wrap_Is = some d ∧ R d M') (fun _ _ _ => False) (fun δ M' => ∃ d, evD Try.prog M' δ R_wrap_Is = some d ∧ R d M') (argD ds) M) :
    PC Try.prog F_wrap_Is ds R M :=
  pc_opt Try.func45 (c := Try.f45.body.getD .skip) (by kernel_rfl) (by kernel_rfl) (by kernel_rfl) dec_wrap_Is res_wrap_Is _ hl h
/-! swage/ins.below -/
abbrev F_ins_below : Nat := 46
def G_ins_below : List Nat := [0, 2, 3, 4, 7, 10]
def MU_ins_below (d : Nat) : Bool := ([] : List Nat).contains d
noncomputable def S_ins_below : St := (.seq (.sets [(2, (.k (.int .i64 0)))] []) (.seq (.sets [(3, (.s 0))] []) (.seq (.block 0 (.seq (.sets [(4, (.or (.bin .eql (.s 3) (.k (.int .i64 1))) (.bin .eql (.s 3) (.k (.int .i64 2)))))] []) (.ite (.s 4) (.seq (.sets [(2, (.k (.int .i64 8)))] []) .ret) (.seq (.sets [(7, (.or (.bin .eql (.s 3) (.k (.int .i64 12))) (.bin .eql (.s 3) (.k (.int .i64 13)))))] []) (.ite (.s 7) (.seq (.sets [(2, (.k (.int .i64 64)))] []) .ret) (.seq (.sets [(10, (.bin .eql (.s 3) (.k (.int .i64 14))))] []) (.ite (.s 10) (.seq (.sets [(2, (.k (.int .i64 8)))] []) .ret) .nop))))))) (.seq (.sets [(2, (.k (.int .i64 1)))] []) .ret))))
noncomputable def R_ins_below : Ex := (.s 2)
theorem dec_ins_below : opt (dec Try.prog (fun f => roL.contains f) (fun t => G_ins_below.contains t) 12 (Try.f46.body.getD .skip)) = S_ins_below := by kernel_rfl
theorem res_ins_below : resE Try.prog (fun t => G_ins_below.contains t) Try.f46.results.toList = some R_ins_below := by kernel_rfl
theorem pc_ins_below {ds : List DV} {R : DV → DMem → Prop} {M : DMem} (hl : ds.length ≤ 12)
    (h : wpD Try.prog MU_ins_below (fun f => roL.contains f) (fun t => G_ins_below.contains t) 12 S_ins_below (fun δ M' => ∃ d, evD Try.prog M' δ R_ins_below = some d ∧ R d M') (fun _ _ _ => False) (fun δ M' => ∃ d, evD Try.prog M' δ R_ins_below = some d ∧ R d M') (argD ds) M) :
    PC Try.prog F_ins_below ds R M :=
  pc_opt Try.func46 (c := Try.f46.body.getD .skip) (by kernel_rfl) (by kernel_rfl) (by kernel_rfl) dec_ins_below res_ins_below _ hl h
/-! slices.IndexFunc[[]swage/api.Ins,swage/api.Ins] -/
abbrev F_slices_IndexFunc_api_Ins_api_Ins : Nat := 47
def G_slices_IndexFunc_api_Ins_api_Ins : List Nat := [0, 1, 4, 5, 7, 8, 9, 16]
def MU_slices_IndexFunc_api_Ins_api_Ins (d : Nat) : Bool := ([] : List Nat).contains d
noncomputable def S1_slices_IndexFunc_api_Ins_api_Ins : St := (.seq (.sets [(9, (.bin .lss (.s 8) (.s 7)))] []) (.seq (.ite (.s 9) .nop (.exit 0)) (.seq (.block 1 (.seq (.sets [(5, (.s 8))] []) (.seq (.sets [(11, (.s 1)), (15, (.ldn 2 (.ix 2 (.s 0) (.s 5))))] []) (.seq (.act (some 16) (.callv 11 [(.tmp 15)])) (.ite (.s 16) (.seq (.sets [(4, (.s 5))] []) .ret) .nop))))) (.sets [(8, (.bin .add (.s 8) (.k (.int .i64 1))))] []))))
noncomputable def S_slices_IndexFunc_api_Ins_api_Ins : St := (.seq (.sets [(4, (.k (.int .i64 0)))] []) (.seq (.sets [(7, (.len (.s 0))), (8, (.k (.int .i64 0)))] []) (.seq (.block 0 (.loop S1_slices_IndexFunc_api_Ins_api_Ins)) (.seq (.sets [(4, (.k (.int .i64 (-1))))] []) .ret))))
noncomputable def R_slices_IndexFunc_api_Ins_api_Ins : Ex := (.s 4)
theorem dec_slices_IndexFunc_api_Ins_api_Ins : opt (dec Try.prog (fun f => roL.contains f) (fun t => G_slices_IndexFunc_api_Ins_api_Ins.contains t) 19 (Try.f47.body.getD .skip)) = S_slices_IndexFunc_api_Ins_api_Ins := by kernel_rfl
theorem res_slices_IndexFunc_api_Ins_api_Ins : resE Try.prog (fun t => G_slices_IndexFunc_api_Ins_api_Ins.contains t) Try.f47.results.toList = some R_slices_IndexFunc_api_Ins_api_Ins := by kernel_rfl
theorem pc_slices_IndexFunc_api_Ins_api_Ins {ds : List DV} {R : DV → DMem → Prop} {M : DMem} (hl : ds.length ≤ 19)
    (h : wpD Try.prog MU_slices_IndexFunc_api_Ins_api_Ins (fun f => roL.contains f) (fun t => G_slices_IndexFunc_api_Ins_api_Ins.contains t) 19 S_slices_IndexFunc_api_Ins_api_Ins (fun δ M' => ∃ d, evD Try.prog M' δ R_slices_IndexFunc_api_Ins_api_Ins = some d ∧ R d M') (fun _ _ _ => False) (fun δ M' => ∃ d, evD Try.prog M' δ R_slices_IndexFunc_api_Ins_api_Ins = some d ∧ R d M') (argD ds) M) :
    PC Try.prog F_slices_IndexFunc_api_Ins_api_Ins ds R M :=
  pc_opt Try.func47 (c := Try.f47.body.getD .skip) (by kernel_rfl) (by kernel_rfl) (by kernel_rfl) dec_slices_IndexFunc_api_Ins_api_Ins res_slices_IndexFunc_api_Ins_api_Ins _ hl h
/-! swage/swageref1.Number -/
abbrev F_swageref1_Number : Nat := 48
def G_swageref1_Number : List Nat := [0, 2]
def MU_swageref1_Number (d : Nat) : Bool := ([] : List Nat).contains d
noncomputable def S_swageref1_Number : St := (.seq (.sets [(2, (.k (.bool false)))] []) (.seq (.sets [(2, (.and (.bin .geq (.s 0) (.k (.int .i64 (-2147483648)))) (.bin .leq (.s 0) (.k (.int .i64 2147483647)))))] []) .ret))
noncomputable def R_swageref1_Number : Ex := (.s 2)
theorem dec_swageref1_Number : opt (dec Try.prog (fun f => roL.contains f) (fun t => G_swageref1_Number.contains t) 9 (Try.f48.body.getD .skip)) = S_swageref1_Number := by kernel_rfl
theorem res_swageref1_Number : resE Try.prog (fun t => G_swageref1_Number.contains t) Try.f48.results.toList = some R_swageref1_Number := by kernel_rfl
theorem pc_swageref1_Number {ds : List DV} {R : DV → DMem → Prop} {M : DMem} (hl : ds.length ≤ 9)
    (h : wpD Try.prog MU_swageref1_Number (fun f => roL.contains f) (fun t => G_swageref1_Number.contains t) 9 S_swageref1_Number (fun δ M' => ∃ d, evD Try.prog M' δ R_swageref1_Number = some d ∧ R d M') (fun _ _ _ => False) (fun δ M' => ∃ d, evD Try.prog M' δ R_swageref1_Number = some d ∧ R d M') (argD ds) M) :
    PC Try.prog F_swageref1_Number ds R M :=
  pc_opt Try.func48 (c := Try.f48.body.getD .skip) (by kernel_rfl) (by kernel_rfl) (by kernel_rfl) dec_swageref1_Number res_swageref1_Number _ hl h
/-! (*swage/pack.short).Unwrap -/
abbrev F_pack_short_Unwrap : Nat := 66
def G_pack_short_Unwrap : List Nat := [0, 2]
def MU_pack_short_Unwrap (d : Nat) : Bool := ([] : List Nat).contains d
noncomputable def S_pack_short_Unwrap : St := (.seq (.sets [(2, (.k .nilIface))] []) (.seq (.sets [(2, (.ifc 26 (.k (.int .i64 300))))] []) .ret))
noncomputable def R_pack_short_Unwrap : Ex := (.s 2)
theorem dec_pack_short_Unwrap : opt (dec Try.prog (fun f => roL.contains f) (fun t => G_pack_short_Unwrap.contains t) 4 (Try.f66.body.getD .skip)) = S_pack_short_Unwrap := by kernel_rfl
theorem res_pack_short_Unwrap : resE Try.prog (fun t => G_pack_short_Unwrap.contains t) Try.f66.results.toList = some R_pack_short_Unwrap := by kernel_rfl
theorem pc_pack_short_Unwrap {ds : List DV} {R : DV → DMem → Prop} {M : DMem} (hl : ds.length ≤ 4)
    (h : wpD Try.prog MU_pack_short_Unwrap (fun f => roL.contains f) (fun t => G_pack_short_Unwrap.contains t) 4 S_pack_short_Unwrap (fun δ M' => ∃ d, evD Try.prog M' δ R_pack_short_Unwrap = some d ∧ R d M') (fun _ _ _ => False) (fun δ M' => ∃ d, evD Try.prog M' δ R_pack_short_Unwrap = some d ∧ R d M') (argD ds) M) :
    PC Try.prog F_pack_short_Unwrap ds R M :=
  pc_opt Try.func66 (c := Try.f66.body.getD .skip) (by kernel_rfl) (by kernel_rfl) (by kernel_rfl) dec_pack_short_Unwrap res_pack_short_Unwrap _ hl h
/-! (*errors.joinError).Unwrap -/
abbrev F_errors_joinError_Unwrap : Nat := 68
def G_errors_joinError_Unwrap : List Nat := [0, 2]
def MU_errors_joinError_Unwrap (d : Nat) : Bool := ([] : List Nat).contains d
noncomputable def S_errors_joinError_Unwrap : St := (.seq (.sets [(2, (.k (.slice none 0 0)))] []) (.seq (.sets [(2, (.ld (.fa 0 (.nck (.s 0)))))] []) .ret))
noncomputable def R_errors_joinError_Unwrap : Ex := (.s 2)
theorem dec_errors_joinError_Unwrap : opt (dec Try.prog (fun f => roL.contains f) (fun t => G_errors_joinError_Unwrap.contains t) 7 (Try.f68.body.getD .skip)) = S_errors_joinError_Unwrap := by kernel_rfl
theorem res_errors_joinError_Unwrap : resE Try.prog (fun t => G_errors_joinError_Unwrap.contains t) Try.f68.results.toList = some R_errors_joinError_Unwrap := by kernel_rfl
theorem pc_errors_joinError_Unwrap {ds : List DV} {R : DV → DMem → Prop} {M : DMem} (hl : ds.length ≤ 7)
    (h : wpD Try.prog MU_errors_joinError_Unwrap (fun f => roL.contains f) (fun t => G_errors_joinError_Unwrap.contains t) 7 S_errors_joinError_Unwrap (fun δ M' => ∃ d, evD Try.prog M' δ R_errors_joinError_Unwrap = some d ∧ R d M') (fun _ _ _ => False) (fun δ M' => ∃ d, evD Try.prog M' δ R_errors_joinError_Unwrap = some d ∧ R d M') (argD ds) M) :
    PC Try.prog F_errors_joinError_Unwrap ds R M :=
  pc_opt Try.func68 (c := Try.f68.body.getD .skip) (by kernel_rfl) (by kernel_rfl) (by kernel_rfl) dec_errors_joinError_Unwrap res_errors_joinError_Unwrap _ hl h
end Go.Proofs.Ytaifmmeghninhaa.Sx
