/- The functions of this seat as statements, printed by Lean's evaluation of the translation, and held against it. No condition. -/
import Derived.Test.YtmkdikbjolobdaaProg
import Derived.Test.YtmkdikbjolobdaaMn
namespace Go.Proofs.Ytmkdikbjolobdaa.Sx
open Go Go.Proofs Go.Proofs.Ytmkdikbjolobdaa.Mw
set_option linter.unusedVariables false
def roL : List Nat := [16, 17, 18, 19, 20, 21, 22, 23, 24]
noncomputable abbrev sp : Mw.Spec := spRO Try.prog
/-! swage/swagelaw0.SwageNames -/
abbrev F_swagelaw0_SwageNames : Nat := 3
def G_swagelaw0_SwageNames : List Nat := [0]
noncomputable def S_swagelaw0_SwageNames : St := (.seq (.sets [(0, (.k (.bool false)))] []) (.seq (.ite (.k (.bool false)) (.seq (.sets [(0, (.k (.bool false)))] []) .ret) .nop) (.seq (.raw (.region 2 #[⟨(some 1), (.call ⟨(.value (.func 7)), #[], #[]⟩), 4, "names.go:163", #[], none⟩, ⟨(some 2), (.move (.tmp 1)), 4, "names.go:163", #[⟨0, .data⟩, ⟨0, .chain⟩], none⟩, ⟨(some 3), (.call ⟨(.value (.func 8)), #[], #[]⟩), 4, "names.go:163", #[⟨1, .chain⟩, ⟨1, .guard⟩], (some (1, .true))⟩, ⟨(some 4), (.pick (.tmp 2) (.tmp 3) (.const (.bool .false))), 4, "names.go:163", #[⟨1, .data⟩, ⟨2, .data⟩], none⟩, ⟨(some 5), (.move (.tmp 4)), 4, "names.go:163", #[⟨3, .data⟩, ⟨2, .chain⟩], none⟩, ⟨(some 6), (.call ⟨(.value (.func 9)), #[], #[]⟩), 4, "names.go:163", #[⟨4, .chain⟩, ⟨4, .guard⟩], (some (4, .true))⟩, ⟨(some 7), (.pick (.tmp 5) (.tmp 6) (.const (.bool .false))), 4, "names.go:163", #[⟨4, .data⟩, ⟨5, .data⟩], none⟩, ⟨(some 8), (.move (.tmp 7)), 4, "names.go:163", #[⟨6, .data⟩, ⟨5, .chain⟩], none⟩, ⟨(some 9), (.call ⟨(.value (.func 10)), #[], #[]⟩), 4, "names.go:163", #[⟨7, .chain⟩, ⟨7, .guard⟩], (some (7, .true))⟩, ⟨(some 10), (.pick (.tmp 8) (.tmp 9) (.const (.bool .false))), 4, "names.go:163", #[⟨7, .data⟩, ⟨8, .data⟩], none⟩, ⟨(some 11), (.move (.tmp 10)), 4, "names.go:163", #[⟨9, .data⟩, ⟨8, .chain⟩], none⟩, ⟨(some 12), (.call ⟨(.value (.func 11)), #[], #[]⟩), 4, "names.go:163", #[⟨10, .chain⟩, ⟨10, .guard⟩], (some (10, .true))⟩, ⟨(some 13), (.pick (.tmp 11) (.tmp 12) (.const (.bool .false))), 4, "names.go:163", #[⟨10, .data⟩, ⟨11, .data⟩], none⟩, ⟨(some 14), (.move (.tmp 13)), 4, "names.go:163", #[⟨12, .data⟩, ⟨11, .chain⟩], none⟩, ⟨(some 15), (.call ⟨(.value (.func 12)), #[], #[]⟩), 4, "names.go:163", #[⟨13, .chain⟩, ⟨13, .guard⟩], (some (13, .true))⟩, ⟨(some 16), (.pick (.tmp 14) (.tmp 15) (.const (.bool .false))), 4, "names.go:163", #[⟨13, .data⟩, ⟨14, .data⟩], none⟩, ⟨(some 17), (.move (.tmp 16)), 4, "names.go:163", #[⟨15, .data⟩, ⟨14, .chain⟩], none⟩, ⟨(some 18), (.call ⟨(.value (.func 13)), #[], #[]⟩), 4, "names.go:163", #[⟨16, .chain⟩, ⟨16, .guard⟩], (some (16, .true))⟩, ⟨(some 19), (.pick (.tmp 17) (.tmp 18) (.const (.bool .false))), 4, "names.go:163", #[⟨16, .data⟩, ⟨17, .data⟩], none⟩, ⟨(some 20), (.move (.tmp 19)), 4, "names.go:163", #[⟨18, .data⟩, ⟨17, .chain⟩], none⟩, ⟨(some 21), (.call ⟨(.value (.func 14)), #[], #[]⟩), 4, "names.go:163", #[⟨19, .chain⟩, ⟨19, .guard⟩], (some (19, .true))⟩, ⟨(some 22), (.pick (.tmp 20) (.tmp 21) (.const (.bool .false))), 4, "names.go:163", #[⟨19, .data⟩, ⟨20, .data⟩], none⟩, ⟨(some 23), (.move (.tmp 22)), 4, "names.go:163", #[⟨21, .data⟩, ⟨20, .chain⟩], none⟩, ⟨(some 24), (.call ⟨(.value (.func 15)), #[], #[]⟩), 4, "names.go:163", #[⟨22, .chain⟩, ⟨22, .guard⟩], (some (22, .true))⟩, ⟨(some 25), (.pick (.tmp 23) (.tmp 24) (.const (.bool .false))), 4, "names.go:163", #[⟨22, .data⟩, ⟨23, .data⟩], none⟩, ⟨(some 0), (.assign (.tmp 25)), 4, "names.go:163", #[⟨24, .data⟩, ⟨23, .chain⟩, ⟨0, .phase⟩, ⟨1, .phase⟩, ⟨2, .phase⟩, ⟨3, .phase⟩, ⟨4, .phase⟩, ⟨5, .phase⟩, ⟨6, .phase⟩, ⟨7, .phase⟩, ⟨8, .phase⟩, ⟨9, .phase⟩, ⟨10, .phase⟩, ⟨11, .phase⟩, ⟨12, .phase⟩, ⟨13, .phase⟩, ⟨14, .phase⟩, ⟨15, .phase⟩, ⟨16, .phase⟩, ⟨17, .phase⟩, ⟨18, .phase⟩, ⟨19, .phase⟩, ⟨20, .phase⟩, ⟨21, .phase⟩, ⟨22, .phase⟩, ⟨23, .phase⟩, ⟨24, .phase⟩], none⟩] .false)) .ret)))
noncomputable def R_swagelaw0_SwageNames : Ex := (.s 0)
theorem dec_swagelaw0_SwageNames : opt (dec Try.prog (fun f => roL.contains f) (fun t => G_swagelaw0_SwageNames.contains t) 26 (Try.f3.body.getD .skip)) = S_swagelaw0_SwageNames := by kernel_rfl
theorem res_swagelaw0_SwageNames : resE Try.prog (fun t => G_swagelaw0_SwageNames.contains t) Try.f3.results.toList = some R_swagelaw0_SwageNames := by kernel_rfl
theorem call_swagelaw0_SwageNames {args : List Value} {Post : Value → Mem → Prop} {m : Mem} (hl : args.length ≤ 26)
    (h : Inh m → wpS Try.prog sp (fun t => G_swagelaw0_SwageNames.contains t) 26 S_swagelaw0_SwageNames (fun ρ m' => ∃ v, ev sp m' ρ R_swagelaw0_SwageNames = some v ∧ Post v m') (fun _ _ _ => False) (fun ρ m' => ∃ v, ev sp m' ρ R_swagelaw0_SwageNames = some v ∧ Post v m') (argEnv args) m) :
    MC Try.prog F_swagelaw0_SwageNames args Post m :=
  mc_opt (spRO_sound _) Try.func3 (c := Try.f3.body.getD .skip) (by kernel_rfl) (by kernel_rfl) (by kernel_rfl) dec_swagelaw0_SwageNames res_swagelaw0_SwageNames hl h
/-! swage/swagelaw2.Inss -/
abbrev F_swagelaw2_Inss : Nat := 4
def G_swagelaw2_Inss : List Nat := [0, 1, 2, 4, 5, 6, 7, 8, 9, 10]
noncomputable def S_swagelaw2_Inss : St := (.seq (.act (some 2) (.box 24 (.tmp 0))) (.seq (.sets [(4, (.k (.bool false)))] []) (.seq (.sets [(5, (.ext 0 (.call 16 (.cs (.ldn 2 (.s 2)) (.cs (.s 1) .nl))))), (6, (.ext 1 (.call 16 (.cs (.ldn 2 (.s 2)) (.cs (.s 1) .nl))))), (7, (.ext 2 (.call 16 (.cs (.ldn 2 (.s 2)) (.cs (.s 1) .nl)))))] []) (.seq (.sets [(8, (.ext 0 (.call 17 (.cs (.ldn 2 (.s 2)) (.cs (.s 1) .nl))))), (9, (.ext 1 (.call 17 (.cs (.ldn 2 (.s 2)) (.cs (.s 1) .nl))))), (10, (.ext 2 (.call 17 (.cs (.ldn 2 (.s 2)) (.cs (.s 1) .nl)))))] []) (.seq (.sets [(4, (.and (.and (.and (.and (.bin .eql (.s 5) (.s 8)) (.bin .eql (.s 6) (.s 9))) (.bin .eql (.call 18 (.cs (.s 7) .nl)) (.s 10))) (.eqb false (.call 19 (.cs (.ldn 2 (.s 2)) .nl)) (.call 20 (.cs (.ldn 2 (.s 2)) .nl)))) (.call 21 .nl)))] []) .ret)))))
noncomputable def R_swagelaw2_Inss : Ex := (.s 4)
theorem dec_swagelaw2_Inss : opt (dec Try.prog (fun f => roL.contains f) (fun t => G_swagelaw2_Inss.contains t) 49 (Try.f4.body.getD .skip)) = S_swagelaw2_Inss := by kernel_rfl
theorem res_swagelaw2_Inss : resE Try.prog (fun t => G_swagelaw2_Inss.contains t) Try.f4.results.toList = some R_swagelaw2_Inss := by kernel_rfl
theorem call_swagelaw2_Inss {args : List Value} {Post : Value → Mem → Prop} {m : Mem} (hl : args.length ≤ 49)
    (h : Inh m → wpS Try.prog sp (fun t => G_swagelaw2_Inss.contains t) 49 S_swagelaw2_Inss (fun ρ m' => ∃ v, ev sp m' ρ R_swagelaw2_Inss = some v ∧ Post v m') (fun _ _ _ => False) (fun ρ m' => ∃ v, ev sp m' ρ R_swagelaw2_Inss = some v ∧ Post v m') (argEnv args) m) :
    MC Try.prog F_swagelaw2_Inss args Post m :=
  mc_opt (spRO_sound _) Try.func4 (c := Try.f4.body.getD .skip) (by kernel_rfl) (by kernel_rfl) (by kernel_rfl) dec_swagelaw2_Inss res_swagelaw2_Inss hl h
/-! swage/swagelaw2.InsEdges -/
abbrev F_swagelaw2_InsEdges : Nat := 5
def G_swagelaw2_InsEdges : List Nat := [0, 2, 3, 4, 5, 6, 8, 13, 14, 16, 19, 22]
noncomputable def S_swagelaw2_InsEdges : St := (.seq (.sets [(2, (.k (.bool false)))] []) (.seq (.sets [(8, (.un .not (.call 21 .nl)))] []) (.seq (.ite (.s 8) (.seq (.sets [(2, (.k (.bool false)))] []) .ret) .nop) (.seq (.sets [(3, (.cvt .i64 (.bin .rem (.cvt .u64 (.s 0)) (.k (.int .u64 19)))))] []) (.seq (.sets [(4, (.k (.int .i64 0))), (5, (.k (.int .i64 0)))] []) (.seq (.sets [(13, (.s 3))] []) (.seq (.block 0 (.seq (.sets [(14, (.bin .eql (.s 13) (.k (.int .i64 0))))] []) (.ite (.s 14) (.seq (.sets [(4, (.k (.int .i64 (-2147483648))))] []) (.sets [(5, (.k (.int .i64 2147483647)))] [])) (.seq (.sets [(16, (.or (.bin .eql (.s 13) (.k (.int .i64 1))) (.bin .eql (.s 13) (.k (.int .i64 2)))))] []) (.ite (.s 16) (.sets [(5, (.k (.int .i64 7)))] []) (.seq (.sets [(19, (.or (.bin .eql (.s 13) (.k (.int .i64 12))) (.bin .eql (.s 13) (.k (.int .i64 13)))))] []) (.ite (.s 19) (.sets [(5, (.k (.int .i64 63)))] []) (.seq (.sets [(22, (.bin .eql (.s 13) (.k (.int .i64 14))))] []) (.ite (.s 22) (.sets [(5, (.k (.int .i64 7)))] []) .nop))))))))) (.seq (.sets [(6, (.bin .leq (.s 3) (.k (.int .i64 16))))] []) (.seq (.sets [(2, (.and (.and (.and (.and (.eqb false (.call 19 (.cs (.bld [(.int .i64 0), (.int .i64 0)] [(0, 1), (1, 1)] (.cs (.s 3) (.cs (.s 4) .nl))) .nl)) (.s 6)) (.eqb false (.call 19 (.cs (.bld [(.int .i64 0), (.int .i64 0)] [(0, 1), (1, 1)] (.cs (.s 3) (.cs (.s 5) .nl))) .nl)) (.s 6))) (.un .not (.call 19 (.cs (.bld [(.int .i64 0), (.int .i64 0)] [(0, 1), (1, 1)] (.cs (.s 3) (.cs (.bin .sub (.s 4) (.k (.int .i64 1))) .nl))) .nl)))) (.un .not (.call 19 (.cs (.bld [(.int .i64 0), (.int .i64 0)] [(0, 1), (1, 1)] (.cs (.s 3) (.cs (.bin .add (.s 5) (.k (.int .i64 1))) .nl))) .nl)))) (.un .not (.call 19 (.cs (.bld [(.int .i64 0), (.int .i64 0)] [(0, 1)] (.cs (.bin .sub (.k (.int .i64 (-1))) (.s 3)) .nl)) .nl)))))] []) .ret)))))))))
noncomputable def R_swagelaw2_InsEdges : Ex := (.s 2)
theorem dec_swagelaw2_InsEdges : opt (dec Try.prog (fun f => roL.contains f) (fun t => G_swagelaw2_InsEdges.contains t) 63 (Try.f5.body.getD .skip)) = S_swagelaw2_InsEdges := by kernel_rfl
theorem res_swagelaw2_InsEdges : resE Try.prog (fun t => G_swagelaw2_InsEdges.contains t) Try.f5.results.toList = some R_swagelaw2_InsEdges := by kernel_rfl
theorem call_swagelaw2_InsEdges {args : List Value} {Post : Value → Mem → Prop} {m : Mem} (hl : args.length ≤ 63)
    (h : Inh m → wpS Try.prog sp (fun t => G_swagelaw2_InsEdges.contains t) 63 S_swagelaw2_InsEdges (fun ρ m' => ∃ v, ev sp m' ρ R_swagelaw2_InsEdges = some v ∧ Post v m') (fun _ _ _ => False) (fun ρ m' => ∃ v, ev sp m' ρ R_swagelaw2_InsEdges = some v ∧ Post v m') (argEnv args) m) :
    MC Try.prog F_swagelaw2_InsEdges args Post m :=
  mc_opt (spRO_sound _) Try.func5 (c := Try.f5.body.getD .skip) (by kernel_rfl) (by kernel_rfl) (by kernel_rfl) dec_swagelaw2_InsEdges res_swagelaw2_InsEdges hl h
/-! swage/swagelaw2.InsEffects -/
abbrev F_swagelaw2_InsEffects : Nat := 6
def G_swagelaw2_InsEffects : List Nat := [0, 1, 4, 5, 6, 7, 8, 9, 10, 11, 14, 17, 20, 22]
noncomputable def S_swagelaw2_InsEffects : St := (.seq (.sets [(4, (.k (.bool false)))] []) (.seq (.sets [(22, (.un .not (.call 21 .nl)))] []) (.seq (.ite (.s 22) (.seq (.sets [(4, (.k (.bool false)))] []) .ret) .nop) (.seq (.sets [(5, (.cvt .i64 (.bin .rem (.cvt .u64 (.s 0)) (.k (.int .u64 17)))))] []) (.seq (.sets [(6, (.cvt .i64 (.bin .rem (.cvt .u64 (.s 1)) (.k (.int .u64 5)))))] []) (.seq (.sets [(31, (.s 6))] []) (.seq (.act (some 32) (.bslice 3 1 [(.int .i64 0), (.int .i64 0), (.int .i64 0), (.int .i64 0), (.int .i64 0), (.int .i64 0), (.int .i64 0), (.int .i64 0), (.int .i64 0), (.int .i64 0), (.int .i64 0), (.int .i64 0), (.int .i64 0), (.int .i64 0), (.int .i64 0), (.int .i64 0), (.int .i64 0)] 17 [(0, (.const (.int .i64 0))), (1, (.const (.int .i64 0))), (2, (.const (.int .i64 1))), (3, (.const (.int .i64 2))), (4, (.const (.int .i64 2))), (5, (.const (.int .i64 2))), (6, (.const (.int .i64 2))), (7, (.const (.int .i64 2))), (8, (.const (.int .i64 2))), (9, (.const (.int .i64 2))), (10, (.const (.int .i64 1))), (11, (.const (.int .i64 1))), (12, (.const (.int .i64 0))), (13, (.const (.int .i64 1))), (14, (.tmp 31)), (15, (.const (.int .i64 1))), (16, (.const (.int .i64 1)))])) (.seq (.sets [(7, (.s 32))] []) (.seq (.act (some 33) (.bslice 3 1 [(.int .i64 0), (.int .i64 0), (.int .i64 0), (.int .i64 0), (.int .i64 0), (.int .i64 0), (.int .i64 0), (.int .i64 0), (.int .i64 0), (.int .i64 0), (.int .i64 0), (.int .i64 0), (.int .i64 0), (.int .i64 0), (.int .i64 0), (.int .i64 0), (.int .i64 0)] 17 [(0, (.const (.int .i64 1))), (1, (.const (.int .i64 1))), (2, (.const (.int .i64 0))), (3, (.const (.int .i64 1))), (4, (.const (.int .i64 1))), (5, (.const (.int .i64 1))), (6, (.const (.int .i64 1))), (7, (.const (.int .i64 1))), (8, (.const (.int .i64 1))), (9, (.const (.int .i64 1))), (10, (.const (.int .i64 2))), (11, (.const (.int .i64 0))), (12, (.const (.int .i64 0))), (13, (.const (.int .i64 0))), (14, (.const (.int .i64 1))), (15, (.const (.int .i64 0))), (16, (.const (.int .i64 0)))])) (.seq (.sets [(8, (.s 33))] []) (.seq (.sets [(9, (.ext 0 (.call 16 (.cs (.bld [(.int .i64 0), (.int .i64 0)] [(0, 1)] (.cs (.s 5) .nl)) (.cs (.s 6) .nl))))), (10, (.ext 1 (.call 16 (.cs (.bld [(.int .i64 0), (.int .i64 0)] [(0, 1)] (.cs (.s 5) .nl)) (.cs (.s 6) .nl))))), (11, (.ext 2 (.call 16 (.cs (.bld [(.int .i64 0), (.int .i64 0)] [(0, 1)] (.cs (.s 5) .nl)) (.cs (.s 6) .nl)))))] []) (.seq (.sets [(14, (.ext 2 (.call 16 (.cs (.bld [(.int .i64 0), (.int .i64 0)] [(0, 1)] (.cs (.s 5) .nl)) (.cs (.bin .add (.k (.int .i64 5)) (.s 6)) .nl)))))] [(.ext 1 (.call 16 (.cs (.bld [(.int .i64 0), (.int .i64 0)] [(0, 1)] (.cs (.s 5) .nl)) (.cs (.bin .add (.k (.int .i64 5)) (.s 6)) .nl)))), (.ext 0 (.call 16 (.cs (.bld [(.int .i64 0), (.int .i64 0)] [(0, 1)] (.cs (.s 5) .nl)) (.cs (.bin .add (.k (.int .i64 5)) (.s 6)) .nl))))]) (.seq (.sets [(17, (.ext 2 (.call 16 (.cs (.bld [(.int .i64 0), (.int .i64 0)] [(0, 1)] (.cs (.s 5) .nl)) (.cs (.bin .sub (.k (.int .i64 (-1))) (.s 6)) .nl)))))] [(.ext 1 (.call 16 (.cs (.bld [(.int .i64 0), (.int .i64 0)] [(0, 1)] (.cs (.s 5) .nl)) (.cs (.bin .sub (.k (.int .i64 (-1))) (.s 6)) .nl)))), (.ext 0 (.call 16 (.cs (.bld [(.int .i64 0), (.int .i64 0)] [(0, 1)] (.cs (.s 5) .nl)) (.cs (.bin .sub (.k (.int .i64 (-1))) (.s 6)) .nl))))]) (.seq (.sets [(20, (.ext 2 (.call 16 (.cs (.bld [(.int .i64 0), (.int .i64 0)] [(0, 1)] (.cs (.bin .add (.k (.int .i64 17)) (.s 5)) .nl)) (.cs (.s 6) .nl)))))] [(.ext 1 (.call 16 (.cs (.bld [(.int .i64 0), (.int .i64 0)] [(0, 1)] (.cs (.bin .add (.k (.int .i64 17)) (.s 5)) .nl)) (.cs (.s 6) .nl)))), (.ext 0 (.call 16 (.cs (.bld [(.int .i64 0), (.int .i64 0)] [(0, 1)] (.cs (.bin .add (.k (.int .i64 17)) (.s 5)) .nl)) (.cs (.s 6) .nl))))]) (.seq (.sets [(4, (.and (.and (.and (.and (.and (.bin .eql (.s 9) (.ld (.ix 1 (.s 7) (.s 5)))) (.bin .eql (.s 10) (.ld (.ix 1 (.s 8) (.s 5))))) (.bin .eql (.call 18 (.cs (.s 11) .nl)) (.k (.int .i64 0)))) (.bin .eql (.call 18 (.cs (.s 14) .nl)) (.k (.int .i64 200)))) (.bin .eql (.call 18 (.cs (.s 17) .nl)) (.k (.int .i64 200)))) (.bin .eql (.call 18 (.cs (.s 20) .nl)) (.k (.int .i64 200)))))] []) .ret)))))))))))))))
noncomputable def R_swagelaw2_InsEffects : Ex := (.s 4)
theorem dec_swagelaw2_InsEffects : opt (dec Try.prog (fun f => roL.contains f) (fun t => G_swagelaw2_InsEffects.contains t) 103 (Try.f6.body.getD .skip)) = S_swagelaw2_InsEffects := by kernel_rfl
theorem res_swagelaw2_InsEffects : resE Try.prog (fun t => G_swagelaw2_InsEffects.contains t) Try.f6.results.toList = some R_swagelaw2_InsEffects := by kernel_rfl
theorem call_swagelaw2_InsEffects {args : List Value} {Post : Value → Mem → Prop} {m : Mem} (hl : args.length ≤ 103)
    (h : Inh m → wpS Try.prog sp (fun t => G_swagelaw2_InsEffects.contains t) 103 S_swagelaw2_InsEffects (fun ρ m' => ∃ v, ev sp m' ρ R_swagelaw2_InsEffects = some v ∧ Post v m') (fun _ _ _ => False) (fun ρ m' => ∃ v, ev sp m' ρ R_swagelaw2_InsEffects = some v ∧ Post v m') (argEnv args) m) :
    MC Try.prog F_swagelaw2_InsEffects args Post m :=
  mc_opt (spRO_sound _) Try.func6 (c := Try.f6.body.getD .skip) (by kernel_rfl) (by kernel_rfl) (by kernel_rfl) dec_swagelaw2_InsEffects res_swagelaw2_InsEffects hl h
/-! swage/swagelaw0.errors1 -/
abbrev F_swagelaw0_errors1 : Nat := 7
def G_swagelaw0_errors1 : List Nat := [0]
noncomputable def S_swagelaw0_errors1 : St := (.seq (.sets [(0, (.k (.bool false)))] []) (.seq (.sets [(0, (.and (.and (.and (.and (.and (.and (.and (.and (.and (.and (.and (.and (.and (.bin .eql (.call 18 (.cs (.k (.int .i64 0)) .nl)) (.k (.int .i64 0))) (.bin .eql (.call 18 (.cs (.k (.int .i64 1)) .nl)) (.k (.int .i64 1)))) (.bin .eql (.call 18 (.cs (.k (.int .i64 100)) .nl)) (.k (.int .i64 100)))) (.bin .eql (.call 18 (.cs (.k (.int .i64 200)) .nl)) (.k (.int .i64 200)))) (.bin .eql (.call 18 (.cs (.k (.int .i64 300)) .nl)) (.k (.int .i64 300)))) (.bin .eql (.call 18 (.cs (.k (.int .i64 400)) .nl)) (.k (.int .i64 400)))) (.bin .eql (.call 18 (.cs (.k (.int .i64 500)) .nl)) (.k (.int .i64 500)))) (.bin .eql (.call 18 (.cs (.k (.int .i64 501)) .nl)) (.k (.int .i64 501)))) (.bin .eql (.call 18 (.cs (.k (.int .i64 502)) .nl)) (.k (.int .i64 502)))) (.bin .eql (.call 18 (.cs (.k (.int .i64 503)) .nl)) (.k (.int .i64 503)))) (.bin .eql (.call 18 (.cs (.k (.int .i64 600)) .nl)) (.k (.int .i64 600)))) (.bin .eql (.call 18 (.cs (.k (.int .i64 700)) .nl)) (.k (.int .i64 700)))) (.bin .eql (.call 18 (.cs (.k (.int .i64 800)) .nl)) (.k (.int .i64 800)))) (.bin .eql (.call 18 (.cs (.k (.int .i64 900)) .nl)) (.k (.int .i64 900)))))] []) .ret))
noncomputable def R_swagelaw0_errors1 : Ex := (.s 0)
theorem dec_swagelaw0_errors1 : opt (dec Try.prog (fun f => roL.contains f) (fun t => G_swagelaw0_errors1.contains t) 55 (Try.f7.body.getD .skip)) = S_swagelaw0_errors1 := by kernel_rfl
theorem res_swagelaw0_errors1 : resE Try.prog (fun t => G_swagelaw0_errors1.contains t) Try.f7.results.toList = some R_swagelaw0_errors1 := by kernel_rfl
theorem call_swagelaw0_errors1 {args : List Value} {Post : Value → Mem → Prop} {m : Mem} (hl : args.length ≤ 55)
    (h : Inh m → wpS Try.prog sp (fun t => G_swagelaw0_errors1.contains t) 55 S_swagelaw0_errors1 (fun ρ m' => ∃ v, ev sp m' ρ R_swagelaw0_errors1 = some v ∧ Post v m') (fun _ _ _ => False) (fun ρ m' => ∃ v, ev sp m' ρ R_swagelaw0_errors1 = some v ∧ Post v m') (argEnv args) m) :
    MC Try.prog F_swagelaw0_errors1 args Post m :=
  mc_opt (spRO_sound _) Try.func7 (c := Try.f7.body.getD .skip) (by kernel_rfl) (by kernel_rfl) (by kernel_rfl) dec_swagelaw0_errors1 res_swagelaw0_errors1 hl h
/-! swage/swagelaw0.errors2 -/
abbrev F_swagelaw0_errors2 : Nat := 8
def G_swagelaw0_errors2 : List Nat := [0]
noncomputable def S_swagelaw0_errors2 : St := (.seq (.sets [(0, (.k (.bool false)))] []) (.seq (.sets [(0, (.and (.and (.and (.and (.and (.and (.and (.and (.and (.and (.and (.and (.and (.bin .eql (.call 18 (.cs (.k (.int .i64 1000)) .nl)) (.k (.int .i64 1000))) (.bin .eql (.call 18 (.cs (.k (.int .i64 1100)) .nl)) (.k (.int .i64 1100)))) (.bin .eql (.call 18 (.cs (.k (.int .i64 1200)) .nl)) (.k (.int .i64 1200)))) (.bin .eql (.call 18 (.cs (.k (.int .i64 1300)) .nl)) (.k (.int .i64 1300)))) (.bin .eql (.call 18 (.cs (.k (.int .i64 1301)) .nl)) (.k (.int .i64 1301)))) (.bin .eql (.call 18 (.cs (.k (.int .i64 1400)) .nl)) (.k (.int .i64 1400)))) (.bin .eql (.call 18 (.cs (.k (.int .i64 1401)) .nl)) (.k (.int .i64 1401)))) (.bin .eql (.call 18 (.cs (.k (.int .i64 1500)) .nl)) (.k (.int .i64 1500)))) (.bin .eql (.call 18 (.cs (.k (.int .i64 1600)) .nl)) (.k (.int .i64 1600)))) (.bin .eql (.call 18 (.cs (.k (.int .i64 1700)) .nl)) (.k (.int .i64 1700)))) (.bin .eql (.call 18 (.cs (.k (.int .i64 1800)) .nl)) (.k (.int .i64 1800)))) (.bin .eql (.call 18 (.cs (.k (.int .i64 1900)) .nl)) (.k (.int .i64 1900)))) (.bin .eql (.call 18 (.cs (.k (.int .i64 1901)) .nl)) (.k (.int .i64 1901)))) (.bin .eql (.call 18 (.cs (.k (.int .i64 2000)) .nl)) (.k (.int .i64 2000)))))] []) .ret))
noncomputable def R_swagelaw0_errors2 : Ex := (.s 0)
theorem dec_swagelaw0_errors2 : opt (dec Try.prog (fun f => roL.contains f) (fun t => G_swagelaw0_errors2.contains t) 55 (Try.f8.body.getD .skip)) = S_swagelaw0_errors2 := by kernel_rfl
theorem res_swagelaw0_errors2 : resE Try.prog (fun t => G_swagelaw0_errors2.contains t) Try.f8.results.toList = some R_swagelaw0_errors2 := by kernel_rfl
theorem call_swagelaw0_errors2 {args : List Value} {Post : Value → Mem → Prop} {m : Mem} (hl : args.length ≤ 55)
    (h : Inh m → wpS Try.prog sp (fun t => G_swagelaw0_errors2.contains t) 55 S_swagelaw0_errors2 (fun ρ m' => ∃ v, ev sp m' ρ R_swagelaw0_errors2 = some v ∧ Post v m') (fun _ _ _ => False) (fun ρ m' => ∃ v, ev sp m' ρ R_swagelaw0_errors2 = some v ∧ Post v m') (argEnv args) m) :
    MC Try.prog F_swagelaw0_errors2 args Post m :=
  mc_opt (spRO_sound _) Try.func8 (c := Try.f8.body.getD .skip) (by kernel_rfl) (by kernel_rfl) (by kernel_rfl) dec_swagelaw0_errors2 res_swagelaw0_errors2 hl h
/-! swage/swagelaw0.errors3 -/
abbrev F_swagelaw0_errors3 : Nat := 9
def G_swagelaw0_errors3 : List Nat := [0]
noncomputable def S_swagelaw0_errors3 : St := (.seq (.sets [(0, (.k (.bool false)))] []) (.seq (.sets [(0, (.and (.and (.and (.and (.and (.bin .eql (.call 18 (.cs (.k (.int .i64 2100)) .nl)) (.k (.int .i64 2100))) (.bin .eql (.call 18 (.cs (.k (.int .i64 2200)) .nl)) (.k (.int .i64 2200)))) (.bin .eql (.call 18 (.cs (.k (.int .i64 2300)) .nl)) (.k (.int .i64 2300)))) (.bin .eql (.call 18 (.cs (.k (.int .i64 2301)) .nl)) (.k (.int .i64 2301)))) (.bin .eql (.call 18 (.cs (.k (.int .i64 2400)) .nl)) (.k (.int .i64 2400)))) (.bin .eql (.call 18 (.cs (.k (.int .i64 2500)) .nl)) (.k (.int .i64 2500)))))] []) .ret))
noncomputable def R_swagelaw0_errors3 : Ex := (.s 0)
theorem dec_swagelaw0_errors3 : opt (dec Try.prog (fun f => roL.contains f) (fun t => G_swagelaw0_errors3.contains t) 23 (Try.f9.body.getD .skip)) = S_swagelaw0_errors3 := by kernel_rfl
theorem res_swagelaw0_errors3 : resE Try.prog (fun t => G_swagelaw0_errors3.contains t) Try.f9.results.toList = some R_swagelaw0_errors3 := by kernel_rfl
theorem call_swagelaw0_errors3 {args : List Value} {Post : Value → Mem → Prop} {m : Mem} (hl : args.length ≤ 23)
    (h : Inh m → wpS Try.prog sp (fun t => G_swagelaw0_errors3.contains t) 23 S_swagelaw0_errors3 (fun ρ m' => ∃ v, ev sp m' ρ R_swagelaw0_errors3 = some v ∧ Post v m') (fun _ _ _ => False) (fun ρ m' => ∃ v, ev sp m' ρ R_swagelaw0_errors3 = some v ∧ Post v m') (argEnv args) m) :
    MC Try.prog F_swagelaw0_errors3 args Post m :=
  mc_opt (spRO_sound _) Try.func9 (c := Try.f9.body.getD .skip) (by kernel_rfl) (by kernel_rfl) (by kernel_rfl) dec_swagelaw0_errors3 res_swagelaw0_errors3 hl h
/-! swage/swagelaw0.numbers1 -/
abbrev F_swagelaw0_numbers1 : Nat := 10
def G_swagelaw0_numbers1 : List Nat := [0]
noncomputable def S_swagelaw0_numbers1 : St := (.seq (.sets [(0, (.k (.bool false)))] []) (.seq (.sets [(0, (.k (.bool true)))] []) .ret))
noncomputable def R_swagelaw0_numbers1 : Ex := (.s 0)
theorem dec_swagelaw0_numbers1 : opt (dec Try.prog (fun f => roL.contains f) (fun t => G_swagelaw0_numbers1.contains t) 1 (Try.f10.body.getD .skip)) = S_swagelaw0_numbers1 := by kernel_rfl
theorem res_swagelaw0_numbers1 : resE Try.prog (fun t => G_swagelaw0_numbers1.contains t) Try.f10.results.toList = some R_swagelaw0_numbers1 := by kernel_rfl
theorem call_swagelaw0_numbers1 {args : List Value} {Post : Value → Mem → Prop} {m : Mem} (hl : args.length ≤ 1)
    (h : Inh m → wpS Try.prog sp (fun t => G_swagelaw0_numbers1.contains t) 1 S_swagelaw0_numbers1 (fun ρ m' => ∃ v, ev sp m' ρ R_swagelaw0_numbers1 = some v ∧ Post v m') (fun _ _ _ => False) (fun ρ m' => ∃ v, ev sp m' ρ R_swagelaw0_numbers1 = some v ∧ Post v m') (argEnv args) m) :
    MC Try.prog F_swagelaw0_numbers1 args Post m :=
  mc_opt (spRO_sound _) Try.func10 (c := Try.f10.body.getD .skip) (by kernel_rfl) (by kernel_rfl) (by kernel_rfl) dec_swagelaw0_numbers1 res_swagelaw0_numbers1 hl h
/-! swage/swagelaw0.numbers2 -/
abbrev F_swagelaw0_numbers2 : Nat := 11
def G_swagelaw0_numbers2 : List Nat := [0]
noncomputable def S_swagelaw0_numbers2 : St := (.seq (.sets [(0, (.k (.bool false)))] []) (.seq (.sets [(0, (.k (.bool true)))] []) .ret))
noncomputable def R_swagelaw0_numbers2 : Ex := (.s 0)
theorem dec_swagelaw0_numbers2 : opt (dec Try.prog (fun f => roL.contains f) (fun t => G_swagelaw0_numbers2.contains t) 1 (Try.f11.body.getD .skip)) = S_swagelaw0_numbers2 := by kernel_rfl
theorem res_swagelaw0_numbers2 : resE Try.prog (fun t => G_swagelaw0_numbers2.contains t) Try.f11.results.toList = some R_swagelaw0_numbers2 := by kernel_rfl
theorem call_swagelaw0_numbers2 {args : List Value} {Post : Value → Mem → Prop} {m : Mem} (hl : args.length ≤ 1)
    (h : Inh m → wpS Try.prog sp (fun t => G_swagelaw0_numbers2.contains t) 1 S_swagelaw0_numbers2 (fun ρ m' => ∃ v, ev sp m' ρ R_swagelaw0_numbers2 = some v ∧ Post v m') (fun _ _ _ => False) (fun ρ m' => ∃ v, ev sp m' ρ R_swagelaw0_numbers2 = some v ∧ Post v m') (argEnv args) m) :
    MC Try.prog F_swagelaw0_numbers2 args Post m :=
  mc_opt (spRO_sound _) Try.func11 (c := Try.f11.body.getD .skip) (by kernel_rfl) (by kernel_rfl) (by kernel_rfl) dec_swagelaw0_numbers2 res_swagelaw0_numbers2 hl h
/-! swage/swagelaw0.numbers3 -/
abbrev F_swagelaw0_numbers3 : Nat := 12
def G_swagelaw0_numbers3 : List Nat := [0]
noncomputable def S_swagelaw0_numbers3 : St := (.seq (.sets [(0, (.k (.bool false)))] []) (.seq (.sets [(0, (.k (.bool true)))] []) .ret))
noncomputable def R_swagelaw0_numbers3 : Ex := (.s 0)
theorem dec_swagelaw0_numbers3 : opt (dec Try.prog (fun f => roL.contains f) (fun t => G_swagelaw0_numbers3.contains t) 1 (Try.f12.body.getD .skip)) = S_swagelaw0_numbers3 := by kernel_rfl
theorem res_swagelaw0_numbers3 : resE Try.prog (fun t => G_swagelaw0_numbers3.contains t) Try.f12.results.toList = some R_swagelaw0_numbers3 := by kernel_rfl
theorem call_swagelaw0_numbers3 {args : List Value} {Post : Value → Mem → Prop} {m : Mem} (hl : args.length ≤ 1)
    (h : Inh m → wpS Try.prog sp (fun t => G_swagelaw0_numbers3.contains t) 1 S_swagelaw0_numbers3 (fun ρ m' => ∃ v, ev sp m' ρ R_swagelaw0_numbers3 = some v ∧ Post v m') (fun _ _ _ => False) (fun ρ m' => ∃ v, ev sp m' ρ R_swagelaw0_numbers3 = some v ∧ Post v m') (argEnv args) m) :
    MC Try.prog F_swagelaw0_numbers3 args Post m :=
  mc_opt (spRO_sound _) Try.func12 (c := Try.f12.body.getD .skip) (by kernel_rfl) (by kernel_rfl) (by kernel_rfl) dec_swagelaw0_numbers3 res_swagelaw0_numbers3 hl h
/-! swage/swagelaw0.numbers4 -/
abbrev F_swagelaw0_numbers4 : Nat := 13
def G_swagelaw0_numbers4 : List Nat := [0]
noncomputable def S_swagelaw0_numbers4 : St := (.seq (.sets [(0, (.k (.bool false)))] []) (.seq (.sets [(0, (.k (.bool true)))] []) .ret))
noncomputable def R_swagelaw0_numbers4 : Ex := (.s 0)
theorem dec_swagelaw0_numbers4 : opt (dec Try.prog (fun f => roL.contains f) (fun t => G_swagelaw0_numbers4.contains t) 1 (Try.f13.body.getD .skip)) = S_swagelaw0_numbers4 := by kernel_rfl
theorem res_swagelaw0_numbers4 : resE Try.prog (fun t => G_swagelaw0_numbers4.contains t) Try.f13.results.toList = some R_swagelaw0_numbers4 := by kernel_rfl
theorem call_swagelaw0_numbers4 {args : List Value} {Post : Value → Mem → Prop} {m : Mem} (hl : args.length ≤ 1)
    (h : Inh m → wpS Try.prog sp (fun t => G_swagelaw0_numbers4.contains t) 1 S_swagelaw0_numbers4 (fun ρ m' => ∃ v, ev sp m' ρ R_swagelaw0_numbers4 = some v ∧ Post v m') (fun _ _ _ => False) (fun ρ m' => ∃ v, ev sp m' ρ R_swagelaw0_numbers4 = some v ∧ Post v m') (argEnv args) m) :
    MC Try.prog F_swagelaw0_numbers4 args Post m :=
  mc_opt (spRO_sound _) Try.func13 (c := Try.f13.body.getD .skip) (by kernel_rfl) (by kernel_rfl) (by kernel_rfl) dec_swagelaw0_numbers4 res_swagelaw0_numbers4 hl h
/-! swage/swagelaw0.numbers5 -/
abbrev F_swagelaw0_numbers5 : Nat := 14
def G_swagelaw0_numbers5 : List Nat := [0]
noncomputable def S_swagelaw0_numbers5 : St := (.seq (.sets [(0, (.k (.bool false)))] []) (.seq (.sets [(0, (.k (.bool true)))] []) .ret))
noncomputable def R_swagelaw0_numbers5 : Ex := (.s 0)
theorem dec_swagelaw0_numbers5 : opt (dec Try.prog (fun f => roL.contains f) (fun t => G_swagelaw0_numbers5.contains t) 1 (Try.f14.body.getD .skip)) = S_swagelaw0_numbers5 := by kernel_rfl
theorem res_swagelaw0_numbers5 : resE Try.prog (fun t => G_swagelaw0_numbers5.contains t) Try.f14.results.toList = some R_swagelaw0_numbers5 := by kernel_rfl
theorem call_swagelaw0_numbers5 {args : List Value} {Post : Value → Mem → Prop} {m : Mem} (hl : args.length ≤ 1)
    (h : Inh m → wpS Try.prog sp (fun t => G_swagelaw0_numbers5.contains t) 1 S_swagelaw0_numbers5 (fun ρ m' => ∃ v, ev sp m' ρ R_swagelaw0_numbers5 = some v ∧ Post v m') (fun _ _ _ => False) (fun ρ m' => ∃ v, ev sp m' ρ R_swagelaw0_numbers5 = some v ∧ Post v m') (argEnv args) m) :
    MC Try.prog F_swagelaw0_numbers5 args Post m :=
  mc_opt (spRO_sound _) Try.func14 (c := Try.f14.body.getD .skip) (by kernel_rfl) (by kernel_rfl) (by kernel_rfl) dec_swagelaw0_numbers5 res_swagelaw0_numbers5 hl h
/-! swage/swagelaw0.numbers6 -/
abbrev F_swagelaw0_numbers6 : Nat := 15
def G_swagelaw0_numbers6 : List Nat := [0]
noncomputable def S_swagelaw0_numbers6 : St := (.seq (.sets [(0, (.k (.bool false)))] []) (.seq (.sets [(0, (.k (.bool true)))] []) .ret))
noncomputable def R_swagelaw0_numbers6 : Ex := (.s 0)
theorem dec_swagelaw0_numbers6 : opt (dec Try.prog (fun f => roL.contains f) (fun t => G_swagelaw0_numbers6.contains t) 1 (Try.f15.body.getD .skip)) = S_swagelaw0_numbers6 := by kernel_rfl
theorem res_swagelaw0_numbers6 : resE Try.prog (fun t => G_swagelaw0_numbers6.contains t) Try.f15.results.toList = some R_swagelaw0_numbers6 := by kernel_rfl
theorem call_swagelaw0_numbers6 {args : List Value} {Post : Value → Mem → Prop} {m : Mem} (hl : args.length ≤ 1)
    (h : Inh m → wpS Try.prog sp (fun t => G_swagelaw0_numbers6.contains t) 1 S_swagelaw0_numbers6 (fun ρ m' => ∃ v, ev sp m' ρ R_swagelaw0_numbers6 = some v ∧ Post v m') (fun _ _ _ => False) (fun ρ m' => ∃ v, ev sp m' ρ R_swagelaw0_numbers6 = some v ∧ Post v m') (argEnv args) m) :
    MC Try.prog F_swagelaw0_numbers6 args Post m :=
  mc_opt (spRO_sound _) Try.func15 (c := Try.f15.body.getD .skip) (by kernel_rfl) (by kernel_rfl) (by kernel_rfl) dec_swagelaw0_numbers6 res_swagelaw0_numbers6 hl h
/-! swage/ins.Effect -/
abbrev F_ins_Effect : Nat := 16
def G_ins_Effect : List Nat := [0, 1, 2, 4, 5, 6, 7, 8, 19, 21, 22, 25, 33, 39, 41]
noncomputable def S_ins_Effect : St := (.seq (.act (some 2) (.box 24 (.tmp 0))) (.seq (.sets [(4, (.k (.int .i64 0))), (5, (.k (.int .i64 0))), (6, (.k (.int .i64 0)))] []) (.seq (.sets [(19, (.or (.or (.un .not (.call 19 (.cs (.ldn 2 (.s 2)) .nl))) (.bin .lss (.s 1) (.k (.int .i64 0)))) (.bin .gtr (.s 1) (.k (.int .i64 4)))))] []) (.seq (.ite (.s 19) (.seq (.sets [(4, (.k (.int .i64 0))), (5, (.k (.int .i64 0))), (6, (.k (.int .i64 200)))] []) .ret) .nop) (.seq (.sets [(7, (.k (.int .i64 0))), (8, (.k (.int .i64 0)))] []) (.seq (.sets [(21, (.ld (.fa 0 (.s 2))))] []) (.seq (.block 0 (.seq (.block 5 (.seq (.block 4 (.seq (.block 3 (.seq (.block 2 (.seq (.block 1 (.seq (.sets [(22, (.or (.bin .eql (.s 21) (.k (.int .i64 0))) (.bin .eql (.s 21) (.k (.int .i64 1)))))] []) (.seq (.ite (.s 22) (.exit 1) .nop) (.seq (.sets [(25, (.or (.bin .eql (.s 21) (.k (.int .i64 3))) (.or (.bin .eql (.s 21) (.k (.int .i64 4))) (.or (.bin .eql (.s 21) (.k (.int .i64 5))) (.or (.bin .eql (.s 21) (.k (.int .i64 6))) (.or (.bin .eql (.s 21) (.k (.int .i64 7))) (.or (.bin .eql (.s 21) (.k (.int .i64 8))) (.bin .eql (.s 21) (.k (.int .i64 9))))))))))] []) (.seq (.ite (.s 25) (.exit 2) .nop) (.seq (.sets [(33, (.or (.bin .eql (.s 21) (.k (.int .i64 2))) (.or (.bin .eql (.s 21) (.k (.int .i64 11))) (.or (.bin .eql (.s 21) (.k (.int .i64 13))) (.or (.bin .eql (.s 21) (.k (.int .i64 15))) (.bin .eql (.s 21) (.k (.int .i64 16))))))))] []) (.seq (.ite (.s 33) (.exit 3) .nop) (.seq (.sets [(39, (.bin .eql (.s 21) (.k (.int .i64 10))))] []) (.seq (.ite (.s 39) (.exit 4) .nop) (.seq (.sets [(41, (.bin .eql (.s 21) (.k (.int .i64 14))))] []) (.seq (.ite (.s 41) (.exit 5) .nop) (.exit 0)))))))))))) (.seq (.sets [(8, (.k (.int .i64 1)))] []) (.exit 0)))) (.seq (.sets [(8, (.k (.int .i64 1)))] []) (.sets [(7, (.bin .add (.s 7) (.k (.int .i64 1))))] [])))) (.seq (.sets [(7, (.bin .add (.s 7) (.k (.int .i64 1))))] []) (.exit 0)))) (.seq (.sets [(7, (.k (.int .i64 1))), (8, (.k (.int .i64 2)))] []) (.exit 0)))) (.seq (.sets [(7, (.s 1)), (8, (.k (.int .i64 1)))] []) (.exit 0)))) (.seq (.sets [(4, (.s 7)), (5, (.s 8)), (6, (.k (.int .i64 0)))] []) .ret))))))))
noncomputable def R_ins_Effect : Ex := (.cs (.s 4) (.cs (.s 5) (.cs (.s 6) .nl)))
theorem dec_ins_Effect : opt (dec Try.prog (fun f => roL.contains f) (fun t => G_ins_Effect.contains t) 50 (Try.f16.body.getD .skip)) = S_ins_Effect := by kernel_rfl
theorem res_ins_Effect : resE Try.prog (fun t => G_ins_Effect.contains t) Try.f16.results.toList = some R_ins_Effect := by kernel_rfl
theorem call_ins_Effect {args : List Value} {Post : Value → Mem → Prop} {m : Mem} (hl : args.length ≤ 50)
    (h : Inh m → wpS Try.prog sp (fun t => G_ins_Effect.contains t) 50 S_ins_Effect (fun ρ m' => ∃ v, ev sp m' ρ R_ins_Effect = some v ∧ Post v m') (fun _ _ _ => False) (fun ρ m' => ∃ v, ev sp m' ρ R_ins_Effect = some v ∧ Post v m') (argEnv args) m) :
    MC Try.prog F_ins_Effect args Post m :=
  mc_opt (spRO_sound _) Try.func16 (c := Try.f16.body.getD .skip) (by kernel_rfl) (by kernel_rfl) (by kernel_rfl) dec_ins_Effect res_ins_Effect hl h
/-! swage/swageref1.Effect -/
abbrev F_swageref1_Effect : Nat := 17
def G_swageref1_Effect : List Nat := [0, 1, 2, 4, 5, 6, 17, 19, 20, 23, 29, 31, 33]
noncomputable def S_swageref1_Effect : St := (.seq (.act (some 2) (.box 24 (.tmp 0))) (.seq (.sets [(4, (.k (.int .i64 0))), (5, (.k (.int .i64 0))), (6, (.k (.int .i64 0)))] []) (.seq (.sets [(17, (.or (.or (.un .not (.call 20 (.cs (.ldn 2 (.s 2)) .nl))) (.bin .lss (.s 1) (.k (.int .i64 0)))) (.bin .gtr (.s 1) (.k (.int .i64 4)))))] []) (.seq (.ite (.s 17) (.seq (.sets [(4, (.k (.int .i64 0))), (5, (.k (.int .i64 0))), (6, (.k (.int .i64 200)))] []) .ret) .nop) (.seq (.sets [(19, (.ld (.fa 0 (.s 2))))] []) (.seq (.block 0 (.seq (.sets [(20, (.or (.bin .eql (.s 19) (.k (.int .i64 0))) (.bin .eql (.s 19) (.k (.int .i64 1)))))] []) (.ite (.s 20) (.seq (.sets [(4, (.k (.int .i64 0))), (5, (.k (.int .i64 1))), (6, (.k (.int .i64 0)))] []) .ret) (.seq (.sets [(23, (.or (.bin .eql (.s 19) (.k (.int .i64 2))) (.or (.bin .eql (.s 19) (.k (.int .i64 11))) (.or (.bin .eql (.s 19) (.k (.int .i64 13))) (.or (.bin .eql (.s 19) (.k (.int .i64 15))) (.bin .eql (.s 19) (.k (.int .i64 16))))))))] []) (.ite (.s 23) (.seq (.sets [(4, (.k (.int .i64 1))), (5, (.k (.int .i64 0))), (6, (.k (.int .i64 0)))] []) .ret) (.seq (.sets [(29, (.bin .eql (.s 19) (.k (.int .i64 10))))] []) (.ite (.s 29) (.seq (.sets [(4, (.k (.int .i64 1))), (5, (.k (.int .i64 2))), (6, (.k (.int .i64 0)))] []) .ret) (.seq (.sets [(31, (.bin .eql (.s 19) (.k (.int .i64 12))))] []) (.ite (.s 31) (.seq (.sets [(4, (.k (.int .i64 0))), (5, (.k (.int .i64 0))), (6, (.k (.int .i64 0)))] []) .ret) (.seq (.sets [(33, (.bin .eql (.s 19) (.k (.int .i64 14))))] []) (.ite (.s 33) (.seq (.sets [(4, (.s 1)), (5, (.k (.int .i64 1))), (6, (.k (.int .i64 0)))] []) .ret) .nop))))))))))) (.seq (.sets [(4, (.k (.int .i64 2))), (5, (.k (.int .i64 1))), (6, (.k (.int .i64 0)))] []) .ret)))))))
noncomputable def R_swageref1_Effect : Ex := (.cs (.s 4) (.cs (.s 5) (.cs (.s 6) .nl)))
theorem dec_swageref1_Effect : opt (dec Try.prog (fun f => roL.contains f) (fun t => G_swageref1_Effect.contains t) 36 (Try.f17.body.getD .skip)) = S_swageref1_Effect := by kernel_rfl
theorem res_swageref1_Effect : resE Try.prog (fun t => G_swageref1_Effect.contains t) Try.f17.results.toList = some R_swageref1_Effect := by kernel_rfl
theorem call_swageref1_Effect {args : List Value} {Post : Value → Mem → Prop} {m : Mem} (hl : args.length ≤ 36)
    (h : Inh m → wpS Try.prog sp (fun t => G_swageref1_Effect.contains t) 36 S_swageref1_Effect (fun ρ m' => ∃ v, ev sp m' ρ R_swageref1_Effect = some v ∧ Post v m') (fun _ _ _ => False) (fun ρ m' => ∃ v, ev sp m' ρ R_swageref1_Effect = some v ∧ Post v m') (argEnv args) m) :
    MC Try.prog F_swageref1_Effect args Post m :=
  mc_opt (spRO_sound _) Try.func17 (c := Try.f17.body.getD .skip) (by kernel_rfl) (by kernel_rfl) (by kernel_rfl) dec_swageref1_Effect res_swageref1_Effect hl h
/-! swage/swagelaw0.Num -/
abbrev F_swagelaw0_Num : Nat := 18
def G_swagelaw0_Num : List Nat := [0, 2]
noncomputable def S_swagelaw0_Num : St := (.seq (.sets [(2, (.k (.int .i64 0)))] []) (.seq (.sets [(2, (.s 0))] []) .ret))
noncomputable def R_swagelaw0_Num : Ex := (.s 2)
theorem dec_swagelaw0_Num : opt (dec Try.prog (fun f => roL.contains f) (fun t => G_swagelaw0_Num.contains t) 4 (Try.f18.body.getD .skip)) = S_swagelaw0_Num := by kernel_rfl
theorem res_swagelaw0_Num : resE Try.prog (fun t => G_swagelaw0_Num.contains t) Try.f18.results.toList = some R_swagelaw0_Num := by kernel_rfl
theorem call_swagelaw0_Num {args : List Value} {Post : Value → Mem → Prop} {m : Mem} (hl : args.length ≤ 4)
    (h : Inh m → wpS Try.prog sp (fun t => G_swagelaw0_Num.contains t) 4 S_swagelaw0_Num (fun ρ m' => ∃ v, ev sp m' ρ R_swagelaw0_Num = some v ∧ Post v m') (fun _ _ _ => False) (fun ρ m' => ∃ v, ev sp m' ρ R_swagelaw0_Num = some v ∧ Post v m') (argEnv args) m) :
    MC Try.prog F_swagelaw0_Num args Post m :=
  mc_opt (spRO_sound _) Try.func18 (c := Try.f18.body.getD .skip) (by kernel_rfl) (by kernel_rfl) (by kernel_rfl) dec_swagelaw0_Num res_swagelaw0_Num hl h
/-! swage/ins.May -/
abbrev F_ins_May : Nat := 19
def G_ins_May : List Nat := [0, 1, 2, 3, 12]
noncomputable def S_ins_May : St := (.seq (.act (some 1) (.box 24 (.tmp 0))) (.seq (.sets [(2, (.k (.bool false)))] []) (.seq (.block 0 (.seq (.sets [(3, (.or (.bin .lss (.ld (.fa 0 (.s 1))) (.k (.int .i64 0))) (.bin .gtr (.ld (.fa 0 (.s 1))) (.k (.int .i64 16)))))] []) (.ite (.s 3) (.seq (.sets [(2, (.k (.bool false)))] []) .ret) (.seq (.sets [(12, (.bin .eql (.ld (.fa 0 (.s 1))) (.k (.int .i64 0))))] []) (.ite (.s 12) (.seq (.sets [(2, (.call 22 (.cs (.ld (.fa 1 (.s 1))) .nl)))] []) .ret) .nop))))) (.seq (.sets [(2, (.and (.bin .geq (.ld (.fa 1 (.s 1))) (.k (.int .i64 0))) (.bin .lss (.ld (.fa 1 (.s 1))) (.call 23 (.cs (.ld (.fa 0 (.s 1))) .nl)))))] []) .ret))))
noncomputable def R_ins_May : Ex := (.s 2)
theorem dec_ins_May : opt (dec Try.prog (fun f => roL.contains f) (fun t => G_ins_May.contains t) 30 (Try.f19.body.getD .skip)) = S_ins_May := by kernel_rfl
theorem res_ins_May : resE Try.prog (fun t => G_ins_May.contains t) Try.f19.results.toList = some R_ins_May := by kernel_rfl
theorem call_ins_May {args : List Value} {Post : Value → Mem → Prop} {m : Mem} (hl : args.length ≤ 30)
    (h : Inh m → wpS Try.prog sp (fun t => G_ins_May.contains t) 30 S_ins_May (fun ρ m' => ∃ v, ev sp m' ρ R_ins_May = some v ∧ Post v m') (fun _ _ _ => False) (fun ρ m' => ∃ v, ev sp m' ρ R_ins_May = some v ∧ Post v m') (argEnv args) m) :
    MC Try.prog F_ins_May args Post m :=
  mc_opt (spRO_sound _) Try.func19 (c := Try.f19.body.getD .skip) (by kernel_rfl) (by kernel_rfl) (by kernel_rfl) dec_ins_May res_ins_May hl h
/-! swage/swageref1.InsMay -/
abbrev F_swageref1_InsMay : Nat := 20
def G_swageref1_InsMay : List Nat := [0, 1, 2, 4, 5, 10, 21, 32]
noncomputable def S_swageref1_InsMay : St := (.seq (.act (some 1) (.box 24 (.tmp 0))) (.seq (.sets [(2, (.k (.bool false)))] []) (.seq (.sets [(4, (.ld (.fa 0 (.s 1))))] []) (.seq (.block 0 (.seq (.sets [(5, (.bin .eql (.s 4) (.k (.int .i64 0))))] []) (.ite (.s 5) (.seq (.sets [(2, (.call 24 (.cs (.ld (.fa 1 (.s 1))) .nl)))] []) .ret) (.seq (.sets [(10, (.or (.bin .eql (.s 4) (.k (.int .i64 1))) (.bin .eql (.s 4) (.k (.int .i64 2)))))] []) (.ite (.s 10) (.seq (.sets [(2, (.and (.bin .geq (.ld (.fa 1 (.s 1))) (.k (.int .i64 0))) (.bin .lss (.ld (.fa 1 (.s 1))) (.k (.int .i64 8)))))] []) .ret) (.seq (.sets [(21, (.or (.bin .eql (.s 4) (.k (.int .i64 12))) (.bin .eql (.s 4) (.k (.int .i64 13)))))] []) (.ite (.s 21) (.seq (.sets [(2, (.and (.bin .geq (.ld (.fa 1 (.s 1))) (.k (.int .i64 0))) (.bin .lss (.ld (.fa 1 (.s 1))) (.k (.int .i64 64)))))] []) .ret) (.seq (.sets [(32, (.bin .eql (.s 4) (.k (.int .i64 14))))] []) (.ite (.s 32) (.seq (.sets [(2, (.and (.bin .geq (.ld (.fa 1 (.s 1))) (.k (.int .i64 0))) (.bin .lss (.ld (.fa 1 (.s 1))) (.k (.int .i64 8)))))] []) .ret) .nop))))))))) (.seq (.sets [(2, (.and (.and (.bin .geq (.ld (.fa 0 (.s 1))) (.k (.int .i64 3))) (.bin .leq (.ld (.fa 0 (.s 1))) (.k (.int .i64 16)))) (.bin .eql (.ld (.fa 1 (.s 1))) (.k (.int .i64 0)))))] []) .ret)))))
noncomputable def R_swageref1_InsMay : Ex := (.s 2)
theorem dec_swageref1_InsMay : opt (dec Try.prog (fun f => roL.contains f) (fun t => G_swageref1_InsMay.contains t) 55 (Try.f20.body.getD .skip)) = S_swageref1_InsMay := by kernel_rfl
theorem res_swageref1_InsMay : resE Try.prog (fun t => G_swageref1_InsMay.contains t) Try.f20.results.toList = some R_swageref1_InsMay := by kernel_rfl
theorem call_swageref1_InsMay {args : List Value} {Post : Value → Mem → Prop} {m : Mem} (hl : args.length ≤ 55)
    (h : Inh m → wpS Try.prog sp (fun t => G_swageref1_InsMay.contains t) 55 S_swageref1_InsMay (fun ρ m' => ∃ v, ev sp m' ρ R_swageref1_InsMay = some v ∧ Post v m') (fun _ _ _ => False) (fun ρ m' => ∃ v, ev sp m' ρ R_swageref1_InsMay = some v ∧ Post v m') (argEnv args) m) :
    MC Try.prog F_swageref1_InsMay args Post m :=
  mc_opt (spRO_sound _) Try.func20 (c := Try.f20.body.getD .skip) (by kernel_rfl) (by kernel_rfl) (by kernel_rfl) dec_swageref1_InsMay res_swageref1_InsMay hl h
/-! swage/swagelaw2.awake -/
abbrev F_swagelaw2_awake : Nat := 21
def G_swagelaw2_awake : List Nat := [0, 1, 2, 3, 6]
noncomputable def S_swagelaw2_awake : St := (.seq (.sets [(0, (.k (.bool false)))] []) (.seq (.sets [(1, (.ext 0 (.call 16 (.cs (.bld [(.int .i64 0), (.int .i64 0)] [(0, 1), (1, 1)] (.cs (.k (.int .i64 14)) (.cs (.k (.int .i64 2)) .nl))) (.cs (.k (.int .i64 3)) .nl))))), (2, (.ext 1 (.call 16 (.cs (.bld [(.int .i64 0), (.int .i64 0)] [(0, 1), (1, 1)] (.cs (.k (.int .i64 14)) (.cs (.k (.int .i64 2)) .nl))) (.cs (.k (.int .i64 3)) .nl))))), (3, (.ext 2 (.call 16 (.cs (.bld [(.int .i64 0), (.int .i64 0)] [(0, 1), (1, 1)] (.cs (.k (.int .i64 14)) (.cs (.k (.int .i64 2)) .nl))) (.cs (.k (.int .i64 3)) .nl)))))] []) (.seq (.sets [(6, (.ext 2 (.call 16 (.cs (.bld [(.int .i64 0), (.int .i64 0)] [(0, 1), (1, 1)] (.cs (.k (.int .i64 3)) (.cs (.k (.int .i64 1)) .nl))) (.cs (.k (.int .i64 0)) .nl)))))] [(.ext 1 (.call 16 (.cs (.bld [(.int .i64 0), (.int .i64 0)] [(0, 1), (1, 1)] (.cs (.k (.int .i64 3)) (.cs (.k (.int .i64 1)) .nl))) (.cs (.k (.int .i64 0)) .nl)))), (.ext 0 (.call 16 (.cs (.bld [(.int .i64 0), (.int .i64 0)] [(0, 1), (1, 1)] (.cs (.k (.int .i64 3)) (.cs (.k (.int .i64 1)) .nl))) (.cs (.k (.int .i64 0)) .nl))))]) (.seq (.sets [(0, (.and (.and (.and (.and (.and (.bin .eql (.s 1) (.k (.int .i64 3))) (.bin .eql (.s 2) (.k (.int .i64 1)))) (.bin .eql (.call 18 (.cs (.s 3) .nl)) (.k (.int .i64 0)))) (.bin .eql (.call 18 (.cs (.s 6) .nl)) (.k (.int .i64 200)))) (.call 19 (.cs (.bld [(.int .i64 0), (.int .i64 0)] [(0, 1), (1, 1)] (.cs (.k (.int .i64 0)) (.cs (.k (.int .i64 (-5))) .nl))) .nl))) (.un .not (.call 19 (.cs (.bld [(.int .i64 0), (.int .i64 0)] [(0, 1), (1, 1)] (.cs (.k (.int .i64 1)) (.cs (.k (.int .i64 (-1))) .nl))) .nl)))))] []) .ret))))
noncomputable def R_swagelaw2_awake : Ex := (.s 0)
theorem dec_swagelaw2_awake : opt (dec Try.prog (fun f => roL.contains f) (fun t => G_swagelaw2_awake.contains t) 44 (Try.f21.body.getD .skip)) = S_swagelaw2_awake := by kernel_rfl
theorem res_swagelaw2_awake : resE Try.prog (fun t => G_swagelaw2_awake.contains t) Try.f21.results.toList = some R_swagelaw2_awake := by kernel_rfl
theorem call_swagelaw2_awake {args : List Value} {Post : Value → Mem → Prop} {m : Mem} (hl : args.length ≤ 44)
    (h : Inh m → wpS Try.prog sp (fun t => G_swagelaw2_awake.contains t) 44 S_swagelaw2_awake (fun ρ m' => ∃ v, ev sp m' ρ R_swagelaw2_awake = some v ∧ Post v m') (fun _ _ _ => False) (fun ρ m' => ∃ v, ev sp m' ρ R_swagelaw2_awake = some v ∧ Post v m') (argEnv args) m) :
    MC Try.prog F_swagelaw2_awake args Post m :=
  mc_opt (spRO_sound _) Try.func21 (c := Try.f21.body.getD .skip) (by kernel_rfl) (by kernel_rfl) (by kernel_rfl) dec_swagelaw2_awake res_swagelaw2_awake hl h
/-! swage/wrap.Is -/
abbrev F_wrap_Is : Nat := 22
def G_wrap_Is : List Nat := [0, 2]
noncomputable def S_wrap_Is : St := (.seq (.sets [(2, (.k (.bool false)))] []) (.seq (.sets [(2, (.bin .eql (.cvt .i64 (.cvt .i32 (.s 0))) (.s 0)))] []) .ret))
noncomputable def R_wrap_Is : Ex := (.s 2)
theorem dec_wrap_Is : opt (dec Try.prog (fun f => roL.contains f) (fun t => G_wrap_Is.contains t) 8 (Try.f22.body.getD .skip)) = S_wrap_Is := by kernel_rfl
theorem res_wrap_Is : resE Try.prog (fun t => G_wrap_Is.contains t) Try.f22.results.toList = some R_wrap_Is := by kernel_rfl
theorem call_wrap_Is {args : List Value} {Post : Value → Mem → Prop} {m : Mem} (hl : args.length ≤ 8)
    (h : Inh m → wpS Try.prog sp (fun t => G_wrap_Is.contains t) 8 S_wrap_Is (fun ρ m' => ∃ v, ev sp m' ρ R_wrap_Is = some v ∧ Post v m') (fun _ _ _ => False) (fun ρ m' => ∃ v, ev sp m' ρ R_wrap_Is = some v ∧ Post v m') (argEnv args) m) :
    MC Try.prog F_wrap_Is args Post m :=
  mc_opt (spRO_sound _) Try.func22 (c := Try.f22.body.getD .skip) (by kernel_rfl) (by kernel_rfl) (by kernel_rfl) dec_wrap_Is res_wrap_Is hl h
/-! swage/ins.below -/
abbrev F_ins_below : Nat := 23
def G_ins_below : List Nat := [0, 2, 3, 4, 7, 10]
noncomputable def S_ins_below : St := (.seq (.sets [(2, (.k (.int .i64 0)))] []) (.seq (.sets [(3, (.s 0))] []) (.seq (.block 0 (.seq (.sets [(4, (.or (.bin .eql (.s 3) (.k (.int .i64 1))) (.bin .eql (.s 3) (.k (.int .i64 2)))))] []) (.ite (.s 4) (.seq (.sets [(2, (.k (.int .i64 8)))] []) .ret) (.seq (.sets [(7, (.or (.bin .eql (.s 3) (.k (.int .i64 12))) (.bin .eql (.s 3) (.k (.int .i64 13)))))] []) (.ite (.s 7) (.seq (.sets [(2, (.k (.int .i64 64)))] []) .ret) (.seq (.sets [(10, (.bin .eql (.s 3) (.k (.int .i64 14))))] []) (.ite (.s 10) (.seq (.sets [(2, (.k (.int .i64 8)))] []) .ret) .nop))))))) (.seq (.sets [(2, (.k (.int .i64 1)))] []) .ret))))
noncomputable def R_ins_below : Ex := (.s 2)
theorem dec_ins_below : opt (dec Try.prog (fun f => roL.contains f) (fun t => G_ins_below.contains t) 12 (Try.f23.body.getD .skip)) = S_ins_below := by kernel_rfl
theorem res_ins_below : resE Try.prog (fun t => G_ins_below.contains t) Try.f23.results.toList = some R_ins_below := by kernel_rfl
theorem call_ins_below {args : List Value} {Post : Value → Mem → Prop} {m : Mem} (hl : args.length ≤ 12)
    (h : Inh m → wpS Try.prog sp (fun t => G_ins_below.contains t) 12 S_ins_below (fun ρ m' => ∃ v, ev sp m' ρ R_ins_below = some v ∧ Post v m') (fun _ _ _ => False) (fun ρ m' => ∃ v, ev sp m' ρ R_ins_below = some v ∧ Post v m') (argEnv args) m) :
    MC Try.prog F_ins_below args Post m :=
  mc_opt (spRO_sound _) Try.func23 (c := Try.f23.body.getD .skip) (by kernel_rfl) (by kernel_rfl) (by kernel_rfl) dec_ins_below res_ins_below hl h
/-! swage/swageref1.Number -/
abbrev F_swageref1_Number : Nat := 24
def G_swageref1_Number : List Nat := [0, 2]
noncomputable def S_swageref1_Number : St := (.seq (.sets [(2, (.k (.bool false)))] []) (.seq (.sets [(2, (.and (.bin .geq (.s 0) (.k (.int .i64 (-2147483648)))) (.bin .leq (.s 0) (.k (.int .i64 2147483647)))))] []) .ret))
noncomputable def R_swageref1_Number : Ex := (.s 2)
theorem dec_swageref1_Number : opt (dec Try.prog (fun f => roL.contains f) (fun t => G_swageref1_Number.contains t) 9 (Try.f24.body.getD .skip)) = S_swageref1_Number := by kernel_rfl
theorem res_swageref1_Number : resE Try.prog (fun t => G_swageref1_Number.contains t) Try.f24.results.toList = some R_swageref1_Number := by kernel_rfl
theorem call_swageref1_Number {args : List Value} {Post : Value → Mem → Prop} {m : Mem} (hl : args.length ≤ 9)
    (h : Inh m → wpS Try.prog sp (fun t => G_swageref1_Number.contains t) 9 S_swageref1_Number (fun ρ m' => ∃ v, ev sp m' ρ R_swageref1_Number = some v ∧ Post v m') (fun _ _ _ => False) (fun ρ m' => ∃ v, ev sp m' ρ R_swageref1_Number = some v ∧ Post v m') (argEnv args) m) :
    MC Try.prog F_swageref1_Number args Post m :=
  mc_opt (spRO_sound _) Try.func24 (c := Try.f24.body.getD .skip) (by kernel_rfl) (by kernel_rfl) (by kernel_rfl) dec_swageref1_Number res_swageref1_Number hl h
end Go.Proofs.Ytmkdikbjolobdaa.Sx
