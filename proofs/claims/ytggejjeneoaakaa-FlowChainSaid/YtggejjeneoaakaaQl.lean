/- FlowForms: the law at every input. No condition. -/
import Derived.Test.YtggejjeneoaakaaQk
namespace Go.Proofs.Ytggejjeneoaakaa.Pf
open Go Go.RowKit Go.Proofs Go.Proofs.Ytggejjeneoaakaa.Mw Go.Proofs.Ytggejjeneoaakaa.Sx
set_option linter.unusedVariables false
set_option linter.unusedSimpArgs false
set_option maxRecDepth 4000
/-- A function that may not be, as it is handed in. -/
theorem Next_bad {M : DMem} {a : DV} {f : Fnc} (h : Imp (fz M 4 a) (.agg f.c)) (hf : fmayB f.code = false) (pc : Int) {R : DV → DMem → Prop} (hR : R (.tup [.isl 0 [], .int .i64 400]) M) : PC Try.prog F_flow_Next [a, .int .i64 pc] R M := by
  have e : nextR f pc = ([], 400) := by simp only [nextR, okNext, hf]; rfl
  refine Pt.pc (d := .tup [.isl 0 [], .int .i64 400]) ?_ hR
  refine Pt.weak (es := [.agg f.c, .int .i64 pc]) ?_ (ImpL.cons h (ImpL.cons (by rw [fz_int]; exact Imp.refl _) (ImpL.refl [])))
  refine Next_pc f pc fun d0 M2 h2 => ?_
  rw [e] at h2 ⊢
  have ht := h2.thaw
  obtain ⟨rfl, _, rfl⟩ | ⟨b, n, rest, rfl, hl, rfl⟩ := h2
  · exact ⟨ht, fun m v hv => hv⟩
  · refine ⟨⟨rfl, ht.2⟩, ?_⟩
    rw [fz_tup]
    simp only [List.map_cons, List.map_nil, fz_int]
    rw [fz_msl (DMem.ins_same _ _ _) 3 0 _ _ hl]
    refine Imp.tup (ImpL.cons ?_ (ImpL.refl _))
    simp only [List.drop_zero]
    exact Imp.isl (cs := [])
theorem Leaders_bad {M : DMem} {a : DV} {f : Fnc} (h : Imp (fz M 4 a) (.agg f.c)) (hf : fmayB f.code = false) {R : DV → DMem → Prop} (hR : R (.tup [slB [], .int .i64 400]) M) : PC Try.prog F_flow_Leaders [a] R M := by
  have e : leadR f = ([], 400) := by simp only [leadR, hf]; rfl
  have := Leaders_pt f
  rw [e] at this
  exact Pt.pc (by exact this.weak (ImpL.cons h (ImpL.refl []))) hR
theorem Reached_bad {M : DMem} {a : DV} {f : Fnc} (h : Imp (fz M 4 a) (.agg f.c)) (hf : fmayB f.code = false) {R : DV → DMem → Prop} (hR : R (.tup [slB [], .int .i64 400]) M) : PC Try.prog F_flow_Reached [a] R M := by
  have e : reachR f = ([], 400) := by simp only [reachR, hf]; rfl
  have := Reached_pt f
  rw [e] at this
  exact Pt.pc (by exact this.weak (ImpL.cons h (ImpL.refl []))) hR
def fG : Fnc := ⟨0, 0, [⟨0, 1⟩, ⟨16, 0⟩]⟩
theorem FlowForms_tail {M : DMem} {δ : DEnv} {f : Fnc} {n : Nat} {cs : List DV} (h : Imp (fz M 4 (.agg cs)) (.agg f.c)) (hf : fmayB f.code = false) (hn : n < 1024) (d5 : δ 5 = .int .i64 ((1 + n : Nat) : Int)) (d6 : δ 6 = .ip fG.c) (d8 : δ 8 = .ip cs) (hc : cs.length = 3)
    {KK RR : DEnv → DMem → Prop} {XX : Nat → DEnv → DMem → Prop} (hR : ∀ δ' M', δ' 4 = .bool true → RR δ' M') :
    PC Try.prog F_flow_Next [.agg cs, .int .i64 0] (fun v M' => wpD Try.prog MU_swagelaw4_FlowForms (fun f => roL.contains f) (fun t => G_swagelaw4_FlowForms.contains t) 103 S5_swagelaw4_FlowForms KK XX RR (δ.upd 53 v) M') M := by
  have hld : ldnD M 3 (.ip cs) = some (.agg cs) := by
    simp only [ldnD]
    rw [if_pos ⟨by omega, by omega⟩, List.take_of_length_le (by omega)]
  have hlg : ∀ M, ldnD M 3 (.ip fG.c) = some (.agg fG.c) := fun M => rfl
  have e1 : nextR fG ((1 + (1 + n) : Nat) : Int) = ([], 400) := by
    have : okNext fG ((1 + (1 + n) : Nat) : Int) = false := by
      simp only [okNext, Bool.not_eq_false', Bool.or_eq_true, decide_eq_true_eq]
      exact .inr (by simp [fG]; omega)
    simp only [nextR, this]; rfl
  have e2 : nextR fG (-((1 + n : Nat) : Int)) = ([], 400) := by
    have : okNext fG (-((1 + n : Nat) : Int)) = false := by
      simp only [okNext, Bool.not_eq_false', Bool.or_eq_true, decide_eq_true_eq]
      exact .inl (.inr (by omega))
    simp only [nextR, this]; rfl
  have w1 : wr64 (1 + ((1 + n : Nat) : Int)) = ((1 + (1 + n) : Nat) : Int) := by rw [w64 (by omega)]; omega
  have w2 : wr64 (0 - ((1 + n : Nat) : Int)) = -((1 + n : Nat) : Int) := by rw [w64 (by omega)]; omega
  refine Next_bad h hf 0 ?_
  simp only [S5_swagelaw4_FlowForms, MU_swagelaw4_FlowForms, d5, d6, d8, hld, SW, wpD, evDL, evDM, evD, bldLD, List.contains_cons, List.contains_nil, Nat.reduceBEq, beq_self_eq_true, Nat.reduceMul, Nat.reduceSub, wpSp, Option.bind_some, Option.some.injEq, exists_eq_left', exists_eq_left, reduceIte, if_false, if_true, Nat.reduceEqDiff, Nat.reduceAdd, Nat.reduceLeDiff, Int.reduceEq, Int.reduceLT, Int.reduceLE, Int.reduceToNat, decide_true, decide_false, DV.bool.injEq, DV.int.injEq, DV.mp.injEq, DV.msl.injEq, DV.tup.injEq, DV.agg.injEq, DV.fn.injEq, true_implies, forall_const, reduceCtorEq, implies_true, ne_eq, DMem.mt]
  refine Leaders_bad h hf ?_
  simp only [S4_swagelaw4_FlowForms, MU_swagelaw4_FlowForms, d5, d6, d8, hld, SW, wpD, evDL, evDM, evD, bldLD, List.contains_cons, List.contains_nil, Nat.reduceBEq, beq_self_eq_true, Nat.reduceMul, Nat.reduceSub, wpSp, Option.bind_some, Option.some.injEq, exists_eq_left', exists_eq_left, reduceIte, if_false, if_true, Nat.reduceEqDiff, Nat.reduceAdd, Nat.reduceLeDiff, Int.reduceEq, Int.reduceLT, Int.reduceLE, Int.reduceToNat, decide_true, decide_false, DV.bool.injEq, DV.int.injEq, DV.mp.injEq, DV.msl.injEq, DV.tup.injEq, DV.agg.injEq, DV.fn.injEq, true_implies, forall_const, reduceCtorEq, implies_true, ne_eq, DMem.mt]
  refine Reached_bad h hf ?_
  simp only [S3_swagelaw4_FlowForms, MU_swagelaw4_FlowForms, d5, d6, d8, hlg, w1, SW, wpD, evDL, evDM, evD, bldLD, List.contains_cons, List.contains_nil, Nat.reduceBEq, beq_self_eq_true, Nat.reduceMul, Nat.reduceSub, wpSp, Option.bind_some, Option.some.injEq, exists_eq_left', exists_eq_left, reduceIte, if_false, if_true, Nat.reduceEqDiff, Nat.reduceAdd, Nat.reduceLeDiff, Int.reduceEq, Int.reduceLT, Int.reduceLE, Int.reduceToNat, decide_true, decide_false, DV.bool.injEq, DV.int.injEq, DV.mp.injEq, DV.msl.injEq, DV.tup.injEq, DV.agg.injEq, DV.fn.injEq, true_implies, forall_const, reduceCtorEq, implies_true, ne_eq, DMem.mt]
  refine Pu.pc (Next_pu fG _) ?_
  rw [e1]
  simp only [S2_swagelaw4_FlowForms, MU_swagelaw4_FlowForms, d5, d6, d8, hlg, w2, SW, wpD, evDL, evDM, evD, bldLD, List.contains_cons, List.contains_nil, Nat.reduceBEq, beq_self_eq_true, Nat.reduceMul, Nat.reduceSub, wpSp, Option.bind_some, Option.some.injEq, exists_eq_left', exists_eq_left, reduceIte, if_false, if_true, Nat.reduceEqDiff, Nat.reduceAdd, Nat.reduceLeDiff, Int.reduceEq, Int.reduceLT, Int.reduceLE, Int.reduceToNat, decide_true, decide_false, DV.bool.injEq, DV.int.injEq, DV.mp.injEq, DV.msl.injEq, DV.tup.injEq, DV.agg.injEq, DV.fn.injEq, true_implies, forall_const, reduceCtorEq, implies_true, ne_eq, DMem.mt]
  refine Pu.pc (Next_pu fG _) ?_
  rw [e2]
  simp only [S1_swagelaw4_FlowForms, MU_swagelaw4_FlowForms, d5, d6, d8, NumF_pf, SW, wpD, evDL, evDM, evD, bldLD, List.contains_cons, List.contains_nil, Nat.reduceBEq, beq_self_eq_true, Nat.reduceMul, Nat.reduceSub, wpSp, Option.bind_some, Option.some.injEq, exists_eq_left', exists_eq_left, reduceIte, if_false, if_true, Nat.reduceEqDiff, Nat.reduceAdd, Nat.reduceLeDiff, Int.reduceEq, Int.reduceLT, Int.reduceLE, Int.reduceToNat, decide_true, decide_false, DV.bool.injEq, DV.int.injEq, DV.mp.injEq, DV.msl.injEq, DV.tup.injEq, DV.agg.injEq, DV.fn.injEq, true_implies, forall_const, reduceCtorEq, implies_true, ne_eq, DMem.mt]
  exact hR _ _ rfl
theorem tmod_case (x : Int) (k : Nat) (hk : 0 < k) : ∃ n : Nat, n < k ∧ (x % 18446744073709551616).tmod k = n := by
  have h := tmod_bnd x k (by omega)
  exact ⟨((x % 18446744073709551616).tmod k).toNat, by omega, by omega⟩
theorem ixI {sz n i : Nat} {k : IntKind} {cs : List DV} (h : i < n) : ixD sz (.isl n cs) (.int k (i : Int)) = some (.ip (cs.drop (i * sz))) := by
  simp only [ixD]; rw [if_pos ⟨by omega, by omega⟩, Int.toNat_natCast]
theorem FlowForms_pc (which x : Int) : PC Try.prog F_swagelaw4_FlowForms [.int .i64 which, .int .i64 x] (fun d _ => d = .bool true) DMem.mt := by
  refine pc_swagelaw4_FlowForms (by simp) ?_
  have hd := and_bnd x 10 (by decide)
  rw [show bits .and .i64 x ((2 ^ 10 - 1 : Nat) : Int) = bits .and .i64 x 1023 from rfl] at hd
  obtain ⟨q, hq, eq⟩ := tmod_case which 4 (by decide)
  replace eq : (which % 18446744073709551616).tmod 4 = q := eq
  simp only [S_swagelaw4_FlowForms, R_swagelaw4_FlowForms, MU_swagelaw4_FlowForms, awake4_pf, SW, wpD, evDL, evDM, evD, bldLD, List.contains_cons, List.contains_nil, Nat.reduceBEq, beq_self_eq_true, Nat.reduceMul, Nat.reduceSub, wpSp, Option.bind_some, Option.some.injEq, exists_eq_left', exists_eq_left, reduceIte, if_false, if_true, Nat.reduceEqDiff, Nat.reduceAdd, Nat.reduceLeDiff, Int.reduceEq, Int.reduceLT, Int.reduceLE, Int.reduceToNat, decide_true, decide_false, DV.bool.injEq, DV.int.injEq, DV.mp.injEq, DV.msl.injEq, DV.tup.injEq, DV.agg.injEq, DV.fn.injEq, true_implies, forall_const, reduceCtorEq, implies_true, ne_eq, DMem.mt]
  generalize bits .and .i64 x 1023 = y at hd ⊢
  obtain ⟨n, rfl⟩ := Int.eq_ofNat_of_zero_le hd.1
  have hn : n < 1024 := by have := hd.2; omega
  have w1 : wr64 (1 + (n : Int)) = ((1 + n : Nat) : Int) := by rw [w64 (by omega)]; omega
  have w2 : wr64 (64 + ((1 + n : Nat) : Int)) = ((64 + (1 + n) : Nat) : Int) := by rw [w64 (by omega)]; omega
  have w3 : wr64 (16 + ((1 + n : Nat) : Int)) = ((16 + (1 + n) : Nat) : Int) := by rw [w64 (by omega)]; omega
  have w4 : wr64 (63 + ((1 + n : Nat) : Int)) = ((63 + (1 + n) : Nat) : Int) := by rw [w64 (by omega)]; omega
  simp only [w1, w2]
  refine mkF (c := Ins.c) ⟨0, 0⟩ rfl (by decide) rfl (by omega) (by omega) fun p M1 hp hM1 => ?_
  have hMp : M1 p = some ⟨78, (64 + (1 + n)) * 2, (List.replicate (64 + (1 + n)) (⟨0, 0⟩ : Ins)).flatMap Ins.c⟩ := by rw [hM1, DMem.ins_same]
  clear w2
  have h4 : q = 0 ∨ q = 1 ∨ q = 2 ∨ q = 3 := by omega
  have wq : wr64 (q : Int) = q := w64n q (by omega)
  simp only [w1, w3, w4, eq, wq, SW, wpD, evDL, evDM, evD, bldLD, List.contains_cons, List.contains_nil, Nat.reduceBEq, beq_self_eq_true, Nat.reduceMul, Nat.reduceSub, wpSp, Option.bind_some, Option.some.injEq, exists_eq_left', exists_eq_left, reduceIte, if_false, if_true, Nat.reduceEqDiff, Nat.reduceAdd, Nat.reduceLeDiff, Int.reduceEq, Int.reduceLT, Int.reduceLE, Int.reduceToNat, decide_true, decide_false, DV.bool.injEq, DV.int.injEq, DV.mp.injEq, DV.msl.injEq, DV.tup.injEq, DV.agg.injEq, DV.fn.injEq, true_implies, forall_const, reduceCtorEq, implies_true, ne_eq, DMem.mt]
  rcases h4 with rfl | rfl | rfl | rfl
  · simp only [ixI (show 0 < 4 by decide), SW, wpD, evDL, evDM, evD, bldLD, List.contains_cons, List.contains_nil, Nat.reduceBEq, beq_self_eq_true, Nat.reduceMul, Nat.reduceSub, wpSp, Option.bind_some, Option.some.injEq, exists_eq_left', exists_eq_left, reduceIte, if_false, if_true, Nat.reduceEqDiff, Nat.reduceAdd, Nat.reduceLeDiff, Int.reduceEq, Int.reduceLT, Int.reduceLE, Int.reduceToNat, decide_true, decide_false, DV.bool.injEq, DV.int.injEq, DV.mp.injEq, DV.msl.injEq, DV.tup.injEq, DV.agg.injEq, DV.fn.injEq, true_implies, forall_const, reduceCtorEq, implies_true, ne_eq, DMem.mt]
    refine FlowForms_tail (f := ⟨0, 0, []⟩) (n := n) ?_ rfl hn rfl rfl rfl rfl fun δ' M' h => h
    rw [fz_agg]
    exact Imp.refl _
  · simp only [ixI (show 1 < 4 by decide), SW, wpD, evDL, evDM, evD, bldLD, List.contains_cons, List.contains_nil, Nat.reduceBEq, beq_self_eq_true, Nat.reduceMul, Nat.reduceSub, wpSp, Option.bind_some, Option.some.injEq, exists_eq_left', exists_eq_left, reduceIte, if_false, if_true, Nat.reduceEqDiff, Nat.reduceAdd, Nat.reduceLeDiff, Int.reduceEq, Int.reduceLT, Int.reduceLE, Int.reduceToNat, decide_true, decide_false, DV.bool.injEq, DV.int.injEq, DV.mp.injEq, DV.msl.injEq, DV.tup.injEq, DV.agg.injEq, DV.fn.injEq, true_implies, forall_const, reduceCtorEq, implies_true, ne_eq, DMem.mt]
    refine FlowForms_tail (f := ⟨0, 0, List.replicate (64 + (1 + n)) ⟨0, 0⟩⟩) (n := n) ?_ ?_ hn rfl rfl rfl rfl fun δ' M' h => h
    · rw [fz_agg]
      simp only [List.map_cons, List.map_nil, fz_int]
      rw [fz_msl hMp 3 0 _ _ (Nat.le_refl _), fzmap_froz (FrozL.flatMap Ins.froz _), List.drop_zero]
      have : slD Ins.c (List.replicate (64 + (1 + n)) (⟨0, 0⟩ : Ins)) = .isl (64 + (1 + n)) ((List.replicate (64 + (1 + n)) (⟨0, 0⟩ : Ins)).flatMap Ins.c) := by simp only [slD, List.length_replicate]
      simp only [Fnc.c, this]
      exact Imp.refl _
    · simp only [fmayB, List.length_replicate]
      rw [decide_eq_false (show ¬ 64 + (1 + n) ≤ 64 by omega)]; simp
  · simp only [ixI (show 2 < 4 by decide), SW, wpD, evDL, evDM, evD, bldLD, List.contains_cons, List.contains_nil, Nat.reduceBEq, beq_self_eq_true, Nat.reduceMul, Nat.reduceSub, wpSp, Option.bind_some, Option.some.injEq, exists_eq_left', exists_eq_left, reduceIte, if_false, if_true, Nat.reduceEqDiff, Nat.reduceAdd, Nat.reduceLeDiff, Int.reduceEq, Int.reduceLT, Int.reduceLE, Int.reduceToNat, decide_true, decide_false, DV.bool.injEq, DV.int.injEq, DV.mp.injEq, DV.msl.injEq, DV.tup.injEq, DV.agg.injEq, DV.fn.injEq, true_implies, forall_const, reduceCtorEq, implies_true, ne_eq, DMem.mt]
    refine FlowForms_tail (f := ⟨0, 0, [⟨((16 + (1 + n) : Nat) : Int), 0⟩]⟩) (n := n) ?_ ?_ hn rfl rfl rfl rfl fun δ' M' h => h
    · rw [fz_agg]
      exact Imp.refl _
    · simp only [fmayB, List.all_cons, mayB]
      rw [if_pos (.inr (by omega))]; simp
  · simp only [ixI (show 3 < 4 by decide), SW, wpD, evDL, evDM, evD, bldLD, List.contains_cons, List.contains_nil, Nat.reduceBEq, beq_self_eq_true, Nat.reduceMul, Nat.reduceSub, wpSp, Option.bind_some, Option.some.injEq, exists_eq_left', exists_eq_left, reduceIte, if_false, if_true, Nat.reduceEqDiff, Nat.reduceAdd, Nat.reduceLeDiff, Int.reduceEq, Int.reduceLT, Int.reduceLE, Int.reduceToNat, decide_true, decide_false, DV.bool.injEq, DV.int.injEq, DV.mp.injEq, DV.msl.injEq, DV.tup.injEq, DV.agg.injEq, DV.fn.injEq, true_implies, forall_const, reduceCtorEq, implies_true, ne_eq, DMem.mt]
    refine FlowForms_tail (f := ⟨0, 0, [⟨12, ((63 + (1 + n) : Nat) : Int)⟩]⟩) (n := n) ?_ ?_ hn rfl rfl rfl rfl fun δ' M' h => h
    · rw [fz_agg]
      exact Imp.refl _
    · have : ¬ ((63 + (1 + n) : Nat) : Int) < 64 := by omega
      simp only [fmayB, List.all_cons, mayB, belowF]
      simp [this]
      omega
end Go.Proofs.Ytggejjeneoaakaa.Pf
