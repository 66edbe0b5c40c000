/- Flows: what is lent is kept. No condition. -/
import Derived.Test.YtggejjeneoaakaaQi
import Derived.Test.YtggejjeneoaakaaQh
namespace Go.Proofs.Ytggejjeneoaakaa.Pf
open Go Go.RowKit Go.Proofs Go.Proofs.Ytggejjeneoaakaa.Mw Go.Proofs.Ytggejjeneoaakaa.Sx
set_option linter.unusedVariables false
set_option linter.unusedSimpArgs false
set_option maxRecDepth 4000
theorem Lent.fz {M : DMem} {d : DV} {l : List Ins} (h : Lent M d l) : ∃ rest, Mw.fz M 4 d = .isl l.length (l.flatMap Ins.c ++ rest) ∧ FrozL rest ∧ Mw.fz M 3 d = .isl l.length (l.flatMap Ins.c ++ rest) := by
  obtain ⟨b, c, ty, rfl, hM, hc⟩ := h
  have hf : FrozL ((l ++ mark2).flatMap Ins.c) := FrozL.flatMap Ins.froz _
  refine ⟨mark2.flatMap Ins.c, ?_, FrozL.flatMap Ins.froz _, ?_⟩
  · rw [fz_msl hM 3 0 _ _ (by omega), fzmap_froz hf, List.drop_zero, List.flatMap_append]
  · rw [fz_msl hM 2 0 _ _ (by omega), fzmap_froz hf, List.drop_zero, List.flatMap_append]
theorem KeptInss_pc {M : DMem} {d : DV} {l : List Ins} (hl : l.length * 16 ≤ 140737488351232) (h : Lent M d l) {R : DV → DMem → Prop} (hR : R (.bool true) M) : PC Try.prog F_swagelaw0_KeptInss [d, slD Ins.c l] R M := by
  have hpf : pf Try.prog F_swagelaw0_SameInss [Mw.fz M 4 d, slD Ins.c l] = some (.bool true) := by
    obtain ⟨rest, e, hf, _⟩ := h.fz
    rw [e]
    have := SameInss_pf l l (by omega)
    rw [decide_eq_true rfl] at this
    exact pf_weak this ((FrozL.nil.cons (Froz.slD Ins.froz l)).cons (Froz.isl ((FrozL.flatMap Ins.froz l).append hf))) ((ImpL.refl _).cons Imp.isl)
  obtain ⟨b, c, ty, rfl, hM, hc⟩ := h
  refine pc_swagelaw0_KeptInss (by simp) ?_
  have e2 : ((l.length : Int) + 2) = ((l.length + 2 : Nat) : Int) := by omega
  have e1 : ((l.length : Int) + 1) = ((l.length + 1 : Nat) : Int) := by omega
  have w2 : wr64 ((l.length : Int) + 2) = ((l.length + 2 : Nat) : Int) := by rw [e2]; exact w64n _ (by omega)
  have w1 : wr64 ((l.length : Int) + 1) = ((l.length + 1 : Nat) : Int) := by rw [e1]; exact w64n _ (by omega)
  have hd : ∀ j, j < 2 → (((l ++ mark2).flatMap Ins.c).drop ((l.length + j) * 2)).take 2 = [.int .i64 0, .int .i64 77777] := fun j hj => by
    have hlt : l.length + j < (l ++ mark2).length := by simp; omega
    rw [drop_flat Ins.len _ _ hlt]
    have : (l ++ mark2)[l.length + j] = ⟨0, 77777⟩ := by
      rw [List.getElem_append_right (by omega)]
      have : j = 0 ∨ j = 1 := by omega
      rcases this with rfl | rfl <;> simp
    rw [this]; rfl
  have hlen : ((l ++ mark2).flatMap Ins.c).length = (l.length + 2) * 2 := by rw [flat_len Ins.len]; simp
  have h0 := hd 0 (by omega)
  have h1 := hd 1 (by omega)
  rw [Nat.add_zero] at h0
  simp only [S_swagelaw0_KeptInss, R_swagelaw0_KeptInss, MU_swagelaw0_KeptInss, fz_ins, hpf, w1, w2, slcM_hi (show l.length + 2 ≤ c by omega) (show l.length ≤ c by omega), show ¬ c = 0 by omega, SW, wpD, evDL, evDM, evD, bldLD, List.contains_cons, List.contains_nil, Nat.reduceBEq, beq_self_eq_true, Nat.reduceMul, Nat.reduceSub, wpSp, Option.bind_some, Option.some.injEq, exists_eq_left', exists_eq_left, reduceIte, if_false, if_true, Nat.reduceEqDiff, Nat.reduceAdd, Nat.reduceLeDiff, Int.reduceEq, Int.reduceLT, Int.reduceLE, Int.reduceToNat, decide_true, decide_false, DV.bool.injEq, DV.int.injEq, DV.mp.injEq, DV.msl.injEq, DV.tup.injEq, DV.agg.injEq, DV.fn.injEq, true_implies, forall_const, reduceCtorEq, implies_true, ne_eq, DMem.mt]
  simp only [ixM (show l.length < l.length + 2 by omega), ixM (show l.length + 1 < l.length + 2 by omega), hM, h0, h1, hlen, Nat.zero_add, eqs2, SW, wpD, evDL, evDM, evD, bldLD, List.contains_cons, List.contains_nil, Nat.reduceBEq, beq_self_eq_true, Nat.reduceMul, Nat.reduceSub, wpSp, Option.bind_some, Option.some.injEq, exists_eq_left', exists_eq_left, reduceIte, if_false, if_true, Nat.reduceEqDiff, Nat.reduceAdd, Nat.reduceLeDiff, Int.reduceEq, Int.reduceLT, Int.reduceLE, Int.reduceToNat, decide_true, decide_false, DV.bool.injEq, DV.int.injEq, DV.mp.injEq, DV.msl.injEq, DV.tup.injEq, DV.agg.injEq, DV.fn.injEq, true_implies, forall_const, reduceCtorEq, implies_true, ne_eq, DMem.mt]
  have c1 : l.length * 2 + 2 ≤ (l.length + 2) * 2 := by omega
  have c2 : (l.length + 1) * 2 + 2 ≤ (l.length + 2) * 2 := by omega
  simp only [c1, c2, eqs2, SW, wpD, evDL, evDM, evD, bldLD, List.contains_cons, List.contains_nil, Nat.reduceBEq, beq_self_eq_true, Nat.reduceMul, Nat.reduceSub, wpSp, Option.bind_some, Option.some.injEq, exists_eq_left', exists_eq_left, reduceIte, if_false, if_true, Nat.reduceEqDiff, Nat.reduceAdd, Nat.reduceLeDiff, Int.reduceEq, Int.reduceLT, Int.reduceLE, Int.reduceToNat, decide_true, decide_false, DV.bool.injEq, DV.int.injEq, DV.mp.injEq, DV.msl.injEq, DV.tup.injEq, DV.agg.injEq, DV.fn.injEq, true_implies, forall_const, reduceCtorEq, implies_true, ne_eq, DMem.mt]
  exact hR
theorem NumF_pf (n : Int) : pf Try.prog F_swagelaw0_Num [.int .i64 n] = some (.int .i64 n) := by
  refine pf_of (v := .int _ _) (pc_swagelaw0_Num (by simp) ?_) (FrozL.nil.cons (Froz.int _ _)) rfl rfl
  simp only [S_swagelaw0_Num, R_swagelaw0_Num, MU_swagelaw0_Num, MU_swagelaw0_Num, SW, wpD, evDL, evDM, evD, bldLD, List.contains_cons, List.contains_nil, Nat.reduceBEq, beq_self_eq_true, Nat.reduceMul, Nat.reduceSub, wpSp, Option.bind_some, Option.some.injEq, exists_eq_left', exists_eq_left, reduceIte, if_false, if_true, Nat.reduceEqDiff, Nat.reduceAdd, Nat.reduceLeDiff, Int.reduceEq, Int.reduceLT, Int.reduceLE, Int.reduceToNat, decide_true, decide_false, DV.bool.injEq, DV.int.injEq, DV.mp.injEq, DV.msl.injEq, DV.tup.injEq, DV.agg.injEq, DV.fn.injEq, true_implies, forall_const, reduceCtorEq, implies_true, ne_eq, DMem.mt]
def fA : Fnc := ⟨0, 0, [⟨0, 1⟩, ⟨13, 3⟩, ⟨12, 0⟩, ⟨0, 1⟩, ⟨16, 0⟩, ⟨16, 0⟩]⟩
theorem awake4_pf : pf Try.prog F_swagelaw4_awake [] = some (.bool true) := by
  refine pf_of (v := .bool _) (pc_swagelaw4_awake (by simp) ?_) FrozL.nil rfl rfl
  have e1 : nextR fA 1 = ([2, 3], 0) := by decide
  have e2 : leadR fA = ([true, false, true, true, false, true], 0) := by decide
  have e3 : reachR fA = ([true, true, true, true, true, false], 0) := by decide
  have e4 : nextR fA 6 = ([], 400) := by decide
  simp only [S_swagelaw4_awake, R_swagelaw4_awake, MU_swagelaw4_awake, MU_swagelaw4_awake, S1_swagelaw4_awake, S2_swagelaw4_awake, S3_swagelaw4_awake, S4_swagelaw4_awake, SW, wpD, evDL, evDM, evD, bldLD, List.contains_cons, List.contains_nil, Nat.reduceBEq, beq_self_eq_true, Nat.reduceMul, Nat.reduceSub, wpSp, Option.bind_some, Option.some.injEq, exists_eq_left', exists_eq_left, reduceIte, if_false, if_true, Nat.reduceEqDiff, Nat.reduceAdd, Nat.reduceLeDiff, Int.reduceEq, Int.reduceLT, Int.reduceLE, Int.reduceToNat, decide_true, decide_false, DV.bool.injEq, DV.int.injEq, DV.mp.injEq, DV.msl.injEq, DV.tup.injEq, DV.agg.injEq, DV.fn.injEq, true_implies, forall_const, reduceCtorEq, implies_true, ne_eq, DMem.mt]
  refine Pu.pc (Next_pu fA 1) ?_
  simp only [MU_swagelaw4_awake, S1_swagelaw4_awake, S2_swagelaw4_awake, S3_swagelaw4_awake, S4_swagelaw4_awake, e1, SW, wpD, evDL, evDM, evD, bldLD, List.contains_cons, List.contains_nil, Nat.reduceBEq, beq_self_eq_true, Nat.reduceMul, Nat.reduceSub, wpSp, Option.bind_some, Option.some.injEq, exists_eq_left', exists_eq_left, reduceIte, if_false, if_true, Nat.reduceEqDiff, Nat.reduceAdd, Nat.reduceLeDiff, Int.reduceEq, Int.reduceLT, Int.reduceLE, Int.reduceToNat, decide_true, decide_false, DV.bool.injEq, DV.int.injEq, DV.mp.injEq, DV.msl.injEq, DV.tup.injEq, DV.agg.injEq, DV.fn.injEq, true_implies, forall_const, reduceCtorEq, implies_true, ne_eq, DMem.mt]
  refine Pu.pc (Leaders_pt fA).pu ?_
  simp only [MU_swagelaw4_awake, S1_swagelaw4_awake, S2_swagelaw4_awake, S3_swagelaw4_awake, S4_swagelaw4_awake, e1, e2, SW, wpD, evDL, evDM, evD, bldLD, List.contains_cons, List.contains_nil, Nat.reduceBEq, beq_self_eq_true, Nat.reduceMul, Nat.reduceSub, wpSp, Option.bind_some, Option.some.injEq, exists_eq_left', exists_eq_left, reduceIte, if_false, if_true, Nat.reduceEqDiff, Nat.reduceAdd, Nat.reduceLeDiff, Int.reduceEq, Int.reduceLT, Int.reduceLE, Int.reduceToNat, decide_true, decide_false, DV.bool.injEq, DV.int.injEq, DV.mp.injEq, DV.msl.injEq, DV.tup.injEq, DV.agg.injEq, DV.fn.injEq, true_implies, forall_const, reduceCtorEq, implies_true, ne_eq, DMem.mt]
  refine Pu.pc (Reached_pt fA).pu ?_
  simp only [MU_swagelaw4_awake, S1_swagelaw4_awake, S2_swagelaw4_awake, S3_swagelaw4_awake, S4_swagelaw4_awake, e1, e2, e3, SW, wpD, evDL, evDM, evD, bldLD, List.contains_cons, List.contains_nil, Nat.reduceBEq, beq_self_eq_true, Nat.reduceMul, Nat.reduceSub, wpSp, Option.bind_some, Option.some.injEq, exists_eq_left', exists_eq_left, reduceIte, if_false, if_true, Nat.reduceEqDiff, Nat.reduceAdd, Nat.reduceLeDiff, Int.reduceEq, Int.reduceLT, Int.reduceLE, Int.reduceToNat, decide_true, decide_false, DV.bool.injEq, DV.int.injEq, DV.mp.injEq, DV.msl.injEq, DV.tup.injEq, DV.agg.injEq, DV.fn.injEq, true_implies, forall_const, reduceCtorEq, implies_true, ne_eq, DMem.mt]
  refine Pu.pc (Next_pu fA 6) ?_
  have i1 : DV.isl 2 [.int .i64 2, .int .i64 3] = slI [2, 3] := rfl
  have i2 : DV.isl 6 [.bool true, .bool false, .bool true, .bool true, .bool false, .bool true] = slB [true, false, true, true, false, true] := rfl
  have i3 : DV.isl 6 [.bool true, .bool true, .bool true, .bool true, .bool true, .bool false] = slB [true, true, true, true, true, false] := rfl
  simp only [MU_swagelaw4_awake, S1_swagelaw4_awake, S2_swagelaw4_awake, S3_swagelaw4_awake, S4_swagelaw4_awake, e1, e2, e3, e4, i1, i2, i3, fz_slI, fz_slB, NumF_pf, SameInts_pf [2, 3] [2, 3] (by decide), SameBools_pf [true, false, true, true, false, true] [true, false, true, true, false, true] (by decide), SameBools_pf [true, true, true, true, true, false] [true, true, true, true, true, false] (by decide), SW, wpD, evDL, evDM, evD, bldLD, List.contains_cons, List.contains_nil, Nat.reduceBEq, beq_self_eq_true, Nat.reduceMul, Nat.reduceSub, wpSp, Option.bind_some, Option.some.injEq, exists_eq_left', exists_eq_left, reduceIte, if_false, if_true, Nat.reduceEqDiff, Nat.reduceAdd, Nat.reduceLeDiff, Int.reduceEq, Int.reduceLT, Int.reduceLE, Int.reduceToNat, decide_true, decide_false, DV.bool.injEq, DV.int.injEq, DV.mp.injEq, DV.msl.injEq, DV.tup.injEq, DV.agg.injEq, DV.fn.injEq, true_implies, forall_const, reduceCtorEq, implies_true, ne_eq, DMem.mt]
end Go.Proofs.Ytggejjeneoaakaa.Pf
