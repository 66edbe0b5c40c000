/- What the laws compare with. No condition. -/
import Derived.Test.YtaifmmeghninhaaQa
namespace Go.Proofs.Ytaifmmeghninhaa.Pf
open Go Go.RowKit Go.Proofs Go.Proofs.Ytaifmmeghninhaa.Mw Go.Proofs.Ytaifmmeghninhaa.Sx
set_option linter.unusedVariables false
set_option linter.unusedSimpArgs false
set_option maxRecDepth 4000
theorem same_all {α : Type} {a b : List α} (hl : a.length = b.length) (h : ∀ j (h1 : j < a.length) (h2 : j < b.length), a[j] = b[j]) : a = b := List.ext_getElem hl h
theorem eqs2 (ne : Bool) (k k' : IntKind) (a b c d : Int) : eqsD ne 2 (.agg [.int k a, .int k' b]) (.agg [.int k c, .int k' d]) = some (.bool (if ne then !((a == c) && ((b == d) && true)) else ((a == c) && ((b == d) && true)))) := by
  simp [eqsD, lift2, DV.v1, DV.v0, eqsV, eqRows, ofV]
  rfl
theorem SameInss_pf (a b : List Ins) (ha : a.length ≤ 4611686018427387904) : pf Try.prog F_swagelaw0_SameInss [slD Ins.c a, slD Ins.c b] = some (.bool (decide (a = b))) := by
  refine pf_of (v := .bool _) (pc_swagelaw0_SameInss (by simp) ?_) ((FrozL.nil.cons (Froz.slD Ins.froz _)).cons (Froz.slD Ins.froz _)) rfl rfl
  simp only [S_swagelaw0_SameInss, R_swagelaw0_SameInss, MU_swagelaw0_SameInss, SW, wpD, evDL, evDM, evD, bldLD, List.contains_cons, List.contains_nil, Nat.reduceBEq, beq_self_eq_true, Nat.reduceMul, Nat.reduceSub, wpSp, Option.bind_some, Option.some.injEq, exists_eq_left', exists_eq_left, reduceIte, if_false, if_true, Nat.reduceEqDiff, Nat.reduceAdd, Nat.reduceLeDiff, Int.reduceEq, Int.reduceLT, Int.reduceLE, Int.reduceToNat, decide_true, decide_false, DV.bool.injEq, DV.int.injEq, DV.mp.injEq, DV.msl.injEq, DV.tup.injEq, DV.agg.injEq, DV.fn.injEq, true_implies, forall_const, reduceCtorEq, implies_true, ne_eq, DMem.mt, decide_eq_true_eq, decide_eq_false_iff_not]
  refine ⟨fun hne => ?_, fun hle => ?_⟩
  · exact (decide_eq_false (by rintro rfl; exact hne rfl)).symm
  · have hlen : a.length = b.length := by omega
    refine ⟨fun k δ M => ∃ i, i ≤ a.length ∧ k = a.length - i ∧ M = DMem.mt ∧ δ 0 = slD Ins.c a ∧ δ 1 = slD Ins.c b ∧ δ 5 = .int .i64 i ∧ (∀ j (h1 : j < a.length) (h2 : j < b.length), j < i → a[j] = b[j]),
      a.length, ⟨0, Nat.zero_le _, rfl, rfl, rfl, rfl, rfl, fun j _ _ hj => absurd hj (by omega)⟩, ?_⟩
    rintro k δ M ⟨i, hi, rfl, rfl, h0, h1, h5, hj⟩
    simp only [S1_swagelaw0_SameInss, MU_swagelaw0_SameInss, h0, h1, h5, SW, wpD, evDL, evDM, evD, bldLD, List.contains_cons, List.contains_nil, Nat.reduceBEq, beq_self_eq_true, Nat.reduceMul, Nat.reduceSub, wpSp, Option.bind_some, Option.some.injEq, exists_eq_left', exists_eq_left, reduceIte, if_false, if_true, Nat.reduceEqDiff, Nat.reduceAdd, Nat.reduceLeDiff, Int.reduceEq, Int.reduceLT, Int.reduceLE, Int.reduceToNat, decide_true, decide_false, DV.bool.injEq, DV.int.injEq, DV.mp.injEq, DV.msl.injEq, DV.tup.injEq, DV.agg.injEq, DV.fn.injEq, true_implies, forall_const, reduceCtorEq, implies_true, ne_eq, DMem.mt, decide_eq_true_eq, decide_eq_false_iff_not]
    refine ⟨fun h => ?_, fun h => ?_⟩
    · have hlt : i < a.length := by omega
      have hlt' : i < b.length := by omega
      simp only [ix_slD Ins.len hlt, ix_slD Ins.len hlt', h0, h1, h5, w64s (show i < 4611686018427387905 by omega), SW, wpD, evDL, evDM, evD, bldLD, List.contains_cons, List.contains_nil, Nat.reduceBEq, beq_self_eq_true, Nat.reduceMul, Nat.reduceSub, wpSp, Option.bind_some, Option.some.injEq, exists_eq_left', exists_eq_left, reduceIte, if_false, if_true, Nat.reduceEqDiff, Nat.reduceAdd, Nat.reduceLeDiff, Int.reduceEq, Int.reduceLT, Int.reduceLE, Int.reduceToNat, decide_true, decide_false, DV.bool.injEq, DV.int.injEq, DV.mp.injEq, DV.msl.injEq, DV.tup.injEq, DV.agg.injEq, DV.fn.injEq, true_implies, forall_const, reduceCtorEq, implies_true, ne_eq, DMem.mt, decide_eq_true_eq, decide_eq_false_iff_not]
      simp only [eqs2, h0, h1, h5, w64s (show i < 4611686018427387905 by omega), SW, wpD, evDL, evDM, evD, bldLD, List.contains_cons, List.contains_nil, Nat.reduceBEq, beq_self_eq_true, Nat.reduceMul, Nat.reduceSub, wpSp, Option.bind_some, Option.some.injEq, exists_eq_left', exists_eq_left, reduceIte, if_false, if_true, Nat.reduceEqDiff, Nat.reduceAdd, Nat.reduceLeDiff, Int.reduceEq, Int.reduceLT, Int.reduceLE, Int.reduceToNat, decide_true, decide_false, DV.bool.injEq, DV.int.injEq, DV.mp.injEq, DV.msl.injEq, DV.tup.injEq, DV.agg.injEq, DV.fn.injEq, true_implies, forall_const, reduceCtorEq, implies_true, ne_eq, DMem.mt]
      refine ⟨fun hne => (decide_eq_false (by rintro rfl; simp at hne)).symm, fun he => ⟨a.length - (i + 1), DMem.mt, by omega, SubD.refl _, i + 1, by omega, rfl, rfl, rfl, fun j g1 g2 hji => ?_⟩⟩
      rcases Nat.lt_or_ge j i with h2 | h2
      · exact hj j g1 g2 h2
      · have : j = i := by omega
        subst this
        simp only [Bool.not_eq_eq_eq_not, Bool.not_false, Bool.and_eq_true, beq_iff_eq] at he
        cases hx : a[j]; cases hy : b[j]
        simp only [hx, hy] at he
        simp [he]
    · exact (decide_eq_true (same_all hlen fun j g1 g2 => hj j g1 g2 (by omega))).symm
theorem NumF_pf (n : Int) : pf Try.prog F_swagelaw0_Num [.int .i64 n] = some (.int .i64 n) := by
  refine pf_of (v := .int _ _) (pc_swagelaw0_Num (by simp) ?_) (FrozL.nil.cons (Froz.int _ _)) rfl rfl
  simp only [S_swagelaw0_Num, R_swagelaw0_Num, MU_swagelaw0_Num, MU_swagelaw0_Num, SW, wpD, evDL, evDM, evD, bldLD, List.contains_cons, List.contains_nil, Nat.reduceBEq, beq_self_eq_true, Nat.reduceMul, Nat.reduceSub, wpSp, Option.bind_some, Option.some.injEq, exists_eq_left', exists_eq_left, reduceIte, if_false, if_true, Nat.reduceEqDiff, Nat.reduceAdd, Nat.reduceLeDiff, Int.reduceEq, Int.reduceLT, Int.reduceLE, Int.reduceToNat, decide_true, decide_false, DV.bool.injEq, DV.int.injEq, DV.mp.injEq, DV.msl.injEq, DV.tup.injEq, DV.agg.injEq, DV.fn.injEq, true_implies, forall_const, reduceCtorEq, implies_true, ne_eq, DMem.mt]
end Go.Proofs.Ytaifmmeghninhaa.Pf
