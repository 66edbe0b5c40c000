/- The flow of control: the document's leaders. No condition. -/
import Derived.Test.YtggejjeneoaakaaQd
namespace Go.Proofs.Ytggejjeneoaakaa.Pf
open Go Go.RowKit Go.Proofs Go.Proofs.Ytggejjeneoaakaa.Mw Go.Proofs.Ytggejjeneoaakaa.Sx
set_option linter.unusedVariables false
set_option linter.unusedSimpArgs false
set_option maxRecDepth 4000
theorem LeadersR_pu (f : Fnc) : Pu Try.prog F_swageref1_Leaders [.agg f.c] (.tup [slB (leadR f).1, .int .i64 (leadR f).2]) := by
  refine Pu.of (pc_swageref1_Leaders (by simp) ?_)
  simp only [S_swageref1_Leaders, R_swageref1_Leaders, MU_swageref1_Leaders, fz_ins, fz_fnca, FuncMay_pf, SW, wpD, evDL, evDM, evD, bldLD, List.contains_cons, List.contains_nil, Nat.reduceBEq, beq_self_eq_true, Nat.reduceMul, Nat.reduceSub, wpSp, Option.bind_some, Option.some.injEq, exists_eq_left', exists_eq_left, reduceIte, if_false, if_true, Nat.reduceEqDiff, Nat.reduceAdd, Nat.reduceLeDiff, Int.reduceEq, Int.reduceLT, Int.reduceLE, Int.reduceToNat, decide_true, decide_false, DV.bool.injEq, DV.int.injEq, DV.mp.injEq, DV.msl.injEq, DV.tup.injEq, DV.agg.injEq, DV.fn.injEq, true_implies, forall_const, reduceCtorEq, implies_true, ne_eq, DMem.mt]
  refine ⟨fun h => ?_, fun h => ?_⟩
  · have e : leadR f = ([], 400) := by simp only [Bool.not_eq_true'] at h; simp only [leadR, h]; rfl
    rw [e]
    rfl
  · simp only [Bool.not_eq_false'] at h
    have e : leadR f = (leadF f.code, 0) := by simp only [leadR, h]; rfl
    obtain ⟨hl1, hl2⟩ := fmay_le h
    rw [e]
    refine mkB (by omega) fun p M' _ hM => ?_
    have hMp : M' p = some ⟨4, f.code.length, (List.replicate f.code.length false).map .bool⟩ := by rw [hM, DMem.ins_same]
    simp only [ixM0 (show 0 < f.code.length by omega), SW, wpD, evDL, evDM, evD, bldLD, List.contains_cons, List.contains_nil, Nat.reduceBEq, beq_self_eq_true, Nat.reduceMul, Nat.reduceSub, wpSp, Option.bind_some, Option.some.injEq, exists_eq_left', exists_eq_left, reduceIte, if_false, if_true, Nat.reduceEqDiff, Nat.reduceAdd, Nat.reduceLeDiff, Int.reduceEq, Int.reduceLT, Int.reduceLE, Int.reduceToNat, decide_true, decide_false, DV.bool.injEq, DV.int.injEq, DV.mp.injEq, DV.msl.injEq, DV.tup.injEq, DV.agg.injEq, DV.fn.injEq, true_implies, forall_const, reduceCtorEq, implies_true, ne_eq, DMem.mt]
    refine stB hMp (by simp; omega) (by simp) fun M1 hM1 => ?_
    try simp only [SW, wpD, evDL, evDM, evD, bldLD, List.contains_cons, List.contains_nil, Nat.reduceBEq, beq_self_eq_true, Nat.reduceMul, Nat.reduceSub, wpSp, Option.bind_some, Option.some.injEq, exists_eq_left', exists_eq_left, reduceIte, if_false, if_true, Nat.reduceEqDiff, Nat.reduceAdd, Nat.reduceLeDiff, Int.reduceEq, Int.reduceLT, Int.reduceLE, Int.reduceToNat, decide_true, decide_false, DV.bool.injEq, DV.int.injEq, DV.mp.injEq, DV.msl.injEq, DV.tup.injEq, DV.agg.injEq, DV.fn.injEq, true_implies, forall_const, reduceCtorEq, implies_true, ne_eq, DMem.mt]
    refine ⟨fun k δ M => ∃ i, i ≤ f.code.length ∧ k = f.code.length - i ∧ M p = some ⟨4, f.code.length, (leadL f.code i).map .bool⟩ ∧ δ 1 = .ip f.c ∧ δ 4 = .msl p 0 f.code.length f.code.length ∧ δ 5 = .int .i64 i,
      f.code.length, ⟨0, Nat.zero_le _, rfl, by rw [hM1, DMem.ins_same]; rfl, rfl, rfl, rfl⟩, ?_⟩
    rintro k δ M ⟨i, hi, rfl, hL, h1, h4, h5⟩
    have hLl := leadL_len f.code i
    simp only [S1_swageref1_Leaders, MU_swageref1_Leaders, h1, h4, h5, SW, wpD, evDL, evDM, evD, bldLD, List.contains_cons, List.contains_nil, Nat.reduceBEq, beq_self_eq_true, Nat.reduceMul, Nat.reduceSub, wpSp, Option.bind_some, Option.some.injEq, exists_eq_left', exists_eq_left, reduceIte, if_false, if_true, Nat.reduceEqDiff, Nat.reduceAdd, Nat.reduceLeDiff, Int.reduceEq, Int.reduceLT, Int.reduceLE, Int.reduceToNat, decide_true, decide_false, DV.bool.injEq, DV.int.injEq, DV.mp.injEq, DV.msl.injEq, DV.tup.injEq, DV.agg.injEq, DV.fn.injEq, true_implies, forall_const, reduceCtorEq, implies_true, ne_eq, DMem.mt, decide_eq_true_eq, decide_eq_false_iff_not]
    refine ⟨fun hlt => ?_, fun hge => ?_⟩
    · have hlt' : i < f.code.length := by omega
      have hi62 : i < 4611686018427387905 := by omega
      have hsuc := leadL_succ hlt'
      generalize leadL f.code i = L at hL hLl hsuc
      have fin : ∀ (M' : DMem) (L2 : List Bool), M' p = some ⟨4, f.code.length, L2.map .bool⟩ → L2 = leadS L i f.code[i] → M' p = some ⟨4, f.code.length, (leadL f.code (i + 1)).map .bool⟩ := fun M' L2 h e => by rw [hsuc, ← e]; exact h
      by_cases hk : f.code[i].kind = 12 ∨ f.code[i].kind = 13
      · have hj := may_jump (fmay_ins h hlt') hk
        obtain ⟨a, ha⟩ := Int.eq_ofNat_of_zero_le hj.1
        have hkd : (decide (f.code[i].kind = 12) || decide (f.code[i].kind = 13)) = true := by simpa using hk
        have hk3 : f.code[i].kind = 12 ∨ f.code[i].kind = 13 ∨ f.code[i].kind = 16 := by omega
        by_cases hal : a < f.code.length
        · have hal' : (a : Int) < f.code.length := by omega
          by_cases hi1 : i + 1 < f.code.length
          · have hi1' : ((i + 1 : Nat) : Int) < f.code.length := by omega
            simp only [ix_slD Ins.len hlt', h1, h4, h5, hkd, ha, decide_eq_true hal', decide_eq_true hi1', w64s hi62, ixM hi1, ixM hal, SW, wpD, evDL, evDM, evD, bldLD, List.contains_cons, List.contains_nil, Nat.reduceBEq, beq_self_eq_true, Nat.reduceMul, Nat.reduceSub, wpSp, Option.bind_some, Option.some.injEq, exists_eq_left', exists_eq_left, reduceIte, if_false, if_true, Nat.reduceEqDiff, Nat.reduceAdd, Nat.reduceLeDiff, Int.reduceEq, Int.reduceLT, Int.reduceLE, Int.reduceToNat, decide_true, decide_false, DV.bool.injEq, DV.int.injEq, DV.mp.injEq, DV.msl.injEq, DV.tup.injEq, DV.agg.injEq, DV.fn.injEq, true_implies, forall_const, reduceCtorEq, implies_true, ne_eq, DMem.mt]
            refine stB hL (by omega) (by omega) fun M4 hM4 => ?_
            try simp only [SW, wpD, evDL, evDM, evD, bldLD, List.contains_cons, List.contains_nil, Nat.reduceBEq, beq_self_eq_true, Nat.reduceMul, Nat.reduceSub, wpSp, Option.bind_some, Option.some.injEq, exists_eq_left', exists_eq_left, reduceIte, if_false, if_true, Nat.reduceEqDiff, Nat.reduceAdd, Nat.reduceLeDiff, Int.reduceEq, Int.reduceLT, Int.reduceLE, Int.reduceToNat, decide_true, decide_false, DV.bool.injEq, DV.int.injEq, DV.mp.injEq, DV.msl.injEq, DV.tup.injEq, DV.agg.injEq, DV.fn.injEq, true_implies, forall_const, reduceCtorEq, implies_true, ne_eq, DMem.mt]
            refine stB (hM4 ▸ DMem.ins_same _ _ _) (by simp; omega) (by simp; omega) fun M5 hM5 => ?_
            try simp only [h1, h4, h5, w64s hi62, SW, wpD, evDL, evDM, evD, bldLD, List.contains_cons, List.contains_nil, Nat.reduceBEq, beq_self_eq_true, Nat.reduceMul, Nat.reduceSub, wpSp, Option.bind_some, Option.some.injEq, exists_eq_left', exists_eq_left, reduceIte, if_false, if_true, Nat.reduceEqDiff, Nat.reduceAdd, Nat.reduceLeDiff, Int.reduceEq, Int.reduceLT, Int.reduceLE, Int.reduceToNat, decide_true, decide_false, DV.bool.injEq, DV.int.injEq, DV.mp.injEq, DV.msl.injEq, DV.tup.injEq, DV.agg.injEq, DV.fn.injEq, true_implies, forall_const, reduceCtorEq, implies_true, ne_eq, DMem.mt]
            exact ⟨f.code.length - (i + 1), M5, by omega, SubD.refl _, i + 1, by omega, rfl, fin M5 ((L.set a true).set (i + 1) true) (by rw [hM5, DMem.ins_same]) (by simp only [leadS, if_pos hk, if_pos hk3, ha, Int.toNat_natCast]), rfl⟩
          · have hi1' : ¬ ((i + 1 : Nat) : Int) < f.code.length := by omega
            simp only [ix_slD Ins.len hlt', h1, h4, h5, hkd, ha, decide_eq_true hal', decide_eq_false hi1', w64s hi62, ixM hal, SW, wpD, evDL, evDM, evD, bldLD, List.contains_cons, List.contains_nil, Nat.reduceBEq, beq_self_eq_true, Nat.reduceMul, Nat.reduceSub, wpSp, Option.bind_some, Option.some.injEq, exists_eq_left', exists_eq_left, reduceIte, if_false, if_true, Nat.reduceEqDiff, Nat.reduceAdd, Nat.reduceLeDiff, Int.reduceEq, Int.reduceLT, Int.reduceLE, Int.reduceToNat, decide_true, decide_false, DV.bool.injEq, DV.int.injEq, DV.mp.injEq, DV.msl.injEq, DV.tup.injEq, DV.agg.injEq, DV.fn.injEq, true_implies, forall_const, reduceCtorEq, implies_true, ne_eq, DMem.mt]
            refine stB hL (by omega) (by omega) fun M5 hM5 => ?_
            try simp only [h1, h4, h5, w64s hi62, SW, wpD, evDL, evDM, evD, bldLD, List.contains_cons, List.contains_nil, Nat.reduceBEq, beq_self_eq_true, Nat.reduceMul, Nat.reduceSub, wpSp, Option.bind_some, Option.some.injEq, exists_eq_left', exists_eq_left, reduceIte, if_false, if_true, Nat.reduceEqDiff, Nat.reduceAdd, Nat.reduceLeDiff, Int.reduceEq, Int.reduceLT, Int.reduceLE, Int.reduceToNat, decide_true, decide_false, DV.bool.injEq, DV.int.injEq, DV.mp.injEq, DV.msl.injEq, DV.tup.injEq, DV.agg.injEq, DV.fn.injEq, true_implies, forall_const, reduceCtorEq, implies_true, ne_eq, DMem.mt]
            exact ⟨f.code.length - (i + 1), M5, by omega, SubD.refl _, i + 1, by omega, rfl, fin M5 (L.set a true) (by rw [hM5, DMem.ins_same]) (by simp only [leadS, if_pos hk, if_pos hk3, ha, Int.toNat_natCast]; rw [List.set_eq_of_length_le (i := i + 1) (by simp; omega)]), rfl⟩
        · have hal' : ¬ (a : Int) < f.code.length := by omega
          by_cases hi1 : i + 1 < f.code.length
          · have hi1' : ((i + 1 : Nat) : Int) < f.code.length := by omega
            simp only [ix_slD Ins.len hlt', h1, h4, h5, hkd, ha, decide_eq_false hal', decide_eq_true hi1', w64s hi62, ixM hi1, SW, wpD, evDL, evDM, evD, bldLD, List.contains_cons, List.contains_nil, Nat.reduceBEq, beq_self_eq_true, Nat.reduceMul, Nat.reduceSub, wpSp, Option.bind_some, Option.some.injEq, exists_eq_left', exists_eq_left, reduceIte, if_false, if_true, Nat.reduceEqDiff, Nat.reduceAdd, Nat.reduceLeDiff, Int.reduceEq, Int.reduceLT, Int.reduceLE, Int.reduceToNat, decide_true, decide_false, DV.bool.injEq, DV.int.injEq, DV.mp.injEq, DV.msl.injEq, DV.tup.injEq, DV.agg.injEq, DV.fn.injEq, true_implies, forall_const, reduceCtorEq, implies_true, ne_eq, DMem.mt]
            refine stB hL (by omega) (by omega) fun M5 hM5 => ?_
            try simp only [h1, h4, h5, w64s hi62, SW, wpD, evDL, evDM, evD, bldLD, List.contains_cons, List.contains_nil, Nat.reduceBEq, beq_self_eq_true, Nat.reduceMul, Nat.reduceSub, wpSp, Option.bind_some, Option.some.injEq, exists_eq_left', exists_eq_left, reduceIte, if_false, if_true, Nat.reduceEqDiff, Nat.reduceAdd, Nat.reduceLeDiff, Int.reduceEq, Int.reduceLT, Int.reduceLE, Int.reduceToNat, decide_true, decide_false, DV.bool.injEq, DV.int.injEq, DV.mp.injEq, DV.msl.injEq, DV.tup.injEq, DV.agg.injEq, DV.fn.injEq, true_implies, forall_const, reduceCtorEq, implies_true, ne_eq, DMem.mt]
            exact ⟨f.code.length - (i + 1), M5, by omega, SubD.refl _, i + 1, by omega, rfl, fin M5 (L.set (i + 1) true) (by rw [hM5, DMem.ins_same]) (by simp only [leadS, if_pos hk, if_pos hk3, ha, Int.toNat_natCast]; rw [List.set_eq_of_length_le (i := a) (by omega)]), rfl⟩
          · have hi1' : ¬ ((i + 1 : Nat) : Int) < f.code.length := by omega
            simp only [ix_slD Ins.len hlt', h1, h4, h5, hkd, ha, decide_eq_false hal', decide_eq_false hi1', w64s hi62, SW, wpD, evDL, evDM, evD, bldLD, List.contains_cons, List.contains_nil, Nat.reduceBEq, beq_self_eq_true, Nat.reduceMul, Nat.reduceSub, wpSp, Option.bind_some, Option.some.injEq, exists_eq_left', exists_eq_left, reduceIte, if_false, if_true, Nat.reduceEqDiff, Nat.reduceAdd, Nat.reduceLeDiff, Int.reduceEq, Int.reduceLT, Int.reduceLE, Int.reduceToNat, decide_true, decide_false, DV.bool.injEq, DV.int.injEq, DV.mp.injEq, DV.msl.injEq, DV.tup.injEq, DV.agg.injEq, DV.fn.injEq, true_implies, forall_const, reduceCtorEq, implies_true, ne_eq, DMem.mt]
            exact ⟨f.code.length - (i + 1), M, by omega, SubD.refl _, i + 1, by omega, rfl, fin M L hL (by simp only [leadS, if_pos hk, if_pos hk3, ha, Int.toNat_natCast]; rw [List.set_eq_of_length_le (i := a) (by omega), List.set_eq_of_length_le (i := i + 1) (by omega)]), rfl⟩
      · have hkd : (decide (f.code[i].kind = 12) || decide (f.code[i].kind = 13)) = false := by simpa using hk
        by_cases hk16 : f.code[i].kind = 16
        · have hk3 : f.code[i].kind = 12 ∨ f.code[i].kind = 13 ∨ f.code[i].kind = 16 := .inr (.inr hk16)
          by_cases hi1 : i + 1 < f.code.length
          · have hi1' : ((i + 1 : Nat) : Int) < f.code.length := by omega
            simp only [ix_slD Ins.len hlt', h1, h4, h5, hkd, decide_eq_true hk16, decide_eq_true hi1', w64s hi62, ixM hi1, SW, wpD, evDL, evDM, evD, bldLD, List.contains_cons, List.contains_nil, Nat.reduceBEq, beq_self_eq_true, Nat.reduceMul, Nat.reduceSub, wpSp, Option.bind_some, Option.some.injEq, exists_eq_left', exists_eq_left, reduceIte, if_false, if_true, Nat.reduceEqDiff, Nat.reduceAdd, Nat.reduceLeDiff, Int.reduceEq, Int.reduceLT, Int.reduceLE, Int.reduceToNat, decide_true, decide_false, DV.bool.injEq, DV.int.injEq, DV.mp.injEq, DV.msl.injEq, DV.tup.injEq, DV.agg.injEq, DV.fn.injEq, true_implies, forall_const, reduceCtorEq, implies_true, ne_eq, DMem.mt]
            refine stB hL (by omega) (by omega) fun M5 hM5 => ?_
            try simp only [h1, h4, h5, w64s hi62, SW, wpD, evDL, evDM, evD, bldLD, List.contains_cons, List.contains_nil, Nat.reduceBEq, beq_self_eq_true, Nat.reduceMul, Nat.reduceSub, wpSp, Option.bind_some, Option.some.injEq, exists_eq_left', exists_eq_left, reduceIte, if_false, if_true, Nat.reduceEqDiff, Nat.reduceAdd, Nat.reduceLeDiff, Int.reduceEq, Int.reduceLT, Int.reduceLE, Int.reduceToNat, decide_true, decide_false, DV.bool.injEq, DV.int.injEq, DV.mp.injEq, DV.msl.injEq, DV.tup.injEq, DV.agg.injEq, DV.fn.injEq, true_implies, forall_const, reduceCtorEq, implies_true, ne_eq, DMem.mt]
            exact ⟨f.code.length - (i + 1), M5, by omega, SubD.refl _, i + 1, by omega, rfl, fin M5 (L.set (i + 1) true) (by rw [hM5, DMem.ins_same]) (by simp only [leadS, if_neg hk, if_pos hk3]), rfl⟩
          · have hi1' : ¬ ((i + 1 : Nat) : Int) < f.code.length := by omega
            simp only [ix_slD Ins.len hlt', h1, h4, h5, hkd, decide_eq_true hk16, decide_eq_false hi1', w64s hi62, SW, wpD, evDL, evDM, evD, bldLD, List.contains_cons, List.contains_nil, Nat.reduceBEq, beq_self_eq_true, Nat.reduceMul, Nat.reduceSub, wpSp, Option.bind_some, Option.some.injEq, exists_eq_left', exists_eq_left, reduceIte, if_false, if_true, Nat.reduceEqDiff, Nat.reduceAdd, Nat.reduceLeDiff, Int.reduceEq, Int.reduceLT, Int.reduceLE, Int.reduceToNat, decide_true, decide_false, DV.bool.injEq, DV.int.injEq, DV.mp.injEq, DV.msl.injEq, DV.tup.injEq, DV.agg.injEq, DV.fn.injEq, true_implies, forall_const, reduceCtorEq, implies_true, ne_eq, DMem.mt]
            exact ⟨f.code.length - (i + 1), M, by omega, SubD.refl _, i + 1, by omega, rfl, fin M L hL (by simp only [leadS, if_neg hk, if_pos hk3]; rw [List.set_eq_of_length_le (i := i + 1) (by omega)]), rfl⟩
        · have hk3 : ¬ (f.code[i].kind = 12 ∨ f.code[i].kind = 13 ∨ f.code[i].kind = 16) := by omega
          simp only [ix_slD Ins.len hlt', h1, h4, h5, hkd, decide_eq_false hk16, w64s hi62, SW, wpD, evDL, evDM, evD, bldLD, List.contains_cons, List.contains_nil, Nat.reduceBEq, beq_self_eq_true, Nat.reduceMul, Nat.reduceSub, wpSp, Option.bind_some, Option.some.injEq, exists_eq_left', exists_eq_left, reduceIte, if_false, if_true, Nat.reduceEqDiff, Nat.reduceAdd, Nat.reduceLeDiff, Int.reduceEq, Int.reduceLT, Int.reduceLE, Int.reduceToNat, decide_true, decide_false, DV.bool.injEq, DV.int.injEq, DV.mp.injEq, DV.msl.injEq, DV.tup.injEq, DV.agg.injEq, DV.fn.injEq, true_implies, forall_const, reduceCtorEq, implies_true, ne_eq, DMem.mt]
          exact ⟨f.code.length - (i + 1), M, by omega, SubD.refl _, i + 1, by omega, rfl, fin M L hL (by simp only [leadS, if_neg hk, if_neg hk3]), rfl⟩
    · have : i = f.code.length := by omega
      subst this
      simp only [S2_swageref1_Leaders, MU_swageref1_Leaders, h1, h4, h5, fz_msl hL, List.map_map, SW, wpD, evDL, evDM, evD, bldLD, List.contains_cons, List.contains_nil, Nat.reduceBEq, beq_self_eq_true, Nat.reduceMul, Nat.reduceSub, wpSp, Option.bind_some, Option.some.injEq, exists_eq_left', exists_eq_left, reduceIte, if_false, if_true, Nat.reduceEqDiff, Nat.reduceAdd, Nat.reduceLeDiff, Int.reduceEq, Int.reduceLT, Int.reduceLE, Int.reduceToNat, decide_true, decide_false, DV.bool.injEq, DV.int.injEq, DV.mp.injEq, DV.msl.injEq, DV.tup.injEq, DV.agg.injEq, DV.fn.injEq, true_implies, forall_const, reduceCtorEq, implies_true, ne_eq, DMem.mt]
      simp only [slB, leadF, leadL_len]
      rfl
end Go.Proofs.Ytggejjeneoaakaa.Pf
