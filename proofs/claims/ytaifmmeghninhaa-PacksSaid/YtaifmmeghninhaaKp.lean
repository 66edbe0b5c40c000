/- PackSizes: the law at every input. No condition. -/
import Derived.Test.YtaifmmeghninhaaKo
namespace Go.Proofs.Ytaifmmeghninhaa.Pf
open Go Go.RowKit Go.Proofs Go.Proofs.Ytaifmmeghninhaa.Mw Go.Proofs.Ytaifmmeghninhaa.Sx
set_option linter.unusedVariables false
set_option linter.unusedSimpArgs false
set_option maxRecDepth 4000
theorem insB_size (x : Ins) : (insB x).length = if x.kind = 0 then 5 else if hasB x.kind = true then 2 else 1 := by
  unfold insB
  by_cases h : x.kind = 0
  · simp [h]
  · by_cases h2 : hasB x.kind = true <;> simp [h, h2]
theorem PackSizes_pc (p : List Fnc) (hp : SizeP p) : PC Try.prog F_swagelaw3_PackSizes [.agg [slD Fnc.c p]] (fun d _ => d = .bool true) DMem.mt := by
  refine pc_swagelaw3_PackSizes (by simp) ?_
  simp only [S_swagelaw3_PackSizes, R_swagelaw3_PackSizes, MU_swagelaw3_PackSizes, ldnI1, awake_pf, SW, wpD, evDL, evDM, evD, bldLD, List.contains_cons, List.contains_nil, Nat.reduceBEq, beq_self_eq_true, Nat.reduceMul, Nat.reduceSub, wpSp, Option.bind_some, Option.some.injEq, exists_eq_left', exists_eq_left, reduceIte, if_false, if_true, Nat.reduceEqDiff, Nat.reduceAdd, Nat.reduceLeDiff, Int.reduceEq, Int.reduceLT, Int.reduceLE, Int.reduceToNat, decide_true, decide_false, DV.bool.injEq, DV.int.injEq, DV.mp.injEq, DV.msl.injEq, DV.tup.injEq, DV.agg.injEq, DV.fn.injEq, true_implies, forall_const, reduceCtorEq, implies_true, ne_eq, DMem.mt]
  refine PC.of_pf (by simp only [List.map_cons, List.map_nil, fz_agg, fz_prg]; exact Put_pf p) ?_
  obtain ⟨hpk, he⟩ | ⟨hpk, he⟩ := putR_cases p
  · rw [he]
    obtain ⟨hp1, hp8, hall⟩ := packB_in hpk
    have hlen := putB_len hpk
    have hfn : ∀ f ∈ p, f.code.length ≤ 64 := fun f hf => (fnB_in (List.all_eq_true.1 hall f hf)).2.2.2.2.2.1
    simp only [S4_swagelaw3_PackSizes, MU_swagelaw3_PackSizes, NumF_pf, SW, wpD, evDL, evDM, evD, bldLD, List.contains_cons, List.contains_nil, Nat.reduceBEq, beq_self_eq_true, Nat.reduceMul, Nat.reduceSub, wpSp, Option.bind_some, Option.some.injEq, exists_eq_left', exists_eq_left, reduceIte, if_false, if_true, Nat.reduceEqDiff, Nat.reduceAdd, Nat.reduceLeDiff, Int.reduceEq, Int.reduceLT, Int.reduceLE, Int.reduceToNat, decide_true, decide_false, DV.bool.injEq, DV.int.injEq, DV.mp.injEq, DV.msl.injEq, DV.tup.injEq, DV.agg.injEq, DV.fn.injEq, true_implies, forall_const, reduceCtorEq, implies_true, ne_eq, DMem.mt]
    refine ⟨fun k δ M => ∃ i, i ≤ p.length ∧ k = p.length - i ∧ δ 1 = .ip [slD Fnc.c p] ∧ δ 3 = .str (bstr (putB p)) ∧ δ 6 = .int .i64 i ∧ δ 5 = .int .i64 ((4 + ((p.take i).flatMap fncB).length : Nat) : Int), p.length, ⟨0, Nat.zero_le _, rfl, rfl, rfl, rfl, rfl⟩, ?_⟩
    rintro k δ M ⟨i, hi, rfl, h1, h3, h6, h5⟩
    simp only [S2_swagelaw3_PackSizes, MU_swagelaw3_PackSizes, h1, h3, h5, h6, SW, wpD, evDL, evDM, evD, bldLD, List.contains_cons, List.contains_nil, Nat.reduceBEq, beq_self_eq_true, Nat.reduceMul, Nat.reduceSub, wpSp, Option.bind_some, Option.some.injEq, exists_eq_left', exists_eq_left, reduceIte, if_false, if_true, Nat.reduceEqDiff, Nat.reduceAdd, Nat.reduceLeDiff, Int.reduceEq, Int.reduceLT, Int.reduceLE, Int.reduceToNat, decide_true, decide_false, DV.bool.injEq, DV.int.injEq, DV.mp.injEq, DV.msl.injEq, DV.tup.injEq, DV.agg.injEq, DV.fn.injEq, true_implies, forall_const, reduceCtorEq, implies_true, ne_eq, DMem.mt, decide_eq_true_eq, decide_eq_false_iff_not]
    refine ⟨fun hlt => ?_, fun hge => ?_⟩
    · have hip : i < p.length := by omega
      have hfl := fncs_len (l := p.take i) fun f hf => hfn f (List.mem_of_mem_take hf)
      have hil : (p.take i).length ≤ 8 := by simp; omega
      have hf64 := hfn _ (List.getElem_mem hip)
      have e3 : wr64 (((4 + ((p.take i).flatMap fncB).length : Nat) : Int) + 3) = ((4 + ((p.take i).flatMap fncB).length + 3 : Nat) : Int) := by rw [w64 (by omega)]; omega
      simp only [h1, h3, h6, e3, SW, wpD, evDL, evDM, evD, bldLD, List.contains_cons, List.contains_nil, Nat.reduceBEq, beq_self_eq_true, Nat.reduceMul, Nat.reduceSub, wpSp, Option.bind_some, Option.some.injEq, exists_eq_left', exists_eq_left, reduceIte, if_false, if_true, Nat.reduceEqDiff, Nat.reduceAdd, Nat.reduceLeDiff, Int.reduceEq, Int.reduceLT, Int.reduceLE, Int.reduceToNat, decide_true, decide_false, DV.bool.injEq, DV.int.injEq, DV.mp.injEq, DV.msl.injEq, DV.tup.injEq, DV.agg.injEq, DV.fn.injEq, true_implies, forall_const, reduceCtorEq, implies_true, ne_eq, DMem.mt]
      refine ⟨fun k δ M => ∃ j, j ≤ p[i].code.length ∧ k = p[i].code.length - j ∧ δ 1 = .ip [slD Fnc.c p] ∧ δ 3 = .str (bstr (putB p)) ∧ δ 6 = .int .i64 i ∧ δ 7 = .int .i64 j ∧ δ 5 = .int .i64 ((4 + ((p.take i).flatMap fncB).length + 3 + ((p[i].code.take j).flatMap insB).length : Nat) : Int), p[i].code.length, ⟨0, Nat.zero_le _, rfl, h1, h3, h6, rfl, rfl⟩, ?_⟩
      clear h1 h3 h6 h5
      rintro k δ M ⟨j, hj, rfl, h1, h3, h6, h7, h5⟩
      have hil2 := inss_len (p[i].code.take j)
      have hjl : (p[i].code.take j).length ≤ 64 := by simp; omega
      simp only [S1_swagelaw3_PackSizes, MU_swagelaw3_PackSizes, ix_slD Fnc.len hip, h1, h3, h5, h6, h7, SW, wpD, evDL, evDM, evD, bldLD, List.contains_cons, List.contains_nil, Nat.reduceBEq, beq_self_eq_true, Nat.reduceMul, Nat.reduceSub, wpSp, Option.bind_some, Option.some.injEq, exists_eq_left', exists_eq_left, reduceIte, if_false, if_true, Nat.reduceEqDiff, Nat.reduceAdd, Nat.reduceLeDiff, Int.reduceEq, Int.reduceLT, Int.reduceLE, Int.reduceToNat, decide_true, decide_false, DV.bool.injEq, DV.int.injEq, DV.mp.injEq, DV.msl.injEq, DV.tup.injEq, DV.agg.injEq, DV.fn.injEq, true_implies, forall_const, reduceCtorEq, implies_true, ne_eq, DMem.mt, decide_eq_true_eq, decide_eq_false_iff_not]
      refine ⟨fun hlt2 => ?_, fun hge2 => ?_⟩
      · have hjp : j < p[i].code.length := by omega
        have hsz := insB_size p[i].code[j]
        have hadd : ∀ n : Nat, (insB p[i].code[j]).length = n → ((4 + ((p.take i).flatMap fncB).length + 3 + ((p[i].code.take (j + 1)).flatMap insB).length : Nat) : Int) = wr64 (((4 + ((p.take i).flatMap fncB).length + 3 + ((p[i].code.take j).flatMap insB).length : Nat) : Int) + n) := fun n hn => by
          have hn5 := insB_len p[i].code[j]
          rw [flat_take insB p[i].code hjp, List.length_append, hn, w64 (by omega)]; omega
        have fin : ∀ (n : Nat), (insB p[i].code[j]).length = n → ∃ k', k' < p[i].code.length - j ∧ SubD M M ∧ ∃ j', j' ≤ p[i].code.length ∧ k' = p[i].code.length - j' ∧ wr64 ((j : Int) + 1) = (j' : Int) ∧ wr64 (((4 + ((p.take i).flatMap fncB).length + 3 + ((p[i].code.take j).flatMap insB).length : Nat) : Int) + n) = ((4 + ((p.take i).flatMap fncB).length + 3 + ((p[i].code.take j').flatMap insB).length : Nat) : Int) :=
          fun n hn => ⟨p[i].code.length - (j + 1), by omega, SubD.refl _, j + 1, by omega, rfl, w64s (show j < 4611686018427387905 by omega), (hadd n hn).symm⟩
        simp only [ix_slD Ins.len hjp, h1, h3, h5, h6, h7, SW, wpD, evDL, evDM, evD, bldLD, List.contains_cons, List.contains_nil, Nat.reduceBEq, beq_self_eq_true, Nat.reduceMul, Nat.reduceSub, wpSp, Option.bind_some, Option.some.injEq, exists_eq_left', exists_eq_left, reduceIte, if_false, if_true, Nat.reduceEqDiff, Nat.reduceAdd, Nat.reduceLeDiff, Int.reduceEq, Int.reduceLT, Int.reduceLE, Int.reduceToNat, decide_true, decide_false, DV.bool.injEq, DV.int.injEq, DV.mp.injEq, DV.msl.injEq, DV.tup.injEq, DV.agg.injEq, DV.fn.injEq, true_implies, forall_const, reduceCtorEq, implies_true, ne_eq, DMem.mt, decide_eq_true_eq, decide_eq_false_iff_not]
        have hbe : (decide (p[i].code[j].kind = 1) || (decide (p[i].code[j].kind = 2) || (decide (p[i].code[j].kind = 12) || (decide (p[i].code[j].kind = 13) || decide (p[i].code[j].kind = 14))))) = hasB p[i].code[j].kind := by unfold hasB; simp only [Bool.or_assoc]
        rw [hbe]
        refine ⟨fun hk => ?_, fun hk => ⟨fun hh => ?_, fun hh => ?_⟩⟩
        · obtain ⟨k', h⟩ := fin 5 (by rw [hsz, if_pos hk])
          exact ⟨k', M, h⟩
        · obtain ⟨k', h⟩ := fin 2 (by rw [hsz, if_neg hk, if_pos hh])
          exact ⟨k', M, h⟩
        · obtain ⟨k', h⟩ := fin 1 (by rw [hsz, if_neg hk, if_neg (by simp [hh])])
          exact ⟨k', M, h⟩
      · have hjl : j = p[i].code.length := by omega
        subst hjl
        rw [List.take_length] at h5
        try simp only [h1, h3, h5, h6, h7, w64s (show i < 4611686018427387905 by omega), SW, wpD, evDL, evDM, evD, bldLD, List.contains_cons, List.contains_nil, Nat.reduceBEq, beq_self_eq_true, Nat.reduceMul, Nat.reduceSub, wpSp, Option.bind_some, Option.some.injEq, exists_eq_left', exists_eq_left, reduceIte, if_false, if_true, Nat.reduceEqDiff, Nat.reduceAdd, Nat.reduceLeDiff, Int.reduceEq, Int.reduceLT, Int.reduceLE, Int.reduceToNat, decide_true, decide_false, DV.bool.injEq, DV.int.injEq, DV.mp.injEq, DV.msl.injEq, DV.tup.injEq, DV.agg.injEq, DV.fn.injEq, true_implies, forall_const, reduceCtorEq, implies_true, ne_eq, DMem.mt]
        refine ⟨p.length - (i + 1), M, by omega, SubD.refl _, i + 1, by omega, rfl, rfl, ?_⟩
        rw [flat_take fncB p hip]
        simp only [fncB, List.length_append, List.length_cons, List.take_length]
        omega
    · have hil : i = p.length := by omega
      subst hil
      rw [List.take_length] at h5
      have el : (putB p).length = 4 + (p.flatMap fncB).length := by simp only [putB, List.length_cons]; omega
      have e1 : ((4 + (p.flatMap fncB).length : Nat) : Int) ≤ 4096 := by omega
      simp only [S3_swagelaw3_PackSizes, MU_swagelaw3_PackSizes, h3, h5, bstr_slen, el, e1, SW, wpD, evDL, evDM, evD, bldLD, List.contains_cons, List.contains_nil, Nat.reduceBEq, beq_self_eq_true, Nat.reduceMul, Nat.reduceSub, wpSp, Option.bind_some, Option.some.injEq, exists_eq_left', exists_eq_left, reduceIte, if_false, if_true, Nat.reduceEqDiff, Nat.reduceAdd, Nat.reduceLeDiff, Int.reduceEq, Int.reduceLT, Int.reduceLE, Int.reduceToNat, decide_true, decide_false, DV.bool.injEq, DV.int.injEq, DV.mp.injEq, DV.msl.injEq, DV.tup.injEq, DV.agg.injEq, DV.fn.injEq, true_implies, forall_const, reduceCtorEq, implies_true, ne_eq, DMem.mt]
  · rw [he]
    simp only [S4_swagelaw3_PackSizes, MU_swagelaw3_PackSizes, NumF_pf, bstr_nil, bstr_list, beq_dec, SW, wpD, evDL, evDM, evD, bldLD, List.contains_cons, List.contains_nil, Nat.reduceBEq, beq_self_eq_true, Nat.reduceMul, Nat.reduceSub, wpSp, Option.bind_some, Option.some.injEq, exists_eq_left', exists_eq_left, reduceIte, if_false, if_true, Nat.reduceEqDiff, Nat.reduceAdd, Nat.reduceLeDiff, Int.reduceEq, Int.reduceLT, Int.reduceLE, Int.reduceToNat, decide_true, decide_false, DV.bool.injEq, DV.int.injEq, DV.mp.injEq, DV.msl.injEq, DV.tup.injEq, DV.agg.injEq, DV.fn.injEq, true_implies, forall_const, reduceCtorEq, implies_true, ne_eq, DMem.mt]
end Go.Proofs.Ytaifmmeghninhaa.Pf
