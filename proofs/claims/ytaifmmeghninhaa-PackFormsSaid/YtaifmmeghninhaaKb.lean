/- The program's bytes: put. No condition. -/
import Derived.Test.YtaifmmeghninhaaKa
namespace Go.Proofs.Ytaifmmeghninhaa.Pf
open Go Go.RowKit Go.Proofs Go.Proofs.Ytaifmmeghninhaa.Mw Go.Proofs.Ytaifmmeghninhaa.Sx
set_option linter.unusedVariables false
set_option linter.unusedSimpArgs false
set_option maxRecDepth 4000
theorem has_pf (k : Int) : pf Try.prog F_pack_has [.int .i64 k] = some (.bool (hasB k)) := by
  refine pf_of (v := .bool _) (pc_pack_has (by simp) ?_) (FrozL.nil.cons (Froz.int _ _)) rfl rfl
  simp only [S_pack_has, R_pack_has, MU_pack_has, MU_pack_has, SW, wpD, evDL, evDM, evD, bldLD, List.contains_cons, List.contains_nil, Nat.reduceBEq, beq_self_eq_true, Nat.reduceMul, Nat.reduceSub, wpSp, Option.bind_some, Option.some.injEq, exists_eq_left', exists_eq_left, reduceIte, if_false, if_true, Nat.reduceEqDiff, Nat.reduceAdd, Nat.reduceLeDiff, Int.reduceEq, Int.reduceLT, Int.reduceLE, Int.reduceToNat, decide_true, decide_false, DV.bool.injEq, DV.int.injEq, DV.mp.injEq, DV.msl.injEq, DV.tup.injEq, DV.agg.injEq, DV.fn.injEq, true_implies, forall_const, reduceCtorEq, implies_true, ne_eq, DMem.mt, hasB]
  simp only [Bool.or_assoc]
  exact ⟨Eq.symm, Eq.symm⟩
theorem small_pf (k : Int) : pf Try.prog F_swageref1_small [.int .i64 k] = some (.bool (hasB k)) := by
  refine pf_of (v := .bool _) (pc_swageref1_small (by simp) ?_) (FrozL.nil.cons (Froz.int _ _)) rfl rfl
  simp only [S_swageref1_small, R_swageref1_small, MU_swageref1_small, MU_swageref1_small, SW, wpD, evDL, evDM, evD, bldLD, List.contains_cons, List.contains_nil, Nat.reduceBEq, beq_self_eq_true, Nat.reduceMul, Nat.reduceSub, wpSp, Option.bind_some, Option.some.injEq, exists_eq_left', exists_eq_left, reduceIte, if_false, if_true, Nat.reduceEqDiff, Nat.reduceAdd, Nat.reduceLeDiff, Int.reduceEq, Int.reduceLT, Int.reduceLE, Int.reduceToNat, decide_true, decide_false, DV.bool.injEq, DV.int.injEq, DV.mp.injEq, DV.msl.injEq, DV.tup.injEq, DV.agg.injEq, DV.fn.injEq, true_implies, forall_const, reduceCtorEq, implies_true, ne_eq, DMem.mt, hasB]
theorem Put_pf (p : List Fnc) : pf Try.prog F_pack_Put [.agg [slD Fnc.c p]] = some (.tup [.str (bstr (putR p).1), .int .i64 (putR p).2]) := by
  refine pf_of (v := .tuple #[.string _, .int _ _]) (pc_pack_Put (by simp) ?_) (FrozL.nil.cons (Froz.agg (FrozL.nil.cons (Froz.slD Fnc.froz p)))) rfl rfl
  simp only [S_pack_Put, R_pack_Put, MU_pack_Put, fz_prg, PackMay_pf, SW, wpD, evDL, evDM, evD, bldLD, List.contains_cons, List.contains_nil, Nat.reduceBEq, beq_self_eq_true, Nat.reduceMul, Nat.reduceSub, wpSp, Option.bind_some, Option.some.injEq, exists_eq_left', exists_eq_left, reduceIte, if_false, if_true, Nat.reduceEqDiff, Nat.reduceAdd, Nat.reduceLeDiff, Int.reduceEq, Int.reduceLT, Int.reduceLE, Int.reduceToNat, decide_true, decide_false, DV.bool.injEq, DV.int.injEq, DV.mp.injEq, DV.msl.injEq, DV.tup.injEq, DV.agg.injEq, DV.fn.injEq, true_implies, forall_const, reduceCtorEq, implies_true, ne_eq, DMem.mt]
  refine ⟨fun h => ?_, fun h => ?_⟩
  · have e : putR p = ([], 300) := by unfold putR; rw [if_neg (by simpa using h)]
    rw [e]
    rfl
  · have hpk : packB p = true := by simpa using h
    have hp8 : 1 ≤ p.length ∧ p.length ≤ 8 := by
      unfold packB at hpk
      simp only [Bool.and_eq_true, decide_eq_true_eq] at hpk
      exact hpk.1
    have hfn : ∀ f ∈ p, f.code.length ≤ 64 := by
      unfold packB at hpk
      simp only [Bool.and_eq_true, List.all_eq_true] at hpk
      intro f hf
      have := hpk.2 f hf
      unfold fnB at this
      simp only [Bool.and_eq_true] at this
      exact (fmay_le this.2).2
    have e : putR p = (putB p, 0) := by unfold putR; rw [if_pos hpk]
    rw [e]
    intro b M1 hM1
    refine effSelf (e := 5) (b := b) (n := 3) (cs := [.int .u8 84, .int .u8 105, .int .u8 107]) rfl Try.underlying56 Try.underlying5 rfl (by rw [hM1, DMem.ins_same]) fun M2 hM2 => ?_
    refine ⟨1, [.int .u8 ((p.length : Int) % 256)], ⟨rfl, by decide, by simp, rfl⟩, rfl, 3, by decide, by decide, ⟨rfl, by decide, by simp, fun b' c' M3 hn hc hM3 => ?_⟩⟩
    refine ⟨fun k δ M => ∃ i, i ≤ p.length ∧ k = p.length - i ∧ δ 21 = slD Fnc.c p ∧ δ 22 = .int .i64 p.length ∧ δ 23 = .int .i64 i ∧ OwnB M (δ 4) (84 :: 105 :: 107 :: u8 p.length :: (p.take i).flatMap fncB), p.length,
      ⟨0, Nat.zero_le _, rfl, rfl, rfl, rfl, ?_⟩, ?_⟩
    · refine ⟨rfl, .inr ⟨b', c', 5, rfl, ?_, by simpa using hc, by omega⟩⟩
      rw [hM3, DMem.ins_same]
      simp only [u8_eq]
      rfl
    clear hM1 hM2 hM3 hn hc e h
    rintro k δ M ⟨i, hi, rfl, h21, h22, h23, hB⟩
    simp only [S2_pack_Put, MU_pack_Put, h21, h22, h23, SW, wpD, evDL, evDM, evD, bldLD, List.contains_cons, List.contains_nil, Nat.reduceBEq, beq_self_eq_true, Nat.reduceMul, Nat.reduceSub, wpSp, Option.bind_some, Option.some.injEq, exists_eq_left', exists_eq_left, reduceIte, if_false, if_true, Nat.reduceEqDiff, Nat.reduceAdd, Nat.reduceLeDiff, Int.reduceEq, Int.reduceLT, Int.reduceLE, Int.reduceToNat, decide_true, decide_false, DV.bool.injEq, DV.int.injEq, DV.mp.injEq, DV.msl.injEq, DV.tup.injEq, DV.agg.injEq, DV.fn.injEq, true_implies, forall_const, reduceCtorEq, implies_true, ne_eq, DMem.mt, decide_eq_true_eq, decide_eq_false_iff_not]
    refine ⟨fun hlt => ?_, fun hge => ?_⟩
    · have hip : i < p.length := by omega
      have hfl := fncs_len (l := p.take i) fun f hf => hfn f (List.mem_of_mem_take hf)
      have hil : (p.take i).length ≤ 8 := by simp; omega
      have hf64 := hfn _ (List.getElem_mem hip)
      simp only [ix_slD Fnc.len hip, h21, h22, h23, SW, wpD, evDL, evDM, evD, bldLD, List.contains_cons, List.contains_nil, Nat.reduceBEq, beq_self_eq_true, Nat.reduceMul, Nat.reduceSub, wpSp, Option.bind_some, Option.some.injEq, exists_eq_left', exists_eq_left, reduceIte, if_false, if_true, Nat.reduceEqDiff, Nat.reduceAdd, Nat.reduceLeDiff, Int.reduceEq, Int.reduceLT, Int.reduceLE, Int.reduceToNat, decide_true, decide_false, DV.bool.injEq, DV.int.injEq, DV.mp.injEq, DV.msl.injEq, DV.tup.injEq, DV.agg.injEq, DV.fn.injEq, true_implies, forall_const, reduceCtorEq, implies_true, ne_eq, DMem.mt]
      refine hB.app (ys := [u8 p[i].args, u8 p[i].locals, u8 p[i].code.length]) (by simp only [u8_eq, List.map_cons, List.map_nil]) rfl (by simp only [List.length_cons]; omega) fun d M4 hB4 _ => ?_
      refine ⟨fun k δ M => ∃ j, j ≤ p[i].code.length ∧ k = p[i].code.length - j ∧ δ 21 = slD Fnc.c p ∧ δ 22 = .int .i64 p.length ∧ δ 23 = .int .i64 i ∧ δ 41 = slD Ins.c p[i].code ∧ δ 42 = .int .i64 p[i].code.length ∧ δ 43 = .int .i64 j ∧
          OwnB M (δ 4) ((84 :: 105 :: 107 :: u8 p.length :: (p.take i).flatMap fncB) ++ [u8 p[i].args, u8 p[i].locals, u8 p[i].code.length] ++ (p[i].code.take j).flatMap insB), p[i].code.length,
        ⟨0, Nat.zero_le _, rfl, h21, h22, h23, rfl, rfl, rfl, by show OwnB M4 d _; simpa using hB4⟩, ?_⟩
      clear hB hB4 h21 h22 h23
      rintro k δ M ⟨j, hj, rfl, h21, h22, h23, h41, h42, h43, hB⟩
      simp only [S1_pack_Put, MU_pack_Put, h21, h22, h23, h41, h42, h43, SW, wpD, evDL, evDM, evD, bldLD, List.contains_cons, List.contains_nil, Nat.reduceBEq, beq_self_eq_true, Nat.reduceMul, Nat.reduceSub, wpSp, Option.bind_some, Option.some.injEq, exists_eq_left', exists_eq_left, reduceIte, if_false, if_true, Nat.reduceEqDiff, Nat.reduceAdd, Nat.reduceLeDiff, Int.reduceEq, Int.reduceLT, Int.reduceLE, Int.reduceToNat, decide_true, decide_false, DV.bool.injEq, DV.int.injEq, DV.mp.injEq, DV.msl.injEq, DV.tup.injEq, DV.agg.injEq, DV.fn.injEq, true_implies, forall_const, reduceCtorEq, implies_true, ne_eq, DMem.mt, decide_eq_true_eq, decide_eq_false_iff_not]
      refine ⟨fun hlt2 => ?_, fun hge2 => ?_⟩
      · have hjp : j < p[i].code.length := by omega
        have hil2 := inss_len (p[i].code.take j)
        have hjl : (p[i].code.take j).length ≤ 64 := by simp; omega
        simp only [ix_slD Ins.len hjp, h21, h22, h23, h41, h42, h43, SW, wpD, evDL, evDM, evD, bldLD, List.contains_cons, List.contains_nil, Nat.reduceBEq, beq_self_eq_true, Nat.reduceMul, Nat.reduceSub, wpSp, Option.bind_some, Option.some.injEq, exists_eq_left', exists_eq_left, reduceIte, if_false, if_true, Nat.reduceEqDiff, Nat.reduceAdd, Nat.reduceLeDiff, Int.reduceEq, Int.reduceLT, Int.reduceLE, Int.reduceToNat, decide_true, decide_false, DV.bool.injEq, DV.int.injEq, DV.mp.injEq, DV.msl.injEq, DV.tup.injEq, DV.agg.injEq, DV.fn.injEq, true_implies, forall_const, reduceCtorEq, implies_true, ne_eq, DMem.mt]
        refine hB.app (ys := [u8 p[i].code[j].kind]) (by simp only [u8_eq, List.map_cons, List.map_nil]) rfl (by simp only [List.length_cons, List.length_append, List.length_nil]; omega) fun d M4 hB4 _ => ?_
        have fin : ∀ d' M', OwnB M' d' ((84 :: 105 :: 107 :: u8 p.length :: (p.take i).flatMap fncB) ++ [u8 p[i].args, u8 p[i].locals, u8 p[i].code.length] ++ (p[i].code.take j).flatMap insB ++ insB p[i].code[j]) →
            ∃ k' M0, k' < p[i].code.length - j ∧ SubD M0 M' ∧ ∃ j', j' ≤ p[i].code.length ∧ k' = p[i].code.length - j' ∧ wr64 (j + 1) = j' ∧
              OwnB M0 d' (84 :: 105 :: 107 :: u8 p.length :: ((p.take i).flatMap fncB ++ [u8 p[i].args, u8 p[i].locals, u8 p[i].code.length] ++ (p[i].code.take j').flatMap insB)) := by
          intro d' M' h
          refine ⟨_, M', ?_, SubD.refl _, j + 1, by omega, rfl, w64s (show j < 4611686018427387905 by omega), ?_⟩
          · omega
          · rw [flat_take insB p[i].code hjp]; simpa using h
        have h5 := insB_len p[i].code[j]
        refine ⟨fun hk => ?_, fun hk => ?_⟩
        · have hk0 := of_decide_eq_true hk
          have hins : insB p[i].code[j] = u8 p[i].code[j].kind :: [u8 (p[i].code[j].a % 4294967296), u8 (p[i].code[j].a % 4294967296 / 256), u8 (p[i].code[j].a % 4294967296 / 65536), u8 (p[i].code[j].a % 4294967296 / 16777216)] := by unfold insB; rw [if_pos hk0]
          simp only [w32m, sh8, sh16, sh24]
          refine hB4.app (ys := [u8 (p[i].code[j].a % 4294967296), u8 (p[i].code[j].a % 4294967296 / 256), u8 (p[i].code[j].a % 4294967296 / 65536), u8 (p[i].code[j].a % 4294967296 / 16777216)]) (by simp only [u8_eq, List.map_cons, List.map_nil]) rfl (by simp only [List.length_cons, List.length_append, List.length_nil]; omega) fun d5 M5 hB5 _ => ?_
          exact fin d5 M5 (by rw [hins]; simpa using hB5)
        · have hk0 := of_decide_eq_false hk
          simp only [has_pf, h21, h22, h23, h41, h42, h43, SW, wpD, evDL, evDM, evD, bldLD, List.contains_cons, List.contains_nil, Nat.reduceBEq, beq_self_eq_true, Nat.reduceMul, Nat.reduceSub, wpSp, Option.bind_some, Option.some.injEq, exists_eq_left', exists_eq_left, reduceIte, if_false, if_true, Nat.reduceEqDiff, Nat.reduceAdd, Nat.reduceLeDiff, Int.reduceEq, Int.reduceLT, Int.reduceLE, Int.reduceToNat, decide_true, decide_false, DV.bool.injEq, DV.int.injEq, DV.mp.injEq, DV.msl.injEq, DV.tup.injEq, DV.agg.injEq, DV.fn.injEq, true_implies, forall_const, reduceCtorEq, implies_true, ne_eq, DMem.mt]
          refine ⟨fun hh => ?_, fun hh => ?_⟩
          · have hins : insB p[i].code[j] = u8 p[i].code[j].kind :: [u8 p[i].code[j].a] := by unfold insB; rw [if_neg hk0, if_pos hh]
            try simp only [h21, h22, h23, h41, h42, h43, SW, wpD, evDL, evDM, evD, bldLD, List.contains_cons, List.contains_nil, Nat.reduceBEq, beq_self_eq_true, Nat.reduceMul, Nat.reduceSub, wpSp, Option.bind_some, Option.some.injEq, exists_eq_left', exists_eq_left, reduceIte, if_false, if_true, Nat.reduceEqDiff, Nat.reduceAdd, Nat.reduceLeDiff, Int.reduceEq, Int.reduceLT, Int.reduceLE, Int.reduceToNat, decide_true, decide_false, DV.bool.injEq, DV.int.injEq, DV.mp.injEq, DV.msl.injEq, DV.tup.injEq, DV.agg.injEq, DV.fn.injEq, true_implies, forall_const, reduceCtorEq, implies_true, ne_eq, DMem.mt]
            refine hB4.app (ys := [u8 p[i].code[j].a]) (by simp only [u8_eq, List.map_cons, List.map_nil]) rfl (by simp only [List.length_cons, List.length_append, List.length_nil]; omega) fun d5 M5 hB5 _ => ?_
            exact fin d5 M5 (by rw [hins]; simpa using hB5)
          · have hins : insB p[i].code[j] = [u8 p[i].code[j].kind] := by unfold insB; rw [if_neg hk0, if_neg (by simp [hh])]
            try simp only [h21, h22, h23, h41, h42, h43, SW, wpD, evDL, evDM, evD, bldLD, List.contains_cons, List.contains_nil, Nat.reduceBEq, beq_self_eq_true, Nat.reduceMul, Nat.reduceSub, wpSp, Option.bind_some, Option.some.injEq, exists_eq_left', exists_eq_left, reduceIte, if_false, if_true, Nat.reduceEqDiff, Nat.reduceAdd, Nat.reduceLeDiff, Int.reduceEq, Int.reduceLT, Int.reduceLE, Int.reduceToNat, decide_true, decide_false, DV.bool.injEq, DV.int.injEq, DV.mp.injEq, DV.msl.injEq, DV.tup.injEq, DV.agg.injEq, DV.fn.injEq, true_implies, forall_const, reduceCtorEq, implies_true, ne_eq, DMem.mt]
            exact fin d M4 (by rw [hins]; exact hB4)
      · have hjl : j = p[i].code.length := by omega
        subst hjl
        try simp only [h21, h22, h23, h41, h42, h43, w64s (show i < 4611686018427387905 by omega), SW, wpD, evDL, evDM, evD, bldLD, List.contains_cons, List.contains_nil, Nat.reduceBEq, beq_self_eq_true, Nat.reduceMul, Nat.reduceSub, wpSp, Option.bind_some, Option.some.injEq, exists_eq_left', exists_eq_left, reduceIte, if_false, if_true, Nat.reduceEqDiff, Nat.reduceAdd, Nat.reduceLeDiff, Int.reduceEq, Int.reduceLT, Int.reduceLE, Int.reduceToNat, decide_true, decide_false, DV.bool.injEq, DV.int.injEq, DV.mp.injEq, DV.msl.injEq, DV.tup.injEq, DV.agg.injEq, DV.fn.injEq, true_implies, forall_const, reduceCtorEq, implies_true, ne_eq, DMem.mt]
        refine ⟨p.length - (i + 1), M, by omega, SubD.refl _, i + 1, by omega, rfl, rfl, ?_⟩
        rw [flat_take fncB p hip]
        rw [List.take_length] at hB
        simpa [fncB] using hB
    · have hil : i = p.length := by omega
      subst hil
      try simp only [S3_pack_Put, MU_pack_Put, h21, h22, h23, SW, wpD, evDL, evDM, evD, bldLD, List.contains_cons, List.contains_nil, Nat.reduceBEq, beq_self_eq_true, Nat.reduceMul, Nat.reduceSub, wpSp, Option.bind_some, Option.some.injEq, exists_eq_left', exists_eq_left, reduceIte, if_false, if_true, Nat.reduceEqDiff, Nat.reduceAdd, Nat.reduceLeDiff, Int.reduceEq, Int.reduceLT, Int.reduceLE, Int.reduceToNat, decide_true, decide_false, DV.bool.injEq, DV.int.injEq, DV.mp.injEq, DV.msl.injEq, DV.tup.injEq, DV.agg.injEq, DV.fn.injEq, true_implies, forall_const, reduceCtorEq, implies_true, ne_eq, DMem.mt]
      rw [List.take_length] at hB
      obtain ⟨b, c, ty, hd, hM⟩ := hB.cells (by simp)
      refine effStr rfl Try.underlying56 Try.underlying5 Try.underlying9 (bs := putB p) (by exact hd) hM ?_
      rfl
theorem PutR_pf (p : List Fnc) : pf Try.prog F_swageref1_Put [.agg [slD Fnc.c p]] = some (.tup [.str (bstr (putR p).1), .int .i64 (putR p).2]) := by
  refine pf_of (v := .tuple #[.string _, .int _ _]) (pc_swageref1_Put (by simp) ?_) (FrozL.nil.cons (Froz.agg (FrozL.nil.cons (Froz.slD Fnc.froz p)))) rfl rfl
  simp only [S_swageref1_Put, R_swageref1_Put, MU_swageref1_Put, fz_prg, ldnI1, Packs_pf, SW, wpD, evDL, evDM, evD, bldLD, List.contains_cons, List.contains_nil, Nat.reduceBEq, beq_self_eq_true, Nat.reduceMul, Nat.reduceSub, wpSp, Option.bind_some, Option.some.injEq, exists_eq_left', exists_eq_left, reduceIte, if_false, if_true, Nat.reduceEqDiff, Nat.reduceAdd, Nat.reduceLeDiff, Int.reduceEq, Int.reduceLT, Int.reduceLE, Int.reduceToNat, decide_true, decide_false, DV.bool.injEq, DV.int.injEq, DV.mp.injEq, DV.msl.injEq, DV.tup.injEq, DV.agg.injEq, DV.fn.injEq, true_implies, forall_const, reduceCtorEq, implies_true, ne_eq, DMem.mt]
  refine ⟨fun h => ?_, fun h => ?_⟩
  · have e : putR p = ([], 300) := by unfold putR; rw [if_neg (by simpa using h)]
    rw [e]
    rfl
  · have hpk : packB p = true := by simpa using h
    have hp8 : 1 ≤ p.length ∧ p.length ≤ 8 := by
      unfold packB at hpk
      simp only [Bool.and_eq_true, decide_eq_true_eq] at hpk
      exact hpk.1
    have hfn : ∀ f ∈ p, f.code.length ≤ 64 := by
      unfold packB at hpk
      simp only [Bool.and_eq_true, List.all_eq_true] at hpk
      intro f hf
      have := hpk.2 f hf
      unfold fnB at this
      simp only [Bool.and_eq_true] at this
      exact (fmay_le this.2).2
    have e : putR p = (putB p, 0) := by unfold putR; rw [if_pos hpk]
    rw [e]
    intro b M1 hM1
    refine ⟨fun k δ M => ∃ i, i ≤ p.length ∧ k = p.length - i ∧ δ 1 = .ip [slD Fnc.c p] ∧ δ 5 = .int .i64 i ∧ OwnB M (δ 4) (84 :: 105 :: 107 :: u8 p.length :: (p.take i).flatMap fncB), p.length,
      ⟨0, Nat.zero_le _, rfl, rfl, rfl, ?_⟩, ?_⟩
    · refine ⟨rfl, .inr ⟨b, 4, 5, rfl, ?_, by simp, by omega⟩⟩
      rw [hM1, DMem.ins_same]
      simp only [u8_eq]
      rfl
    clear hM1 e h
    rintro k δ M ⟨i, hi, rfl, h1, h5, hB⟩
    simp only [S2_swageref1_Put, MU_swageref1_Put, h1, h5, SW, wpD, evDL, evDM, evD, bldLD, List.contains_cons, List.contains_nil, Nat.reduceBEq, beq_self_eq_true, Nat.reduceMul, Nat.reduceSub, wpSp, Option.bind_some, Option.some.injEq, exists_eq_left', exists_eq_left, reduceIte, if_false, if_true, Nat.reduceEqDiff, Nat.reduceAdd, Nat.reduceLeDiff, Int.reduceEq, Int.reduceLT, Int.reduceLE, Int.reduceToNat, decide_true, decide_false, DV.bool.injEq, DV.int.injEq, DV.mp.injEq, DV.msl.injEq, DV.tup.injEq, DV.agg.injEq, DV.fn.injEq, true_implies, forall_const, reduceCtorEq, implies_true, ne_eq, DMem.mt, decide_eq_true_eq, decide_eq_false_iff_not]
    refine ⟨fun hlt => ?_, fun hge => ?_⟩
    · have hip : i < p.length := by omega
      have hfl := fncs_len (l := p.take i) fun f hf => hfn f (List.mem_of_mem_take hf)
      have hil : (p.take i).length ≤ 8 := by simp; omega
      have hf64 := hfn _ (List.getElem_mem hip)
      simp only [ix_slD Fnc.len hip, h1, h5, SW, wpD, evDL, evDM, evD, bldLD, List.contains_cons, List.contains_nil, Nat.reduceBEq, beq_self_eq_true, Nat.reduceMul, Nat.reduceSub, wpSp, Option.bind_some, Option.some.injEq, exists_eq_left', exists_eq_left, reduceIte, if_false, if_true, Nat.reduceEqDiff, Nat.reduceAdd, Nat.reduceLeDiff, Int.reduceEq, Int.reduceLT, Int.reduceLE, Int.reduceToNat, decide_true, decide_false, DV.bool.injEq, DV.int.injEq, DV.mp.injEq, DV.msl.injEq, DV.tup.injEq, DV.agg.injEq, DV.fn.injEq, true_implies, forall_const, reduceCtorEq, implies_true, ne_eq, DMem.mt]
      refine hB.app (ys := [u8 p[i].args, u8 p[i].locals, u8 p[i].code.length]) (by simp only [u8_eq, List.map_cons, List.map_nil]) rfl (by simp only [List.length_cons]; omega) fun d M4 hB4 _ => ?_
      refine ⟨fun k δ M => ∃ j, j ≤ p[i].code.length ∧ k = p[i].code.length - j ∧ δ 1 = .ip [slD Fnc.c p] ∧ δ 5 = .int .i64 i ∧ δ 6 = .ip p[i].c ∧ δ 7 = .int .i64 j ∧
          OwnB M (δ 4) ((84 :: 105 :: 107 :: u8 p.length :: (p.take i).flatMap fncB) ++ [u8 p[i].args, u8 p[i].locals, u8 p[i].code.length] ++ (p[i].code.take j).flatMap insB), p[i].code.length,
        ⟨0, Nat.zero_le _, rfl, h1, h5, rfl, rfl, by show OwnB M4 d _; simpa using hB4⟩, ?_⟩
      clear hB hB4 h1 h5
      rintro k δ M ⟨j, hj, rfl, h1, h5, h6, h7, hB⟩
      simp only [S1_swageref1_Put, MU_swageref1_Put, h1, h5, h6, h7, SW, wpD, evDL, evDM, evD, bldLD, List.contains_cons, List.contains_nil, Nat.reduceBEq, beq_self_eq_true, Nat.reduceMul, Nat.reduceSub, wpSp, Option.bind_some, Option.some.injEq, exists_eq_left', exists_eq_left, reduceIte, if_false, if_true, Nat.reduceEqDiff, Nat.reduceAdd, Nat.reduceLeDiff, Int.reduceEq, Int.reduceLT, Int.reduceLE, Int.reduceToNat, decide_true, decide_false, DV.bool.injEq, DV.int.injEq, DV.mp.injEq, DV.msl.injEq, DV.tup.injEq, DV.agg.injEq, DV.fn.injEq, true_implies, forall_const, reduceCtorEq, implies_true, ne_eq, DMem.mt, decide_eq_true_eq, decide_eq_false_iff_not]
      refine ⟨fun hlt2 => ?_, fun hge2 => ?_⟩
      · have hjp : j < p[i].code.length := by omega
        have hil2 := inss_len (p[i].code.take j)
        have hjl : (p[i].code.take j).length ≤ 64 := by simp; omega
        simp only [ix_slD Ins.len hjp, h1, h5, h6, h7, SW, wpD, evDL, evDM, evD, bldLD, List.contains_cons, List.contains_nil, Nat.reduceBEq, beq_self_eq_true, Nat.reduceMul, Nat.reduceSub, wpSp, Option.bind_some, Option.some.injEq, exists_eq_left', exists_eq_left, reduceIte, if_false, if_true, Nat.reduceEqDiff, Nat.reduceAdd, Nat.reduceLeDiff, Int.reduceEq, Int.reduceLT, Int.reduceLE, Int.reduceToNat, decide_true, decide_false, DV.bool.injEq, DV.int.injEq, DV.mp.injEq, DV.msl.injEq, DV.tup.injEq, DV.agg.injEq, DV.fn.injEq, true_implies, forall_const, reduceCtorEq, implies_true, ne_eq, DMem.mt]
        refine hB.app (ys := [u8 p[i].code[j].kind]) (by simp only [u8_eq, List.map_cons, List.map_nil]) rfl (by simp only [List.length_cons, List.length_append, List.length_nil]; omega) fun d M4 hB4 _ => ?_
        have fin : ∀ d' M', OwnB M' d' ((84 :: 105 :: 107 :: u8 p.length :: (p.take i).flatMap fncB) ++ [u8 p[i].args, u8 p[i].locals, u8 p[i].code.length] ++ (p[i].code.take j).flatMap insB ++ insB p[i].code[j]) →
            ∃ k' M0, k' < p[i].code.length - j ∧ SubD M0 M' ∧ ∃ j', j' ≤ p[i].code.length ∧ k' = p[i].code.length - j' ∧ wr64 (j + 1) = j' ∧
              OwnB M0 d' (84 :: 105 :: 107 :: u8 p.length :: ((p.take i).flatMap fncB ++ [u8 p[i].args, u8 p[i].locals, u8 p[i].code.length] ++ (p[i].code.take j').flatMap insB)) := by
          intro d' M' h
          refine ⟨_, M', ?_, SubD.refl _, j + 1, by omega, rfl, w64s (show j < 4611686018427387905 by omega), ?_⟩
          · omega
          · rw [flat_take insB p[i].code hjp]; simpa using h
        have h5' := insB_len p[i].code[j]
        refine ⟨fun hk => ?_, fun hk => ?_⟩
        · have hk0 := of_decide_eq_true hk
          have hins : insB p[i].code[j] = u8 p[i].code[j].kind :: [u8 (p[i].code[j].a % 4294967296), u8 (p[i].code[j].a % 4294967296 / 256), u8 (p[i].code[j].a % 4294967296 / 65536), u8 (p[i].code[j].a % 4294967296 / 16777216)] := by unfold insB; rw [if_pos hk0]
          simp only [w64m, sh8, sh16, sh24]
          refine hB4.app (ys := [u8 (p[i].code[j].a % 4294967296), u8 (p[i].code[j].a % 4294967296 / 256), u8 (p[i].code[j].a % 4294967296 / 65536), u8 (p[i].code[j].a % 4294967296 / 16777216)]) (by simp only [u8_eq, List.map_cons, List.map_nil]) rfl (by simp only [List.length_cons, List.length_append, List.length_nil]; omega) fun d5 M5 hB5 _ => ?_
          have hs : hasB p[i].code[j].kind = false := by rw [hk0]; rfl
          simp only [small_pf, hs, h1, h5, h6, h7, SW, wpD, evDL, evDM, evD, bldLD, List.contains_cons, List.contains_nil, Nat.reduceBEq, beq_self_eq_true, Nat.reduceMul, Nat.reduceSub, wpSp, Option.bind_some, Option.some.injEq, exists_eq_left', exists_eq_left, reduceIte, if_false, if_true, Nat.reduceEqDiff, Nat.reduceAdd, Nat.reduceLeDiff, Int.reduceEq, Int.reduceLT, Int.reduceLE, Int.reduceToNat, decide_true, decide_false, DV.bool.injEq, DV.int.injEq, DV.mp.injEq, DV.msl.injEq, DV.tup.injEq, DV.agg.injEq, DV.fn.injEq, true_implies, forall_const, reduceCtorEq, implies_true, ne_eq, DMem.mt]
          exact fin d5 M5 (by rw [hins]; simpa using hB5)
        · have hk0 := of_decide_eq_false hk
          simp only [small_pf, h1, h5, h6, h7, SW, wpD, evDL, evDM, evD, bldLD, List.contains_cons, List.contains_nil, Nat.reduceBEq, beq_self_eq_true, Nat.reduceMul, Nat.reduceSub, wpSp, Option.bind_some, Option.some.injEq, exists_eq_left', exists_eq_left, reduceIte, if_false, if_true, Nat.reduceEqDiff, Nat.reduceAdd, Nat.reduceLeDiff, Int.reduceEq, Int.reduceLT, Int.reduceLE, Int.reduceToNat, decide_true, decide_false, DV.bool.injEq, DV.int.injEq, DV.mp.injEq, DV.msl.injEq, DV.tup.injEq, DV.agg.injEq, DV.fn.injEq, true_implies, forall_const, reduceCtorEq, implies_true, ne_eq, DMem.mt]
          refine ⟨fun hh => ?_, fun hh => ?_⟩
          · have hins : insB p[i].code[j] = u8 p[i].code[j].kind :: [u8 p[i].code[j].a] := by unfold insB; rw [if_neg hk0, if_pos hh]
            try simp only [h1, h5, h6, h7, SW, wpD, evDL, evDM, evD, bldLD, List.contains_cons, List.contains_nil, Nat.reduceBEq, beq_self_eq_true, Nat.reduceMul, Nat.reduceSub, wpSp, Option.bind_some, Option.some.injEq, exists_eq_left', exists_eq_left, reduceIte, if_false, if_true, Nat.reduceEqDiff, Nat.reduceAdd, Nat.reduceLeDiff, Int.reduceEq, Int.reduceLT, Int.reduceLE, Int.reduceToNat, decide_true, decide_false, DV.bool.injEq, DV.int.injEq, DV.mp.injEq, DV.msl.injEq, DV.tup.injEq, DV.agg.injEq, DV.fn.injEq, true_implies, forall_const, reduceCtorEq, implies_true, ne_eq, DMem.mt]
            refine hB4.app (ys := [u8 p[i].code[j].a]) (by simp only [u8_eq, List.map_cons, List.map_nil]) rfl (by simp only [List.length_cons, List.length_append, List.length_nil]; omega) fun d5 M5 hB5 _ => ?_
            exact fin d5 M5 (by rw [hins]; simpa using hB5)
          · have hins : insB p[i].code[j] = [u8 p[i].code[j].kind] := by unfold insB; rw [if_neg hk0, if_neg (by simp [hh])]
            try simp only [h1, h5, h6, h7, SW, wpD, evDL, evDM, evD, bldLD, List.contains_cons, List.contains_nil, Nat.reduceBEq, beq_self_eq_true, Nat.reduceMul, Nat.reduceSub, wpSp, Option.bind_some, Option.some.injEq, exists_eq_left', exists_eq_left, reduceIte, if_false, if_true, Nat.reduceEqDiff, Nat.reduceAdd, Nat.reduceLeDiff, Int.reduceEq, Int.reduceLT, Int.reduceLE, Int.reduceToNat, decide_true, decide_false, DV.bool.injEq, DV.int.injEq, DV.mp.injEq, DV.msl.injEq, DV.tup.injEq, DV.agg.injEq, DV.fn.injEq, true_implies, forall_const, reduceCtorEq, implies_true, ne_eq, DMem.mt]
            exact fin d M4 (by rw [hins]; exact hB4)
      · have hjl : j = p[i].code.length := by omega
        subst hjl
        try simp only [h1, h5, h6, h7, w64s (show i < 4611686018427387905 by omega), SW, wpD, evDL, evDM, evD, bldLD, List.contains_cons, List.contains_nil, Nat.reduceBEq, beq_self_eq_true, Nat.reduceMul, Nat.reduceSub, wpSp, Option.bind_some, Option.some.injEq, exists_eq_left', exists_eq_left, reduceIte, if_false, if_true, Nat.reduceEqDiff, Nat.reduceAdd, Nat.reduceLeDiff, Int.reduceEq, Int.reduceLT, Int.reduceLE, Int.reduceToNat, decide_true, decide_false, DV.bool.injEq, DV.int.injEq, DV.mp.injEq, DV.msl.injEq, DV.tup.injEq, DV.agg.injEq, DV.fn.injEq, true_implies, forall_const, reduceCtorEq, implies_true, ne_eq, DMem.mt]
        refine ⟨p.length - (i + 1), M, by omega, SubD.refl _, i + 1, by omega, rfl, rfl, ?_⟩
        rw [flat_take fncB p hip]
        rw [List.take_length] at hB
        simpa [fncB] using hB
    · have hil : i = p.length := by omega
      subst hil
      try simp only [S3_swageref1_Put, MU_swageref1_Put, h1, h5, SW, wpD, evDL, evDM, evD, bldLD, List.contains_cons, List.contains_nil, Nat.reduceBEq, beq_self_eq_true, Nat.reduceMul, Nat.reduceSub, wpSp, Option.bind_some, Option.some.injEq, exists_eq_left', exists_eq_left, reduceIte, if_false, if_true, Nat.reduceEqDiff, Nat.reduceAdd, Nat.reduceLeDiff, Int.reduceEq, Int.reduceLT, Int.reduceLE, Int.reduceToNat, decide_true, decide_false, DV.bool.injEq, DV.int.injEq, DV.mp.injEq, DV.msl.injEq, DV.tup.injEq, DV.agg.injEq, DV.fn.injEq, true_implies, forall_const, reduceCtorEq, implies_true, ne_eq, DMem.mt]
      rw [List.take_length] at hB
      obtain ⟨b, c, ty, hd, hM⟩ := hB.cells (by simp)
      refine effStr rfl Try.underlying56 Try.underlying5 Try.underlying9 (bs := putB p) (by exact hd) hM ?_
      rfl
end Go.Proofs.Ytaifmmeghninhaa.Pf
