/- Packs, the law at every input; what every program answers that is one. No condition. -/
import Derived.Test.YtaifmmeghninhaaKm
namespace Go.Proofs.Ytaifmmeghninhaa.Pf
open Go Go.RowKit Go.Proofs Go.Proofs.Ytaifmmeghninhaa.Mw Go.Proofs.Ytaifmmeghninhaa.Sx
set_option linter.unusedVariables false
set_option linter.unusedSimpArgs false
set_option maxRecDepth 4000
def p0 : List Fnc := [⟨1, 2, [⟨0, -2⟩, ⟨2, 1⟩, ⟨16, 0⟩]⟩]
def s0 : List UInt8 := [84, 105, 107, 1, 1, 2, 3, 0, 254, 255, 255, 255, 2, 1, 16]
theorem p0_ok : packB p0 = true := by decide
theorem p0_put : putB p0 = s0 := by decide
theorem put_p0 : putR p0 = (s0, 0) := by unfold putR; rw [p0_ok, p0_put]; rfl
theorem get_s0 : getR s0 = (p0, 0) := by rw [← p0_put]; exact getR_put p0_ok
theorem get_s0x : getR (s0 ++ [120]) = ([], 300) := by
  refine getR_no fun h => ?_
  obtain ⟨h1, h2⟩ := getR_ok h
  have h3 := (getR_take h1 (k := 15) (by rw [h2]; decide)).1 (by rw [h2]; exact congrArg Prod.snd (show getR (List.take 15 (s0 ++ [120])) = (p0, 0) from get_s0))
  rw [h2] at h3
  simp [s0] at h3
theorem put_nil : putR [] = ([], 300) := rfl
theorem fz_zsl_prg (M : DMem) (k : Nat) : fz M k .zsl = slD Fnc.c [] := fz_zsl M k
theorem sl_fz4 {M : DMem} {d : DV} {p : List Fnc} {S : List Nat} (h : SlAt fncE M d p S) : Mw.fz M 4 d = slD Fnc.c p := h.fz fncE_ok (k := 3) (by decide)
theorem str120 : (⟨#[120]⟩ : ByteArray) = bstr [120] := rfl
theorem str_s0 : (⟨#[84, 105, 107, 1, 1, 2, 3, 0, 254, 255, 255, 255, 2, 1, 16]⟩ : ByteArray) = bstr s0 := rfl
theorem awake_pf : pf Try.prog F_swagelaw3_awake [] = some (.bool true) := by
  refine pf_of (v := .bool _) (pc_swagelaw3_awake (by simp) ?_) FrozL.nil rfl rfl
  simp only [S_swagelaw3_awake, R_swagelaw3_awake, MU_swagelaw3_awake, SW, wpD, evDL, evDM, evD, bldLD, List.contains_cons, List.contains_nil, Nat.reduceBEq, beq_self_eq_true, Nat.reduceMul, Nat.reduceSub, wpSp, Option.bind_some, Option.some.injEq, exists_eq_left', exists_eq_left, reduceIte, if_false, if_true, Nat.reduceEqDiff, Nat.reduceAdd, Nat.reduceLeDiff, Int.reduceEq, Int.reduceLT, Int.reduceLE, Int.reduceToNat, decide_true, decide_false, DV.bool.injEq, DV.int.injEq, DV.mp.injEq, DV.msl.injEq, DV.tup.injEq, DV.agg.injEq, DV.fn.injEq, true_implies, forall_const, reduceCtorEq, implies_true, ne_eq, DMem.mt]
  have hp : DV.isl 1 [.int .i64 1, .int .i64 2, .isl 3 [.int .i64 0, .int .i64 (-2), .int .i64 2, .int .i64 1, .int .i64 16, .int .i64 0]] = slD Fnc.c p0 := rfl
  simp only [hp, ldnI1, SW, wpD, evDL, evDM, evD, bldLD, List.contains_cons, List.contains_nil, Nat.reduceBEq, beq_self_eq_true, Nat.reduceMul, Nat.reduceSub, wpSp, Option.bind_some, Option.some.injEq, exists_eq_left', exists_eq_left, reduceIte, if_false, if_true, Nat.reduceEqDiff, Nat.reduceAdd, Nat.reduceLeDiff, Int.reduceEq, Int.reduceLT, Int.reduceLE, Int.reduceToNat, decide_true, decide_false, DV.bool.injEq, DV.int.injEq, DV.mp.injEq, DV.msl.injEq, DV.tup.injEq, DV.agg.injEq, DV.fn.injEq, true_implies, forall_const, reduceCtorEq, implies_true, ne_eq, DMem.mt]
  refine PC.of_pf (by simp only [List.map_cons, List.map_nil, fz_agg, fz_prg]; exact Put_pf p0) ?_
  simp only [S4_swagelaw3_awake, MU_swagelaw3_awake, put_p0, SW, wpD, evDL, evDM, evD, bldLD, List.contains_cons, List.contains_nil, Nat.reduceBEq, beq_self_eq_true, Nat.reduceMul, Nat.reduceSub, wpSp, Option.bind_some, Option.some.injEq, exists_eq_left', exists_eq_left, reduceIte, if_false, if_true, Nat.reduceEqDiff, Nat.reduceAdd, Nat.reduceLeDiff, Int.reduceEq, Int.reduceLT, Int.reduceLE, Int.reduceToNat, decide_true, decide_false, DV.bool.injEq, DV.int.injEq, DV.mp.injEq, DV.msl.injEq, DV.tup.injEq, DV.agg.injEq, DV.fn.injEq, true_implies, forall_const, reduceCtorEq, implies_true, ne_eq, DMem.mt]
  refine Get_pc s0 fun d1 M1 S1 h1 _ _ _ => ?_
  rw [get_s0] at h1 ⊢
  have ha := bstr_add (a := s0) (b := [120]) (by decide)
  simp only [S3_swagelaw3_awake, MU_swagelaw3_awake, put_p0, h1.cell, h1.plain, str120, ha, ldnI1, SW, wpD, evDL, evDM, evD, bldLD, List.contains_cons, List.contains_nil, Nat.reduceBEq, beq_self_eq_true, Nat.reduceMul, Nat.reduceSub, wpSp, Option.bind_some, Option.some.injEq, exists_eq_left', exists_eq_left, reduceIte, if_false, if_true, Nat.reduceEqDiff, Nat.reduceAdd, Nat.reduceLeDiff, Int.reduceEq, Int.reduceLT, Int.reduceLE, Int.reduceToNat, decide_true, decide_false, DV.bool.injEq, DV.int.injEq, DV.mp.injEq, DV.msl.injEq, DV.tup.injEq, DV.agg.injEq, DV.fn.injEq, true_implies, forall_const, reduceCtorEq, implies_true, ne_eq, DMem.mt]
  refine Get_pc (s0 ++ [120]) fun d2 M2 S2 h2 _ _ hs => ?_
  rw [get_s0x] at h2 ⊢
  have h3 : SlAt fncE M2 d1 p0 S1 := SlAt.sub fncE_ok h1 hs
  simp only [S2_swagelaw3_awake, MU_swagelaw3_awake, put_p0, h2.cell, h2.plain, ldnI1, SW, wpD, evDL, evDM, evD, bldLD, List.contains_cons, List.contains_nil, Nat.reduceBEq, beq_self_eq_true, Nat.reduceMul, Nat.reduceSub, wpSp, Option.bind_some, Option.some.injEq, exists_eq_left', exists_eq_left, reduceIte, if_false, if_true, Nat.reduceEqDiff, Nat.reduceAdd, Nat.reduceLeDiff, Int.reduceEq, Int.reduceLT, Int.reduceLE, Int.reduceToNat, decide_true, decide_false, DV.bool.injEq, DV.int.injEq, DV.mp.injEq, DV.msl.injEq, DV.tup.injEq, DV.agg.injEq, DV.fn.injEq, true_implies, forall_const, reduceCtorEq, implies_true, ne_eq, DMem.mt]
  refine PC.of_pf (by simp only [List.map_cons, List.map_nil, fz_agg, fz_zsl_prg]; exact Put_pf []) ?_
  have hsame := SameProgram_pf p0 p0 (by decide) (by decide)
  rw [decide_eq_true rfl] at hsame
  simp only [S1_swagelaw3_awake, MU_swagelaw3_awake, put_p0, put_nil, ldnI1, fz_prg, sl_fz4 h3, hsame, NumF_pf, str_s0, bstr_list, beq_dec, SW, wpD, evDL, evDM, evD, bldLD, List.contains_cons, List.contains_nil, Nat.reduceBEq, beq_self_eq_true, Nat.reduceMul, Nat.reduceSub, wpSp, Option.bind_some, Option.some.injEq, exists_eq_left', exists_eq_left, reduceIte, if_false, if_true, Nat.reduceEqDiff, Nat.reduceAdd, Nat.reduceLeDiff, Int.reduceEq, Int.reduceLT, Int.reduceLE, Int.reduceToNat, decide_true, decide_false, DV.bool.injEq, DV.int.injEq, DV.mp.injEq, DV.msl.injEq, DV.tup.injEq, DV.agg.injEq, DV.fn.injEq, true_implies, forall_const, reduceCtorEq, implies_true, ne_eq, DMem.mt]
def SizeP (p : List Fnc) : Prop := p.length * 40 ≤ 140737488355328 ∧ ∀ f ∈ p, f.code.length * 16 ≤ 140737488355328
theorem SizeP.len {p : List Fnc} (h : SizeP p) : p.length ≤ 4611686018427387904 ∧ ∀ f ∈ p, f.code.length ≤ 4611686018427387904 := ⟨by have := h.1; omega, fun f hf => by have := h.2 f hf; omega⟩
theorem getR_size (l : List UInt8) : (getR l).1.length ≤ 8 ∧ ∀ f ∈ (getR l).1, f.code.length ≤ 64 := by
  by_cases h : (getR l).2 = 0
  · obtain ⟨h1, h2⟩ := getR_ok h
    obtain ⟨a, b, c⟩ := packB_in h1
    exact ⟨b, fun f hf => (fnB_in (List.all_eq_true.1 c f hf)).2.2.2.2.2.1⟩
  · rw [getR_no h]
    exact ⟨by simp, by simp⟩
theorem Packs_pc (p : List Fnc) (s : List UInt8) (hp : SizeP p) (hs : s.length ≤ 140737488355328) : PC Try.prog F_swagelaw3_Packs [.agg [slD Fnc.c p], .str (bstr s)] (fun d _ => d = .bool true) DMem.mt := by
  refine pc_swagelaw3_Packs (by simp) ?_
  obtain ⟨q1, q2⟩ := getR_size s
  simp only [S_swagelaw3_Packs, R_swagelaw3_Packs, MU_swagelaw3_Packs, ldnI1, SW, wpD, evDL, evDM, evD, bldLD, List.contains_cons, List.contains_nil, Nat.reduceBEq, beq_self_eq_true, Nat.reduceMul, Nat.reduceSub, wpSp, Option.bind_some, Option.some.injEq, exists_eq_left', exists_eq_left, reduceIte, if_false, if_true, Nat.reduceEqDiff, Nat.reduceAdd, Nat.reduceLeDiff, Int.reduceEq, Int.reduceLT, Int.reduceLE, Int.reduceToNat, decide_true, decide_false, DV.bool.injEq, DV.int.injEq, DV.mp.injEq, DV.msl.injEq, DV.tup.injEq, DV.agg.injEq, DV.fn.injEq, true_implies, forall_const, reduceCtorEq, implies_true, ne_eq, DMem.mt]
  refine CopyProgram_pc p hp.1 hp.2 fun d1 M1 S1 h1 n1 f1 k1 => ?_
  simp only [S6_swagelaw3_Packs, MU_swagelaw3_Packs, h1.cell, h1.plain, ldnI1, SW, wpD, evDL, evDM, evD, bldLD, List.contains_cons, List.contains_nil, Nat.reduceBEq, beq_self_eq_true, Nat.reduceMul, Nat.reduceSub, wpSp, Option.bind_some, Option.some.injEq, exists_eq_left', exists_eq_left, reduceIte, if_false, if_true, Nat.reduceEqDiff, Nat.reduceAdd, Nat.reduceLeDiff, Int.reduceEq, Int.reduceLT, Int.reduceLE, Int.reduceToNat, decide_true, decide_false, DV.bool.injEq, DV.int.injEq, DV.mp.injEq, DV.msl.injEq, DV.tup.injEq, DV.agg.injEq, DV.fn.injEq, true_implies, forall_const, reduceCtorEq, implies_true, ne_eq, DMem.mt]
  refine PC.of_pf (by simp only [List.map_cons, List.map_nil, fz_agg, sl_fz4 h1]; exact Put_pf p) ?_
  simp only [S5_swagelaw3_Packs, MU_swagelaw3_Packs, ldnI1, SW, wpD, evDL, evDM, evD, bldLD, List.contains_cons, List.contains_nil, Nat.reduceBEq, beq_self_eq_true, Nat.reduceMul, Nat.reduceSub, wpSp, Option.bind_some, Option.some.injEq, exists_eq_left', exists_eq_left, reduceIte, if_false, if_true, Nat.reduceEqDiff, Nat.reduceAdd, Nat.reduceLeDiff, Int.reduceEq, Int.reduceLT, Int.reduceLE, Int.reduceToNat, decide_true, decide_false, DV.bool.injEq, DV.int.injEq, DV.mp.injEq, DV.msl.injEq, DV.tup.injEq, DV.agg.injEq, DV.fn.injEq, true_implies, forall_const, reduceCtorEq, implies_true, ne_eq, DMem.mt]
  refine PC.of_pf (by simp only [List.map_cons, List.map_nil, fz_agg, fz_prg]; exact PutR_pf p) ?_
  simp only [S4_swagelaw3_Packs, MU_swagelaw3_Packs, ldnI1, SW, wpD, evDL, evDM, evD, bldLD, List.contains_cons, List.contains_nil, Nat.reduceBEq, beq_self_eq_true, Nat.reduceMul, Nat.reduceSub, wpSp, Option.bind_some, Option.some.injEq, exists_eq_left', exists_eq_left, reduceIte, if_false, if_true, Nat.reduceEqDiff, Nat.reduceAdd, Nat.reduceLeDiff, Int.reduceEq, Int.reduceLT, Int.reduceLE, Int.reduceToNat, decide_true, decide_false, DV.bool.injEq, DV.int.injEq, DV.mp.injEq, DV.msl.injEq, DV.tup.injEq, DV.agg.injEq, DV.fn.injEq, true_implies, forall_const, reduceCtorEq, implies_true, ne_eq, DMem.mt]
  refine Get_pc s fun d2 M2 S2 h2 n2 f2 k2 => ?_
  simp only [S3_swagelaw3_Packs, MU_swagelaw3_Packs, h2.cell, h2.plain, ldnI1, SW, wpD, evDL, evDM, evD, bldLD, List.contains_cons, List.contains_nil, Nat.reduceBEq, beq_self_eq_true, Nat.reduceMul, Nat.reduceSub, wpSp, Option.bind_some, Option.some.injEq, exists_eq_left', exists_eq_left, reduceIte, if_false, if_true, Nat.reduceEqDiff, Nat.reduceAdd, Nat.reduceLeDiff, Int.reduceEq, Int.reduceLT, Int.reduceLE, Int.reduceToNat, decide_true, decide_false, DV.bool.injEq, DV.int.injEq, DV.mp.injEq, DV.msl.injEq, DV.tup.injEq, DV.agg.injEq, DV.fn.injEq, true_implies, forall_const, reduceCtorEq, implies_true, ne_eq, DMem.mt]
  refine GetR_pc s hs fun d3 M3 S3 h3 n3 f3 k3 => ?_
  have h23 := SlAt.sub fncE_ok h2 k3
  have h13 := SlAt.sub fncE_ok (SlAt.sub fncE_ok h1 k2) k3
  have hsame := SameProgram_pf (getR s).1 (getR s).1 (by omega) (fun f hf => by have := q2 f hf; omega)
  rw [decide_eq_true rfl] at hsame
  simp only [S2_swagelaw3_Packs, MU_swagelaw3_Packs, h3.cell, h3.plain, ldnI1, sl_fz4 h3, sl_fz4 h23, NumF_pf, hsame, bstr_list, beq_dec, SW, wpD, evDL, evDM, evD, bldLD, List.contains_cons, List.contains_nil, Nat.reduceBEq, beq_self_eq_true, Nat.reduceMul, Nat.reduceSub, wpSp, Option.bind_some, Option.some.injEq, exists_eq_left', exists_eq_left, reduceIte, if_false, if_true, Nat.reduceEqDiff, Nat.reduceAdd, Nat.reduceLeDiff, Int.reduceEq, Int.reduceLT, Int.reduceLE, Int.reduceToNat, decide_true, decide_false, DV.bool.injEq, DV.int.injEq, DV.mp.injEq, DV.msl.injEq, DV.tup.injEq, DV.agg.injEq, DV.fn.injEq, true_implies, forall_const, reduceCtorEq, implies_true, ne_eq, DMem.mt]
  refine SpoilProgram_pc h23 n2 (by omega) (fun f hf => by have := q2 f hf; omega) fun M4 k4 => ?_
  have h14 : SlAt fncE M4 d1 p S1 := h13.frame fncE_ok fun x hx => k4 x fun hh => by
    have := h1.here fncE_ok x hx
    have := f2 x hh
    contradiction
  have hsame2 := SameProgram_pf p p hp.len.1 hp.len.2
  rw [decide_eq_true rfl] at hsame2
  simp only [S1_swagelaw3_Packs, MU_swagelaw3_Packs, ldnI1, sl_fz4 h14, fz_prg, hsame2, awake_pf, SW, wpD, evDL, evDM, evD, bldLD, List.contains_cons, List.contains_nil, Nat.reduceBEq, beq_self_eq_true, Nat.reduceMul, Nat.reduceSub, wpSp, Option.bind_some, Option.some.injEq, exists_eq_left', exists_eq_left, reduceIte, if_false, if_true, Nat.reduceEqDiff, Nat.reduceAdd, Nat.reduceLeDiff, Int.reduceEq, Int.reduceLT, Int.reduceLE, Int.reduceToNat, decide_true, decide_false, DV.bool.injEq, DV.int.injEq, DV.mp.injEq, DV.msl.injEq, DV.tup.injEq, DV.agg.injEq, DV.fn.injEq, true_implies, forall_const, reduceCtorEq, implies_true, ne_eq, DMem.mt]
end Go.Proofs.Ytaifmmeghninhaa.Pf
