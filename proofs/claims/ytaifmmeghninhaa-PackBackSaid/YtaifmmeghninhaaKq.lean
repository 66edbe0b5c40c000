/- PackForms: the law at every input. No condition. -/
import Derived.Test.YtaifmmeghninhaaKp
namespace Go.Proofs.Ytaifmmeghninhaa.Pf
open Go Go.RowKit Go.Proofs Go.Proofs.Ytaifmmeghninhaa.Mw Go.Proofs.Ytaifmmeghninhaa.Sx
set_option linter.unusedVariables false
set_option linter.unusedSimpArgs false
set_option maxRecDepth 8000
def cF : List Ins := [⟨0, 4⟩, ⟨2, 1⟩, ⟨16, 0⟩]
def pF : List Fnc := [⟨1, 2, cF⟩]
def sF : List UInt8 := [84, 105, 107, 1, 1, 2, 3, 0, 4, 0, 0, 0, 2, 1, 16]
theorem pF_ok : packB pF = true := by decide
theorem pF_put : putB pF = sF := by decide
theorem put_pF : putR pF = (sF, 0) := by unfold putR; rw [pF_ok, pF_put]; rfl
def badL : List (List UInt8) := [[], [84, 105, 107], [116, 105, 107] ++ sF.drop 3, [84, 105, 107, 0], [84, 105, 107, 9] ++ sF.drop 4, [84, 105, 107, 1, 5, 5, 1, 16], [84, 105, 107, 1, 2, 1, 1, 16], [84, 105, 107, 1, 0, 9, 1, 16], [84, 105, 107, 1, 0, 0, 0], [84, 105, 107, 1, 0, 0, 1, 17], [84, 105, 107, 1, 0, 0, 1, 1, 8], [84, 105, 107, 1, 0, 0, 2, 16], sF ++ [0], sF.take 14]
theorem bad_no : ∀ l ∈ badL, ¬ (getR l).2 = 0 := by decide +kernel
theorem bad_get {k : Nat} (hk : k < 14) : getR (badL[k]'(by exact hk)) = ([], 300) := getR_no (bad_no _ (List.getElem_mem _))
abbrev strC (l : List UInt8) : List DV := [.str (bstr l)]
theorem strC_len (l : List UInt8) : (strC l).length = 1 := rfl
/-- One function alone, with what lies behind it. -/
theorem one_at {M : DMem} {d : DV} {S : List Nat} (h : SlAt fncE M d pF S) (hS : S.Nodup) : ∃ b c ty b1 c1 ty1, d = .msl b 0 1 c ∧ 1 ≤ c ∧ M b = some ⟨ty, c * 3, [.int .i64 1, .int .i64 2, .msl b1 0 3 c1]⟩ ∧ 3 ≤ c1 ∧ M b1 = some ⟨ty1, c1 * 2, cF.flatMap Ins.c⟩ ∧ b ≠ b1 ∧ b ∈ S ∧ b1 ∈ S := by
  obtain ⟨b, c, ty, cs, S', hd, hM, hr, hSe, hc⟩ := h.at (by decide)
  obtain ⟨x1, x2, S1, S2, rfl, rfl, ⟨d1, rfl, hs⟩, hx2, hS2⟩ := hr
  subst hx2; subst hS2
  obtain ⟨b1, c1, ty1, cs1, S1', hd1, hM1, hr1, hSe1, hc1⟩ := hs.at (by decide)
  obtain ⟨rfl, rfl⟩ := RowAt.flat_eq hr1
  refine ⟨b, c, ty, b1, c1, ty1, hd, hc, ?_, hc1, hM1, ?_, by rw [hSe]; simp, by rw [hSe, hSe1]; simp⟩
  · rw [hM, hd1]; rfl
  · rintro rfl
    rw [hSe, hSe1] at hS
    simp at hS
theorem fz_one {M : DMem} {b c n : Nat} {ty : TypeId} {a l : Int} {d1 : DV} {code : List Ins} (hc : 1 ≤ c) (h : M b = some ⟨ty, n, [.int .i64 a, .int .i64 l, d1]⟩) (h1 : fz M 3 d1 = slD Ins.c code) : fz M 4 (.msl b 0 1 c) = slD Fnc.c [⟨a, l, code⟩] := by
  rw [fz_msl h 3 0 1 c hc]
  simp only [List.map_cons, List.map_nil, fz_int, h1]
  rfl
theorem fz_code {M : DMem} {b c n k : Nat} {ty : TypeId} {code : List Ins} (hc : k ≤ c) (hl : code.length = k) (h : M b = some ⟨ty, n, code.flatMap Ins.c⟩) : fz M 3 (.msl b 0 k c) = slD Ins.c code := by
  rw [fz_msl h 2 0 k c hc, fzmap_froz (FrozL.flatMap Ins.froz _), List.drop_zero, ← hl]; rfl
theorem notB {f : Fnc} (h : fnB f = false) : packB [f] = false := by simp [packB, h]
theorem PackForms_pc (w x : Int) : PC Try.prog F_swagelaw3_PackForms [.int .i64 w, .int .i64 x] (fun d _ => d = .bool true) DMem.mt := by
  refine pc_swagelaw3_PackForms (by simp) ?_
  have hd := and_bnd x 10 (by decide)
  rw [show bits .and .i64 x ((2 ^ 10 - 1 : Nat) : Int) = bits .and .i64 x 1023 from rfl] at hd
  simp only [S_swagelaw3_PackForms, R_swagelaw3_PackForms, MU_swagelaw3_PackForms, awake_pf, SW, wpD, evDL, evDM, evD, bldLD, List.contains_cons, List.contains_nil, Nat.reduceBEq, beq_self_eq_true, Nat.reduceMul, Nat.reduceSub, wpSp, Option.bind_some, Option.some.injEq, exists_eq_left', exists_eq_left, reduceIte, if_false, if_true, Nat.reduceEqDiff, Nat.reduceAdd, Nat.reduceLeDiff, Int.reduceEq, Int.reduceLT, Int.reduceLE, Int.reduceToNat, decide_true, decide_false, DV.bool.injEq, DV.int.injEq, DV.mp.injEq, DV.msl.injEq, DV.tup.injEq, DV.agg.injEq, DV.fn.injEq, true_implies, forall_const, reduceCtorEq, implies_true, ne_eq, DMem.mt]
  generalize bits .and .i64 x 1023 = y at hd ⊢
  obtain ⟨m, rfl⟩ := Int.eq_ofNat_of_zero_le hd.1
  have hm : m < 1024 := by have := hd.2; omega
  have ek : wr64 (1 + (m : Int)) = ((1 + m : Nat) : Int) := by rw [w64 (by omega)]; omega
  rw [ek]
  clear ek hd
  generalize hk : 1 + m = k
  have hk1 : 1 ≤ k := by omega
  have hk2 : k ≤ 1024 := by omega
  clear hk hm
  have hp : DV.isl 1 [.int .i64 1, .int .i64 2, .isl 3 [.int .i64 0, .int .i64 4, .int .i64 2, .int .i64 1, .int .i64 16, .int .i64 0]] = slD Fnc.c pF := rfl
  simp only [hp, ldnI1, SW, wpD, evDL, evDM, evD, bldLD, List.contains_cons, List.contains_nil, Nat.reduceBEq, beq_self_eq_true, Nat.reduceMul, Nat.reduceSub, wpSp, Option.bind_some, Option.some.injEq, exists_eq_left', exists_eq_left, reduceIte, if_false, if_true, Nat.reduceEqDiff, Nat.reduceAdd, Nat.reduceLeDiff, Int.reduceEq, Int.reduceLT, Int.reduceLE, Int.reduceToNat, decide_true, decide_false, DV.bool.injEq, DV.int.injEq, DV.mp.injEq, DV.msl.injEq, DV.tup.injEq, DV.agg.injEq, DV.fn.injEq, true_implies, forall_const, reduceCtorEq, implies_true, ne_eq, DMem.mt]
  refine PC.of_pf (by simp only [List.map_cons, List.map_nil, fz_agg, fz_prg]; exact Put_pf pF) ?_
  have hsl : slenD (.str (bstr sF)) = some (.int .i64 15) := bstr_slen sF
  simp only [S6_swagelaw3_PackForms, MU_swagelaw3_PackForms, put_pF, NumF_pf, hsl, ldnI1, SW, wpD, evDL, evDM, evD, bldLD, List.contains_cons, List.contains_nil, Nat.reduceBEq, beq_self_eq_true, Nat.reduceMul, Nat.reduceSub, wpSp, Option.bind_some, Option.some.injEq, exists_eq_left', exists_eq_left, reduceIte, if_false, if_true, Nat.reduceEqDiff, Nat.reduceAdd, Nat.reduceLeDiff, Int.reduceEq, Int.reduceLT, Int.reduceLE, Int.reduceToNat, decide_true, decide_false, DV.bool.injEq, DV.int.injEq, DV.mp.injEq, DV.msl.injEq, DV.tup.injEq, DV.agg.injEq, DV.fn.injEq, true_implies, forall_const, reduceCtorEq, implies_true, ne_eq, DMem.mt]
  refine CopyProgram_pc pF (by decide) (by decide) fun dq M1 S hq hnd _ _ => ?_
  simp only [S5_swagelaw3_PackForms, MU_swagelaw3_PackForms, hq.cell, hq.plain, SW, wpD, evDL, evDM, evD, bldLD, List.contains_cons, List.contains_nil, Nat.reduceBEq, beq_self_eq_true, Nat.reduceMul, Nat.reduceSub, wpSp, Option.bind_some, Option.some.injEq, exists_eq_left', exists_eq_left, reduceIte, if_false, if_true, Nat.reduceEqDiff, Nat.reduceAdd, Nat.reduceLeDiff, Int.reduceEq, Int.reduceLT, Int.reduceLE, Int.reduceToNat, decide_true, decide_false, DV.bool.injEq, DV.int.injEq, DV.mp.injEq, DV.msl.injEq, DV.tup.injEq, DV.agg.injEq, DV.fn.injEq, true_implies, forall_const, reduceCtorEq, implies_true, ne_eq, DMem.mt]
  intro qb M2 hqb hM2
  have hq2 : SlAt fncE M2 dq pF S := hq.frame fncE_ok fun y hy => by
    have : y ≠ qb := by rintro rfl; exact hq.here fncE_ok y hy hqb
    rw [hM2, DMem.ins_ne _ _ this]
  have hqS : qb ∉ S := fun hh => hq.here fncE_ok qb hh hqb
  have hMq : M2 qb = some ⟨24, 1, [dq]⟩ := by rw [hM2, DMem.ins_same]
  clear hM2 hq hqb
  obtain ⟨b, c, ty, b1, c1, ty1, rfl, hc, hMb, hc1, hMb1, hbb, hbS, hb1S⟩ := one_at hq2 hnd
  have hqb' : qb ≠ b := by rintro rfl; exact hqS hbS
  have hqb1 : qb ≠ b1 := by rintro rfl; exact hqS hb1S
  clear hq2 hnd hqS hbS hb1S
  have tail : ∀ (δ : DEnv) (M : DMem) (d' : DV) (p' : List Fnc) (KK : DEnv → DMem → Prop) (XX : Nat → DEnv → DMem → Prop), δ 0 = .int .i64 w → δ 7 = .str (bstr sF) → δ 9 = .mp qb 0 → M qb = some ⟨24, 1, [d']⟩ → fz M 4 d' = slD Fnc.c p' → packB p' = false →
      wpD Try.prog MU_swagelaw3_PackForms (fun f => roL.contains f) (fun t => G_swagelaw3_PackForms.contains t) 188 S4_swagelaw3_PackForms KK XX (fun δ M' => δ 4 = .bool true) δ M := by
    intro δ M d' p' KK XX h0 h7 h9 hM hfz hno
    simp only [S4_swagelaw3_PackForms, MU_swagelaw3_PackForms, h0, h7, h9, hM, SW, wpD, evDL, evDM, evD, bldLD, List.contains_cons, List.contains_nil, Nat.reduceBEq, beq_self_eq_true, Nat.reduceMul, Nat.reduceSub, wpSp, Option.bind_some, Option.some.injEq, exists_eq_left', exists_eq_left, reduceIte, if_false, if_true, Nat.reduceEqDiff, Nat.reduceAdd, Nat.reduceLeDiff, Int.reduceEq, Int.reduceLT, Int.reduceLE, Int.reduceToNat, decide_true, decide_false, DV.bool.injEq, DV.int.injEq, DV.mp.injEq, DV.msl.injEq, DV.tup.injEq, DV.agg.injEq, DV.fn.injEq, true_implies, forall_const, reduceCtorEq, implies_true, ne_eq, DMem.mt]
    refine PC.of_pf (by simp only [List.map_cons, List.map_nil, fz_agg, hfz]; exact Put_pf p') ?_
    have hput : putR p' = ([], 300) := by unfold putR; rw [hno]; rfl
    rw [hput]
    have l3 : sslcD (.str (bstr sF)) (.tup [.int .i64 3]) (.tup []) = some (.str (bstr (sF.drop 3))) := bstr_lo (k := .i64) (i := 3) (by decide)
    have l4 : sslcD (.str (bstr sF)) (.tup [.int .i64 4]) (.tup []) = some (.str (bstr (sF.drop 4))) := bstr_lo (k := .i64) (i := 4) (by decide)
    have l14 : sslcD (.str (bstr sF)) (.tup []) (.tup [.int .i64 14]) = some (.str (bstr (sF.take 14))) := bstr_hi (k := .i64) (i := 14) (by decide)
    have e14 : wr64 (15 - 1) = 14 := w64 (by decide)
    have a1 : binD .add (.str ⟨#[116, 105, 107]⟩) (.str (bstr (sF.drop 3))) = some (.str (bstr ([116, 105, 107] ++ sF.drop 3))) := bstr_add (by decide)
    have a2 : binD .add (.str ⟨#[84, 105, 107, 9]⟩) (.str (bstr (sF.drop 4))) = some (.str (bstr ([84, 105, 107, 9] ++ sF.drop 4))) := bstr_add (by decide)
    have a3 : binD .add (.str (bstr sF)) (.str ⟨#[0]⟩) = some (.str (bstr (sF ++ [0]))) := bstr_add (by decide)
    simp only [S3_swagelaw3_PackForms, raw1_swagelaw3_PackForms, P1_swagelaw3_PackForms, MU_swagelaw3_PackForms, h0, h7, h9, l3, l4, l14, e14, a1, a2, a3, hsl, freshI, List.map_cons, List.map_nil, SW, wpD, evDL, evDM, evD, bldLD, List.contains_cons, List.contains_nil, Nat.reduceBEq, beq_self_eq_true, Nat.reduceMul, Nat.reduceSub, wpSp, Option.bind_some, Option.some.injEq, exists_eq_left', exists_eq_left, reduceIte, if_false, if_true, Nat.reduceEqDiff, Nat.reduceAdd, Nat.reduceLeDiff, Int.reduceEq, Int.reduceLT, Int.reduceLE, Int.reduceToNat, decide_true, decide_false, DV.bool.injEq, DV.int.injEq, DV.mp.injEq, DV.msl.injEq, DV.tup.injEq, DV.agg.injEq, DV.fn.injEq, true_implies, forall_const, reduceCtorEq, implies_true, ne_eq, DMem.mt]
    have hbad : DV.isl 14 [.str ⟨#[]⟩, .str ⟨#[84, 105, 107]⟩, .str (bstr (116 :: 105 :: 107 :: List.drop 3 sF)), .str ⟨#[84, 105, 107, 0]⟩, .str (bstr (84 :: 105 :: 107 :: 9 :: List.drop 4 sF)), .str ⟨#[84, 105, 107, 1, 5, 5, 1, 16]⟩, .str ⟨#[84, 105, 107, 1, 2, 1, 1, 16]⟩, .str ⟨#[84, 105, 107, 1, 0, 9, 1, 16]⟩, .str ⟨#[84, 105, 107, 1, 0, 0, 0]⟩, .str ⟨#[84, 105, 107, 1, 0, 0, 1, 17]⟩, .str ⟨#[84, 105, 107, 1, 0, 0, 1, 1, 8]⟩, .str ⟨#[84, 105, 107, 1, 0, 0, 2, 16]⟩, .str (bstr (sF ++ [0])), .str (bstr (List.take 14 sF))] = slD strC badL := rfl
    rw [hbad]
    have hb := tmod_bnd w 14 (by decide)
    obtain ⟨i, hi⟩ := Int.eq_ofNat_of_zero_le hb.1
    have hi14 : i < 14 := by have := hb.2; rw [hi] at this; exact_mod_cast this
    replace hi : (w % 18446744073709551616).tmod 14 = (i : Int) := hi
    have hib : i < badL.length := hi14
    have ei : wr64 (i : Int) = i := w64 (by omega)
    simp only [S2_swagelaw3_PackForms, MU_swagelaw3_PackForms, h0, h7, h9, hi, ei, ix_slD strC_len hib, SW, wpD, evDL, evDM, evD, bldLD, List.contains_cons, List.contains_nil, Nat.reduceBEq, beq_self_eq_true, Nat.reduceMul, Nat.reduceSub, wpSp, Option.bind_some, Option.some.injEq, exists_eq_left', exists_eq_left, reduceIte, if_false, if_true, Nat.reduceEqDiff, Nat.reduceAdd, Nat.reduceLeDiff, Int.reduceEq, Int.reduceLT, Int.reduceLE, Int.reduceToNat, decide_true, decide_false, DV.bool.injEq, DV.int.injEq, DV.mp.injEq, DV.msl.injEq, DV.tup.injEq, DV.agg.injEq, DV.fn.injEq, true_implies, forall_const, reduceCtorEq, implies_true, ne_eq, DMem.mt]
    refine Get_pc (badL[i]) fun d9 M9 S9 h9 _ _ _ => ?_
    have hbg : getR badL[i] = ([], 300) := bad_get hi14
    rw [hbg] at h9 ⊢
    simp only [S1_swagelaw3_PackForms, MU_swagelaw3_PackForms, h9.cell, h9.plain, h9.lenD, NumF_pf, bstr_nil, bstr_list, beq_dec, SW, wpD, evDL, evDM, evD, bldLD, List.contains_cons, List.contains_nil, Nat.reduceBEq, beq_self_eq_true, Nat.reduceMul, Nat.reduceSub, wpSp, Option.bind_some, Option.some.injEq, exists_eq_left', exists_eq_left, reduceIte, if_false, if_true, Nat.reduceEqDiff, Nat.reduceAdd, Nat.reduceLeDiff, Int.reduceEq, Int.reduceLT, Int.reduceLE, Int.reduceToNat, decide_true, decide_false, DV.bool.injEq, DV.int.injEq, DV.mp.injEq, DV.msl.injEq, DV.tup.injEq, DV.agg.injEq, DV.fn.injEq, true_implies, forall_const, reduceCtorEq, implies_true, ne_eq, DMem.mt]
    rfl
  have hb := tmod_bnd w 12 (by decide)
  obtain ⟨j, hj⟩ := Int.eq_ofNat_of_zero_le hb.1
  have hj12 : j < 12 := by have := hb.2; rw [hj] at this; exact_mod_cast this
  replace hj : (w % 18446744073709551616).tmod 12 = (j : Int) := hj
  have hjj : j = 0 ∨ j = 1 ∨ j = 2 ∨ j = 3 ∨ j = 4 ∨ j = 5 ∨ j = 6 ∨ j = 7 ∨ j = 8 ∨ j = 9 ∨ j = 10 ∨ j = 11 := by omega
  have ix0 : ixD 3 (.msl b 0 1 c) (.int .i64 0) = some (.mp b 0) := ixM0 (by decide)
  have ic0 : ixD 2 (.msl b1 0 3 c1) (.int .i64 0) = some (.mp b1 0) := ixM0 (by decide)
  have ic1 : ixD 2 (.msl b1 0 3 c1) (.int .i64 1) = some (.mp b1 2) := ixM (i := 1) (by decide)
  have ic2 : ixD 2 (.msl b1 0 3 c1) (.int .i64 2) = some (.mp b1 4) := ixM (i := 2) (by decide)
  have w8 : wr64 (8 + (k : Int)) = ((8 + k : Nat) : Int) := by rw [w64 (by omega)]; omega
  have w4 : wr64 (4 + (k : Int)) = ((4 + k : Nat) : Int) := by rw [w64 (by omega)]; omega
  have w7 : wr64 (7 + (k : Int)) = ((7 + k : Nat) : Int) := by rw [w64 (by omega)]; omega
  have w16 : wr64 (16 + (k : Int)) = ((16 + k : Nat) : Int) := by rw [w64 (by omega)]; omega
  have w21 : wr64 (2147483647 + (k : Int)) = ((2147483647 + k : Nat) : Int) := by rw [w64 (by omega)]; omega
  have w64' : wr64 (64 + (k : Int)) = ((64 + k : Nat) : Int) := by rw [w64 (by omega)]; omega
  have wn : wr64 (0 - (k : Int)) = -(k : Int) := by rw [w64 (by omega)]; omega
  rcases hjj with rfl | rfl | rfl | rfl | rfl | rfl | rfl | rfl | rfl | rfl | rfl | rfl
  · replace hj : (w % 18446744073709551616).tmod 12 = 0 := hj
    simp only [hj, hMq, hMb, hMb1, ix0, ic0, ic1, ic2, w8, SW, wpD, evDL, evDM, evD, bldLD, List.contains_cons, List.contains_nil, Nat.reduceBEq, beq_self_eq_true, Nat.reduceMul, Nat.reduceSub, wpSp, Option.bind_some, Option.some.injEq, exists_eq_left', exists_eq_left, reduceIte, if_false, if_true, Nat.reduceEqDiff, Nat.reduceAdd, Nat.reduceLeDiff, Int.reduceEq, Int.reduceLT, Int.reduceLE, Int.reduceToNat, decide_true, decide_false, DV.bool.injEq, DV.int.injEq, DV.mp.injEq, DV.msl.injEq, DV.tup.injEq, DV.agg.injEq, DV.fn.injEq, true_implies, forall_const, reduceCtorEq, implies_true, ne_eq, DMem.mt]
    refine mkF (c := fun _ : Unit => [.int .i64 0, .int .i64 0, .zsl]) () rfl (by decide) rfl (by omega) (by omega) fun nb M3 hn hM3 => ?_
    have hnq : nb ≠ qb := by rintro rfl; rw [hMq] at hn; cases hn
    have hq3 : M3 qb = some ⟨24, 1, [.msl b 0 1 c]⟩ := by rw [hM3, DMem.ins_ne _ _ (Ne.symm hnq)]; exact hMq
    try simp only [SW, wpD, evDL, evDM, evD, bldLD, List.contains_cons, List.contains_nil, Nat.reduceBEq, beq_self_eq_true, Nat.reduceMul, Nat.reduceSub, wpSp, Option.bind_some, Option.some.injEq, exists_eq_left', exists_eq_left, reduceIte, if_false, if_true, Nat.reduceEqDiff, Nat.reduceAdd, Nat.reduceLeDiff, Int.reduceEq, Int.reduceLT, Int.reduceLE, Int.reduceToNat, decide_true, decide_false, DV.bool.injEq, DV.int.injEq, DV.mp.injEq, DV.msl.injEq, DV.tup.injEq, DV.agg.injEq, DV.fn.injEq, true_implies, forall_const, reduceCtorEq, implies_true, ne_eq, DMem.mt]
    refine stD hq3 rfl rfl (by simp) (by simp) rfl fun M4 hM4 => ?_
    try simp only [SW, wpD, evDL, evDM, evD, bldLD, List.contains_cons, List.contains_nil, Nat.reduceBEq, beq_self_eq_true, Nat.reduceMul, Nat.reduceSub, wpSp, Option.bind_some, Option.some.injEq, exists_eq_left', exists_eq_left, reduceIte, if_false, if_true, Nat.reduceEqDiff, Nat.reduceAdd, Nat.reduceLeDiff, Int.reduceEq, Int.reduceLT, Int.reduceLE, Int.reduceToNat, decide_true, decide_false, DV.bool.injEq, DV.int.injEq, DV.mp.injEq, DV.msl.injEq, DV.tup.injEq, DV.agg.injEq, DV.fn.injEq, true_implies, forall_const, reduceCtorEq, implies_true, ne_eq, DMem.mt]
    have hq4 : M4 qb = some ⟨24, 1, [.msl nb 0 (8 + k) (8 + k)]⟩ := by rw [hM4, DMem.ins_same]; rfl
    have hn4 : M4 nb = some ⟨46, (8 + k) * 3, (List.replicate (8 + k) ()).flatMap fun _ => [.int .i64 0, .int .i64 0, .zsl]⟩ := by rw [hM4, DMem.ins_ne _ _ hnq, hM3, DMem.ins_same]
    refine tail _ M4 _ (List.replicate (8 + k) ⟨0, 0, []⟩) (fun δ M' => δ 4 = .bool true) (fun _ _ _ => False) rfl rfl rfl hq4 ?_ ?_
    · rw [fz_msl hn4 3 0 _ _ (Nat.le_refl _), List.drop_zero]
      unfold slD
      rw [List.length_replicate]
      congr 1
      generalize 8 + k = n
      induction n with
      | zero => rfl
      | succ n ih =>
        rw [List.replicate_succ, List.replicate_succ, List.flatMap_cons, List.flatMap_cons, List.map_append, ih]
        simp only [List.map_cons, List.map_nil, fz_int, fz_zsl]
        rfl
    · unfold packB
      rw [List.length_replicate, decide_eq_false (show ¬ 8 + k ≤ 8 by omega)]
      simp
  · replace hj : (w % 18446744073709551616).tmod 12 = 1 := hj
    simp only [hj, hMq, hMb, hMb1, ix0, ic0, ic1, ic2, wn, SW, wpD, evDL, evDM, evD, bldLD, List.contains_cons, List.contains_nil, Nat.reduceBEq, beq_self_eq_true, Nat.reduceMul, Nat.reduceSub, wpSp, Option.bind_some, Option.some.injEq, exists_eq_left', exists_eq_left, reduceIte, if_false, if_true, Nat.reduceEqDiff, Nat.reduceAdd, Nat.reduceLeDiff, Int.reduceEq, Int.reduceLT, Int.reduceLE, Int.reduceToNat, decide_true, decide_false, DV.bool.injEq, DV.int.injEq, DV.mp.injEq, DV.msl.injEq, DV.tup.injEq, DV.agg.injEq, DV.fn.injEq, true_implies, forall_const, reduceCtorEq, implies_true, ne_eq, DMem.mt]
    refine stD hMb rfl rfl (by simp) (by omega) rfl fun M3 hM3 => ?_
    try simp only [SW, wpD, evDL, evDM, evD, bldLD, List.contains_cons, List.contains_nil, Nat.reduceBEq, beq_self_eq_true, Nat.reduceMul, Nat.reduceSub, wpSp, Option.bind_some, Option.some.injEq, exists_eq_left', exists_eq_left, reduceIte, if_false, if_true, Nat.reduceEqDiff, Nat.reduceAdd, Nat.reduceLeDiff, Int.reduceEq, Int.reduceLT, Int.reduceLE, Int.reduceToNat, decide_true, decide_false, DV.bool.injEq, DV.int.injEq, DV.mp.injEq, DV.msl.injEq, DV.tup.injEq, DV.agg.injEq, DV.fn.injEq, true_implies, forall_const, reduceCtorEq, implies_true, ne_eq, DMem.mt]
    have hq3 : M3 qb = some ⟨24, 1, [.msl b 0 1 c]⟩ := by rw [hM3, DMem.ins_ne _ _ hqb']; exact hMq
    have hb3 : M3 b = some ⟨ty, c * 3, [.int .i64 (-(k : Int)), .int .i64 2, .msl b1 0 3 c1]⟩ := by rw [hM3, DMem.ins_same]; rfl
    have hb13 : M3 b1 = some ⟨ty1, c1 * 2, cF.flatMap Ins.c⟩ := by rw [hM3, DMem.ins_ne _ _ (Ne.symm hbb)]; exact hMb1
    exact tail _ M3 _ [⟨-(k : Int), 2, cF⟩] (fun δ M' => δ 4 = .bool true) (fun _ _ _ => False) rfl rfl rfl hq3 (fz_one hc hb3 (fz_code hc1 rfl hb13)) (notB (by simp [fnB, fmayB, mayB, belowF, isB, cF]; omega))
  · replace hj : (w % 18446744073709551616).tmod 12 = 2 := hj
    simp only [hj, hMq, hMb, hMb1, ix0, ic0, ic1, ic2, w4, SW, wpD, evDL, evDM, evD, bldLD, List.contains_cons, List.contains_nil, Nat.reduceBEq, beq_self_eq_true, Nat.reduceMul, Nat.reduceSub, wpSp, Option.bind_some, Option.some.injEq, exists_eq_left', exists_eq_left, reduceIte, if_false, if_true, Nat.reduceEqDiff, Nat.reduceAdd, Nat.reduceLeDiff, Int.reduceEq, Int.reduceLT, Int.reduceLE, Int.reduceToNat, decide_true, decide_false, DV.bool.injEq, DV.int.injEq, DV.mp.injEq, DV.msl.injEq, DV.tup.injEq, DV.agg.injEq, DV.fn.injEq, true_implies, forall_const, reduceCtorEq, implies_true, ne_eq, DMem.mt]
    refine stD hMb rfl rfl (by simp) (by omega) rfl fun M3 hM3 => ?_
    try simp only [SW, wpD, evDL, evDM, evD, bldLD, List.contains_cons, List.contains_nil, Nat.reduceBEq, beq_self_eq_true, Nat.reduceMul, Nat.reduceSub, wpSp, Option.bind_some, Option.some.injEq, exists_eq_left', exists_eq_left, reduceIte, if_false, if_true, Nat.reduceEqDiff, Nat.reduceAdd, Nat.reduceLeDiff, Int.reduceEq, Int.reduceLT, Int.reduceLE, Int.reduceToNat, decide_true, decide_false, DV.bool.injEq, DV.int.injEq, DV.mp.injEq, DV.msl.injEq, DV.tup.injEq, DV.agg.injEq, DV.fn.injEq, true_implies, forall_const, reduceCtorEq, implies_true, ne_eq, DMem.mt]
    have hq3 : M3 qb = some ⟨24, 1, [.msl b 0 1 c]⟩ := by rw [hM3, DMem.ins_ne _ _ hqb']; exact hMq
    have hb3 : M3 b = some ⟨ty, c * 3, [.int .i64 ((4 + k : Nat) : Int), .int .i64 2, .msl b1 0 3 c1]⟩ := by rw [hM3, DMem.ins_same]; rfl
    have hb13 : M3 b1 = some ⟨ty1, c1 * 2, cF.flatMap Ins.c⟩ := by rw [hM3, DMem.ins_ne _ _ (Ne.symm hbb)]; exact hMb1
    exact tail _ M3 _ [⟨((4 + k : Nat) : Int), 2, cF⟩] (fun δ M' => δ 4 = .bool true) (fun _ _ _ => False) rfl rfl rfl hq3 (fz_one hc hb3 (fz_code hc1 rfl hb13)) (notB (by simp [fnB, fmayB, mayB, belowF, isB, cF]; omega))
  · replace hj : (w % 18446744073709551616).tmod 12 = 3 := hj
    simp only [hj, hMq, hMb, hMb1, ix0, ic0, ic1, ic2, SW, wpD, evDL, evDM, evD, bldLD, List.contains_cons, List.contains_nil, Nat.reduceBEq, beq_self_eq_true, Nat.reduceMul, Nat.reduceSub, wpSp, Option.bind_some, Option.some.injEq, exists_eq_left', exists_eq_left, reduceIte, if_false, if_true, Nat.reduceEqDiff, Nat.reduceAdd, Nat.reduceLeDiff, Int.reduceEq, Int.reduceLT, Int.reduceLE, Int.reduceToNat, decide_true, decide_false, DV.bool.injEq, DV.int.injEq, DV.mp.injEq, DV.msl.injEq, DV.tup.injEq, DV.agg.injEq, DV.fn.injEq, true_implies, forall_const, reduceCtorEq, implies_true, ne_eq, DMem.mt]
    refine stD hMb rfl rfl (by simp) (by omega) rfl fun M3 hM3 => ?_
    try simp only [SW, wpD, evDL, evDM, evD, bldLD, List.contains_cons, List.contains_nil, Nat.reduceBEq, beq_self_eq_true, Nat.reduceMul, Nat.reduceSub, wpSp, Option.bind_some, Option.some.injEq, exists_eq_left', exists_eq_left, reduceIte, if_false, if_true, Nat.reduceEqDiff, Nat.reduceAdd, Nat.reduceLeDiff, Int.reduceEq, Int.reduceLT, Int.reduceLE, Int.reduceToNat, decide_true, decide_false, DV.bool.injEq, DV.int.injEq, DV.mp.injEq, DV.msl.injEq, DV.tup.injEq, DV.agg.injEq, DV.fn.injEq, true_implies, forall_const, reduceCtorEq, implies_true, ne_eq, DMem.mt]
    have hq3 : M3 qb = some ⟨24, 1, [.msl b 0 1 c]⟩ := by rw [hM3, DMem.ins_ne _ _ hqb']; exact hMq
    have hb3 : M3 b = some ⟨ty, c * 3, [.int .i64 1, .int .i64 0, .msl b1 0 3 c1]⟩ := by rw [hM3, DMem.ins_same]; rfl
    have hb13 : M3 b1 = some ⟨ty1, c1 * 2, cF.flatMap Ins.c⟩ := by rw [hM3, DMem.ins_ne _ _ (Ne.symm hbb)]; exact hMb1
    exact tail _ M3 _ [⟨1, 0, cF⟩] (fun δ M' => δ 4 = .bool true) (fun _ _ _ => False) rfl rfl rfl hq3 (fz_one hc hb3 (fz_code hc1 rfl hb13)) (notB (by decide))
  · replace hj : (w % 18446744073709551616).tmod 12 = 4 := hj
    simp only [hj, hMq, hMb, hMb1, ix0, ic0, ic1, ic2, w8, SW, wpD, evDL, evDM, evD, bldLD, List.contains_cons, List.contains_nil, Nat.reduceBEq, beq_self_eq_true, Nat.reduceMul, Nat.reduceSub, wpSp, Option.bind_some, Option.some.injEq, exists_eq_left', exists_eq_left, reduceIte, if_false, if_true, Nat.reduceEqDiff, Nat.reduceAdd, Nat.reduceLeDiff, Int.reduceEq, Int.reduceLT, Int.reduceLE, Int.reduceToNat, decide_true, decide_false, DV.bool.injEq, DV.int.injEq, DV.mp.injEq, DV.msl.injEq, DV.tup.injEq, DV.agg.injEq, DV.fn.injEq, true_implies, forall_const, reduceCtorEq, implies_true, ne_eq, DMem.mt]
    refine stD hMb rfl rfl (by simp) (by omega) rfl fun M3 hM3 => ?_
    try simp only [SW, wpD, evDL, evDM, evD, bldLD, List.contains_cons, List.contains_nil, Nat.reduceBEq, beq_self_eq_true, Nat.reduceMul, Nat.reduceSub, wpSp, Option.bind_some, Option.some.injEq, exists_eq_left', exists_eq_left, reduceIte, if_false, if_true, Nat.reduceEqDiff, Nat.reduceAdd, Nat.reduceLeDiff, Int.reduceEq, Int.reduceLT, Int.reduceLE, Int.reduceToNat, decide_true, decide_false, DV.bool.injEq, DV.int.injEq, DV.mp.injEq, DV.msl.injEq, DV.tup.injEq, DV.agg.injEq, DV.fn.injEq, true_implies, forall_const, reduceCtorEq, implies_true, ne_eq, DMem.mt]
    have hq3 : M3 qb = some ⟨24, 1, [.msl b 0 1 c]⟩ := by rw [hM3, DMem.ins_ne _ _ hqb']; exact hMq
    have hb3 : M3 b = some ⟨ty, c * 3, [.int .i64 1, .int .i64 ((8 + k : Nat) : Int), .msl b1 0 3 c1]⟩ := by rw [hM3, DMem.ins_same]; rfl
    have hb13 : M3 b1 = some ⟨ty1, c1 * 2, cF.flatMap Ins.c⟩ := by rw [hM3, DMem.ins_ne _ _ (Ne.symm hbb)]; exact hMb1
    exact tail _ M3 _ [⟨1, ((8 + k : Nat) : Int), cF⟩] (fun δ M' => δ 4 = .bool true) (fun _ _ _ => False) rfl rfl rfl hq3 (fz_one hc hb3 (fz_code hc1 rfl hb13)) (notB (by simp [fnB, fmayB, mayB, belowF, isB, cF]; omega))
  · replace hj : (w % 18446744073709551616).tmod 12 = 5 := hj
    simp only [hj, hMq, hMb, hMb1, ix0, ic0, ic1, ic2, SW, wpD, evDL, evDM, evD, bldLD, List.contains_cons, List.contains_nil, Nat.reduceBEq, beq_self_eq_true, Nat.reduceMul, Nat.reduceSub, wpSp, Option.bind_some, Option.some.injEq, exists_eq_left', exists_eq_left, reduceIte, if_false, if_true, Nat.reduceEqDiff, Nat.reduceAdd, Nat.reduceLeDiff, Int.reduceEq, Int.reduceLT, Int.reduceLE, Int.reduceToNat, decide_true, decide_false, DV.bool.injEq, DV.int.injEq, DV.mp.injEq, DV.msl.injEq, DV.tup.injEq, DV.agg.injEq, DV.fn.injEq, true_implies, forall_const, reduceCtorEq, implies_true, ne_eq, DMem.mt]
    refine stD hMb rfl rfl (by simp) (by omega) rfl fun M3 hM3 => ?_
    try simp only [SW, wpD, evDL, evDM, evD, bldLD, List.contains_cons, List.contains_nil, Nat.reduceBEq, beq_self_eq_true, Nat.reduceMul, Nat.reduceSub, wpSp, Option.bind_some, Option.some.injEq, exists_eq_left', exists_eq_left, reduceIte, if_false, if_true, Nat.reduceEqDiff, Nat.reduceAdd, Nat.reduceLeDiff, Int.reduceEq, Int.reduceLT, Int.reduceLE, Int.reduceToNat, decide_true, decide_false, DV.bool.injEq, DV.int.injEq, DV.mp.injEq, DV.msl.injEq, DV.tup.injEq, DV.agg.injEq, DV.fn.injEq, true_implies, forall_const, reduceCtorEq, implies_true, ne_eq, DMem.mt]
    have hq3 : M3 qb = some ⟨24, 1, [.msl b 0 1 c]⟩ := by rw [hM3, DMem.ins_ne _ _ hqb']; exact hMq
    have hb3 : M3 b = some ⟨ty, c * 3, [.int .i64 1, .int .i64 2, .zsl]⟩ := by rw [hM3, DMem.ins_same]; rfl
    have hb13 : M3 b1 = some ⟨ty1, c1 * 2, cF.flatMap Ins.c⟩ := by rw [hM3, DMem.ins_ne _ _ (Ne.symm hbb)]; exact hMb1
    exact tail _ M3 _ [⟨1, 2, []⟩] (fun δ M' => δ 4 = .bool true) (fun _ _ _ => False) rfl rfl rfl hq3 (fz_one hc hb3 (fz_zsl _ _)) (notB (by decide))
  · replace hj : (w % 18446744073709551616).tmod 12 = 6 := hj
    simp only [hj, hMq, hMb, hMb1, ix0, ic0, ic1, ic2, w64', raw0_swagelaw3_PackForms, P0_swagelaw3_PackForms, SW, wpD, evDL, evDM, evD, bldLD, List.contains_cons, List.contains_nil, Nat.reduceBEq, beq_self_eq_true, Nat.reduceMul, Nat.reduceSub, wpSp, Option.bind_some, Option.some.injEq, exists_eq_left', exists_eq_left, reduceIte, if_false, if_true, Nat.reduceEqDiff, Nat.reduceAdd, Nat.reduceLeDiff, Int.reduceEq, Int.reduceLT, Int.reduceLE, Int.reduceToNat, decide_true, decide_false, DV.bool.injEq, DV.int.injEq, DV.mp.injEq, DV.msl.injEq, DV.tup.injEq, DV.agg.injEq, DV.fn.injEq, true_implies, forall_const, reduceCtorEq, implies_true, ne_eq, DMem.mt]
    refine mkF (c := Ins.c) ⟨0, 0⟩ rfl (by decide) rfl (by omega) (by omega) fun nb M3 hn hM3 => ?_
    have hnq : nb ≠ qb := by rintro rfl; rw [hMq] at hn; cases hn
    have hnb : nb ≠ b := by rintro rfl; rw [hMb] at hn; cases hn
    have hq3 : M3 qb = some ⟨24, 1, [.msl b 0 1 c]⟩ := by rw [hM3, DMem.ins_ne _ _ (Ne.symm hnq)]; exact hMq
    have hb3 : M3 b = some ⟨ty, c * 3, [.int .i64 1, .int .i64 2, .msl b1 0 3 c1]⟩ := by rw [hM3, DMem.ins_ne _ _ (Ne.symm hnb)]; exact hMb
    simp only [hq3, hb3, ix0, SW, wpD, evDL, evDM, evD, bldLD, List.contains_cons, List.contains_nil, Nat.reduceBEq, beq_self_eq_true, Nat.reduceMul, Nat.reduceSub, wpSp, Option.bind_some, Option.some.injEq, exists_eq_left', exists_eq_left, reduceIte, if_false, if_true, Nat.reduceEqDiff, Nat.reduceAdd, Nat.reduceLeDiff, Int.reduceEq, Int.reduceLT, Int.reduceLE, Int.reduceToNat, decide_true, decide_false, DV.bool.injEq, DV.int.injEq, DV.mp.injEq, DV.msl.injEq, DV.tup.injEq, DV.agg.injEq, DV.fn.injEq, true_implies, forall_const, reduceCtorEq, implies_true, ne_eq, DMem.mt]
    refine stD hb3 rfl rfl (by simp) (by omega) rfl fun M4 hM4 => ?_
    try simp only [SW, wpD, evDL, evDM, evD, bldLD, List.contains_cons, List.contains_nil, Nat.reduceBEq, beq_self_eq_true, Nat.reduceMul, Nat.reduceSub, wpSp, Option.bind_some, Option.some.injEq, exists_eq_left', exists_eq_left, reduceIte, if_false, if_true, Nat.reduceEqDiff, Nat.reduceAdd, Nat.reduceLeDiff, Int.reduceEq, Int.reduceLT, Int.reduceLE, Int.reduceToNat, decide_true, decide_false, DV.bool.injEq, DV.int.injEq, DV.mp.injEq, DV.msl.injEq, DV.tup.injEq, DV.agg.injEq, DV.fn.injEq, true_implies, forall_const, reduceCtorEq, implies_true, ne_eq, DMem.mt]
    have hq4 : M4 qb = some ⟨24, 1, [.msl b 0 1 c]⟩ := by rw [hM4, DMem.ins_ne _ _ hqb']; exact hq3
    have hb4 : M4 b = some ⟨ty, c * 3, [.int .i64 1, .int .i64 2, .msl nb 0 (64 + k) (64 + k)]⟩ := by rw [hM4, DMem.ins_same]; rfl
    have hn4 : M4 nb = some ⟨43, (64 + k) * 2, (List.replicate (64 + k) (⟨0, 0⟩ : Ins)).flatMap Ins.c⟩ := by rw [hM4, DMem.ins_ne _ _ hnb, hM3, DMem.ins_same]
    refine tail _ M4 _ [⟨1, 2, List.replicate (64 + k) ⟨0, 0⟩⟩] (fun δ M' => δ 4 = .bool true) (fun _ _ _ => False) rfl rfl rfl hq4 (fz_one hc hb4 (fz_code (Nat.le_refl _) (by simp) hn4)) (notB ?_)
    unfold fnB fmayB
    rw [List.length_replicate, decide_eq_false (show ¬ 64 + k ≤ 64 by omega)]
    simp
  · replace hj : (w % 18446744073709551616).tmod 12 = 7 := hj
    simp only [hj, hMq, hMb, hMb1, ix0, ic0, ic1, ic2, w21, SW, wpD, evDL, evDM, evD, bldLD, List.contains_cons, List.contains_nil, Nat.reduceBEq, beq_self_eq_true, Nat.reduceMul, Nat.reduceSub, wpSp, Option.bind_some, Option.some.injEq, exists_eq_left', exists_eq_left, reduceIte, if_false, if_true, Nat.reduceEqDiff, Nat.reduceAdd, Nat.reduceLeDiff, Int.reduceEq, Int.reduceLT, Int.reduceLE, Int.reduceToNat, decide_true, decide_false, DV.bool.injEq, DV.int.injEq, DV.mp.injEq, DV.msl.injEq, DV.tup.injEq, DV.agg.injEq, DV.fn.injEq, true_implies, forall_const, reduceCtorEq, implies_true, ne_eq, DMem.mt]
    refine stD hMb1 rfl rfl (by simp [cF]) (by omega) rfl fun M3 hM3 => ?_
    try simp only [SW, wpD, evDL, evDM, evD, bldLD, List.contains_cons, List.contains_nil, Nat.reduceBEq, beq_self_eq_true, Nat.reduceMul, Nat.reduceSub, wpSp, Option.bind_some, Option.some.injEq, exists_eq_left', exists_eq_left, reduceIte, if_false, if_true, Nat.reduceEqDiff, Nat.reduceAdd, Nat.reduceLeDiff, Int.reduceEq, Int.reduceLT, Int.reduceLE, Int.reduceToNat, decide_true, decide_false, DV.bool.injEq, DV.int.injEq, DV.mp.injEq, DV.msl.injEq, DV.tup.injEq, DV.agg.injEq, DV.fn.injEq, true_implies, forall_const, reduceCtorEq, implies_true, ne_eq, DMem.mt]
    have hq3 : M3 qb = some ⟨24, 1, [.msl b 0 1 c]⟩ := by rw [hM3, DMem.ins_ne _ _ hqb1]; exact hMq
    have hb3 : M3 b = some ⟨ty, c * 3, [.int .i64 1, .int .i64 2, .msl b1 0 3 c1]⟩ := by rw [hM3, DMem.ins_ne _ _ hbb]; exact hMb
    have hb13 : M3 b1 = some ⟨ty1, c1 * 2, ([⟨0, ((2147483647 + k : Nat) : Int)⟩, ⟨2, 1⟩, ⟨16, 0⟩] : List Ins).flatMap Ins.c⟩ := by rw [hM3, DMem.ins_same]; rfl
    exact tail _ M3 _ [⟨1, 2, [⟨0, ((2147483647 + k : Nat) : Int)⟩, ⟨2, 1⟩, ⟨16, 0⟩]⟩] (fun δ M' => δ 4 = .bool true) (fun _ _ _ => False) rfl rfl rfl hq3 (fz_one hc hb3 (fz_code hc1 rfl hb13)) (notB (by simp [fnB, fmayB, mayB, belowF, isB, cF]; omega))
  · replace hj : (w % 18446744073709551616).tmod 12 = 8 := hj
    simp only [hj, hMq, hMb, hMb1, ix0, ic0, ic1, ic2, w7, SW, wpD, evDL, evDM, evD, bldLD, List.contains_cons, List.contains_nil, Nat.reduceBEq, beq_self_eq_true, Nat.reduceMul, Nat.reduceSub, wpSp, Option.bind_some, Option.some.injEq, exists_eq_left', exists_eq_left, reduceIte, if_false, if_true, Nat.reduceEqDiff, Nat.reduceAdd, Nat.reduceLeDiff, Int.reduceEq, Int.reduceLT, Int.reduceLE, Int.reduceToNat, decide_true, decide_false, DV.bool.injEq, DV.int.injEq, DV.mp.injEq, DV.msl.injEq, DV.tup.injEq, DV.agg.injEq, DV.fn.injEq, true_implies, forall_const, reduceCtorEq, implies_true, ne_eq, DMem.mt]
    refine stD hMb1 rfl rfl (by simp [cF]) (by omega) rfl fun M3 hM3 => ?_
    try simp only [SW, wpD, evDL, evDM, evD, bldLD, List.contains_cons, List.contains_nil, Nat.reduceBEq, beq_self_eq_true, Nat.reduceMul, Nat.reduceSub, wpSp, Option.bind_some, Option.some.injEq, exists_eq_left', exists_eq_left, reduceIte, if_false, if_true, Nat.reduceEqDiff, Nat.reduceAdd, Nat.reduceLeDiff, Int.reduceEq, Int.reduceLT, Int.reduceLE, Int.reduceToNat, decide_true, decide_false, DV.bool.injEq, DV.int.injEq, DV.mp.injEq, DV.msl.injEq, DV.tup.injEq, DV.agg.injEq, DV.fn.injEq, true_implies, forall_const, reduceCtorEq, implies_true, ne_eq, DMem.mt]
    have hq3 : M3 qb = some ⟨24, 1, [.msl b 0 1 c]⟩ := by rw [hM3, DMem.ins_ne _ _ hqb1]; exact hMq
    have hb3 : M3 b = some ⟨ty, c * 3, [.int .i64 1, .int .i64 2, .msl b1 0 3 c1]⟩ := by rw [hM3, DMem.ins_ne _ _ hbb]; exact hMb
    have hb13 : M3 b1 = some ⟨ty1, c1 * 2, ([⟨0, 4⟩, ⟨2, ((7 + k : Nat) : Int)⟩, ⟨16, 0⟩] : List Ins).flatMap Ins.c⟩ := by rw [hM3, DMem.ins_same]; rfl
    exact tail _ M3 _ [⟨1, 2, [⟨0, 4⟩, ⟨2, ((7 + k : Nat) : Int)⟩, ⟨16, 0⟩]⟩] (fun δ M' => δ 4 = .bool true) (fun _ _ _ => False) rfl rfl rfl hq3 (fz_one hc hb3 (fz_code hc1 rfl hb13)) (notB (by simp [fnB, fmayB, mayB, belowF, isB, cF]; omega))
  · replace hj : (w % 18446744073709551616).tmod 12 = 9 := hj
    simp only [hj, hMq, hMb, hMb1, ix0, ic0, ic1, ic2, SW, wpD, evDL, evDM, evD, bldLD, List.contains_cons, List.contains_nil, Nat.reduceBEq, beq_self_eq_true, Nat.reduceMul, Nat.reduceSub, wpSp, Option.bind_some, Option.some.injEq, exists_eq_left', exists_eq_left, reduceIte, if_false, if_true, Nat.reduceEqDiff, Nat.reduceAdd, Nat.reduceLeDiff, Int.reduceEq, Int.reduceLT, Int.reduceLE, Int.reduceToNat, decide_true, decide_false, DV.bool.injEq, DV.int.injEq, DV.mp.injEq, DV.msl.injEq, DV.tup.injEq, DV.agg.injEq, DV.fn.injEq, true_implies, forall_const, reduceCtorEq, implies_true, ne_eq, DMem.mt]
    refine stD hMb1 rfl rfl (by simp [cF]) (by omega) rfl fun M3 hM3 => ?_
    try simp only [SW, wpD, evDL, evDM, evD, bldLD, List.contains_cons, List.contains_nil, Nat.reduceBEq, beq_self_eq_true, Nat.reduceMul, Nat.reduceSub, wpSp, Option.bind_some, Option.some.injEq, exists_eq_left', exists_eq_left, reduceIte, if_false, if_true, Nat.reduceEqDiff, Nat.reduceAdd, Nat.reduceLeDiff, Int.reduceEq, Int.reduceLT, Int.reduceLE, Int.reduceToNat, decide_true, decide_false, DV.bool.injEq, DV.int.injEq, DV.mp.injEq, DV.msl.injEq, DV.tup.injEq, DV.agg.injEq, DV.fn.injEq, true_implies, forall_const, reduceCtorEq, implies_true, ne_eq, DMem.mt]
    have hq3 : M3 qb = some ⟨24, 1, [.msl b 0 1 c]⟩ := by rw [hM3, DMem.ins_ne _ _ hqb1]; exact hMq
    have hb3 : M3 b = some ⟨ty, c * 3, [.int .i64 1, .int .i64 2, .msl b1 0 3 c1]⟩ := by rw [hM3, DMem.ins_ne _ _ hbb]; exact hMb
    have hb13 : M3 b1 = some ⟨ty1, c1 * 2, ([⟨0, 4⟩, ⟨2, 1⟩, ⟨16, (k : Int)⟩] : List Ins).flatMap Ins.c⟩ := by rw [hM3, DMem.ins_same]; rfl
    exact tail _ M3 _ [⟨1, 2, [⟨0, 4⟩, ⟨2, 1⟩, ⟨16, (k : Int)⟩]⟩] (fun δ M' => δ 4 = .bool true) (fun _ _ _ => False) rfl rfl rfl hq3 (fz_one hc hb3 (fz_code hc1 rfl hb13)) (notB (by simp [fnB, fmayB, mayB, belowF, isB, cF]; omega))
  · replace hj : (w % 18446744073709551616).tmod 12 = 10 := hj
    simp only [hj, hMq, hMb, hMb1, ix0, ic0, ic1, ic2, w16, SW, wpD, evDL, evDM, evD, bldLD, List.contains_cons, List.contains_nil, Nat.reduceBEq, beq_self_eq_true, Nat.reduceMul, Nat.reduceSub, wpSp, Option.bind_some, Option.some.injEq, exists_eq_left', exists_eq_left, reduceIte, if_false, if_true, Nat.reduceEqDiff, Nat.reduceAdd, Nat.reduceLeDiff, Int.reduceEq, Int.reduceLT, Int.reduceLE, Int.reduceToNat, decide_true, decide_false, DV.bool.injEq, DV.int.injEq, DV.mp.injEq, DV.msl.injEq, DV.tup.injEq, DV.agg.injEq, DV.fn.injEq, true_implies, forall_const, reduceCtorEq, implies_true, ne_eq, DMem.mt]
    refine stD hMb1 rfl rfl (by simp [cF]) (by omega) rfl fun M3 hM3 => ?_
    try simp only [SW, wpD, evDL, evDM, evD, bldLD, List.contains_cons, List.contains_nil, Nat.reduceBEq, beq_self_eq_true, Nat.reduceMul, Nat.reduceSub, wpSp, Option.bind_some, Option.some.injEq, exists_eq_left', exists_eq_left, reduceIte, if_false, if_true, Nat.reduceEqDiff, Nat.reduceAdd, Nat.reduceLeDiff, Int.reduceEq, Int.reduceLT, Int.reduceLE, Int.reduceToNat, decide_true, decide_false, DV.bool.injEq, DV.int.injEq, DV.mp.injEq, DV.msl.injEq, DV.tup.injEq, DV.agg.injEq, DV.fn.injEq, true_implies, forall_const, reduceCtorEq, implies_true, ne_eq, DMem.mt]
    have hq3 : M3 qb = some ⟨24, 1, [.msl b 0 1 c]⟩ := by rw [hM3, DMem.ins_ne _ _ hqb1]; exact hMq
    have hb3 : M3 b = some ⟨ty, c * 3, [.int .i64 1, .int .i64 2, .msl b1 0 3 c1]⟩ := by rw [hM3, DMem.ins_ne _ _ hbb]; exact hMb
    have hb13 : M3 b1 = some ⟨ty1, c1 * 2, ([⟨0, 4⟩, ⟨2, 1⟩, ⟨((16 + k : Nat) : Int), 0⟩] : List Ins).flatMap Ins.c⟩ := by rw [hM3, DMem.ins_same]; rfl
    exact tail _ M3 _ [⟨1, 2, [⟨0, 4⟩, ⟨2, 1⟩, ⟨((16 + k : Nat) : Int), 0⟩]⟩] (fun δ M' => δ 4 = .bool true) (fun _ _ _ => False) rfl rfl rfl hq3 (fz_one hc hb3 (fz_code hc1 rfl hb13)) (notB (by simp [fnB, fmayB, mayB, belowF, isB, cF]; omega))
  · replace hj : (w % 18446744073709551616).tmod 12 = 11 := hj
    simp only [hj, hMq, hMb, hMb1, ix0, ic0, ic1, ic2, SW, wpD, evDL, evDM, evD, bldLD, List.contains_cons, List.contains_nil, Nat.reduceBEq, beq_self_eq_true, Nat.reduceMul, Nat.reduceSub, wpSp, Option.bind_some, Option.some.injEq, exists_eq_left', exists_eq_left, reduceIte, if_false, if_true, Nat.reduceEqDiff, Nat.reduceAdd, Nat.reduceLeDiff, Int.reduceEq, Int.reduceLT, Int.reduceLE, Int.reduceToNat, decide_true, decide_false, DV.bool.injEq, DV.int.injEq, DV.mp.injEq, DV.msl.injEq, DV.tup.injEq, DV.agg.injEq, DV.fn.injEq, true_implies, forall_const, reduceCtorEq, implies_true, ne_eq, DMem.mt]
    refine stD hMq rfl rfl (by simp) (by simp) rfl fun M3 hM3 => ?_
    try simp only [SW, wpD, evDL, evDM, evD, bldLD, List.contains_cons, List.contains_nil, Nat.reduceBEq, beq_self_eq_true, Nat.reduceMul, Nat.reduceSub, wpSp, Option.bind_some, Option.some.injEq, exists_eq_left', exists_eq_left, reduceIte, if_false, if_true, Nat.reduceEqDiff, Nat.reduceAdd, Nat.reduceLeDiff, Int.reduceEq, Int.reduceLT, Int.reduceLE, Int.reduceToNat, decide_true, decide_false, DV.bool.injEq, DV.int.injEq, DV.mp.injEq, DV.msl.injEq, DV.tup.injEq, DV.agg.injEq, DV.fn.injEq, true_implies, forall_const, reduceCtorEq, implies_true, ne_eq, DMem.mt]
    exact tail _ M3 _ [] (fun δ M' => δ 4 = .bool true) (fun _ _ _ => False) rfl rfl rfl (by rw [hM3, DMem.ins_same]; rfl) (fz_zsl_prg _ _) rfl
theorem bstr_data (s : ByteArray) : bstr s.data.toList = s := by unfold bstr; simp
theorem data_len (s : ByteArray) : s.data.toList.length = s.size := by rw [Array.length_toList]; rfl
theorem Packs_str (p : List Fnc) (s : ByteArray) (hp : SizeP p) (hs : s.size ≤ 140737488355328) : PC Try.prog F_swagelaw3_Packs [.agg [slD Fnc.c p], .str s] (fun d _ => d = .bool true) DMem.mt := by
  have h := Packs_pc p s.data.toList hp (by rw [data_len]; exact hs)
  rwa [bstr_data] at h
theorem PackBack_str (p : List Fnc) (s : ByteArray) (cut : Int) (hp : SizeP p) : PC Try.prog F_swagelaw3_PackBack [.agg [slD Fnc.c p], .str s, .int .i64 cut] (fun d _ => d = .bool true) DMem.mt := by
  have h := PackBack_pc p s.data.toList cut hp
  rwa [bstr_data] at h
end Go.Proofs.Ytaifmmeghninhaa.Pf
