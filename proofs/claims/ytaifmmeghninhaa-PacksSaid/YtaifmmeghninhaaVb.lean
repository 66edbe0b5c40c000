/- May a program be packed? No condition. -/
import Derived.Test.YtaifmmeghninhaaVs
namespace Go.Proofs.Ytaifmmeghninhaa.Pf
open Go Go.RowKit Go.Proofs Go.Proofs.Ytaifmmeghninhaa.Mw Go.Proofs.Ytaifmmeghninhaa.Sx
set_option linter.unusedVariables false
set_option linter.unusedSimpArgs false
set_option maxRecDepth 4000
theorem Fnc.len (f : Fnc) : f.c.length = 3 := rfl
theorem fz_prg (M : DMem) (k : Nat) (l : List Fnc) : fz M k (slD Fnc.c l) = slD Fnc.c l := (Froz.slD Fnc.froz l).fz M k
theorem IndexFunc_fnc (g : Nat) (a b : List DV) (ha : FrozL a) (hb : FrozL b) (p : Fnc → Bool) (l : List Fnc) (hl : l.length ≤ 4611686018427387904)
    (hp : ∀ i (h : i < l.length), pf Try.prog g (a ++ .agg l[i].c :: b) = some (.bool (p l[i]))) :
    pf Try.prog F_slices_IndexFunc_api_Func_api_Func [slD Fnc.c l, .fn (.func g) a b] = some (.int .i64 (idxF p l)) := by
  refine pf_of (v := .int _ _) (pc_slices_IndexFunc_api_Func_api_Func (by simp) ?_) ((FrozL.nil.cons (Froz.fn ha hb)).cons (Froz.slD Fnc.froz _)) rfl rfl
  simp only [S_slices_IndexFunc_api_Func_api_Func, R_slices_IndexFunc_api_Func_api_Func, MU_slices_IndexFunc_api_Func_api_Func, MU_slices_IndexFunc_api_Func_api_Func, S1_slices_IndexFunc_api_Func_api_Func, SW, wpD, evDL, evDM, evD, bldLD, List.contains_cons, List.contains_nil, Nat.reduceBEq, beq_self_eq_true, Nat.reduceMul, Nat.reduceSub, wpSp, Option.bind_some, Option.some.injEq, exists_eq_left', exists_eq_left, reduceIte, if_false, if_true, Nat.reduceEqDiff, Nat.reduceAdd, Nat.reduceLeDiff, Int.reduceEq, Int.reduceLT, Int.reduceLE, Int.reduceToNat, decide_true, decide_false, DV.bool.injEq, DV.int.injEq, DV.mp.injEq, DV.msl.injEq, DV.tup.injEq, DV.agg.injEq, DV.fn.injEq, true_implies, forall_const, reduceCtorEq, implies_true, ne_eq, DMem.mt]
  refine ⟨fun k δ M => ∃ i, i ≤ l.length ∧ k = l.length - i ∧ M = DMem.mt ∧ δ 0 = slD Fnc.c l ∧ δ 1 = .fn (.func g) a b ∧ δ 7 = .int .i64 l.length ∧ δ 8 = .int .i64 i ∧ (∀ j (h : j < l.length), j < i → p l[j] = false),
    l.length, ⟨0, Nat.zero_le _, rfl, rfl, rfl, rfl, rfl, rfl, fun j h hj => absurd hj (by omega)⟩, ?_⟩
  rintro k δ M ⟨i, hi, rfl, rfl, h0, h1, h7, h8, hj⟩
  simp only [h0, h1, h7, h8, SW, wpD, evDL, evDM, evD, bldLD, List.contains_cons, List.contains_nil, Nat.reduceBEq, beq_self_eq_true, Nat.reduceMul, Nat.reduceSub, wpSp, Option.bind_some, Option.some.injEq, exists_eq_left', exists_eq_left, reduceIte, if_false, if_true, Nat.reduceEqDiff, Nat.reduceAdd, Nat.reduceLeDiff, Int.reduceEq, Int.reduceLT, Int.reduceLE, Int.reduceToNat, decide_true, decide_false, DV.bool.injEq, DV.int.injEq, DV.mp.injEq, DV.msl.injEq, DV.tup.injEq, DV.agg.injEq, DV.fn.injEq, true_implies, forall_const, reduceCtorEq, implies_true, ne_eq, DMem.mt, decide_eq_true_eq, decide_eq_false_iff_not]
  refine ⟨fun h => ?_, fun h => ?_⟩
  · have hlt : i < l.length := by omega
    simp only [ix_slD Fnc.len hlt, h0, h1, h7, h8, SW, wpD, evDL, evDM, evD, bldLD, List.contains_cons, List.contains_nil, Nat.reduceBEq, beq_self_eq_true, Nat.reduceMul, Nat.reduceSub, wpSp, Option.bind_some, Option.some.injEq, exists_eq_left', exists_eq_left, reduceIte, if_false, if_true, Nat.reduceEqDiff, Nat.reduceAdd, Nat.reduceLeDiff, Int.reduceEq, Int.reduceLT, Int.reduceLE, Int.reduceToNat, decide_true, decide_false, DV.bool.injEq, DV.int.injEq, DV.mp.injEq, DV.msl.injEq, DV.tup.injEq, DV.agg.injEq, DV.fn.injEq, true_implies, forall_const, reduceCtorEq, implies_true, ne_eq, DMem.mt, w64s (show i < 4611686018427387905 by omega)]
    refine ⟨g, a, b, rfl, rfl, rfl, PC.of_pf (d := .bool (p l[i])) ?_ ?_⟩
    · rw [fzmap_froz (by simpa using ha.append (hb.cons (Froz.agg l[i].froz)))]; simpa using hp i hlt
    · simp only [SW, wpD, evDL, evDM, evD, bldLD, List.contains_cons, List.contains_nil, Nat.reduceBEq, beq_self_eq_true, Nat.reduceMul, Nat.reduceSub, wpSp, Option.bind_some, Option.some.injEq, exists_eq_left', exists_eq_left, reduceIte, if_false, if_true, Nat.reduceEqDiff, Nat.reduceAdd, Nat.reduceLeDiff, Int.reduceEq, Int.reduceLT, Int.reduceLE, Int.reduceToNat, decide_true, decide_false, DV.bool.injEq, DV.int.injEq, DV.mp.injEq, DV.msl.injEq, DV.tup.injEq, DV.agg.injEq, DV.fn.injEq, true_implies, forall_const, reduceCtorEq, implies_true, ne_eq, DMem.mt]
      refine ⟨fun hpi => ?_, fun hpi => ⟨l.length - (i + 1), DMem.mt, by omega, SubD.refl _, i + 1, by omega, rfl, rfl, rfl, fun j h' hji => ?_⟩⟩
      · rw [idxF_hit i hlt hpi hj]
      · rcases Nat.lt_or_ge j i with h2 | h2
        · exact hj j h' h2
        · have : j = i := by omega
          subst this; exact hpi
  · rw [idxF_miss fun j h' => hj j h' (by omega)]
theorem Contains_fnc (g : Nat) (p : Fnc → Bool) (l : List Fnc) (hl : l.length ≤ 4611686018427387904) (hp : ∀ i (h : i < l.length), pf Try.prog g [.agg l[i].c] = some (.bool (p l[i]))) :
    pf Try.prog F_slices_ContainsFunc_api_Func_api_Func [slD Fnc.c l, .fn (.func g) [] []] = some (.bool (l.any p)) := by
  refine pf_of (v := .bool _) (pc_slices_ContainsFunc_api_Func_api_Func (by simp) ?_) ((FrozL.nil.cons (Froz.fn FrozL.nil FrozL.nil)).cons (Froz.slD Fnc.froz _)) rfl rfl
  simp only [S_slices_ContainsFunc_api_Func_api_Func, R_slices_ContainsFunc_api_Func_api_Func, MU_slices_ContainsFunc_api_Func_api_Func, MU_slices_ContainsFunc_api_Func_api_Func, fz_prg, SW, wpD, evDL, evDM, evD, bldLD, List.contains_cons, List.contains_nil, Nat.reduceBEq, beq_self_eq_true, Nat.reduceMul, Nat.reduceSub, wpSp, Option.bind_some, Option.some.injEq, exists_eq_left', exists_eq_left, reduceIte, if_false, if_true, Nat.reduceEqDiff, Nat.reduceAdd, Nat.reduceLeDiff, Int.reduceEq, Int.reduceLT, Int.reduceLE, Int.reduceToNat, decide_true, decide_false, DV.bool.injEq, DV.int.injEq, DV.mp.injEq, DV.msl.injEq, DV.tup.injEq, DV.agg.injEq, DV.fn.injEq, true_implies, forall_const, reduceCtorEq, implies_true, ne_eq, DMem.mt, IndexFunc_fnc g [] [] FrozL.nil FrozL.nil p l hl (by simpa using hp), idxF_any]
theorem not1_pf (x : Ins) : pf Try.prog F_pack_not_1 [.agg x.c] = some (.bool (!mayB x)) := by
  refine pf_of (v := .bool _) (pc_pack_not_1 (by simp) ?_) (FrozL.nil.cons (Froz.agg x.froz)) rfl rfl
  simp only [S_pack_not_1, R_pack_not_1, MU_pack_not_1, MU_pack_not_1, SW, wpD, evDL, evDM, evD, bldLD, List.contains_cons, List.contains_nil, Nat.reduceBEq, beq_self_eq_true, Nat.reduceMul, Nat.reduceSub, wpSp, Option.bind_some, Option.some.injEq, exists_eq_left', exists_eq_left, reduceIte, if_false, if_true, Nat.reduceEqDiff, Nat.reduceAdd, Nat.reduceLeDiff, Int.reduceEq, Int.reduceLT, Int.reduceLE, Int.reduceToNat, decide_true, decide_false, DV.bool.injEq, DV.int.injEq, DV.mp.injEq, DV.msl.injEq, DV.tup.injEq, DV.agg.injEq, DV.fn.injEq, true_implies, forall_const, reduceCtorEq, implies_true, ne_eq, DMem.mt, May_pf]
theorem not_fnB (f : Fnc) (h : 1 ≤ f.code.length ∧ f.code.length ≤ 64) : (((((decide (f.args < 0) || decide (4 < f.args)) || decide (f.locals < f.args)) || decide (8 < f.locals)) || f.code.any fun x => !mayB x)) = !fnB f := by
  have e : f.code.any (fun x => !mayB x) = !f.code.all mayB := by rw [← not_mayB, Bool.not_not]
  rw [e]
  unfold fnB fmayB
  rw [decide_eq_true h.1, decide_eq_true h.2]
  simp only [Bool.true_and]
  cases f.code.all mayB <;> simp <;> grind
theorem not_pf (f : Fnc) : pf Try.prog F_pack_not [.agg f.c] = some (.bool (!fnB f)) := by
  refine pf_of (v := .bool _) (pc_pack_not (by simp) ?_) (FrozL.nil.cons (Froz.agg f.froz)) rfl rfl
  by_cases h : 1 ≤ f.code.length ∧ f.code.length ≤ 64
  · have c1 : ¬ ((f.code.length : Int) < 1) := by omega
    have c2 : ¬ ((64 : Int) < f.code.length) := by omega
    simp only [S_pack_not, R_pack_not, MU_pack_not, MU_pack_not, fz_ins, c1, c2, Contains_ins F_pack_not_1 (fun x => !mayB x) f.code (by omega) (fun i h => not1_pf _), SW, wpD, evDL, evDM, evD, bldLD, List.contains_cons, List.contains_nil, Nat.reduceBEq, beq_self_eq_true, Nat.reduceMul, Nat.reduceSub, wpSp, Option.bind_some, Option.some.injEq, exists_eq_left', exists_eq_left, reduceIte, if_false, if_true, Nat.reduceEqDiff, Nat.reduceAdd, Nat.reduceLeDiff, Int.reduceEq, Int.reduceLT, Int.reduceLE, Int.reduceToNat, decide_true, decide_false, DV.bool.injEq, DV.int.injEq, DV.mp.injEq, DV.msl.injEq, DV.tup.injEq, DV.agg.injEq, DV.fn.injEq, true_implies, forall_const, reduceCtorEq, implies_true, ne_eq, DMem.mt]
    exact not_fnB f h
  · have e : fnB f = false := by
      unfold fnB fmayB
      have : (decide (1 ≤ f.code.length) && decide (f.code.length ≤ 64)) = false := by
        rw [Bool.and_eq_false_iff, decide_eq_false_iff_not, decide_eq_false_iff_not]; omega
      rw [this]; simp
    have c3 : (decide ((f.code.length : Int) < 1) || decide ((64 : Int) < f.code.length)) = true := by
      rw [Bool.or_eq_true, decide_eq_true_eq, decide_eq_true_eq]; omega
    rw [e]
    have hc : (((((decide (f.args < 0) || decide (4 < f.args)) || decide (f.locals < f.args)) || decide (8 < f.locals)) || decide ((f.code.length : Int) < 1)) || decide ((64 : Int) < f.code.length)) = true := by
      rw [Bool.or_assoc, c3, Bool.or_true]
    simp only [S_pack_not, R_pack_not, MU_pack_not, MU_pack_not, fz_ins, hc, SW, wpD, evDL, evDM, evD, bldLD, List.contains_cons, List.contains_nil, Nat.reduceBEq, beq_self_eq_true, Nat.reduceMul, Nat.reduceSub, wpSp, Option.bind_some, Option.some.injEq, exists_eq_left', exists_eq_left, reduceIte, if_false, if_true, Nat.reduceEqDiff, Nat.reduceAdd, Nat.reduceLeDiff, Int.reduceEq, Int.reduceLT, Int.reduceLE, Int.reduceToNat, decide_true, decide_false, DV.bool.injEq, DV.int.injEq, DV.mp.injEq, DV.msl.injEq, DV.tup.injEq, DV.agg.injEq, DV.fn.injEq, true_implies, forall_const, reduceCtorEq, implies_true, ne_eq, DMem.mt]
theorem all_not (l : List Fnc) : (!(l.any fun x => !fnB x)) = l.all fnB := by
  induction l with
  | nil => rfl
  | cons x l ih => simp only [List.any_cons, List.all_cons, ← ih, Bool.not_or, Bool.not_not]
theorem PackMay_pf (p : List Fnc) : pf Try.prog F_pack_May [.ip [slD Fnc.c p]] = some (.bool (packB p)) := by
  refine pf_of (v := .bool _) (pc_pack_May (by simp) ?_) (FrozL.nil.cons (Froz.ip (FrozL.nil.cons (Froz.slD Fnc.froz p)))) rfl rfl
  by_cases h : 1 ≤ p.length ∧ p.length ≤ 8
  · have c1 : (1 : Int) ≤ p.length := by omega
    have c2 : (p.length : Int) ≤ 8 := by omega
    simp only [S_pack_May, R_pack_May, MU_pack_May, MU_pack_May, fz_prg, c1, c2, Contains_fnc F_pack_not (fun x => !fnB x) p (by omega) (fun i h => not_pf _), SW, wpD, evDL, evDM, evD, bldLD, List.contains_cons, List.contains_nil, Nat.reduceBEq, beq_self_eq_true, Nat.reduceMul, Nat.reduceSub, wpSp, Option.bind_some, Option.some.injEq, exists_eq_left', exists_eq_left, reduceIte, if_false, if_true, Nat.reduceEqDiff, Nat.reduceAdd, Nat.reduceLeDiff, Int.reduceEq, Int.reduceLT, Int.reduceLE, Int.reduceToNat, decide_true, decide_false, DV.bool.injEq, DV.int.injEq, DV.mp.injEq, DV.msl.injEq, DV.tup.injEq, DV.agg.injEq, DV.fn.injEq, true_implies, forall_const, reduceCtorEq, implies_true, ne_eq, DMem.mt]
    unfold packB
    rw [decide_eq_true h.1, decide_eq_true h.2]
    simp only [Bool.true_and]
    exact all_not p
  · have e : packB p = false := by
      unfold packB
      have : (decide (1 ≤ p.length) && decide (p.length ≤ 8)) = false := by
        rw [Bool.and_eq_false_iff, decide_eq_false_iff_not, decide_eq_false_iff_not]; omega
      rw [this]; simp
    rw [e]
    have hc : (decide ((1 : Int) ≤ p.length) && decide ((p.length : Int) ≤ 8)) = false := by
      rw [Bool.and_eq_false_iff, decide_eq_false_iff_not, decide_eq_false_iff_not]; omega
    simp only [S_pack_May, R_pack_May, MU_pack_May, MU_pack_May, fz_prg, hc, SW, wpD, evDL, evDM, evD, bldLD, List.contains_cons, List.contains_nil, Nat.reduceBEq, beq_self_eq_true, Nat.reduceMul, Nat.reduceSub, wpSp, Option.bind_some, Option.some.injEq, exists_eq_left', exists_eq_left, reduceIte, if_false, if_true, Nat.reduceEqDiff, Nat.reduceAdd, Nat.reduceLeDiff, Int.reduceEq, Int.reduceLT, Int.reduceLE, Int.reduceToNat, decide_true, decide_false, DV.bool.injEq, DV.int.injEq, DV.mp.injEq, DV.msl.injEq, DV.tup.injEq, DV.agg.injEq, DV.fn.injEq, true_implies, forall_const, reduceCtorEq, implies_true, ne_eq, DMem.mt]
theorem Packs_pf (p : List Fnc) : pf Try.prog F_swageref1_Packs [.agg [slD Fnc.c p]] = some (.bool (packB p)) := by
  refine pf_of (v := .bool _) (pc_swageref1_Packs (by simp) ?_) (FrozL.nil.cons (Froz.agg (FrozL.nil.cons (Froz.slD Fnc.froz p)))) rfl rfl
  simp only [S_swageref1_Packs, R_swageref1_Packs, MU_swageref1_Packs, SW, wpD, evDL, evDM, evD, bldLD, List.contains_cons, List.contains_nil, Nat.reduceBEq, beq_self_eq_true, Nat.reduceMul, Nat.reduceSub, wpSp, Option.bind_some, Option.some.injEq, exists_eq_left', exists_eq_left, reduceIte, if_false, if_true, Nat.reduceEqDiff, Nat.reduceAdd, Nat.reduceLeDiff, Int.reduceEq, Int.reduceLT, Int.reduceLE, Int.reduceToNat, decide_true, decide_false, DV.bool.injEq, DV.int.injEq, DV.mp.injEq, DV.msl.injEq, DV.tup.injEq, DV.agg.injEq, DV.fn.injEq, true_implies, forall_const, reduceCtorEq, implies_true, ne_eq, DMem.mt]
  refine ⟨fun hr => ?_, fun hr => ?_⟩
  · have : (decide (1 ≤ p.length) && decide (p.length ≤ 8)) = false := by
      simp only [Bool.or_eq_true, decide_eq_true_eq] at hr
      rw [Bool.and_eq_false_iff, decide_eq_false_iff_not, decide_eq_false_iff_not]; omega
    simp only [packB, this, Bool.false_and]
  · simp only [Bool.or_eq_false_iff, decide_eq_false_iff_not] at hr
    have e : packB p = p.all fnB := by
      simp only [packB]
      rw [decide_eq_true (show 1 ≤ p.length by omega), decide_eq_true (show p.length ≤ 8 by omega)]; rfl
    rw [e]
    refine ⟨fun k δ M => ∃ i, i ≤ p.length ∧ k = p.length - i ∧ M = DMem.mt ∧ δ 1 = .ip [slD Fnc.c p] ∧ δ 3 = .int .i64 i ∧ (∀ j (h : j < p.length), j < i → fnB p[j] = true),
      p.length, ⟨0, Nat.zero_le _, rfl, rfl, rfl, rfl, fun j h hj => absurd hj (by omega)⟩, ?_⟩
    rintro k δ M ⟨i, hi, rfl, rfl, h1, h3, hj⟩
    simp only [S1_swageref1_Packs, MU_swageref1_Packs, h1, h3, SW, wpD, evDL, evDM, evD, bldLD, List.contains_cons, List.contains_nil, Nat.reduceBEq, beq_self_eq_true, Nat.reduceMul, Nat.reduceSub, wpSp, Option.bind_some, Option.some.injEq, exists_eq_left', exists_eq_left, reduceIte, if_false, if_true, Nat.reduceEqDiff, Nat.reduceAdd, Nat.reduceLeDiff, Int.reduceEq, Int.reduceLT, Int.reduceLE, Int.reduceToNat, decide_true, decide_false, DV.bool.injEq, DV.int.injEq, DV.mp.injEq, DV.msl.injEq, DV.tup.injEq, DV.agg.injEq, DV.fn.injEq, true_implies, forall_const, reduceCtorEq, implies_true, ne_eq, DMem.mt, decide_eq_true_eq, decide_eq_false_iff_not]
    refine ⟨fun h => ?_, fun h => ?_⟩
    · have hlt : i < p.length := by omega
      have e2 : ((((decide (p[i].args < 0) || decide (4 < p[i].args)) || decide (p[i].locals < p[i].args)) || decide (8 < p[i].locals)) || !fmayB p[i].code) = !fnB p[i] := by
        unfold fnB
        cases fmayB p[i].code <;> simp <;> grind
      simp only [ix_slD Fnc.len hlt, h1, h3, fz_fnca, fz_ins, FuncMay_pf, e2, w64s (show i < 4611686018427387905 by omega), SW, wpD, evDL, evDM, evD, bldLD, List.contains_cons, List.contains_nil, Nat.reduceBEq, beq_self_eq_true, Nat.reduceMul, Nat.reduceSub, wpSp, Option.bind_some, Option.some.injEq, exists_eq_left', exists_eq_left, reduceIte, if_false, if_true, Nat.reduceEqDiff, Nat.reduceAdd, Nat.reduceLeDiff, Int.reduceEq, Int.reduceLT, Int.reduceLE, Int.reduceToNat, decide_true, decide_false, DV.bool.injEq, DV.int.injEq, DV.mp.injEq, DV.msl.injEq, DV.tup.injEq, DV.agg.injEq, DV.fn.injEq, true_implies, forall_const, reduceCtorEq, implies_true, ne_eq, DMem.mt]
      refine ⟨fun hm => ?_, fun hm => ⟨p.length - (i + 1), DMem.mt, by omega, SubD.refl _, i + 1, by omega, rfl, rfl, rfl, fun j h' hji => ?_⟩⟩
      · have : p.all fnB = false := List.all_eq_false.2 ⟨_, List.getElem_mem hlt, by simpa using hm⟩
        exact this.symm
      · rcases Nat.lt_or_ge j i with h2 | h2
        · exact hj j h' h2
        · have : j = i := by omega
          subst this; simpa using hm
    · exact (List.all_eq_true.2 fun x hx => by obtain ⟨j, h', rfl⟩ := List.getElem_of_mem hx; exact hj j h' (by omega)).symm
end Go.Proofs.Ytaifmmeghninhaa.Pf
