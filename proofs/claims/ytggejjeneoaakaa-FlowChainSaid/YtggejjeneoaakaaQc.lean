/- The flow of control: Next, of the program and of the document. No condition. -/
import Derived.Test.YtggejjeneoaakaaQb
namespace Go.Proofs.Ytggejjeneoaakaa.Pf
open Go Go.RowKit Go.Proofs Go.Proofs.Ytggejjeneoaakaa.Mw Go.Proofs.Ytggejjeneoaakaa.Sx
set_option linter.unusedVariables false
set_option linter.unusedSimpArgs false
set_option maxRecDepth 4000
theorem fz_fncp (M : DMem) (k : Nat) (f : Fnc) : fz M k (.ip f.c) = .ip f.c := (Froz.ip f.froz).fz M k
theorem fz_fnca (M : DMem) (k : Nat) (f : Fnc) : fz M k (.agg f.c) = .agg f.c := (Froz.agg f.froz).fz M k
theorem grd_t (x : Option DV) : grdD true (.bool true) x = x := rfl
theorem grd_f (x : Option DV) : grdD false (.bool false) x = x := rfl
theorem grd_tf (x : Option DV) : grdD true (.bool false) x = some (.raw undef) := rfl
theorem grd_ft (x : Option DV) : grdD false (.bool true) x = some (.raw undef) := rfl
theorem grd_u (w : Bool) (x : Option DV) : grdD w (.raw undef) x = some (.raw undef) := rfl
def okNext (f : Fnc) (i : Int) : Bool := !((!fmayB f.code || decide (i < 0)) || decide ((f.code.length : Int) ≤ i))
def nextR (f : Fnc) (i : Int) : List Int × Int := if okNext f i = true then (nextF f i.toNat, 0) else ([], 400)
theorem fmay_le {l : List Ins} (h : fmayB l = true) : 1 ≤ l.length ∧ l.length ≤ 64 := by
  simp only [fmayB, Bool.and_eq_true, decide_eq_true_eq] at h
  exact h.1
theorem Next_pu (f : Fnc) (i : Int) : Pu Try.prog F_flow_Next [.agg f.c, .int .i64 i] (.tup [slI (nextR f i).1, .int .i64 (nextR f i).2]) := by
  refine Pu.of (pc_flow_Next (by simp) ?_)
  simp only [S_flow_Next, R_flow_Next, MU_flow_Next, fz_ins, fmay_pf, SW, wpD, evDL, evDM, evD, bldLD, List.contains_cons, List.contains_nil, Nat.reduceBEq, beq_self_eq_true, Nat.reduceMul, Nat.reduceSub, wpSp, Option.bind_some, Option.some.injEq, exists_eq_left', exists_eq_left, reduceIte, if_false, if_true, Nat.reduceEqDiff, Nat.reduceAdd, Nat.reduceLeDiff, Int.reduceEq, Int.reduceLT, Int.reduceLE, Int.reduceToNat, decide_true, decide_false, DV.bool.injEq, DV.int.injEq, DV.mp.injEq, DV.msl.injEq, DV.tup.injEq, DV.agg.injEq, DV.fn.injEq, true_implies, forall_const, reduceCtorEq, implies_true, ne_eq, DMem.mt]
  refine ⟨fun h => ?_, fun h => ?_⟩
  · have e : nextR f i = ([], 400) := by simp only [nextR, okNext, h]; rfl
    rw [e]
    rfl
  · have e : nextR f i = (nextF f i.toNat, 0) := by simp only [nextR, okNext, h]; rfl
    rw [e]
    simp only [Bool.or_eq_false_iff, decide_eq_false_iff_not, Bool.not_eq_false'] at h
    obtain ⟨n, rfl⟩ := Int.eq_ofNat_of_zero_le (show 0 ≤ i by omega)
    refine Pu.pc (next_pu f n (by omega) (fmay_le h.1.1).2) ?_
    simp only [S1_flow_Next, MU_flow_Next, SW, wpD, evDL, evDM, evD, bldLD, List.contains_cons, List.contains_nil, Nat.reduceBEq, beq_self_eq_true, Nat.reduceMul, Nat.reduceSub, wpSp, Option.bind_some, Option.some.injEq, exists_eq_left', exists_eq_left, reduceIte, if_false, if_true, Nat.reduceEqDiff, Nat.reduceAdd, Nat.reduceLeDiff, Int.reduceEq, Int.reduceLT, Int.reduceLE, Int.reduceToNat, decide_true, decide_false, DV.bool.injEq, DV.int.injEq, DV.mp.injEq, DV.msl.injEq, DV.tup.injEq, DV.agg.injEq, DV.fn.injEq, true_implies, forall_const, reduceCtorEq, implies_true, ne_eq, DMem.mt]
theorem Next_pc (f : Fnc) (i : Int) {R : DV → DMem → Prop} (hR : ∀ d M', NewI M' d (nextR f i).1 → R (.tup [d, .int .i64 (nextR f i).2]) M') : PC Try.prog F_flow_Next [.agg f.c, .int .i64 i] R DMem.mt := by
  refine pc_flow_Next (by simp) ?_
  simp only [S_flow_Next, R_flow_Next, MU_flow_Next, fz_ins, fmay_pf, SW, wpD, evDL, evDM, evD, bldLD, List.contains_cons, List.contains_nil, Nat.reduceBEq, beq_self_eq_true, Nat.reduceMul, Nat.reduceSub, wpSp, Option.bind_some, Option.some.injEq, exists_eq_left', exists_eq_left, reduceIte, if_false, if_true, Nat.reduceEqDiff, Nat.reduceAdd, Nat.reduceLeDiff, Int.reduceEq, Int.reduceLT, Int.reduceLE, Int.reduceToNat, decide_true, decide_false, DV.bool.injEq, DV.int.injEq, DV.mp.injEq, DV.msl.injEq, DV.tup.injEq, DV.agg.injEq, DV.fn.injEq, true_implies, forall_const, reduceCtorEq, implies_true, ne_eq, DMem.mt]
  refine ⟨fun h => ?_, fun h => ?_⟩
  · have e : nextR f i = ([], 400) := by simp only [nextR, okNext, h]; rfl
    rw [e] at hR
    exact hR _ _ (.inl ⟨rfl, rfl, rfl⟩)
  · have e : nextR f i = (nextF f i.toNat, 0) := by simp only [nextR, okNext, h]; rfl
    rw [e] at hR
    simp only [Bool.or_eq_false_iff, decide_eq_false_iff_not, Bool.not_eq_false'] at h
    obtain ⟨n, rfl⟩ := Int.eq_ofNat_of_zero_le (show 0 ≤ i by omega)
    refine next_pc f n (by omega) (fmay_le h.1.1).2 fun d M' hd => ?_
    simp only [S1_flow_Next, MU_flow_Next, SW, wpD, evDL, evDM, evD, bldLD, List.contains_cons, List.contains_nil, Nat.reduceBEq, beq_self_eq_true, Nat.reduceMul, Nat.reduceSub, wpSp, Option.bind_some, Option.some.injEq, exists_eq_left', exists_eq_left, reduceIte, if_false, if_true, Nat.reduceEqDiff, Nat.reduceAdd, Nat.reduceLeDiff, Int.reduceEq, Int.reduceLT, Int.reduceLE, Int.reduceToNat, decide_true, decide_false, DV.bool.injEq, DV.int.injEq, DV.mp.injEq, DV.msl.injEq, DV.tup.injEq, DV.agg.injEq, DV.fn.injEq, true_implies, forall_const, reduceCtorEq, implies_true, ne_eq, DMem.mt]
    exact hR _ _ hd
theorem NextR_pu (f : Fnc) (i : Int) : Pu Try.prog F_swageref1_Next [.agg f.c, .int .i64 i] (.tup [slI (nextR f i).1, .int .i64 (nextR f i).2]) := by
  refine Pu.of (pc_swageref1_Next (by simp) ?_)
  simp only [S_swageref1_Next, R_swageref1_Next, MU_swageref1_Next, fz_ins, FuncMay_pf, SW, wpD, evDL, evDM, evD, bldLD, List.contains_cons, List.contains_nil, Nat.reduceBEq, beq_self_eq_true, Nat.reduceMul, Nat.reduceSub, wpSp, Option.bind_some, Option.some.injEq, exists_eq_left', exists_eq_left, reduceIte, if_false, if_true, Nat.reduceEqDiff, Nat.reduceAdd, Nat.reduceLeDiff, Int.reduceEq, Int.reduceLT, Int.reduceLE, Int.reduceToNat, decide_true, decide_false, DV.bool.injEq, DV.int.injEq, DV.mp.injEq, DV.msl.injEq, DV.tup.injEq, DV.agg.injEq, DV.fn.injEq, true_implies, forall_const, reduceCtorEq, implies_true, ne_eq, DMem.mt]
  refine ⟨fun h => ?_, fun h => ?_⟩
  · have e : nextR f i = ([], 400) := by simp only [nextR, okNext, h]; rfl
    rw [e]
    rfl
  · have e : nextR f i = (nextF f i.toNat, 0) := by simp only [nextR, okNext, h]; rfl
    rw [e]
    simp only [Bool.or_eq_false_iff, decide_eq_false_iff_not, Bool.not_eq_false'] at h
    obtain ⟨n, rfl⟩ := Int.eq_ofNat_of_zero_le (show 0 ≤ i by omega)
    have hn : n < f.code.length := by omega
    have ew : wr64 ((n : Int) + 1) = n + 1 := w64 (by have := (fmay_le h.1.1).2; omega)
    have hl64 := (fmay_le h.1.1).2
    have enx : nextF f ((n : Int)).toNat = compF ((rawNext f n f.code[n]).filter fun y => !decide ((f.code.length : Int) ≤ y)) := by
      simp only [Int.toNat_natCast, nextF, List.getElem?_eq_getElem hn]
    rw [enx]
    by_cases k16 : f.code[n].kind = 16
    · have er : rawNext f n f.code[n] = [] := by simp only [rawNext, if_pos k16]
      rw [er]
      simp only [ix_slD Ins.len hn, ew, k16, grd_t, grd_f, grd_tf, grd_ft, grd_u, SW, wpD, evDL, evDM, evD, bldLD, List.contains_cons, List.contains_nil, Nat.reduceBEq, beq_self_eq_true, Nat.reduceMul, Nat.reduceSub, wpSp, Option.bind_some, Option.some.injEq, exists_eq_left', exists_eq_left, reduceIte, if_false, if_true, Nat.reduceEqDiff, Nat.reduceAdd, Nat.reduceLeDiff, Int.reduceEq, Int.reduceLT, Int.reduceLE, Int.reduceToNat, decide_true, decide_false, DV.bool.injEq, DV.int.injEq, DV.mp.injEq, DV.msl.injEq, DV.tup.injEq, DV.agg.injEq, DV.fn.injEq, true_implies, forall_const, reduceCtorEq, implies_true, ne_eq, DMem.mt]
      rfl
    have o0 : OwnD DMem.mt 1 .zsl 0 [] := OwnD.zsl _ _
    by_cases k12 : f.code[n].kind = 12
    · have er : rawNext f n f.code[n] = [f.code[n].a] := by simp only [rawNext, if_neg k16, if_pos k12]
      rw [er]
      by_cases h2 : f.code[n].a < f.code.length
      · have h2' : ¬ (f.code.length : Int) ≤ f.code[n].a := by omega
        simp only [ix_slD Ins.len hn, ew, k12, h2, grd_t, grd_f, grd_tf, grd_ft, grd_u, SW, wpD, evDL, evDM, evD, bldLD, List.contains_cons, List.contains_nil, Nat.reduceBEq, beq_self_eq_true, Nat.reduceMul, Nat.reduceSub, wpSp, Option.bind_some, Option.some.injEq, exists_eq_left', exists_eq_left, reduceIte, if_false, if_true, Nat.reduceEqDiff, Nat.reduceAdd, Nat.reduceLeDiff, Int.reduceEq, Int.reduceLT, Int.reduceLE, Int.reduceToNat, decide_true, decide_false, DV.bool.injEq, DV.int.injEq, DV.mp.injEq, DV.msl.injEq, DV.tup.injEq, DV.agg.injEq, DV.fn.injEq, true_implies, forall_const, reduceCtorEq, implies_true, ne_eq, DMem.mt]
        refine app_one o0 rfl (by omega) (by omega) fun d' M' ho hg => ?_
        simp only [ho.fz 3, h2', List.filter_cons, List.filter_nil, SW, wpD, evDL, evDM, evD, bldLD, List.contains_cons, List.contains_nil, Nat.reduceBEq, beq_self_eq_true, Nat.reduceMul, Nat.reduceSub, wpSp, Option.bind_some, Option.some.injEq, exists_eq_left', exists_eq_left, reduceIte, if_false, if_true, Nat.reduceEqDiff, Nat.reduceAdd, Nat.reduceLeDiff, Int.reduceEq, Int.reduceLT, Int.reduceLE, Int.reduceToNat, decide_true, decide_false, DV.bool.injEq, DV.int.injEq, DV.mp.injEq, DV.msl.injEq, DV.tup.injEq, DV.agg.injEq, DV.fn.injEq, true_implies, forall_const, reduceCtorEq, implies_true, ne_eq, DMem.mt]
        rfl
      · have h2' : (f.code.length : Int) ≤ f.code[n].a := by omega
        simp only [ix_slD Ins.len hn, ew, k12, h2, grd_t, grd_f, grd_tf, grd_ft, grd_u, SW, wpD, evDL, evDM, evD, bldLD, List.contains_cons, List.contains_nil, Nat.reduceBEq, beq_self_eq_true, Nat.reduceMul, Nat.reduceSub, wpSp, Option.bind_some, Option.some.injEq, exists_eq_left', exists_eq_left, reduceIte, if_false, if_true, Nat.reduceEqDiff, Nat.reduceAdd, Nat.reduceLeDiff, Int.reduceEq, Int.reduceLT, Int.reduceLE, Int.reduceToNat, decide_true, decide_false, DV.bool.injEq, DV.int.injEq, DV.mp.injEq, DV.msl.injEq, DV.tup.injEq, DV.agg.injEq, DV.fn.injEq, true_implies, forall_const, reduceCtorEq, implies_true, ne_eq, DMem.mt]
        simp only [h2', List.filter_cons, List.filter_nil, SW, wpD, evDL, evDM, evD, bldLD, List.contains_cons, List.contains_nil, Nat.reduceBEq, beq_self_eq_true, Nat.reduceMul, Nat.reduceSub, wpSp, Option.bind_some, Option.some.injEq, exists_eq_left', exists_eq_left, reduceIte, if_false, if_true, Nat.reduceEqDiff, Nat.reduceAdd, Nat.reduceLeDiff, Int.reduceEq, Int.reduceLT, Int.reduceLE, Int.reduceToNat, decide_true, decide_false, DV.bool.injEq, DV.int.injEq, DV.mp.injEq, DV.msl.injEq, DV.tup.injEq, DV.agg.injEq, DV.fn.injEq, true_implies, forall_const, reduceCtorEq, implies_true, ne_eq, DMem.mt]
        rfl
    by_cases k13 : f.code[n].kind = 13
    · have er : rawNext f n f.code[n] = [(n : Int) + 1, f.code[n].a] := by simp only [rawNext, if_neg k16, if_neg k12, if_pos k13]
      rw [er]
      by_cases h1 : (n : Int) + 1 < f.code.length
      · have h1' : ¬ (f.code.length : Int) ≤ n + 1 := by omega
        simp only [ix_slD Ins.len hn, ew, k13, h1, grd_t, grd_f, grd_tf, grd_ft, grd_u, SW, wpD, evDL, evDM, evD, bldLD, List.contains_cons, List.contains_nil, Nat.reduceBEq, beq_self_eq_true, Nat.reduceMul, Nat.reduceSub, wpSp, Option.bind_some, Option.some.injEq, exists_eq_left', exists_eq_left, reduceIte, if_false, if_true, Nat.reduceEqDiff, Nat.reduceAdd, Nat.reduceLeDiff, Int.reduceEq, Int.reduceLT, Int.reduceLE, Int.reduceToNat, decide_true, decide_false, DV.bool.injEq, DV.int.injEq, DV.mp.injEq, DV.msl.injEq, DV.tup.injEq, DV.agg.injEq, DV.fn.injEq, true_implies, forall_const, reduceCtorEq, implies_true, ne_eq, DMem.mt]
        refine app_one o0 rfl (by omega) (by omega) fun d' M' ho hg => ?_
        obtain ⟨b, ty, c, hb, hM, _⟩ := ho.ix0 (k := .i64) (by decide)
        by_cases h2 : f.code[n].a < f.code.length
        · have h2' : ¬ (f.code.length : Int) ≤ f.code[n].a := by omega
          simp only [ix_slD Ins.len hn, ew, k13, h2, grd_t, grd_f, grd_tf, grd_ft, grd_u, ho.len, hb, hM, cast1, SW, wpD, evDL, evDM, evD, bldLD, List.contains_cons, List.contains_nil, Nat.reduceBEq, beq_self_eq_true, Nat.reduceMul, Nat.reduceSub, wpSp, Option.bind_some, Option.some.injEq, exists_eq_left', exists_eq_left, reduceIte, if_false, if_true, Nat.reduceEqDiff, Nat.reduceAdd, Nat.reduceLeDiff, Int.reduceEq, Int.reduceLT, Int.reduceLE, Int.reduceToNat, decide_true, decide_false, DV.bool.injEq, DV.int.injEq, DV.mp.injEq, DV.msl.injEq, DV.tup.injEq, DV.agg.injEq, DV.fn.injEq, true_implies, forall_const, reduceCtorEq, implies_true, ne_eq, DMem.mt]
          refine ⟨fun h3 => ?_, fun h3 => ?_⟩
          · refine app_one ho rfl (by omega) (by omega) fun d2 M2 ho2 hg2 => ?_
            have h3' : ¬ (n : Int) + 1 = f.code[n].a := by simpa using h3
            simp only [ho2.fz 3, h1', h2', List.filter_cons, List.filter_nil, compF, h3', SW, wpD, evDL, evDM, evD, bldLD, List.contains_cons, List.contains_nil, Nat.reduceBEq, beq_self_eq_true, Nat.reduceMul, Nat.reduceSub, wpSp, Option.bind_some, Option.some.injEq, exists_eq_left', exists_eq_left, reduceIte, if_false, if_true, Nat.reduceEqDiff, Nat.reduceAdd, Nat.reduceLeDiff, Int.reduceEq, Int.reduceLT, Int.reduceLE, Int.reduceToNat, decide_true, decide_false, DV.bool.injEq, DV.int.injEq, DV.mp.injEq, DV.msl.injEq, DV.tup.injEq, DV.agg.injEq, DV.fn.injEq, true_implies, forall_const, reduceCtorEq, implies_true, ne_eq, DMem.mt]
            rfl
          · have h3' : (n : Int) + 1 = f.code[n].a := by simpa using h3
            simp only [ho.fz 3, h1', h2', List.filter_cons, List.filter_nil, compF, h3', SW, wpD, evDL, evDM, evD, bldLD, List.contains_cons, List.contains_nil, Nat.reduceBEq, beq_self_eq_true, Nat.reduceMul, Nat.reduceSub, wpSp, Option.bind_some, Option.some.injEq, exists_eq_left', exists_eq_left, reduceIte, if_false, if_true, Nat.reduceEqDiff, Nat.reduceAdd, Nat.reduceLeDiff, Int.reduceEq, Int.reduceLT, Int.reduceLE, Int.reduceToNat, decide_true, decide_false, DV.bool.injEq, DV.int.injEq, DV.mp.injEq, DV.msl.injEq, DV.tup.injEq, DV.agg.injEq, DV.fn.injEq, true_implies, forall_const, reduceCtorEq, implies_true, ne_eq, DMem.mt]
            rfl
        · have h2' : (f.code.length : Int) ≤ f.code[n].a := by omega
          simp only [ix_slD Ins.len hn, ew, k13, h2, grd_t, grd_f, grd_tf, grd_ft, grd_u, ho.len, hb, hM, cast1, SW, wpD, evDL, evDM, evD, bldLD, List.contains_cons, List.contains_nil, Nat.reduceBEq, beq_self_eq_true, Nat.reduceMul, Nat.reduceSub, wpSp, Option.bind_some, Option.some.injEq, exists_eq_left', exists_eq_left, reduceIte, if_false, if_true, Nat.reduceEqDiff, Nat.reduceAdd, Nat.reduceLeDiff, Int.reduceEq, Int.reduceLT, Int.reduceLE, Int.reduceToNat, decide_true, decide_false, DV.bool.injEq, DV.int.injEq, DV.mp.injEq, DV.msl.injEq, DV.tup.injEq, DV.agg.injEq, DV.fn.injEq, true_implies, forall_const, reduceCtorEq, implies_true, ne_eq, DMem.mt]
          simp only [ho.fz 3, h1', h2', List.filter_cons, List.filter_nil, compF, SW, wpD, evDL, evDM, evD, bldLD, List.contains_cons, List.contains_nil, Nat.reduceBEq, beq_self_eq_true, Nat.reduceMul, Nat.reduceSub, wpSp, Option.bind_some, Option.some.injEq, exists_eq_left', exists_eq_left, reduceIte, if_false, if_true, Nat.reduceEqDiff, Nat.reduceAdd, Nat.reduceLeDiff, Int.reduceEq, Int.reduceLT, Int.reduceLE, Int.reduceToNat, decide_true, decide_false, DV.bool.injEq, DV.int.injEq, DV.mp.injEq, DV.msl.injEq, DV.tup.injEq, DV.agg.injEq, DV.fn.injEq, true_implies, forall_const, reduceCtorEq, implies_true, ne_eq, DMem.mt]
          rfl
      · have h1' : (f.code.length : Int) ≤ n + 1 := by omega
        by_cases h2 : f.code[n].a < f.code.length
        · have h2' : ¬ (f.code.length : Int) ≤ f.code[n].a := by omega
          simp only [ix_slD Ins.len hn, ew, k13, h1, h2, grd_t, grd_f, grd_tf, grd_ft, grd_u, SW, wpD, evDL, evDM, evD, bldLD, List.contains_cons, List.contains_nil, Nat.reduceBEq, beq_self_eq_true, Nat.reduceMul, Nat.reduceSub, wpSp, Option.bind_some, Option.some.injEq, exists_eq_left', exists_eq_left, reduceIte, if_false, if_true, Nat.reduceEqDiff, Nat.reduceAdd, Nat.reduceLeDiff, Int.reduceEq, Int.reduceLT, Int.reduceLE, Int.reduceToNat, decide_true, decide_false, DV.bool.injEq, DV.int.injEq, DV.mp.injEq, DV.msl.injEq, DV.tup.injEq, DV.agg.injEq, DV.fn.injEq, true_implies, forall_const, reduceCtorEq, implies_true, ne_eq, DMem.mt]
          refine app_one o0 rfl (by omega) (by omega) fun d' M' ho hg => ?_
          simp only [ho.fz 3, h1', h2', List.filter_cons, List.filter_nil, compF, SW, wpD, evDL, evDM, evD, bldLD, List.contains_cons, List.contains_nil, Nat.reduceBEq, beq_self_eq_true, Nat.reduceMul, Nat.reduceSub, wpSp, Option.bind_some, Option.some.injEq, exists_eq_left', exists_eq_left, reduceIte, if_false, if_true, Nat.reduceEqDiff, Nat.reduceAdd, Nat.reduceLeDiff, Int.reduceEq, Int.reduceLT, Int.reduceLE, Int.reduceToNat, decide_true, decide_false, DV.bool.injEq, DV.int.injEq, DV.mp.injEq, DV.msl.injEq, DV.tup.injEq, DV.agg.injEq, DV.fn.injEq, true_implies, forall_const, reduceCtorEq, implies_true, ne_eq, DMem.mt]
          rfl
        · have h2' : (f.code.length : Int) ≤ f.code[n].a := by omega
          simp only [ix_slD Ins.len hn, ew, k13, h1, h2, grd_t, grd_f, grd_tf, grd_ft, grd_u, SW, wpD, evDL, evDM, evD, bldLD, List.contains_cons, List.contains_nil, Nat.reduceBEq, beq_self_eq_true, Nat.reduceMul, Nat.reduceSub, wpSp, Option.bind_some, Option.some.injEq, exists_eq_left', exists_eq_left, reduceIte, if_false, if_true, Nat.reduceEqDiff, Nat.reduceAdd, Nat.reduceLeDiff, Int.reduceEq, Int.reduceLT, Int.reduceLE, Int.reduceToNat, decide_true, decide_false, DV.bool.injEq, DV.int.injEq, DV.mp.injEq, DV.msl.injEq, DV.tup.injEq, DV.agg.injEq, DV.fn.injEq, true_implies, forall_const, reduceCtorEq, implies_true, ne_eq, DMem.mt]
          simp only [h1', h2', List.filter_cons, List.filter_nil, compF, SW, wpD, evDL, evDM, evD, bldLD, List.contains_cons, List.contains_nil, Nat.reduceBEq, beq_self_eq_true, Nat.reduceMul, Nat.reduceSub, wpSp, Option.bind_some, Option.some.injEq, exists_eq_left', exists_eq_left, reduceIte, if_false, if_true, Nat.reduceEqDiff, Nat.reduceAdd, Nat.reduceLeDiff, Int.reduceEq, Int.reduceLT, Int.reduceLE, Int.reduceToNat, decide_true, decide_false, DV.bool.injEq, DV.int.injEq, DV.mp.injEq, DV.msl.injEq, DV.tup.injEq, DV.agg.injEq, DV.fn.injEq, true_implies, forall_const, reduceCtorEq, implies_true, ne_eq, DMem.mt]
          rfl
    · have er : rawNext f n f.code[n] = [(n : Int) + 1] := by simp only [rawNext, if_neg k16, if_neg k12, if_neg k13]
      rw [er]
      by_cases h1 : (n : Int) + 1 < f.code.length
      · have h1' : ¬ (f.code.length : Int) ≤ n + 1 := by omega
        simp only [ix_slD Ins.len hn, ew, k12, k13, k16, h1, grd_t, grd_f, grd_tf, grd_ft, grd_u, SW, wpD, evDL, evDM, evD, bldLD, List.contains_cons, List.contains_nil, Nat.reduceBEq, beq_self_eq_true, Nat.reduceMul, Nat.reduceSub, wpSp, Option.bind_some, Option.some.injEq, exists_eq_left', exists_eq_left, reduceIte, if_false, if_true, Nat.reduceEqDiff, Nat.reduceAdd, Nat.reduceLeDiff, Int.reduceEq, Int.reduceLT, Int.reduceLE, Int.reduceToNat, decide_true, decide_false, DV.bool.injEq, DV.int.injEq, DV.mp.injEq, DV.msl.injEq, DV.tup.injEq, DV.agg.injEq, DV.fn.injEq, true_implies, forall_const, reduceCtorEq, implies_true, ne_eq, DMem.mt]
        refine app_one o0 rfl (by omega) (by omega) fun d' M' ho hg => ?_
        simp only [ix_slD Ins.len hn, ew, k12, k13, k16, grd_t, grd_f, grd_tf, grd_ft, grd_u, ho.len, ho.fz 3, h1', List.filter_cons, List.filter_nil, compF, SW, wpD, evDL, evDM, evD, bldLD, List.contains_cons, List.contains_nil, Nat.reduceBEq, beq_self_eq_true, Nat.reduceMul, Nat.reduceSub, wpSp, Option.bind_some, Option.some.injEq, exists_eq_left', exists_eq_left, reduceIte, if_false, if_true, Nat.reduceEqDiff, Nat.reduceAdd, Nat.reduceLeDiff, Int.reduceEq, Int.reduceLT, Int.reduceLE, Int.reduceToNat, decide_true, decide_false, DV.bool.injEq, DV.int.injEq, DV.mp.injEq, DV.msl.injEq, DV.tup.injEq, DV.agg.injEq, DV.fn.injEq, true_implies, forall_const, reduceCtorEq, implies_true, ne_eq, DMem.mt]
        rfl
      · have h1' : (f.code.length : Int) ≤ n + 1 := by omega
        simp only [ix_slD Ins.len hn, ew, k12, k13, k16, h1, grd_t, grd_f, grd_tf, grd_ft, grd_u, SW, wpD, evDL, evDM, evD, bldLD, List.contains_cons, List.contains_nil, Nat.reduceBEq, beq_self_eq_true, Nat.reduceMul, Nat.reduceSub, wpSp, Option.bind_some, Option.some.injEq, exists_eq_left', exists_eq_left, reduceIte, if_false, if_true, Nat.reduceEqDiff, Nat.reduceAdd, Nat.reduceLeDiff, Int.reduceEq, Int.reduceLT, Int.reduceLE, Int.reduceToNat, decide_true, decide_false, DV.bool.injEq, DV.int.injEq, DV.mp.injEq, DV.msl.injEq, DV.tup.injEq, DV.agg.injEq, DV.fn.injEq, true_implies, forall_const, reduceCtorEq, implies_true, ne_eq, DMem.mt]
        simp only [h1', List.filter_cons, List.filter_nil, compF, SW, wpD, evDL, evDM, evD, bldLD, List.contains_cons, List.contains_nil, Nat.reduceBEq, beq_self_eq_true, Nat.reduceMul, Nat.reduceSub, wpSp, Option.bind_some, Option.some.injEq, exists_eq_left', exists_eq_left, reduceIte, if_false, if_true, Nat.reduceEqDiff, Nat.reduceAdd, Nat.reduceLeDiff, Int.reduceEq, Int.reduceLT, Int.reduceLE, Int.reduceToNat, decide_true, decide_false, DV.bool.injEq, DV.int.injEq, DV.mp.injEq, DV.msl.injEq, DV.tup.injEq, DV.agg.injEq, DV.fn.injEq, true_implies, forall_const, reduceCtorEq, implies_true, ne_eq, DMem.mt]
        rfl
end Go.Proofs.Ytggejjeneoaakaa.Pf
