/- Errors of what is not there: joined. No condition. -/
import Derived.Test.YtaifmmeghninhaaKb
namespace Go.Proofs.Ytaifmmeghninhaa.Pf
open Go Go.RowKit Go.Proofs Go.Proofs.Ytaifmmeghninhaa.Mw Go.Proofs.Ytaifmmeghninhaa.Sx
set_option linter.unusedVariables false
set_option linter.unusedSimpArgs false
set_option maxRecDepth 4000
theorem Froz.ifc {t : TypeId} {d : DV} (h : Froz d) : Froz (.ifc t d) := fun f => by simp only [fzS]; rw [h f]
abbrev one (d : DV) : List DV := [d]
theorem one_len (d : DV) : (one d).length = 1 := rfl
def shortD (s : ByteArray) : DV := .ifc 77 (.ip [.str s])
/-- What is joined to an error. -/
def joinL (e x : DV) : List DV := match e with
  | .raw _ => [x]
  | e => [e, x]
/-- Errors joined, the last one ahead. -/
def errD : List ByteArray → DV
  | [] => .raw .nilIface
  | s :: l => .ifc 90 (.ip [slD one (joinL (errD l) (shortD s))])
theorem fz_ifc (M : DMem) (k : Nat) (t : TypeId) (d : DV) : fz M k (.ifc t d) = .ifc t (fz M k d) := by cases k <;> rfl
theorem joinL_nil (x : DV) : joinL (errD []) x = [x] := rfl
theorem joinL_cons (s : ByteArray) (l : List ByteArray) (x : DV) : joinL (errD (s :: l)) x = [errD (s :: l), x] := rfl
theorem shortD_froz (s : ByteArray) : Froz (shortD s) := Froz.ifc (Froz.ip (FrozL.nil.cons (Froz.str s)))
theorem errD_froz : ∀ l, Froz (errD l)
  | [] => Froz.raw _
  | [s] => Froz.ifc (Froz.ip (FrozL.nil.cons (Froz.isl (FrozL.nil.cons (shortD_froz s)))))
  | s :: t :: l => Froz.ifc (Froz.ip (FrozL.nil.cons (Froz.isl ((FrozL.nil.cons (shortD_froz s)).cons (errD_froz (t :: l))))))
theorem u61 : Try.prog.underlying 61 = some (.interface (Try.prog.methodsAt 61)) := by kernel_rfl
theorem errD_plain : ∀ l, plainD (errD l) = plainD (errD l) := fun _ => rfl
def cnt1 : List ByteArray → Nat
  | [] => 0
  | _ => 1
theorem joinL_len (l : List ByteArray) (x : DV) : (joinL (errD l) x).length = cnt1 l + 1 := by cases l <;> rfl
def pre1 : List ByteArray → List DV
  | [] => []
  | l => [errD l]
theorem joinL_pre (l : List ByteArray) (x : DV) : joinL (errD l) x = pre1 l ++ [x] := by cases l <;> rfl
theorem pre1_len (l : List ByteArray) : (pre1 l).length = cnt1 l := by cases l <;> rfl
theorem pre1_froz (l : List ByteArray) : FrozL (pre1 l) := by
  cases l with
  | nil => exact FrozL.nil
  | cons s l => exact FrozL.nil.cons (errD_froz _)
theorem one_flat (l : List DV) : l.flatMap one = l := by induction l <;> simp_all [one]
def cntI (l : List ByteArray) : Nat → Nat
  | 0 => 0
  | 1 => cnt1 l
  | _ => cnt1 l + 1
def errI (l : List ByteArray) (x : DV) : Nat → List DV
  | 0 => []
  | 1 => pre1 l
  | _ => pre1 l ++ [x]
theorem cells_err (s : ByteArray) (l : List ByteArray) : cellsD (errD (s :: l)) = some [errD (s :: l)] := rfl
theorem cells_short (s : ByteArray) : cellsD (shortD s) = some [shortD s] := rfl
theorem Join_pc {M : DMem} (l : List ByteArray) (s : ByteArray) {R : DV → DMem → Prop} (hR : R (errD (s :: l)) M) : PC Try.prog F_errors_Join [.isl 2 [errD l, shortD s]] R M := by
  refine PC.fin (R := fun d M1 => ∃ M2, SubD M M1 ∧ SubD M2 M1 ∧ (∀ b, M b ≠ none → M2 b = none) ∧ ∀ m v, Rep m (fz M2 4 d) v → Rep m (errD (s :: l)) v) ?_ fun d M1 ⟨M2, a, b, c, e⟩ => ⟨M, M2, a, b, c, _, e, hR⟩
  refine PC.frame (R := fun d M2 => ∃ M3, SubD M3 M2 ∧ ∀ m v, Rep m (fz M3 4 d) v → Rep m (errD (s :: l)) v) ?_ fun d M2 ⟨M3, h3, hh⟩ hdis => ⟨M3, SubD.or_left _ _, h3.trans (SubD.or_right hdis), fun b hb => h3.none (hdis b hb), hh⟩
  refine pc_errors_Join (by simp) ?_
  simp only [S_errors_Join, R_errors_Join, MU_errors_Join, SW, wpD, evDL, evDM, evD, bldLD, List.contains_cons, List.contains_nil, Nat.reduceBEq, beq_self_eq_true, Nat.reduceMul, Nat.reduceSub, wpSp, Option.bind_some, Option.some.injEq, exists_eq_left', exists_eq_left, reduceIte, if_false, if_true, Nat.reduceEqDiff, Nat.reduceAdd, Nat.reduceLeDiff, Int.reduceEq, Int.reduceLT, Int.reduceLE, Int.reduceToNat, decide_true, decide_false, DV.bool.injEq, DV.int.injEq, DV.mp.injEq, DV.msl.injEq, DV.tup.injEq, DV.agg.injEq, DV.fn.injEq, true_implies, forall_const, reduceCtorEq, implies_true, ne_eq, DMem.mt]
  have es : DV.isl 2 [errD l, shortD s] = slD one [errD l, shortD s] := rfl
  rw [es]
  refine ⟨fun k δ M => ∃ i, i ≤ 2 ∧ k = 2 - i ∧ M = DMem.mt ∧ δ 0 = slD one [errD l, shortD s] ∧ δ 9 = slD one [errD l, shortD s] ∧ δ 10 = .int .i64 2 ∧ δ 11 = .int .i64 i ∧ δ 3 = .int .i64 (cntI l i), 2,
    ⟨0, by decide, rfl, rfl, rfl, rfl, rfl, rfl, rfl⟩, ?_⟩
  rintro k δ M ⟨i, hi, rfl, rfl, h0, h9, h10, h11, h3⟩
  have hi2 : i = 0 ∨ i = 1 ∨ i = 2 := by omega
  have e01 : wr64 (0 + 1) = ((1 : Nat) : Int) := w64 (by decide)
  have e12 : wr64 (1 + 1) = ((2 : Nat) : Int) := w64 (by decide)
  have ix0 : ixD 1 (slD one [errD l, shortD s]) (.int .i64 0) = some (.ip [errD l, shortD s]) := rfl
  have ix1 : ixD 1 (slD one [errD l, shortD s]) (.int .i64 1) = some (.ip [shortD s]) := rfl
  have hc : cnt1 l = 0 ∨ cnt1 l = 1 := by cases l <;> simp [cnt1]
  rcases hi2 with rfl | rfl | rfl
  · replace h11 : δ 11 = .int .i64 0 := h11
    simp only [S1_errors_Join, MU_errors_Join, h0, h9, h10, h11, h3, ix0, SW, wpD, evDL, evDM, evD, bldLD, List.contains_cons, List.contains_nil, Nat.reduceBEq, beq_self_eq_true, Nat.reduceMul, Nat.reduceSub, wpSp, Option.bind_some, Option.some.injEq, exists_eq_left', exists_eq_left, reduceIte, if_false, if_true, Nat.reduceEqDiff, Nat.reduceAdd, Nat.reduceLeDiff, Int.reduceEq, Int.reduceLT, Int.reduceLE, Int.reduceToNat, decide_true, decide_false, DV.bool.injEq, DV.int.injEq, DV.mp.injEq, DV.msl.injEq, DV.tup.injEq, DV.agg.injEq, DV.fn.injEq, true_implies, forall_const, reduceCtorEq, implies_true, ne_eq, DMem.mt]
    cases l with
    | nil =>
      refine effNeNil rfl u61 (b := false) (.inl ⟨rfl, rfl⟩) ?_
      simp only [h0, h9, h10, h11, h3, SW, wpD, evDL, evDM, evD, bldLD, List.contains_cons, List.contains_nil, Nat.reduceBEq, beq_self_eq_true, Nat.reduceMul, Nat.reduceSub, wpSp, Option.bind_some, Option.some.injEq, exists_eq_left', exists_eq_left, reduceIte, if_false, if_true, Nat.reduceEqDiff, Nat.reduceAdd, Nat.reduceLeDiff, Int.reduceEq, Int.reduceLT, Int.reduceLE, Int.reduceToNat, decide_true, decide_false, DV.bool.injEq, DV.int.injEq, DV.mp.injEq, DV.msl.injEq, DV.tup.injEq, DV.agg.injEq, DV.fn.injEq, true_implies, forall_const, reduceCtorEq, implies_true, ne_eq, DMem.mt]
      exact ⟨1, DMem.mt, by decide, SubD.refl _, 1, by decide, rfl, rfl, e01, rfl⟩
    | cons s' l' =>
      refine effNeNil rfl u61 (b := true) (.inr ⟨rfl, _, _, rfl⟩) ?_
      simp only [h0, h9, h10, h11, h3, SW, wpD, evDL, evDM, evD, bldLD, List.contains_cons, List.contains_nil, Nat.reduceBEq, beq_self_eq_true, Nat.reduceMul, Nat.reduceSub, wpSp, Option.bind_some, Option.some.injEq, exists_eq_left', exists_eq_left, reduceIte, if_false, if_true, Nat.reduceEqDiff, Nat.reduceAdd, Nat.reduceLeDiff, Int.reduceEq, Int.reduceLT, Int.reduceLE, Int.reduceToNat, decide_true, decide_false, DV.bool.injEq, DV.int.injEq, DV.mp.injEq, DV.msl.injEq, DV.tup.injEq, DV.agg.injEq, DV.fn.injEq, true_implies, forall_const, reduceCtorEq, implies_true, ne_eq, DMem.mt]
      exact ⟨1, DMem.mt, by decide, SubD.refl _, 1, by decide, rfl, rfl, e01, e01⟩
  · replace h11 : δ 11 = .int .i64 1 := h11
    simp only [S1_errors_Join, MU_errors_Join, h0, h9, h10, h11, h3, ix1, SW, wpD, evDL, evDM, evD, bldLD, List.contains_cons, List.contains_nil, Nat.reduceBEq, beq_self_eq_true, Nat.reduceMul, Nat.reduceSub, wpSp, Option.bind_some, Option.some.injEq, exists_eq_left', exists_eq_left, reduceIte, if_false, if_true, Nat.reduceEqDiff, Nat.reduceAdd, Nat.reduceLeDiff, Int.reduceEq, Int.reduceLT, Int.reduceLE, Int.reduceToNat, decide_true, decide_false, DV.bool.injEq, DV.int.injEq, DV.mp.injEq, DV.msl.injEq, DV.tup.injEq, DV.agg.injEq, DV.fn.injEq, true_implies, forall_const, reduceCtorEq, implies_true, ne_eq, DMem.mt]
    refine effNeNil rfl u61 (b := true) (.inr ⟨rfl, _, _, rfl⟩) ?_
    simp only [h0, h9, h10, h11, h3, SW, wpD, evDL, evDM, evD, bldLD, List.contains_cons, List.contains_nil, Nat.reduceBEq, beq_self_eq_true, Nat.reduceMul, Nat.reduceSub, wpSp, Option.bind_some, Option.some.injEq, exists_eq_left', exists_eq_left, reduceIte, if_false, if_true, Nat.reduceEqDiff, Nat.reduceAdd, Nat.reduceLeDiff, Int.reduceEq, Int.reduceLT, Int.reduceLE, Int.reduceToNat, decide_true, decide_false, DV.bool.injEq, DV.int.injEq, DV.mp.injEq, DV.msl.injEq, DV.tup.injEq, DV.agg.injEq, DV.fn.injEq, true_implies, forall_const, reduceCtorEq, implies_true, ne_eq, DMem.mt]
    refine ⟨0, DMem.mt, by decide, SubD.refl _, 2, by decide, rfl, rfl, e12, ?_⟩
    simp only [cntI]
    rcases hc with h | h <;> rw [h]
    · exact e01
    · exact e12
  · replace h11 : δ 11 = .int .i64 2 := h11
    have hn0 : ¬ ((cntI l 2 : Nat) : Int) = 0 := by simp only [cntI]; omega
    simp only [S1_errors_Join, S3_errors_Join, MU_errors_Join, h0, h9, h10, h11, h3, hn0, SW, wpD, evDL, evDM, evD, bldLD, List.contains_cons, List.contains_nil, Nat.reduceBEq, beq_self_eq_true, Nat.reduceMul, Nat.reduceSub, wpSp, Option.bind_some, Option.some.injEq, exists_eq_left', exists_eq_left, reduceIte, if_false, if_true, Nat.reduceEqDiff, Nat.reduceAdd, Nat.reduceLeDiff, Int.reduceEq, Int.reduceLT, Int.reduceLE, Int.reduceToNat, decide_true, decide_false, DV.bool.injEq, DV.int.injEq, DV.mp.injEq, DV.msl.injEq, DV.tup.injEq, DV.agg.injEq, DV.fn.injEq, true_implies, forall_const, reduceCtorEq, implies_true, ne_eq, DMem.mt]
    refine ⟨_, rfl, _, rfl, by omega, by omega, by simp only [cntI]; omega, by simp only [cntI]; omega, fun q M1 hq1 hM1 => ?_⟩
    simp only [SW, wpD, evDL, evDM, evD, bldLD, List.contains_cons, List.contains_nil, Nat.reduceBEq, beq_self_eq_true, Nat.reduceMul, Nat.reduceSub, wpSp, Option.bind_some, Option.some.injEq, exists_eq_left', exists_eq_left, reduceIte, if_false, if_true, Nat.reduceEqDiff, Nat.reduceAdd, Nat.reduceLeDiff, Int.reduceEq, Int.reduceLT, Int.reduceLE, Int.reduceToNat, decide_true, decide_false, DV.bool.injEq, DV.int.injEq, DV.mp.injEq, DV.msl.injEq, DV.tup.injEq, DV.agg.injEq, DV.fn.injEq, true_implies, forall_const, reduceCtorEq, implies_true, ne_eq, DMem.mt]
    intro b M2 hb hM2
    have hqb : q ≠ b := by rintro rfl; rw [hM1, DMem.ins_same] at hb; cases hb
    try simp only [h0, SW, wpD, evDL, evDM, evD, bldLD, List.contains_cons, List.contains_nil, Nat.reduceBEq, beq_self_eq_true, Nat.reduceMul, Nat.reduceSub, wpSp, Option.bind_some, Option.some.injEq, exists_eq_left', exists_eq_left, reduceIte, if_false, if_true, Nat.reduceEqDiff, Nat.reduceAdd, Nat.reduceLeDiff, Int.reduceEq, Int.reduceLT, Int.reduceLE, Int.reduceToNat, decide_true, decide_false, DV.bool.injEq, DV.int.injEq, DV.mp.injEq, DV.msl.injEq, DV.tup.injEq, DV.agg.injEq, DV.fn.injEq, true_implies, forall_const, reduceCtorEq, implies_true, ne_eq, DMem.mt]
    clear h9 h10 h11 h3 hi
    refine ⟨fun k δ M => ∃ i, i ≤ 2 ∧ k = 2 - i ∧ δ 6 = .mp b 0 ∧ δ 26 = slD one [errD l, shortD s] ∧ δ 27 = .int .i64 2 ∧ δ 28 = .int .i64 i ∧ ∃ d, M b = some ⟨92, 1, [d]⟩ ∧ OwnD M 1 d (cntI l i) (errI l (shortD s) i) ∧ blkD d ≠ some b, 2,
      ⟨0, by decide, rfl, rfl, rfl, rfl, rfl, .msl q 0 0 (cntI l 2), by rw [hM2, DMem.ins_same], ⟨rfl, .inr ⟨q, cntI l 2, 61, rfl, ?_, Nat.zero_le _, by simp only [cntI]; omega⟩⟩, ?_⟩, ?_⟩
    · rw [hM2, DMem.ins_ne _ _ hqb, hM1, DMem.ins_same]; rfl
    · simp only [blkD]; rw [if_neg (by simp only [cntI]; omega)]; simpa using hqb
    clear hM1 hM2 hq1 hb h0 δ
    rintro k δ M ⟨i, hi, rfl, h6, h26, h27, h28, d, hMb, ho, hbd⟩
    have hi2 : i = 0 ∨ i = 1 ∨ i = 2 := by omega
    rcases hi2 with rfl | rfl | rfl
    · replace h28 : δ 28 = .int .i64 0 := h28
      simp only [S2_errors_Join, MU_errors_Join, h6, h26, h27, h28, ix0, SW, wpD, evDL, evDM, evD, bldLD, List.contains_cons, List.contains_nil, Nat.reduceBEq, beq_self_eq_true, Nat.reduceMul, Nat.reduceSub, wpSp, Option.bind_some, Option.some.injEq, exists_eq_left', exists_eq_left, reduceIte, if_false, if_true, Nat.reduceEqDiff, Nat.reduceAdd, Nat.reduceLeDiff, Int.reduceEq, Int.reduceLT, Int.reduceLE, Int.reduceToNat, decide_true, decide_false, DV.bool.injEq, DV.int.injEq, DV.mp.injEq, DV.msl.injEq, DV.tup.injEq, DV.agg.injEq, DV.fn.injEq, true_implies, forall_const, reduceCtorEq, implies_true, ne_eq, DMem.mt]
      cases l with
      | nil =>
        refine effNeNil rfl u61 (b := false) (.inl ⟨rfl, rfl⟩) ?_
        simp only [h6, h26, h27, h28, SW, wpD, evDL, evDM, evD, bldLD, List.contains_cons, List.contains_nil, Nat.reduceBEq, beq_self_eq_true, Nat.reduceMul, Nat.reduceSub, wpSp, Option.bind_some, Option.some.injEq, exists_eq_left', exists_eq_left, reduceIte, if_false, if_true, Nat.reduceEqDiff, Nat.reduceAdd, Nat.reduceLeDiff, Int.reduceEq, Int.reduceLT, Int.reduceLE, Int.reduceToNat, decide_true, decide_false, DV.bool.injEq, DV.int.injEq, DV.mp.injEq, DV.msl.injEq, DV.tup.injEq, DV.agg.injEq, DV.fn.injEq, true_implies, forall_const, reduceCtorEq, implies_true, ne_eq, DMem.mt]
        exact ⟨1, M, by decide, SubD.refl _, 1, by decide, rfl, e01, d, hMb, ho, hbd⟩
      | cons s' l' =>
        refine effNeNil rfl u61 (b := true) (.inr ⟨rfl, _, _, rfl⟩) ?_
        simp only [h6, h26, h27, h28, hMb, cells_err, SW, wpD, evDL, evDM, evD, bldLD, List.contains_cons, List.contains_nil, Nat.reduceBEq, beq_self_eq_true, Nat.reduceMul, Nat.reduceSub, wpSp, Option.bind_some, Option.some.injEq, exists_eq_left', exists_eq_left, reduceIte, if_false, if_true, Nat.reduceEqDiff, Nat.reduceAdd, Nat.reduceLeDiff, Int.reduceEq, Int.reduceLT, Int.reduceLE, Int.reduceToNat, decide_true, decide_false, DV.bool.injEq, DV.int.injEq, DV.mp.injEq, DV.msl.injEq, DV.tup.injEq, DV.agg.injEq, DV.fn.injEq, true_implies, forall_const, reduceCtorEq, implies_true, ne_eq, DMem.mt]
        refine app_one (x := errD (s' :: l')) (bytes := 16) ho rfl (by simp only [cntI]; omega) (by simp only [cntI]; omega) fun d' M3 ho3 hg => ?_
        obtain ⟨g1, g2⟩ := hg.blk hMb hbd
        refine stD g1 (ho3.cell) rfl (by simp) (by simp) (by simp [ho3.plain]) fun M4 hM4 => ?_
        try simp only [h6, h26, h27, h28, hMb, SW, wpD, evDL, evDM, evD, bldLD, List.contains_cons, List.contains_nil, Nat.reduceBEq, beq_self_eq_true, Nat.reduceMul, Nat.reduceSub, wpSp, Option.bind_some, Option.some.injEq, exists_eq_left', exists_eq_left, reduceIte, if_false, if_true, Nat.reduceEqDiff, Nat.reduceAdd, Nat.reduceLeDiff, Int.reduceEq, Int.reduceLT, Int.reduceLE, Int.reduceToNat, decide_true, decide_false, DV.bool.injEq, DV.int.injEq, DV.mp.injEq, DV.msl.injEq, DV.tup.injEq, DV.agg.injEq, DV.fn.injEq, true_implies, forall_const, reduceCtorEq, implies_true, ne_eq, DMem.mt]
        exact ⟨1, M4, by decide, SubD.refl _, 1, by decide, rfl, e01, d', by rw [hM4, DMem.ins_same]; rfl, by rw [hM4]; exact ho3.ins g2 _, g2⟩
    · replace h28 : δ 28 = .int .i64 1 := h28
      simp only [S2_errors_Join, MU_errors_Join, h6, h26, h27, h28, ix1, SW, wpD, evDL, evDM, evD, bldLD, List.contains_cons, List.contains_nil, Nat.reduceBEq, beq_self_eq_true, Nat.reduceMul, Nat.reduceSub, wpSp, Option.bind_some, Option.some.injEq, exists_eq_left', exists_eq_left, reduceIte, if_false, if_true, Nat.reduceEqDiff, Nat.reduceAdd, Nat.reduceLeDiff, Int.reduceEq, Int.reduceLT, Int.reduceLE, Int.reduceToNat, decide_true, decide_false, DV.bool.injEq, DV.int.injEq, DV.mp.injEq, DV.msl.injEq, DV.tup.injEq, DV.agg.injEq, DV.fn.injEq, true_implies, forall_const, reduceCtorEq, implies_true, ne_eq, DMem.mt]
      refine effNeNil rfl u61 (b := true) (.inr ⟨rfl, _, _, rfl⟩) ?_
      simp only [h6, h26, h27, h28, hMb, cells_short, SW, wpD, evDL, evDM, evD, bldLD, List.contains_cons, List.contains_nil, Nat.reduceBEq, beq_self_eq_true, Nat.reduceMul, Nat.reduceSub, wpSp, Option.bind_some, Option.some.injEq, exists_eq_left', exists_eq_left, reduceIte, if_false, if_true, Nat.reduceEqDiff, Nat.reduceAdd, Nat.reduceLeDiff, Int.reduceEq, Int.reduceLT, Int.reduceLE, Int.reduceToNat, decide_true, decide_false, DV.bool.injEq, DV.int.injEq, DV.mp.injEq, DV.msl.injEq, DV.tup.injEq, DV.agg.injEq, DV.fn.injEq, true_implies, forall_const, reduceCtorEq, implies_true, ne_eq, DMem.mt]
      refine app_one (x := shortD s) (bytes := 16) ho rfl (by simp only [cntI]; omega) (by simp only [cntI]; omega) fun d' M3 ho3 hg => ?_
      obtain ⟨g1, g2⟩ := hg.blk hMb hbd
      refine stD g1 (ho3.cell) rfl (by simp) (by simp) (by simp [ho3.plain]) fun M4 hM4 => ?_
      try simp only [h6, h26, h27, h28, hMb, SW, wpD, evDL, evDM, evD, bldLD, List.contains_cons, List.contains_nil, Nat.reduceBEq, beq_self_eq_true, Nat.reduceMul, Nat.reduceSub, wpSp, Option.bind_some, Option.some.injEq, exists_eq_left', exists_eq_left, reduceIte, if_false, if_true, Nat.reduceEqDiff, Nat.reduceAdd, Nat.reduceLeDiff, Int.reduceEq, Int.reduceLT, Int.reduceLE, Int.reduceToNat, decide_true, decide_false, DV.bool.injEq, DV.int.injEq, DV.mp.injEq, DV.msl.injEq, DV.tup.injEq, DV.agg.injEq, DV.fn.injEq, true_implies, forall_const, reduceCtorEq, implies_true, ne_eq, DMem.mt]
      exact ⟨0, M4, by decide, SubD.refl _, 2, by decide, rfl, e12, d', by rw [hM4, DMem.ins_same]; rfl, by rw [hM4]; exact ho3.ins g2 _, g2⟩
    · replace h28 : δ 28 = .int .i64 2 := h28
      simp only [S2_errors_Join, MU_errors_Join, h6, h26, h27, h28, SW, wpD, evDL, evDM, evD, bldLD, List.contains_cons, List.contains_nil, Nat.reduceBEq, beq_self_eq_true, Nat.reduceMul, Nat.reduceSub, wpSp, Option.bind_some, Option.some.injEq, exists_eq_left', exists_eq_left, reduceIte, if_false, if_true, Nat.reduceEqDiff, Nat.reduceAdd, Nat.reduceLeDiff, Int.reduceEq, Int.reduceLT, Int.reduceLE, Int.reduceToNat, decide_true, decide_false, DV.bool.injEq, DV.int.injEq, DV.mp.injEq, DV.msl.injEq, DV.tup.injEq, DV.agg.injEq, DV.fn.injEq, true_implies, forall_const, reduceCtorEq, implies_true, ne_eq, DMem.mt]
      refine ⟨M, SubD.refl _, ?_⟩
      have hfz : fz M 4 (.ifc 90 (.mp b 0)) = errD (s :: l) := by
        rw [fz_ifc, fz_mp hMb 3 0]
        simp only [List.map_cons, List.map_nil, List.drop_zero]
        rw [ho.fz 2, fzmap_froz (by exact (pre1_froz l).append (FrozL.nil.cons (shortD_froz s)))]
        simp only [errD, joinL_pre, slD, one_flat, errI, cntI, List.length_append, pre1_len, List.length_cons, List.length_nil]
      intro m v h
      rw [hfz] at h
      exact h
end Go.Proofs.Ytaifmmeghninhaa.Pf
