/- Wm Wn Wl Wo Yb Yc: joined texts of this claim. No condition. -/
import Derived.Test.YtpehdlobicocpaaDoorLwjh
namespace Go.Proofs.YtpehdlobicocpaaDoor.Pf
open Go Go.RowKit Go.Proofs Go.Proofs.YtpehdlobicocpaaDoor.Mw Go.Proofs.YtpehdlobicocpaaDoor.Sx
set_option linter.unusedVariables false
set_option linter.unusedSimpArgs false
set_option maxRecDepth 8000
theorem one_end {M : DMem} {δ : DEnv} {q8 q9 : Nat} {x : Irc} {d : DV} {S : List Nat} (h8 : δ 6 = .mp q8 0) (h9 : δ 10 = .mp q9 0) (h89 : q8 ≠ q9) {cs8 : List DV} (hM8 : M q8 = some ⟨28, 9, cs8⟩) (hl8 : cs8.length = 9)
    (hM9 : M q9 = some ⟨28, 9, [.int .i64 x.kind, .int .i64 x.r, .int .i64 x.a, .int .i64 x.b, .int .i64 x.k, d, .int .i64 x.cost, .int .i64 x.mt, .int .i64 x.pc]⟩) (hs : SlAt intE M d x.args S) (h8S : q8 ∉ S) {KK : DEnv → DMem → Prop} {XX : Nat → DEnv → DMem → Prop} :
    wpD Tryd.prog MU_swageref9_one (fun f => roL.contains f) (fun t => G_swageref9_one.contains t) 143 S2_swageref9_one KK XX (fun δ M' => ∃ d, ldnD M' 9 (δ 6) = some d ∧ ∃ M2, SubD M2 M' ∧ Thaw d M2 ∧ ∀ m v, Rep m (fz M2 4 d) v → Rep m (.agg x.c) v) δ M := by
  simp only [S2_swageref9_one, MU_swageref9_one, h8, h9, hM9, ldnM, SW, wpD, evDL, evDM, evD, bldLD, List.contains_cons, List.contains_nil, Nat.reduceBEq, beq_self_eq_true, Nat.reduceMul, Nat.reduceSub, wpSp, Option.bind_some, Option.some.injEq, exists_eq_left', exists_eq_left, reduceIte, if_false, if_true, Nat.reduceEqDiff, Nat.reduceAdd, Nat.reduceLeDiff, Int.reduceEq, Int.reduceLT, Int.reduceLE, Int.reduceToNat, decide_true, decide_false, DV.bool.injEq, DV.int.injEq, DV.mp.injEq, DV.msl.injEq, DV.tup.injEq, DV.agg.injEq, DV.fn.injEq, true_implies, forall_const, reduceCtorEq, implies_true, ne_eq, DMem.mt]
  refine stD hM8 rfl rfl (by omega) (by simp) (by simp only [List.all_cons, List.all_nil, hs.plain] <;> rfl) fun M4 hM4 => ?_
  have hq4 : M4 q8 = some ⟨28, 9, [.int .i64 x.kind, .int .i64 x.r, .int .i64 x.a, .int .i64 x.b, .int .i64 x.k, d, .int .i64 x.cost, .int .i64 x.mt, .int .i64 x.pc]⟩ := by
    rw [hM4, DMem.ins_same]
    congr 2
    unfold splD
    rw [List.drop_eq_nil_of_le (by simp; omega)]
    simp
  have g1 : SlAt intE M4 d x.args S := hs.frame intE_ok fun b hb => by rw [hM4, DMem.ins_ne _ _ (by rintro rfl; exact h8S hb)]
  obtain ⟨t1, t2⟩ := intE_th.sl g1
  have g1' := SlAt.only intE_ok g1 (T := S) (fun b hb => hb)
  simp only [ldnM, hq4, SW, wpD, evDL, evDM, evD, bldLD, List.contains_cons, List.contains_nil, Nat.reduceBEq, beq_self_eq_true, Nat.reduceMul, Nat.reduceSub, wpSp, Option.bind_some, Option.some.injEq, exists_eq_left', exists_eq_left, reduceIte, if_false, if_true, Nat.reduceEqDiff, Nat.reduceAdd, Nat.reduceLeDiff, Int.reduceEq, Int.reduceLT, Int.reduceLE, Int.reduceToNat, decide_true, decide_false, DV.bool.injEq, DV.int.injEq, DV.mp.injEq, DV.msl.injEq, DV.tup.injEq, DV.agg.injEq, DV.fn.injEq, true_implies, forall_const, reduceCtorEq, implies_true, ne_eq, DMem.mt]
  refine pt_only (S := S) (by simp only [thawed, thawedL, t1] <;> rfl) t2 ?_
  rw [fz_agg]
  simp only [List.map_cons, List.map_nil, fz_int]
  rw [g1'.fz intE_ok (k := 3) (by decide), slD_ints]
set_option maxHeartbeats 2000000 in
theorem oneR_pt (p : List Fnc) (fn pc h : Nat) (hfn : fn < p.length) (hpc : pc < p[fn].code.length) (hx : mayB p[fn].code[pc] = true) (hl : 0 ≤ p[fn].locals ∧ p[fn].locals ≤ 8) (hh : h ≤ 8) (hhe : heightF p fn pc = h)
    (hc : p[fn].code[pc].kind = 14 → 0 ≤ p[fn].code[pc].a ∧ p[fn].code[pc].a < p.length ∧ 0 ≤ argsOf p p[fn].code[pc].a ∧ argsOf p p[fn].code[pc].a ≤ 4) :
    Pt Tryd.prog F_swageref9_one [.agg [slD Fnc.c p], .int .i64 fn, .int .i64 pc] (.agg (irL p p[fn].code[pc] pc (p[fn].locals + h)).c) := by
  refine Pt.of (pc_swageref9_one (by simp) ?_)
  have w0 : wr64 (p[fn].locals + (h : Int)) = p[fn].locals + h := w64 (by omega)
  have hl3 : ∀ K : DMem, ∀ r : List DV, ldnD K 3 (.ip (.int .i64 p[fn].args :: .int .i64 p[fn].locals :: slD Ins.c p[fn].code :: r)) = some (.agg p[fn].c) := fun K r => by simp [ldnD]
  have hl2 : ∀ K : DMem, ∀ x : Ins, ∀ r : List DV, ldnD K 2 (.ip (.int .i64 x.kind :: .int .i64 x.a :: r)) = some (.agg x.c) := fun K x r => by simp [ldnD]
  simp (config := { maxSteps := 3000000 }) only [S_swageref9_one, R_swageref9_one, MU_swageref9_one, ix_slD Fnc.len hfn, ix_slD Ins.len hpc, hl3, hl2, HeightR_pf, fz_prg, hhe, w0, ldnI1, SW, wpD, evDL, evDM, evD, bldLD, List.contains_cons, List.contains_nil, Nat.reduceBEq, beq_self_eq_true, Nat.reduceMul, Nat.reduceSub, wpSp, Option.bind_some, Option.some.injEq, exists_eq_left', exists_eq_left, reduceIte, if_false, if_true, Nat.reduceEqDiff, Nat.reduceAdd, Nat.reduceLeDiff, Int.reduceEq, Int.reduceLT, Int.reduceLE, Int.reduceToNat, decide_true, decide_false, DV.bool.injEq, DV.int.injEq, DV.mp.injEq, DV.msl.injEq, DV.tup.injEq, DV.agg.injEq, DV.fn.injEq, true_implies, forall_const, reduceCtorEq, implies_true, ne_eq, DMem.mt]
  generalize p[fn].code[pc] = x at *
  intro q8 M1 hM1 q9 M2 hq9 hM2
  have h89 : q8 ≠ q9 := by rintro rfl; rw [hM1, DMem.ins_same] at hq9; cases hq9
  have h8 : M2 q8 = some ⟨28, 9, [.int .i64 0, .int .i64 0, .int .i64 0, .int .i64 0, .int .i64 0, .zsl, .int .i64 0, .int .i64 0, .int .i64 0]⟩ := by rw [hM2, DMem.ins_ne _ _ h89, hM1, DMem.ins_same]
  have h9 : M2 q9 = some ⟨28, 9, irD 0 0 0 0 0 pc .zsl⟩ := by rw [hM2, DMem.ins_same] <;> rfl
  clear hM1 hM2 hq9
  have hk := may_kind hx
  obtain ⟨k, a⟩ := x
  simp only at hk hc
  unfold irD at h9
  generalize hte : p[fn].locals + (h : Int) = top at *
  have w1 : wr64 (top - 1) = top - 1 := w64 (by omega)
  have w2 : wr64 (top - 2) = top - 2 := w64 (by omega)
  rcases hk with rfl | rfl | rfl | rfl | rfl | rfl | rfl | rfl | rfl | rfl | rfl | rfl | rfl | rfl | rfl | rfl | rfl
  all_goals simp only [w1, w2, SW, wpD, evDL, evDM, evD, bldLD, List.contains_cons, List.contains_nil, Nat.reduceBEq, beq_self_eq_true, Nat.reduceMul, Nat.reduceSub, wpSp, Option.bind_some, Option.some.injEq, exists_eq_left', exists_eq_left, reduceIte, if_false, if_true, Nat.reduceEqDiff, Nat.reduceAdd, Nat.reduceLeDiff, Int.reduceEq, Int.reduceLT, Int.reduceLE, Int.reduceToNat, decide_true, decide_false, DV.bool.injEq, DV.int.injEq, DV.mp.injEq, DV.msl.injEq, DV.tup.injEq, DV.agg.injEq, DV.fn.injEq, true_implies, forall_const, reduceCtorEq, implies_true, ne_eq, DMem.mt]
  · have e : irL p ⟨0, a⟩ pc top = ⟨1, top, 0, 0, a, [], 1, 0, pc⟩ := by simp [irL]
    rw [e]
    refine st9 (i := 0) (v := 1) h9 rfl (by decide) fun N1 g1 k1 => ?_
    try simp only [w1, w2, SW, wpD, evDL, evDM, evD, bldLD, List.contains_cons, List.contains_nil, Nat.reduceBEq, beq_self_eq_true, Nat.reduceMul, Nat.reduceSub, wpSp, Option.bind_some, Option.some.injEq, exists_eq_left', exists_eq_left, reduceIte, if_false, if_true, Nat.reduceEqDiff, Nat.reduceAdd, Nat.reduceLeDiff, Int.reduceEq, Int.reduceLT, Int.reduceLE, Int.reduceToNat, decide_true, decide_false, DV.bool.injEq, DV.int.injEq, DV.mp.injEq, DV.msl.injEq, DV.tup.injEq, DV.agg.injEq, DV.fn.injEq, true_implies, forall_const, reduceCtorEq, implies_true, ne_eq, DMem.mt]
    refine st9 (i := 1) (v := top) g1 rfl (by decide) fun N2 g2 k2 => ?_
    try simp only [w1, w2, SW, wpD, evDL, evDM, evD, bldLD, List.contains_cons, List.contains_nil, Nat.reduceBEq, beq_self_eq_true, Nat.reduceMul, Nat.reduceSub, wpSp, Option.bind_some, Option.some.injEq, exists_eq_left', exists_eq_left, reduceIte, if_false, if_true, Nat.reduceEqDiff, Nat.reduceAdd, Nat.reduceLeDiff, Int.reduceEq, Int.reduceLT, Int.reduceLE, Int.reduceToNat, decide_true, decide_false, DV.bool.injEq, DV.int.injEq, DV.mp.injEq, DV.msl.injEq, DV.tup.injEq, DV.agg.injEq, DV.fn.injEq, true_implies, forall_const, reduceCtorEq, implies_true, ne_eq, DMem.mt]
    refine st9 (i := 4) (v := a) g2 rfl (by decide) fun N3 g3 k3 => ?_
    try simp only [w1, w2, SW, wpD, evDL, evDM, evD, bldLD, List.contains_cons, List.contains_nil, Nat.reduceBEq, beq_self_eq_true, Nat.reduceMul, Nat.reduceSub, wpSp, Option.bind_some, Option.some.injEq, exists_eq_left', exists_eq_left, reduceIte, if_false, if_true, Nat.reduceEqDiff, Nat.reduceAdd, Nat.reduceLeDiff, Int.reduceEq, Int.reduceLT, Int.reduceLE, Int.reduceToNat, decide_true, decide_false, DV.bool.injEq, DV.int.injEq, DV.mp.injEq, DV.msl.injEq, DV.tup.injEq, DV.agg.injEq, DV.fn.injEq, true_implies, forall_const, reduceCtorEq, implies_true, ne_eq, DMem.mt]
    exact one_end (x := ⟨1, top, 0, 0, a, [], 1, 0, pc⟩) (d := .zsl) (S := []) rfl rfl h89 (by rw [k3 q8 h89, k2 q8 h89, k1 q8 h89]; exact h8) rfl g3 SlAt.nil (by simp)
  · have e : irL p ⟨1, a⟩ pc top = ⟨2, top, a, 0, 0, [], 1, 0, pc⟩ := by simp [irL]
    rw [e]
    refine st9 (i := 0) (v := 2) h9 rfl (by decide) fun N1 g1 k1 => ?_
    try simp only [w1, w2, SW, wpD, evDL, evDM, evD, bldLD, List.contains_cons, List.contains_nil, Nat.reduceBEq, beq_self_eq_true, Nat.reduceMul, Nat.reduceSub, wpSp, Option.bind_some, Option.some.injEq, exists_eq_left', exists_eq_left, reduceIte, if_false, if_true, Nat.reduceEqDiff, Nat.reduceAdd, Nat.reduceLeDiff, Int.reduceEq, Int.reduceLT, Int.reduceLE, Int.reduceToNat, decide_true, decide_false, DV.bool.injEq, DV.int.injEq, DV.mp.injEq, DV.msl.injEq, DV.tup.injEq, DV.agg.injEq, DV.fn.injEq, true_implies, forall_const, reduceCtorEq, implies_true, ne_eq, DMem.mt]
    refine st9 (i := 1) (v := top) g1 rfl (by decide) fun N2 g2 k2 => ?_
    try simp only [w1, w2, SW, wpD, evDL, evDM, evD, bldLD, List.contains_cons, List.contains_nil, Nat.reduceBEq, beq_self_eq_true, Nat.reduceMul, Nat.reduceSub, wpSp, Option.bind_some, Option.some.injEq, exists_eq_left', exists_eq_left, reduceIte, if_false, if_true, Nat.reduceEqDiff, Nat.reduceAdd, Nat.reduceLeDiff, Int.reduceEq, Int.reduceLT, Int.reduceLE, Int.reduceToNat, decide_true, decide_false, DV.bool.injEq, DV.int.injEq, DV.mp.injEq, DV.msl.injEq, DV.tup.injEq, DV.agg.injEq, DV.fn.injEq, true_implies, forall_const, reduceCtorEq, implies_true, ne_eq, DMem.mt]
    refine st9 (i := 2) (v := a) g2 rfl (by decide) fun N3 g3 k3 => ?_
    try simp only [w1, w2, SW, wpD, evDL, evDM, evD, bldLD, List.contains_cons, List.contains_nil, Nat.reduceBEq, beq_self_eq_true, Nat.reduceMul, Nat.reduceSub, wpSp, Option.bind_some, Option.some.injEq, exists_eq_left', exists_eq_left, reduceIte, if_false, if_true, Nat.reduceEqDiff, Nat.reduceAdd, Nat.reduceLeDiff, Int.reduceEq, Int.reduceLT, Int.reduceLE, Int.reduceToNat, decide_true, decide_false, DV.bool.injEq, DV.int.injEq, DV.mp.injEq, DV.msl.injEq, DV.tup.injEq, DV.agg.injEq, DV.fn.injEq, true_implies, forall_const, reduceCtorEq, implies_true, ne_eq, DMem.mt]
    exact one_end (x := ⟨2, top, a, 0, 0, [], 1, 0, pc⟩) (d := .zsl) (S := []) rfl rfl h89 (by rw [k3 q8 h89, k2 q8 h89, k1 q8 h89]; exact h8) rfl g3 SlAt.nil (by simp)
  · have e : irL p ⟨2, a⟩ pc top = ⟨2, a, (top - 1), 0, 0, [], 1, 0, pc⟩ := by simp [irL]
    rw [e]
    refine st9 (i := 0) (v := 2) h9 rfl (by decide) fun N1 g1 k1 => ?_
    try simp only [w1, w2, SW, wpD, evDL, evDM, evD, bldLD, List.contains_cons, List.contains_nil, Nat.reduceBEq, beq_self_eq_true, Nat.reduceMul, Nat.reduceSub, wpSp, Option.bind_some, Option.some.injEq, exists_eq_left', exists_eq_left, reduceIte, if_false, if_true, Nat.reduceEqDiff, Nat.reduceAdd, Nat.reduceLeDiff, Int.reduceEq, Int.reduceLT, Int.reduceLE, Int.reduceToNat, decide_true, decide_false, DV.bool.injEq, DV.int.injEq, DV.mp.injEq, DV.msl.injEq, DV.tup.injEq, DV.agg.injEq, DV.fn.injEq, true_implies, forall_const, reduceCtorEq, implies_true, ne_eq, DMem.mt]
    refine st9 (i := 1) (v := a) g1 rfl (by decide) fun N2 g2 k2 => ?_
    try simp only [w1, w2, SW, wpD, evDL, evDM, evD, bldLD, List.contains_cons, List.contains_nil, Nat.reduceBEq, beq_self_eq_true, Nat.reduceMul, Nat.reduceSub, wpSp, Option.bind_some, Option.some.injEq, exists_eq_left', exists_eq_left, reduceIte, if_false, if_true, Nat.reduceEqDiff, Nat.reduceAdd, Nat.reduceLeDiff, Int.reduceEq, Int.reduceLT, Int.reduceLE, Int.reduceToNat, decide_true, decide_false, DV.bool.injEq, DV.int.injEq, DV.mp.injEq, DV.msl.injEq, DV.tup.injEq, DV.agg.injEq, DV.fn.injEq, true_implies, forall_const, reduceCtorEq, implies_true, ne_eq, DMem.mt]
    refine st9 (i := 2) (v := (top - 1)) g2 rfl (by decide) fun N3 g3 k3 => ?_
    try simp only [w1, w2, SW, wpD, evDL, evDM, evD, bldLD, List.contains_cons, List.contains_nil, Nat.reduceBEq, beq_self_eq_true, Nat.reduceMul, Nat.reduceSub, wpSp, Option.bind_some, Option.some.injEq, exists_eq_left', exists_eq_left, reduceIte, if_false, if_true, Nat.reduceEqDiff, Nat.reduceAdd, Nat.reduceLeDiff, Int.reduceEq, Int.reduceLT, Int.reduceLE, Int.reduceToNat, decide_true, decide_false, DV.bool.injEq, DV.int.injEq, DV.mp.injEq, DV.msl.injEq, DV.tup.injEq, DV.agg.injEq, DV.fn.injEq, true_implies, forall_const, reduceCtorEq, implies_true, ne_eq, DMem.mt]
    exact one_end (x := ⟨2, a, (top - 1), 0, 0, [], 1, 0, pc⟩) (d := .zsl) (S := []) rfl rfl h89 (by rw [k3 q8 h89, k2 q8 h89, k1 q8 h89]; exact h8) rfl g3 SlAt.nil (by simp)
  · have e : irL p ⟨3, a⟩ pc top = ⟨3, (top - 2), (top - 2), (top - 1), 3, [], 1, 0, pc⟩ := by simp [irL]
    rw [e]
    refine st9 (i := 0) (v := 3) h9 rfl (by decide) fun N1 g1 k1 => ?_
    try simp only [w1, w2, SW, wpD, evDL, evDM, evD, bldLD, List.contains_cons, List.contains_nil, Nat.reduceBEq, beq_self_eq_true, Nat.reduceMul, Nat.reduceSub, wpSp, Option.bind_some, Option.some.injEq, exists_eq_left', exists_eq_left, reduceIte, if_false, if_true, Nat.reduceEqDiff, Nat.reduceAdd, Nat.reduceLeDiff, Int.reduceEq, Int.reduceLT, Int.reduceLE, Int.reduceToNat, decide_true, decide_false, DV.bool.injEq, DV.int.injEq, DV.mp.injEq, DV.msl.injEq, DV.tup.injEq, DV.agg.injEq, DV.fn.injEq, true_implies, forall_const, reduceCtorEq, implies_true, ne_eq, DMem.mt]
    refine st9 (i := 1) (v := (top - 2)) g1 rfl (by decide) fun N2 g2 k2 => ?_
    try simp only [w1, w2, SW, wpD, evDL, evDM, evD, bldLD, List.contains_cons, List.contains_nil, Nat.reduceBEq, beq_self_eq_true, Nat.reduceMul, Nat.reduceSub, wpSp, Option.bind_some, Option.some.injEq, exists_eq_left', exists_eq_left, reduceIte, if_false, if_true, Nat.reduceEqDiff, Nat.reduceAdd, Nat.reduceLeDiff, Int.reduceEq, Int.reduceLT, Int.reduceLE, Int.reduceToNat, decide_true, decide_false, DV.bool.injEq, DV.int.injEq, DV.mp.injEq, DV.msl.injEq, DV.tup.injEq, DV.agg.injEq, DV.fn.injEq, true_implies, forall_const, reduceCtorEq, implies_true, ne_eq, DMem.mt]
    refine st9 (i := 2) (v := (top - 2)) g2 rfl (by decide) fun N3 g3 k3 => ?_
    try simp only [w1, w2, SW, wpD, evDL, evDM, evD, bldLD, List.contains_cons, List.contains_nil, Nat.reduceBEq, beq_self_eq_true, Nat.reduceMul, Nat.reduceSub, wpSp, Option.bind_some, Option.some.injEq, exists_eq_left', exists_eq_left, reduceIte, if_false, if_true, Nat.reduceEqDiff, Nat.reduceAdd, Nat.reduceLeDiff, Int.reduceEq, Int.reduceLT, Int.reduceLE, Int.reduceToNat, decide_true, decide_false, DV.bool.injEq, DV.int.injEq, DV.mp.injEq, DV.msl.injEq, DV.tup.injEq, DV.agg.injEq, DV.fn.injEq, true_implies, forall_const, reduceCtorEq, implies_true, ne_eq, DMem.mt]
    refine st9 (i := 3) (v := (top - 1)) g3 rfl (by decide) fun N4 g4 k4 => ?_
    try simp only [w1, w2, SW, wpD, evDL, evDM, evD, bldLD, List.contains_cons, List.contains_nil, Nat.reduceBEq, beq_self_eq_true, Nat.reduceMul, Nat.reduceSub, wpSp, Option.bind_some, Option.some.injEq, exists_eq_left', exists_eq_left, reduceIte, if_false, if_true, Nat.reduceEqDiff, Nat.reduceAdd, Nat.reduceLeDiff, Int.reduceEq, Int.reduceLT, Int.reduceLE, Int.reduceToNat, decide_true, decide_false, DV.bool.injEq, DV.int.injEq, DV.mp.injEq, DV.msl.injEq, DV.tup.injEq, DV.agg.injEq, DV.fn.injEq, true_implies, forall_const, reduceCtorEq, implies_true, ne_eq, DMem.mt]
    refine st9 (i := 4) (v := 3) g4 rfl (by decide) fun N5 g5 k5 => ?_
    try simp only [w1, w2, SW, wpD, evDL, evDM, evD, bldLD, List.contains_cons, List.contains_nil, Nat.reduceBEq, beq_self_eq_true, Nat.reduceMul, Nat.reduceSub, wpSp, Option.bind_some, Option.some.injEq, exists_eq_left', exists_eq_left, reduceIte, if_false, if_true, Nat.reduceEqDiff, Nat.reduceAdd, Nat.reduceLeDiff, Int.reduceEq, Int.reduceLT, Int.reduceLE, Int.reduceToNat, decide_true, decide_false, DV.bool.injEq, DV.int.injEq, DV.mp.injEq, DV.msl.injEq, DV.tup.injEq, DV.agg.injEq, DV.fn.injEq, true_implies, forall_const, reduceCtorEq, implies_true, ne_eq, DMem.mt]
    exact one_end (x := ⟨3, (top - 2), (top - 2), (top - 1), 3, [], 1, 0, pc⟩) (d := .zsl) (S := []) rfl rfl h89 (by rw [k5 q8 h89, k4 q8 h89, k3 q8 h89, k2 q8 h89, k1 q8 h89]; exact h8) rfl g5 SlAt.nil (by simp)
  · have e : irL p ⟨4, a⟩ pc top = ⟨3, (top - 2), (top - 2), (top - 1), 4, [], 1, 0, pc⟩ := by simp [irL]
    rw [e]
    refine st9 (i := 0) (v := 3) h9 rfl (by decide) fun N1 g1 k1 => ?_
    try simp only [w1, w2, SW, wpD, evDL, evDM, evD, bldLD, List.contains_cons, List.contains_nil, Nat.reduceBEq, beq_self_eq_true, Nat.reduceMul, Nat.reduceSub, wpSp, Option.bind_some, Option.some.injEq, exists_eq_left', exists_eq_left, reduceIte, if_false, if_true, Nat.reduceEqDiff, Nat.reduceAdd, Nat.reduceLeDiff, Int.reduceEq, Int.reduceLT, Int.reduceLE, Int.reduceToNat, decide_true, decide_false, DV.bool.injEq, DV.int.injEq, DV.mp.injEq, DV.msl.injEq, DV.tup.injEq, DV.agg.injEq, DV.fn.injEq, true_implies, forall_const, reduceCtorEq, implies_true, ne_eq, DMem.mt]
    refine st9 (i := 1) (v := (top - 2)) g1 rfl (by decide) fun N2 g2 k2 => ?_
    try simp only [w1, w2, SW, wpD, evDL, evDM, evD, bldLD, List.contains_cons, List.contains_nil, Nat.reduceBEq, beq_self_eq_true, Nat.reduceMul, Nat.reduceSub, wpSp, Option.bind_some, Option.some.injEq, exists_eq_left', exists_eq_left, reduceIte, if_false, if_true, Nat.reduceEqDiff, Nat.reduceAdd, Nat.reduceLeDiff, Int.reduceEq, Int.reduceLT, Int.reduceLE, Int.reduceToNat, decide_true, decide_false, DV.bool.injEq, DV.int.injEq, DV.mp.injEq, DV.msl.injEq, DV.tup.injEq, DV.agg.injEq, DV.fn.injEq, true_implies, forall_const, reduceCtorEq, implies_true, ne_eq, DMem.mt]
    refine st9 (i := 2) (v := (top - 2)) g2 rfl (by decide) fun N3 g3 k3 => ?_
    try simp only [w1, w2, SW, wpD, evDL, evDM, evD, bldLD, List.contains_cons, List.contains_nil, Nat.reduceBEq, beq_self_eq_true, Nat.reduceMul, Nat.reduceSub, wpSp, Option.bind_some, Option.some.injEq, exists_eq_left', exists_eq_left, reduceIte, if_false, if_true, Nat.reduceEqDiff, Nat.reduceAdd, Nat.reduceLeDiff, Int.reduceEq, Int.reduceLT, Int.reduceLE, Int.reduceToNat, decide_true, decide_false, DV.bool.injEq, DV.int.injEq, DV.mp.injEq, DV.msl.injEq, DV.tup.injEq, DV.agg.injEq, DV.fn.injEq, true_implies, forall_const, reduceCtorEq, implies_true, ne_eq, DMem.mt]
    refine st9 (i := 3) (v := (top - 1)) g3 rfl (by decide) fun N4 g4 k4 => ?_
    try simp only [w1, w2, SW, wpD, evDL, evDM, evD, bldLD, List.contains_cons, List.contains_nil, Nat.reduceBEq, beq_self_eq_true, Nat.reduceMul, Nat.reduceSub, wpSp, Option.bind_some, Option.some.injEq, exists_eq_left', exists_eq_left, reduceIte, if_false, if_true, Nat.reduceEqDiff, Nat.reduceAdd, Nat.reduceLeDiff, Int.reduceEq, Int.reduceLT, Int.reduceLE, Int.reduceToNat, decide_true, decide_false, DV.bool.injEq, DV.int.injEq, DV.mp.injEq, DV.msl.injEq, DV.tup.injEq, DV.agg.injEq, DV.fn.injEq, true_implies, forall_const, reduceCtorEq, implies_true, ne_eq, DMem.mt]
    refine st9 (i := 4) (v := 4) g4 rfl (by decide) fun N5 g5 k5 => ?_
    try simp only [w1, w2, SW, wpD, evDL, evDM, evD, bldLD, List.contains_cons, List.contains_nil, Nat.reduceBEq, beq_self_eq_true, Nat.reduceMul, Nat.reduceSub, wpSp, Option.bind_some, Option.some.injEq, exists_eq_left', exists_eq_left, reduceIte, if_false, if_true, Nat.reduceEqDiff, Nat.reduceAdd, Nat.reduceLeDiff, Int.reduceEq, Int.reduceLT, Int.reduceLE, Int.reduceToNat, decide_true, decide_false, DV.bool.injEq, DV.int.injEq, DV.mp.injEq, DV.msl.injEq, DV.tup.injEq, DV.agg.injEq, DV.fn.injEq, true_implies, forall_const, reduceCtorEq, implies_true, ne_eq, DMem.mt]
    exact one_end (x := ⟨3, (top - 2), (top - 2), (top - 1), 4, [], 1, 0, pc⟩) (d := .zsl) (S := []) rfl rfl h89 (by rw [k5 q8 h89, k4 q8 h89, k3 q8 h89, k2 q8 h89, k1 q8 h89]; exact h8) rfl g5 SlAt.nil (by simp)
  · have e : irL p ⟨5, a⟩ pc top = ⟨3, (top - 2), (top - 2), (top - 1), 5, [], 1, 0, pc⟩ := by simp [irL]
    rw [e]
    refine st9 (i := 0) (v := 3) h9 rfl (by decide) fun N1 g1 k1 => ?_
    try simp only [w1, w2, SW, wpD, evDL, evDM, evD, bldLD, List.contains_cons, List.contains_nil, Nat.reduceBEq, beq_self_eq_true, Nat.reduceMul, Nat.reduceSub, wpSp, Option.bind_some, Option.some.injEq, exists_eq_left', exists_eq_left, reduceIte, if_false, if_true, Nat.reduceEqDiff, Nat.reduceAdd, Nat.reduceLeDiff, Int.reduceEq, Int.reduceLT, Int.reduceLE, Int.reduceToNat, decide_true, decide_false, DV.bool.injEq, DV.int.injEq, DV.mp.injEq, DV.msl.injEq, DV.tup.injEq, DV.agg.injEq, DV.fn.injEq, true_implies, forall_const, reduceCtorEq, implies_true, ne_eq, DMem.mt]
    refine st9 (i := 1) (v := (top - 2)) g1 rfl (by decide) fun N2 g2 k2 => ?_
    try simp only [w1, w2, SW, wpD, evDL, evDM, evD, bldLD, List.contains_cons, List.contains_nil, Nat.reduceBEq, beq_self_eq_true, Nat.reduceMul, Nat.reduceSub, wpSp, Option.bind_some, Option.some.injEq, exists_eq_left', exists_eq_left, reduceIte, if_false, if_true, Nat.reduceEqDiff, Nat.reduceAdd, Nat.reduceLeDiff, Int.reduceEq, Int.reduceLT, Int.reduceLE, Int.reduceToNat, decide_true, decide_false, DV.bool.injEq, DV.int.injEq, DV.mp.injEq, DV.msl.injEq, DV.tup.injEq, DV.agg.injEq, DV.fn.injEq, true_implies, forall_const, reduceCtorEq, implies_true, ne_eq, DMem.mt]
    refine st9 (i := 2) (v := (top - 2)) g2 rfl (by decide) fun N3 g3 k3 => ?_
    try simp only [w1, w2, SW, wpD, evDL, evDM, evD, bldLD, List.contains_cons, List.contains_nil, Nat.reduceBEq, beq_self_eq_true, Nat.reduceMul, Nat.reduceSub, wpSp, Option.bind_some, Option.some.injEq, exists_eq_left', exists_eq_left, reduceIte, if_false, if_true, Nat.reduceEqDiff, Nat.reduceAdd, Nat.reduceLeDiff, Int.reduceEq, Int.reduceLT, Int.reduceLE, Int.reduceToNat, decide_true, decide_false, DV.bool.injEq, DV.int.injEq, DV.mp.injEq, DV.msl.injEq, DV.tup.injEq, DV.agg.injEq, DV.fn.injEq, true_implies, forall_const, reduceCtorEq, implies_true, ne_eq, DMem.mt]
    refine st9 (i := 3) (v := (top - 1)) g3 rfl (by decide) fun N4 g4 k4 => ?_
    try simp only [w1, w2, SW, wpD, evDL, evDM, evD, bldLD, List.contains_cons, List.contains_nil, Nat.reduceBEq, beq_self_eq_true, Nat.reduceMul, Nat.reduceSub, wpSp, Option.bind_some, Option.some.injEq, exists_eq_left', exists_eq_left, reduceIte, if_false, if_true, Nat.reduceEqDiff, Nat.reduceAdd, Nat.reduceLeDiff, Int.reduceEq, Int.reduceLT, Int.reduceLE, Int.reduceToNat, decide_true, decide_false, DV.bool.injEq, DV.int.injEq, DV.mp.injEq, DV.msl.injEq, DV.tup.injEq, DV.agg.injEq, DV.fn.injEq, true_implies, forall_const, reduceCtorEq, implies_true, ne_eq, DMem.mt]
    refine st9 (i := 4) (v := 5) g4 rfl (by decide) fun N5 g5 k5 => ?_
    try simp only [w1, w2, SW, wpD, evDL, evDM, evD, bldLD, List.contains_cons, List.contains_nil, Nat.reduceBEq, beq_self_eq_true, Nat.reduceMul, Nat.reduceSub, wpSp, Option.bind_some, Option.some.injEq, exists_eq_left', exists_eq_left, reduceIte, if_false, if_true, Nat.reduceEqDiff, Nat.reduceAdd, Nat.reduceLeDiff, Int.reduceEq, Int.reduceLT, Int.reduceLE, Int.reduceToNat, decide_true, decide_false, DV.bool.injEq, DV.int.injEq, DV.mp.injEq, DV.msl.injEq, DV.tup.injEq, DV.agg.injEq, DV.fn.injEq, true_implies, forall_const, reduceCtorEq, implies_true, ne_eq, DMem.mt]
    exact one_end (x := ⟨3, (top - 2), (top - 2), (top - 1), 5, [], 1, 0, pc⟩) (d := .zsl) (S := []) rfl rfl h89 (by rw [k5 q8 h89, k4 q8 h89, k3 q8 h89, k2 q8 h89, k1 q8 h89]; exact h8) rfl g5 SlAt.nil (by simp)
  · have e : irL p ⟨6, a⟩ pc top = ⟨3, (top - 2), (top - 2), (top - 1), 6, [], 1, 0, pc⟩ := by simp [irL]
    rw [e]
    refine st9 (i := 0) (v := 3) h9 rfl (by decide) fun N1 g1 k1 => ?_
    try simp only [w1, w2, SW, wpD, evDL, evDM, evD, bldLD, List.contains_cons, List.contains_nil, Nat.reduceBEq, beq_self_eq_true, Nat.reduceMul, Nat.reduceSub, wpSp, Option.bind_some, Option.some.injEq, exists_eq_left', exists_eq_left, reduceIte, if_false, if_true, Nat.reduceEqDiff, Nat.reduceAdd, Nat.reduceLeDiff, Int.reduceEq, Int.reduceLT, Int.reduceLE, Int.reduceToNat, decide_true, decide_false, DV.bool.injEq, DV.int.injEq, DV.mp.injEq, DV.msl.injEq, DV.tup.injEq, DV.agg.injEq, DV.fn.injEq, true_implies, forall_const, reduceCtorEq, implies_true, ne_eq, DMem.mt]
    refine st9 (i := 1) (v := (top - 2)) g1 rfl (by decide) fun N2 g2 k2 => ?_
    try simp only [w1, w2, SW, wpD, evDL, evDM, evD, bldLD, List.contains_cons, List.contains_nil, Nat.reduceBEq, beq_self_eq_true, Nat.reduceMul, Nat.reduceSub, wpSp, Option.bind_some, Option.some.injEq, exists_eq_left', exists_eq_left, reduceIte, if_false, if_true, Nat.reduceEqDiff, Nat.reduceAdd, Nat.reduceLeDiff, Int.reduceEq, Int.reduceLT, Int.reduceLE, Int.reduceToNat, decide_true, decide_false, DV.bool.injEq, DV.int.injEq, DV.mp.injEq, DV.msl.injEq, DV.tup.injEq, DV.agg.injEq, DV.fn.injEq, true_implies, forall_const, reduceCtorEq, implies_true, ne_eq, DMem.mt]
    refine st9 (i := 2) (v := (top - 2)) g2 rfl (by decide) fun N3 g3 k3 => ?_
    try simp only [w1, w2, SW, wpD, evDL, evDM, evD, bldLD, List.contains_cons, List.contains_nil, Nat.reduceBEq, beq_self_eq_true, Nat.reduceMul, Nat.reduceSub, wpSp, Option.bind_some, Option.some.injEq, exists_eq_left', exists_eq_left, reduceIte, if_false, if_true, Nat.reduceEqDiff, Nat.reduceAdd, Nat.reduceLeDiff, Int.reduceEq, Int.reduceLT, Int.reduceLE, Int.reduceToNat, decide_true, decide_false, DV.bool.injEq, DV.int.injEq, DV.mp.injEq, DV.msl.injEq, DV.tup.injEq, DV.agg.injEq, DV.fn.injEq, true_implies, forall_const, reduceCtorEq, implies_true, ne_eq, DMem.mt]
    refine st9 (i := 3) (v := (top - 1)) g3 rfl (by decide) fun N4 g4 k4 => ?_
    try simp only [w1, w2, SW, wpD, evDL, evDM, evD, bldLD, List.contains_cons, List.contains_nil, Nat.reduceBEq, beq_self_eq_true, Nat.reduceMul, Nat.reduceSub, wpSp, Option.bind_some, Option.some.injEq, exists_eq_left', exists_eq_left, reduceIte, if_false, if_true, Nat.reduceEqDiff, Nat.reduceAdd, Nat.reduceLeDiff, Int.reduceEq, Int.reduceLT, Int.reduceLE, Int.reduceToNat, decide_true, decide_false, DV.bool.injEq, DV.int.injEq, DV.mp.injEq, DV.msl.injEq, DV.tup.injEq, DV.agg.injEq, DV.fn.injEq, true_implies, forall_const, reduceCtorEq, implies_true, ne_eq, DMem.mt]
    refine st9 (i := 4) (v := 6) g4 rfl (by decide) fun N5 g5 k5 => ?_
    try simp only [w1, w2, SW, wpD, evDL, evDM, evD, bldLD, List.contains_cons, List.contains_nil, Nat.reduceBEq, beq_self_eq_true, Nat.reduceMul, Nat.reduceSub, wpSp, Option.bind_some, Option.some.injEq, exists_eq_left', exists_eq_left, reduceIte, if_false, if_true, Nat.reduceEqDiff, Nat.reduceAdd, Nat.reduceLeDiff, Int.reduceEq, Int.reduceLT, Int.reduceLE, Int.reduceToNat, decide_true, decide_false, DV.bool.injEq, DV.int.injEq, DV.mp.injEq, DV.msl.injEq, DV.tup.injEq, DV.agg.injEq, DV.fn.injEq, true_implies, forall_const, reduceCtorEq, implies_true, ne_eq, DMem.mt]
    exact one_end (x := ⟨3, (top - 2), (top - 2), (top - 1), 6, [], 1, 0, pc⟩) (d := .zsl) (S := []) rfl rfl h89 (by rw [k5 q8 h89, k4 q8 h89, k3 q8 h89, k2 q8 h89, k1 q8 h89]; exact h8) rfl g5 SlAt.nil (by simp)
  · have e : irL p ⟨7, a⟩ pc top = ⟨3, (top - 2), (top - 2), (top - 1), 7, [], 1, 0, pc⟩ := by simp [irL]
    rw [e]
    refine st9 (i := 0) (v := 3) h9 rfl (by decide) fun N1 g1 k1 => ?_
    try simp only [w1, w2, SW, wpD, evDL, evDM, evD, bldLD, List.contains_cons, List.contains_nil, Nat.reduceBEq, beq_self_eq_true, Nat.reduceMul, Nat.reduceSub, wpSp, Option.bind_some, Option.some.injEq, exists_eq_left', exists_eq_left, reduceIte, if_false, if_true, Nat.reduceEqDiff, Nat.reduceAdd, Nat.reduceLeDiff, Int.reduceEq, Int.reduceLT, Int.reduceLE, Int.reduceToNat, decide_true, decide_false, DV.bool.injEq, DV.int.injEq, DV.mp.injEq, DV.msl.injEq, DV.tup.injEq, DV.agg.injEq, DV.fn.injEq, true_implies, forall_const, reduceCtorEq, implies_true, ne_eq, DMem.mt]
    refine st9 (i := 1) (v := (top - 2)) g1 rfl (by decide) fun N2 g2 k2 => ?_
    try simp only [w1, w2, SW, wpD, evDL, evDM, evD, bldLD, List.contains_cons, List.contains_nil, Nat.reduceBEq, beq_self_eq_true, Nat.reduceMul, Nat.reduceSub, wpSp, Option.bind_some, Option.some.injEq, exists_eq_left', exists_eq_left, reduceIte, if_false, if_true, Nat.reduceEqDiff, Nat.reduceAdd, Nat.reduceLeDiff, Int.reduceEq, Int.reduceLT, Int.reduceLE, Int.reduceToNat, decide_true, decide_false, DV.bool.injEq, DV.int.injEq, DV.mp.injEq, DV.msl.injEq, DV.tup.injEq, DV.agg.injEq, DV.fn.injEq, true_implies, forall_const, reduceCtorEq, implies_true, ne_eq, DMem.mt]
    refine st9 (i := 2) (v := (top - 2)) g2 rfl (by decide) fun N3 g3 k3 => ?_
    try simp only [w1, w2, SW, wpD, evDL, evDM, evD, bldLD, List.contains_cons, List.contains_nil, Nat.reduceBEq, beq_self_eq_true, Nat.reduceMul, Nat.reduceSub, wpSp, Option.bind_some, Option.some.injEq, exists_eq_left', exists_eq_left, reduceIte, if_false, if_true, Nat.reduceEqDiff, Nat.reduceAdd, Nat.reduceLeDiff, Int.reduceEq, Int.reduceLT, Int.reduceLE, Int.reduceToNat, decide_true, decide_false, DV.bool.injEq, DV.int.injEq, DV.mp.injEq, DV.msl.injEq, DV.tup.injEq, DV.agg.injEq, DV.fn.injEq, true_implies, forall_const, reduceCtorEq, implies_true, ne_eq, DMem.mt]
    refine st9 (i := 3) (v := (top - 1)) g3 rfl (by decide) fun N4 g4 k4 => ?_
    try simp only [w1, w2, SW, wpD, evDL, evDM, evD, bldLD, List.contains_cons, List.contains_nil, Nat.reduceBEq, beq_self_eq_true, Nat.reduceMul, Nat.reduceSub, wpSp, Option.bind_some, Option.some.injEq, exists_eq_left', exists_eq_left, reduceIte, if_false, if_true, Nat.reduceEqDiff, Nat.reduceAdd, Nat.reduceLeDiff, Int.reduceEq, Int.reduceLT, Int.reduceLE, Int.reduceToNat, decide_true, decide_false, DV.bool.injEq, DV.int.injEq, DV.mp.injEq, DV.msl.injEq, DV.tup.injEq, DV.agg.injEq, DV.fn.injEq, true_implies, forall_const, reduceCtorEq, implies_true, ne_eq, DMem.mt]
    refine st9 (i := 4) (v := 7) g4 rfl (by decide) fun N5 g5 k5 => ?_
    try simp only [w1, w2, SW, wpD, evDL, evDM, evD, bldLD, List.contains_cons, List.contains_nil, Nat.reduceBEq, beq_self_eq_true, Nat.reduceMul, Nat.reduceSub, wpSp, Option.bind_some, Option.some.injEq, exists_eq_left', exists_eq_left, reduceIte, if_false, if_true, Nat.reduceEqDiff, Nat.reduceAdd, Nat.reduceLeDiff, Int.reduceEq, Int.reduceLT, Int.reduceLE, Int.reduceToNat, decide_true, decide_false, DV.bool.injEq, DV.int.injEq, DV.mp.injEq, DV.msl.injEq, DV.tup.injEq, DV.agg.injEq, DV.fn.injEq, true_implies, forall_const, reduceCtorEq, implies_true, ne_eq, DMem.mt]
    exact one_end (x := ⟨3, (top - 2), (top - 2), (top - 1), 7, [], 1, 0, pc⟩) (d := .zsl) (S := []) rfl rfl h89 (by rw [k5 q8 h89, k4 q8 h89, k3 q8 h89, k2 q8 h89, k1 q8 h89]; exact h8) rfl g5 SlAt.nil (by simp)
  · have e : irL p ⟨8, a⟩ pc top = ⟨3, (top - 2), (top - 2), (top - 1), 8, [], 1, 0, pc⟩ := by simp [irL]
    rw [e]
    refine st9 (i := 0) (v := 3) h9 rfl (by decide) fun N1 g1 k1 => ?_
    try simp only [w1, w2, SW, wpD, evDL, evDM, evD, bldLD, List.contains_cons, List.contains_nil, Nat.reduceBEq, beq_self_eq_true, Nat.reduceMul, Nat.reduceSub, wpSp, Option.bind_some, Option.some.injEq, exists_eq_left', exists_eq_left, reduceIte, if_false, if_true, Nat.reduceEqDiff, Nat.reduceAdd, Nat.reduceLeDiff, Int.reduceEq, Int.reduceLT, Int.reduceLE, Int.reduceToNat, decide_true, decide_false, DV.bool.injEq, DV.int.injEq, DV.mp.injEq, DV.msl.injEq, DV.tup.injEq, DV.agg.injEq, DV.fn.injEq, true_implies, forall_const, reduceCtorEq, implies_true, ne_eq, DMem.mt]
    refine st9 (i := 1) (v := (top - 2)) g1 rfl (by decide) fun N2 g2 k2 => ?_
    try simp only [w1, w2, SW, wpD, evDL, evDM, evD, bldLD, List.contains_cons, List.contains_nil, Nat.reduceBEq, beq_self_eq_true, Nat.reduceMul, Nat.reduceSub, wpSp, Option.bind_some, Option.some.injEq, exists_eq_left', exists_eq_left, reduceIte, if_false, if_true, Nat.reduceEqDiff, Nat.reduceAdd, Nat.reduceLeDiff, Int.reduceEq, Int.reduceLT, Int.reduceLE, Int.reduceToNat, decide_true, decide_false, DV.bool.injEq, DV.int.injEq, DV.mp.injEq, DV.msl.injEq, DV.tup.injEq, DV.agg.injEq, DV.fn.injEq, true_implies, forall_const, reduceCtorEq, implies_true, ne_eq, DMem.mt]
    refine st9 (i := 2) (v := (top - 2)) g2 rfl (by decide) fun N3 g3 k3 => ?_
    try simp only [w1, w2, SW, wpD, evDL, evDM, evD, bldLD, List.contains_cons, List.contains_nil, Nat.reduceBEq, beq_self_eq_true, Nat.reduceMul, Nat.reduceSub, wpSp, Option.bind_some, Option.some.injEq, exists_eq_left', exists_eq_left, reduceIte, if_false, if_true, Nat.reduceEqDiff, Nat.reduceAdd, Nat.reduceLeDiff, Int.reduceEq, Int.reduceLT, Int.reduceLE, Int.reduceToNat, decide_true, decide_false, DV.bool.injEq, DV.int.injEq, DV.mp.injEq, DV.msl.injEq, DV.tup.injEq, DV.agg.injEq, DV.fn.injEq, true_implies, forall_const, reduceCtorEq, implies_true, ne_eq, DMem.mt]
    refine st9 (i := 3) (v := (top - 1)) g3 rfl (by decide) fun N4 g4 k4 => ?_
    try simp only [w1, w2, SW, wpD, evDL, evDM, evD, bldLD, List.contains_cons, List.contains_nil, Nat.reduceBEq, beq_self_eq_true, Nat.reduceMul, Nat.reduceSub, wpSp, Option.bind_some, Option.some.injEq, exists_eq_left', exists_eq_left, reduceIte, if_false, if_true, Nat.reduceEqDiff, Nat.reduceAdd, Nat.reduceLeDiff, Int.reduceEq, Int.reduceLT, Int.reduceLE, Int.reduceToNat, decide_true, decide_false, DV.bool.injEq, DV.int.injEq, DV.mp.injEq, DV.msl.injEq, DV.tup.injEq, DV.agg.injEq, DV.fn.injEq, true_implies, forall_const, reduceCtorEq, implies_true, ne_eq, DMem.mt]
    refine st9 (i := 4) (v := 8) g4 rfl (by decide) fun N5 g5 k5 => ?_
    try simp only [w1, w2, SW, wpD, evDL, evDM, evD, bldLD, List.contains_cons, List.contains_nil, Nat.reduceBEq, beq_self_eq_true, Nat.reduceMul, Nat.reduceSub, wpSp, Option.bind_some, Option.some.injEq, exists_eq_left', exists_eq_left, reduceIte, if_false, if_true, Nat.reduceEqDiff, Nat.reduceAdd, Nat.reduceLeDiff, Int.reduceEq, Int.reduceLT, Int.reduceLE, Int.reduceToNat, decide_true, decide_false, DV.bool.injEq, DV.int.injEq, DV.mp.injEq, DV.msl.injEq, DV.tup.injEq, DV.agg.injEq, DV.fn.injEq, true_implies, forall_const, reduceCtorEq, implies_true, ne_eq, DMem.mt]
    exact one_end (x := ⟨3, (top - 2), (top - 2), (top - 1), 8, [], 1, 0, pc⟩) (d := .zsl) (S := []) rfl rfl h89 (by rw [k5 q8 h89, k4 q8 h89, k3 q8 h89, k2 q8 h89, k1 q8 h89]; exact h8) rfl g5 SlAt.nil (by simp)
  · have e : irL p ⟨9, a⟩ pc top = ⟨3, (top - 2), (top - 2), (top - 1), 9, [], 1, 0, pc⟩ := by simp [irL]
    rw [e]
    refine st9 (i := 0) (v := 3) h9 rfl (by decide) fun N1 g1 k1 => ?_
    try simp only [w1, w2, SW, wpD, evDL, evDM, evD, bldLD, List.contains_cons, List.contains_nil, Nat.reduceBEq, beq_self_eq_true, Nat.reduceMul, Nat.reduceSub, wpSp, Option.bind_some, Option.some.injEq, exists_eq_left', exists_eq_left, reduceIte, if_false, if_true, Nat.reduceEqDiff, Nat.reduceAdd, Nat.reduceLeDiff, Int.reduceEq, Int.reduceLT, Int.reduceLE, Int.reduceToNat, decide_true, decide_false, DV.bool.injEq, DV.int.injEq, DV.mp.injEq, DV.msl.injEq, DV.tup.injEq, DV.agg.injEq, DV.fn.injEq, true_implies, forall_const, reduceCtorEq, implies_true, ne_eq, DMem.mt]
    refine st9 (i := 1) (v := (top - 2)) g1 rfl (by decide) fun N2 g2 k2 => ?_
    try simp only [w1, w2, SW, wpD, evDL, evDM, evD, bldLD, List.contains_cons, List.contains_nil, Nat.reduceBEq, beq_self_eq_true, Nat.reduceMul, Nat.reduceSub, wpSp, Option.bind_some, Option.some.injEq, exists_eq_left', exists_eq_left, reduceIte, if_false, if_true, Nat.reduceEqDiff, Nat.reduceAdd, Nat.reduceLeDiff, Int.reduceEq, Int.reduceLT, Int.reduceLE, Int.reduceToNat, decide_true, decide_false, DV.bool.injEq, DV.int.injEq, DV.mp.injEq, DV.msl.injEq, DV.tup.injEq, DV.agg.injEq, DV.fn.injEq, true_implies, forall_const, reduceCtorEq, implies_true, ne_eq, DMem.mt]
    refine st9 (i := 2) (v := (top - 2)) g2 rfl (by decide) fun N3 g3 k3 => ?_
    try simp only [w1, w2, SW, wpD, evDL, evDM, evD, bldLD, List.contains_cons, List.contains_nil, Nat.reduceBEq, beq_self_eq_true, Nat.reduceMul, Nat.reduceSub, wpSp, Option.bind_some, Option.some.injEq, exists_eq_left', exists_eq_left, reduceIte, if_false, if_true, Nat.reduceEqDiff, Nat.reduceAdd, Nat.reduceLeDiff, Int.reduceEq, Int.reduceLT, Int.reduceLE, Int.reduceToNat, decide_true, decide_false, DV.bool.injEq, DV.int.injEq, DV.mp.injEq, DV.msl.injEq, DV.tup.injEq, DV.agg.injEq, DV.fn.injEq, true_implies, forall_const, reduceCtorEq, implies_true, ne_eq, DMem.mt]
    refine st9 (i := 3) (v := (top - 1)) g3 rfl (by decide) fun N4 g4 k4 => ?_
    try simp only [w1, w2, SW, wpD, evDL, evDM, evD, bldLD, List.contains_cons, List.contains_nil, Nat.reduceBEq, beq_self_eq_true, Nat.reduceMul, Nat.reduceSub, wpSp, Option.bind_some, Option.some.injEq, exists_eq_left', exists_eq_left, reduceIte, if_false, if_true, Nat.reduceEqDiff, Nat.reduceAdd, Nat.reduceLeDiff, Int.reduceEq, Int.reduceLT, Int.reduceLE, Int.reduceToNat, decide_true, decide_false, DV.bool.injEq, DV.int.injEq, DV.mp.injEq, DV.msl.injEq, DV.tup.injEq, DV.agg.injEq, DV.fn.injEq, true_implies, forall_const, reduceCtorEq, implies_true, ne_eq, DMem.mt]
    refine st9 (i := 4) (v := 9) g4 rfl (by decide) fun N5 g5 k5 => ?_
    try simp only [w1, w2, SW, wpD, evDL, evDM, evD, bldLD, List.contains_cons, List.contains_nil, Nat.reduceBEq, beq_self_eq_true, Nat.reduceMul, Nat.reduceSub, wpSp, Option.bind_some, Option.some.injEq, exists_eq_left', exists_eq_left, reduceIte, if_false, if_true, Nat.reduceEqDiff, Nat.reduceAdd, Nat.reduceLeDiff, Int.reduceEq, Int.reduceLT, Int.reduceLE, Int.reduceToNat, decide_true, decide_false, DV.bool.injEq, DV.int.injEq, DV.mp.injEq, DV.msl.injEq, DV.tup.injEq, DV.agg.injEq, DV.fn.injEq, true_implies, forall_const, reduceCtorEq, implies_true, ne_eq, DMem.mt]
    exact one_end (x := ⟨3, (top - 2), (top - 2), (top - 1), 9, [], 1, 0, pc⟩) (d := .zsl) (S := []) rfl rfl h89 (by rw [k5 q8 h89, k4 q8 h89, k3 q8 h89, k2 q8 h89, k1 q8 h89]; exact h8) rfl g5 SlAt.nil (by simp)
  · have e : irL p ⟨10, a⟩ pc top = ⟨2, top, (top - 1), 0, 0, [], 1, 0, pc⟩ := by simp [irL]
    rw [e]
    refine st9 (i := 0) (v := 2) h9 rfl (by decide) fun N1 g1 k1 => ?_
    try simp only [w1, w2, SW, wpD, evDL, evDM, evD, bldLD, List.contains_cons, List.contains_nil, Nat.reduceBEq, beq_self_eq_true, Nat.reduceMul, Nat.reduceSub, wpSp, Option.bind_some, Option.some.injEq, exists_eq_left', exists_eq_left, reduceIte, if_false, if_true, Nat.reduceEqDiff, Nat.reduceAdd, Nat.reduceLeDiff, Int.reduceEq, Int.reduceLT, Int.reduceLE, Int.reduceToNat, decide_true, decide_false, DV.bool.injEq, DV.int.injEq, DV.mp.injEq, DV.msl.injEq, DV.tup.injEq, DV.agg.injEq, DV.fn.injEq, true_implies, forall_const, reduceCtorEq, implies_true, ne_eq, DMem.mt]
    refine st9 (i := 1) (v := top) g1 rfl (by decide) fun N2 g2 k2 => ?_
    try simp only [w1, w2, SW, wpD, evDL, evDM, evD, bldLD, List.contains_cons, List.contains_nil, Nat.reduceBEq, beq_self_eq_true, Nat.reduceMul, Nat.reduceSub, wpSp, Option.bind_some, Option.some.injEq, exists_eq_left', exists_eq_left, reduceIte, if_false, if_true, Nat.reduceEqDiff, Nat.reduceAdd, Nat.reduceLeDiff, Int.reduceEq, Int.reduceLT, Int.reduceLE, Int.reduceToNat, decide_true, decide_false, DV.bool.injEq, DV.int.injEq, DV.mp.injEq, DV.msl.injEq, DV.tup.injEq, DV.agg.injEq, DV.fn.injEq, true_implies, forall_const, reduceCtorEq, implies_true, ne_eq, DMem.mt]
    refine st9 (i := 2) (v := (top - 1)) g2 rfl (by decide) fun N3 g3 k3 => ?_
    try simp only [w1, w2, SW, wpD, evDL, evDM, evD, bldLD, List.contains_cons, List.contains_nil, Nat.reduceBEq, beq_self_eq_true, Nat.reduceMul, Nat.reduceSub, wpSp, Option.bind_some, Option.some.injEq, exists_eq_left', exists_eq_left, reduceIte, if_false, if_true, Nat.reduceEqDiff, Nat.reduceAdd, Nat.reduceLeDiff, Int.reduceEq, Int.reduceLT, Int.reduceLE, Int.reduceToNat, decide_true, decide_false, DV.bool.injEq, DV.int.injEq, DV.mp.injEq, DV.msl.injEq, DV.tup.injEq, DV.agg.injEq, DV.fn.injEq, true_implies, forall_const, reduceCtorEq, implies_true, ne_eq, DMem.mt]
    exact one_end (x := ⟨2, top, (top - 1), 0, 0, [], 1, 0, pc⟩) (d := .zsl) (S := []) rfl rfl h89 (by rw [k3 q8 h89, k2 q8 h89, k1 q8 h89]; exact h8) rfl g3 SlAt.nil (by simp)
  · have e : irL p ⟨11, a⟩ pc top = ⟨0, 0, 0, 0, 0, [], 1, 0, pc⟩ := by simp [irL]
    rw [e]
    refine st9 (i := 0) (v := 0) h9 rfl (by decide) fun N1 g1 k1 => ?_
    try simp only [w1, w2, SW, wpD, evDL, evDM, evD, bldLD, List.contains_cons, List.contains_nil, Nat.reduceBEq, beq_self_eq_true, Nat.reduceMul, Nat.reduceSub, wpSp, Option.bind_some, Option.some.injEq, exists_eq_left', exists_eq_left, reduceIte, if_false, if_true, Nat.reduceEqDiff, Nat.reduceAdd, Nat.reduceLeDiff, Int.reduceEq, Int.reduceLT, Int.reduceLE, Int.reduceToNat, decide_true, decide_false, DV.bool.injEq, DV.int.injEq, DV.mp.injEq, DV.msl.injEq, DV.tup.injEq, DV.agg.injEq, DV.fn.injEq, true_implies, forall_const, reduceCtorEq, implies_true, ne_eq, DMem.mt]
    exact one_end (x := ⟨0, 0, 0, 0, 0, [], 1, 0, pc⟩) (d := .zsl) (S := []) rfl rfl h89 (by rw [k1 q8 h89]; exact h8) rfl g1 SlAt.nil (by simp)
  · have e : irL p ⟨12, a⟩ pc top = ⟨4, 0, 0, 0, a, [], 1, 0, pc⟩ := by simp [irL]
    rw [e]
    refine st9 (i := 0) (v := 4) h9 rfl (by decide) fun N1 g1 k1 => ?_
    try simp only [w1, w2, SW, wpD, evDL, evDM, evD, bldLD, List.contains_cons, List.contains_nil, Nat.reduceBEq, beq_self_eq_true, Nat.reduceMul, Nat.reduceSub, wpSp, Option.bind_some, Option.some.injEq, exists_eq_left', exists_eq_left, reduceIte, if_false, if_true, Nat.reduceEqDiff, Nat.reduceAdd, Nat.reduceLeDiff, Int.reduceEq, Int.reduceLT, Int.reduceLE, Int.reduceToNat, decide_true, decide_false, DV.bool.injEq, DV.int.injEq, DV.mp.injEq, DV.msl.injEq, DV.tup.injEq, DV.agg.injEq, DV.fn.injEq, true_implies, forall_const, reduceCtorEq, implies_true, ne_eq, DMem.mt]
    refine st9 (i := 4) (v := a) g1 rfl (by decide) fun N2 g2 k2 => ?_
    try simp only [w1, w2, SW, wpD, evDL, evDM, evD, bldLD, List.contains_cons, List.contains_nil, Nat.reduceBEq, beq_self_eq_true, Nat.reduceMul, Nat.reduceSub, wpSp, Option.bind_some, Option.some.injEq, exists_eq_left', exists_eq_left, reduceIte, if_false, if_true, Nat.reduceEqDiff, Nat.reduceAdd, Nat.reduceLeDiff, Int.reduceEq, Int.reduceLT, Int.reduceLE, Int.reduceToNat, decide_true, decide_false, DV.bool.injEq, DV.int.injEq, DV.mp.injEq, DV.msl.injEq, DV.tup.injEq, DV.agg.injEq, DV.fn.injEq, true_implies, forall_const, reduceCtorEq, implies_true, ne_eq, DMem.mt]
    exact one_end (x := ⟨4, 0, 0, 0, a, [], 1, 0, pc⟩) (d := .zsl) (S := []) rfl rfl h89 (by rw [k2 q8 h89, k1 q8 h89]; exact h8) rfl g2 SlAt.nil (by simp)
  · have e : irL p ⟨13, a⟩ pc top = ⟨5, 0, (top - 1), 0, a, [], 1, 0, pc⟩ := by simp [irL]
    rw [e]
    refine st9 (i := 0) (v := 5) h9 rfl (by decide) fun N1 g1 k1 => ?_
    try simp only [w1, w2, SW, wpD, evDL, evDM, evD, bldLD, List.contains_cons, List.contains_nil, Nat.reduceBEq, beq_self_eq_true, Nat.reduceMul, Nat.reduceSub, wpSp, Option.bind_some, Option.some.injEq, exists_eq_left', exists_eq_left, reduceIte, if_false, if_true, Nat.reduceEqDiff, Nat.reduceAdd, Nat.reduceLeDiff, Int.reduceEq, Int.reduceLT, Int.reduceLE, Int.reduceToNat, decide_true, decide_false, DV.bool.injEq, DV.int.injEq, DV.mp.injEq, DV.msl.injEq, DV.tup.injEq, DV.agg.injEq, DV.fn.injEq, true_implies, forall_const, reduceCtorEq, implies_true, ne_eq, DMem.mt]
    refine st9 (i := 2) (v := (top - 1)) g1 rfl (by decide) fun N2 g2 k2 => ?_
    try simp only [w1, w2, SW, wpD, evDL, evDM, evD, bldLD, List.contains_cons, List.contains_nil, Nat.reduceBEq, beq_self_eq_true, Nat.reduceMul, Nat.reduceSub, wpSp, Option.bind_some, Option.some.injEq, exists_eq_left', exists_eq_left, reduceIte, if_false, if_true, Nat.reduceEqDiff, Nat.reduceAdd, Nat.reduceLeDiff, Int.reduceEq, Int.reduceLT, Int.reduceLE, Int.reduceToNat, decide_true, decide_false, DV.bool.injEq, DV.int.injEq, DV.mp.injEq, DV.msl.injEq, DV.tup.injEq, DV.agg.injEq, DV.fn.injEq, true_implies, forall_const, reduceCtorEq, implies_true, ne_eq, DMem.mt]
    refine st9 (i := 4) (v := a) g2 rfl (by decide) fun N3 g3 k3 => ?_
    try simp only [w1, w2, SW, wpD, evDL, evDM, evD, bldLD, List.contains_cons, List.contains_nil, Nat.reduceBEq, beq_self_eq_true, Nat.reduceMul, Nat.reduceSub, wpSp, Option.bind_some, Option.some.injEq, exists_eq_left', exists_eq_left, reduceIte, if_false, if_true, Nat.reduceEqDiff, Nat.reduceAdd, Nat.reduceLeDiff, Int.reduceEq, Int.reduceLT, Int.reduceLE, Int.reduceToNat, decide_true, decide_false, DV.bool.injEq, DV.int.injEq, DV.mp.injEq, DV.msl.injEq, DV.tup.injEq, DV.agg.injEq, DV.fn.injEq, true_implies, forall_const, reduceCtorEq, implies_true, ne_eq, DMem.mt]
    exact one_end (x := ⟨5, 0, (top - 1), 0, a, [], 1, 0, pc⟩) (d := .zsl) (S := []) rfl rfl h89 (by rw [k3 q8 h89, k2 q8 h89, k1 q8 h89]; exact h8) rfl g3 SlAt.nil (by simp)
  · obtain ⟨c1, c2, c3, c4⟩ := hc rfl
    obtain ⟨n, rfl⟩ := Int.eq_ofNat_of_zero_le c1
    have hn : n < p.length := by omega
    have ha : argsOf p (n : Int) = p[n].args := by unfold argsOf; rw [Int.toNat_natCast, List.getElem?_eq_getElem hn]
    rw [ha] at c3 c4
    obtain ⟨m, hm⟩ := Int.eq_ofNat_of_zero_le c3
    have hm4 : m ≤ 4 := by omega
    have e : irL p ⟨14, n⟩ pc top = ⟨6, top - m, 0, 0, n, (List.range m).map (fun i : Nat => top - (m : Int) + (i : Int)), 1, 0, pc⟩ := by
      simp [irL, ha, hm]
    rw [e]
    have w3 : wr64 (top - (m : Int)) = top - m := w64 (by omega)
    simp only [ix_slD Fnc.len hn, hm, w3, ldnI1, SW, wpD, evDL, evDM, evD, bldLD, List.contains_cons, List.contains_nil, Nat.reduceBEq, beq_self_eq_true, Nat.reduceMul, Nat.reduceSub, wpSp, Option.bind_some, Option.some.injEq, exists_eq_left', exists_eq_left, reduceIte, if_false, if_true, Nat.reduceEqDiff, Nat.reduceAdd, Nat.reduceLeDiff, Int.reduceEq, Int.reduceLT, Int.reduceLE, Int.reduceToNat, decide_true, decide_false, DV.bool.injEq, DV.int.injEq, DV.mp.injEq, DV.msl.injEq, DV.tup.injEq, DV.agg.injEq, DV.fn.injEq, true_implies, forall_const, reduceCtorEq, implies_true, ne_eq, DMem.mt]
    refine st9 (i := 0) (v := 6) h9 rfl (by decide) fun N1 g1 k1 => ?_
    refine st9 (i := 1) (v := top - m) g1 rfl (by decide) fun N2 g2 k2 => ?_
    refine st9 (i := 4) (v := n) g2 rfl (by decide) fun N3 g3 k3 => ?_
    have h8' : N3 q8 = some ⟨28, 9, [.int .i64 0, .int .i64 0, .int .i64 0, .int .i64 0, .int .i64 0, .zsl, .int .i64 0, .int .i64 0, .int .i64 0]⟩ := by rw [k3 q8 h89, k2 q8 h89, k1 q8 h89]; exact h8
    replace g3 : N3 q9 = some ⟨28, 9, [.int .i64 6, .int .i64 (top - m), .int .i64 0, .int .i64 0, .int .i64 n, .zsl, .int .i64 1, .int .i64 0, .int .i64 pc]⟩ := g3
    clear g1 g2 k1 k2 k3 h8 h9 hl3 hl2 hx hc
    refine ⟨fun f δ M => ∃ (i : Nat) (d : DV) (S : List Nat), i ≤ m ∧ f = m - i ∧ δ 6 = .mp q8 0 ∧ δ 9 = .int .i64 top ∧ δ 10 = .mp q9 0 ∧ δ 11 = .int .i64 m ∧ δ 12 = .int .i64 i ∧ M q8 = some ⟨28, 9, [.int .i64 0, .int .i64 0, .int .i64 0, .int .i64 0, .int .i64 0, .zsl, .int .i64 0, .int .i64 0, .int .i64 0]⟩ ∧
        M q9 = some ⟨28, 9, [.int .i64 6, .int .i64 (top - m), .int .i64 0, .int .i64 0, .int .i64 n, d, .int .i64 1, .int .i64 0, .int .i64 pc]⟩ ∧ SlAt intE M d ((List.range i).map (fun j : Nat => top - (m : Int) + (j : Int))) S ∧ S.Nodup ∧ q8 ∉ S ∧ q9 ∉ S, m,
      ⟨0, .zsl, [], Nat.zero_le _, rfl, rfl, rfl, rfl, rfl, rfl, h8', g3, SlAt.nil, List.nodup_nil, by simp, by simp⟩, ?_⟩
    clear g3 h8'
    rintro f δ M ⟨i, d, S, hi, rfl, h6, h9, h10, h11, h12, hM8, hM9, hs, hnd, h8S, h9S⟩
    have e1 : wr64 (top - (m : Int) + (i : Int)) = top - m + i := w64 (by omega)
    simp only [S1_swageref9_one, MU_swageref9_one, h6, h9, h10, h11, h12, hM9, w3, e1, SW, wpD, evDL, evDM, evD, bldLD, List.contains_cons, List.contains_nil, Nat.reduceBEq, beq_self_eq_true, Nat.reduceMul, Nat.reduceSub, wpSp, Option.bind_some, Option.some.injEq, exists_eq_left', exists_eq_left, reduceIte, if_false, if_true, Nat.reduceEqDiff, Nat.reduceAdd, Nat.reduceLeDiff, Int.reduceEq, Int.reduceLT, Int.reduceLE, Int.reduceToNat, decide_true, decide_false, DV.bool.injEq, DV.int.injEq, DV.mp.injEq, DV.msl.injEq, DV.tup.injEq, DV.agg.injEq, DV.fn.injEq, true_implies, forall_const, reduceCtorEq, implies_true, ne_eq, DMem.mt, decide_eq_true_eq, decide_eq_false_iff_not]
    refine ⟨fun hlt => ?_, fun hge => ?_⟩
    · have hlen : ((List.range i).map (fun j : Nat => top - (m : Int) + (j : Int))).length = i := by simp
      refine hs.app intE_ok hnd (ys := [top - m + i]) (ds := [.int .i64 (top - m + i)]) (T := []) (RowAt.one ⟨rfl, rfl⟩) (fun x hx => by simp at hx) rfl (by rw [hlen]; omega) (by rw [hlen]; omega) fun d' M9 S' hsl9 hk9 hS9 hnd9 => ?_
      have hq9 := hk9 q9 _ hM9 h9S
      have hq8 := hk9 q8 _ hM8 h8S
      have h9S' : q9 ∉ S' := fun hh => by
        rcases hS9 q9 hh with h | h | h
        · exact h9S h
        · simp at h
        · rw [hM9] at h; cases h
      have h8S' : q8 ∉ S' := fun hh => by
        rcases hS9 q8 hh with h | h | h
        · exact h8S h
        · simp at h
        · rw [hM8] at h; cases h
      try simp only [h6, h9, h10, h11, h12, SW, wpD, evDL, evDM, evD, bldLD, List.contains_cons, List.contains_nil, Nat.reduceBEq, beq_self_eq_true, Nat.reduceMul, Nat.reduceSub, wpSp, Option.bind_some, Option.some.injEq, exists_eq_left', exists_eq_left, reduceIte, if_false, if_true, Nat.reduceEqDiff, Nat.reduceAdd, Nat.reduceLeDiff, Int.reduceEq, Int.reduceLT, Int.reduceLE, Int.reduceToNat, decide_true, decide_false, DV.bool.injEq, DV.int.injEq, DV.mp.injEq, DV.msl.injEq, DV.tup.injEq, DV.agg.injEq, DV.fn.injEq, true_implies, forall_const, reduceCtorEq, implies_true, ne_eq, DMem.mt]
      refine stD hq9 (hsl9.cell) rfl (by simp) (by simp) (by simp only [List.all_cons, List.all_nil, hsl9.plain] <;> rfl) fun M10 hM10 => ?_
      have e10 : wr64 ((i : Int) + 1) = ((i + 1 : Nat) : Int) := w64s (by omega)
      try simp only [h6, h9, h10, h11, h12, e10, SW, wpD, evDL, evDM, evD, bldLD, List.contains_cons, List.contains_nil, Nat.reduceBEq, beq_self_eq_true, Nat.reduceMul, Nat.reduceSub, wpSp, Option.bind_some, Option.some.injEq, exists_eq_left', exists_eq_left, reduceIte, if_false, if_true, Nat.reduceEqDiff, Nat.reduceAdd, Nat.reduceLeDiff, Int.reduceEq, Int.reduceLT, Int.reduceLE, Int.reduceToNat, decide_true, decide_false, DV.bool.injEq, DV.int.injEq, DV.mp.injEq, DV.msl.injEq, DV.tup.injEq, DV.agg.injEq, DV.fn.injEq, true_implies, forall_const, reduceCtorEq, implies_true, ne_eq, DMem.mt]
      refine ⟨m - (i + 1), M10, by omega, SubD.refl _, i + 1, d', S', by omega, rfl, rfl, ?_, by rw [hM10, DMem.ins_same] <;> rfl, ?_, hnd9 List.nodup_nil, h8S', h9S'⟩
      · rw [hM10, DMem.ins_ne _ _ h89]; exact hq8
      · rw [List.range_succ, List.map_append]
        exact hsl9.frame intE_ok fun x hx => by rw [hM10, DMem.ins_ne _ _ (by rintro rfl; exact h9S' hx)]
    · have him : i = m := by omega
      subst him
      try simp only [SW, wpD, evDL, evDM, evD, bldLD, List.contains_cons, List.contains_nil, Nat.reduceBEq, beq_self_eq_true, Nat.reduceMul, Nat.reduceSub, wpSp, Option.bind_some, Option.some.injEq, exists_eq_left', exists_eq_left, reduceIte, if_false, if_true, Nat.reduceEqDiff, Nat.reduceAdd, Nat.reduceLeDiff, Int.reduceEq, Int.reduceLT, Int.reduceLE, Int.reduceToNat, decide_true, decide_false, DV.bool.injEq, DV.int.injEq, DV.mp.injEq, DV.msl.injEq, DV.tup.injEq, DV.agg.injEq, DV.fn.injEq, true_implies, forall_const, reduceCtorEq, implies_true, ne_eq, DMem.mt]
      exact one_end (x := ⟨6, top - i, 0, 0, n, (List.range i).map (fun j : Nat => top - (i : Int) + (j : Int)), 1, 0, pc⟩) (by exact h6) (by exact h10) h89 hM8 rfl hM9 hs h8S
  · have e : irL p ⟨15, a⟩ pc top = ⟨7, 0, (top - 1), 0, 0, [], 1, 0, pc⟩ := by simp [irL]
    rw [e]
    refine st9 (i := 0) (v := 7) h9 rfl (by decide) fun N1 g1 k1 => ?_
    try simp only [w1, w2, SW, wpD, evDL, evDM, evD, bldLD, List.contains_cons, List.contains_nil, Nat.reduceBEq, beq_self_eq_true, Nat.reduceMul, Nat.reduceSub, wpSp, Option.bind_some, Option.some.injEq, exists_eq_left', exists_eq_left, reduceIte, if_false, if_true, Nat.reduceEqDiff, Nat.reduceAdd, Nat.reduceLeDiff, Int.reduceEq, Int.reduceLT, Int.reduceLE, Int.reduceToNat, decide_true, decide_false, DV.bool.injEq, DV.int.injEq, DV.mp.injEq, DV.msl.injEq, DV.tup.injEq, DV.agg.injEq, DV.fn.injEq, true_implies, forall_const, reduceCtorEq, implies_true, ne_eq, DMem.mt]
    refine st9 (i := 2) (v := (top - 1)) g1 rfl (by decide) fun N2 g2 k2 => ?_
    try simp only [w1, w2, SW, wpD, evDL, evDM, evD, bldLD, List.contains_cons, List.contains_nil, Nat.reduceBEq, beq_self_eq_true, Nat.reduceMul, Nat.reduceSub, wpSp, Option.bind_some, Option.some.injEq, exists_eq_left', exists_eq_left, reduceIte, if_false, if_true, Nat.reduceEqDiff, Nat.reduceAdd, Nat.reduceLeDiff, Int.reduceEq, Int.reduceLT, Int.reduceLE, Int.reduceToNat, decide_true, decide_false, DV.bool.injEq, DV.int.injEq, DV.mp.injEq, DV.msl.injEq, DV.tup.injEq, DV.agg.injEq, DV.fn.injEq, true_implies, forall_const, reduceCtorEq, implies_true, ne_eq, DMem.mt]
    exact one_end (x := ⟨7, 0, (top - 1), 0, 0, [], 1, 0, pc⟩) (d := .zsl) (S := []) rfl rfl h89 (by rw [k2 q8 h89, k1 q8 h89]; exact h8) rfl g2 SlAt.nil (by simp)
  · have e : irL p ⟨16, a⟩ pc top = ⟨8, 0, (top - 1), 0, 0, [], 1, 0, pc⟩ := by simp [irL]
    rw [e]
    refine st9 (i := 0) (v := 8) h9 rfl (by decide) fun N1 g1 k1 => ?_
    try simp only [w1, w2, SW, wpD, evDL, evDM, evD, bldLD, List.contains_cons, List.contains_nil, Nat.reduceBEq, beq_self_eq_true, Nat.reduceMul, Nat.reduceSub, wpSp, Option.bind_some, Option.some.injEq, exists_eq_left', exists_eq_left, reduceIte, if_false, if_true, Nat.reduceEqDiff, Nat.reduceAdd, Nat.reduceLeDiff, Int.reduceEq, Int.reduceLT, Int.reduceLE, Int.reduceToNat, decide_true, decide_false, DV.bool.injEq, DV.int.injEq, DV.mp.injEq, DV.msl.injEq, DV.tup.injEq, DV.agg.injEq, DV.fn.injEq, true_implies, forall_const, reduceCtorEq, implies_true, ne_eq, DMem.mt]
    refine st9 (i := 2) (v := (top - 1)) g1 rfl (by decide) fun N2 g2 k2 => ?_
    try simp only [w1, w2, SW, wpD, evDL, evDM, evD, bldLD, List.contains_cons, List.contains_nil, Nat.reduceBEq, beq_self_eq_true, Nat.reduceMul, Nat.reduceSub, wpSp, Option.bind_some, Option.some.injEq, exists_eq_left', exists_eq_left, reduceIte, if_false, if_true, Nat.reduceEqDiff, Nat.reduceAdd, Nat.reduceLeDiff, Int.reduceEq, Int.reduceLT, Int.reduceLE, Int.reduceToNat, decide_true, decide_false, DV.bool.injEq, DV.int.injEq, DV.mp.injEq, DV.msl.injEq, DV.tup.injEq, DV.agg.injEq, DV.fn.injEq, true_implies, forall_const, reduceCtorEq, implies_true, ne_eq, DMem.mt]
    exact one_end (x := ⟨8, 0, (top - 1), 0, 0, [], 1, 0, pc⟩) (d := .zsl) (S := []) rfl rfl h89 (by rw [k2 q8 h89, k1 q8 h89]; exact h8) rfl g2 SlAt.nil (by simp)
end Go.Proofs.YtpehdlobicocpaaDoor.Pf
namespace Go.Proofs.YtpehdlobicocpaaDoor.Pf
open Go Go.RowKit Go.Proofs Go.Proofs.YtpehdlobicocpaaDoor.Mw Go.Proofs.YtpehdlobicocpaaDoor.Sx
set_option linter.unusedVariables false
set_option linter.unusedSimpArgs false
set_option maxRecDepth 8000
def irG : El Irc := ⟨9, Irc.c, 1, fun M x cs S => (∃ d, cs = [.int .i64 x.kind, .int .i64 x.r, .int .i64 x.a, .int .i64 x.b, .int .i64 x.k, d, .int .i64 x.cost, .int .i64 x.mt, .int .i64 x.pc] ∧ (d = slI x.args ∨ (d = .zsl ∧ x.args = []))) ∧ S = []⟩
theorem irG_ok : irG.Ok where
  pos := by decide
  len := by rintro M x cs S ⟨⟨d, rfl, _⟩, _⟩; rfl
  clen := fun x => rfl
  frame := fun h _ => h
  fz := by
    rintro M x cs S k ⟨⟨d, rfl, h⟩, _⟩ hk
    obtain ⟨j, rfl⟩ : ∃ j, k = j + 1 := ⟨k - 1, by have : 1 ≤ k := hk; omega⟩
    simp only [List.map_cons, List.map_nil, fz_int]
    rcases h with rfl | ⟨rfl, h⟩
    · have e := fzmap_froz (FrozL.nil.cons (Froz.slI x.args)) M (j + 1)
      simp only [List.map_cons, List.map_nil, List.cons.injEq, and_true] at e
      rw [e] <;> rfl
    · rw [fz_zsl]; simp only [irG, Irc.c, h] <;> rfl
  plain := by
    rintro M x cs S ⟨⟨d, rfl, h⟩, _⟩
    rcases h with rfl | ⟨rfl, h⟩ <;> rfl
  here := by rintro M x cs S ⟨⟨d, rfl, h⟩, rfl⟩ b hb; simp at hb
def metaG : El (List Part) := flatE metaC 1
theorem metaG_ok : metaG.Ok := flatE_ok (by decide) metaC_len metaC_froz (fun x => rfl)
theorem LowerR_end {M : DMem} {δ : DEnv} {q7 pb o : Nat} {fn regs : Int} {code : List Irc} {metas : List (List Part)} {st : List Int} {dc dm : DV} {Sc Sm : List Nat}
    (h4 : δ 4 = .mp o 0) (h7 : δ 7 = .mp q7 0) (h8 : δ 8 = .msl pb 0 st.length st.length)
    (hM7 : M q7 = some ⟨38, 4, [.int .i64 fn, .int .i64 regs, dc, dm]⟩) (hMo : M o = some ⟨38, 4, [.int .i64 0, .int .i64 0, .zsl, .zsl]⟩) (hMp : M pb = some ⟨3, st.length, st.map (.int .i64)⟩)
    (hc : SlAt irG M dc code Sc) (hm : SlAt metaG M dm metas Sm) (hnd : (q7 :: pb :: o :: (Sc ++ Sm)).Nodup) (hlc : code.length ≤ 100000) (hk : ∀ x ∈ code, goesB x.kind = true → 0 ≤ x.k ∧ x.k < st.length)
    {KK : DEnv → DMem → Prop} {XX : Nat → DEnv → DMem → Prop} {R : DV → DMem → Prop}
    (hR : ∀ M', SlAt irG M' dc (code.map (placed st)) Sc → SlAt metaG M' dm metas Sm → (∀ y, y ≠ o → y ∉ Sc → M' y = M y) → R (.tup [.agg [.int .i64 fn, .int .i64 regs, dc, dm], .int .i64 0]) M') :
    wpD Tryd.prog MU_swageref9_Lower (fun f => roL.contains f) (fun t => G_swageref9_Lower.contains t) 146 S4_swageref9_Lower KK XX (fun δ M' => ∃ d, evD Tryd.prog M' δ R_swageref9_Lower = some d ∧ R d M') δ M := by
  have hnd1 := List.nodup_cons.1 hnd
  have hnd2 := List.nodup_cons.1 hnd1.2
  have hnd3 := List.nodup_cons.1 hnd2.2
  obtain ⟨hnc, hnm, hdis⟩ := List.nodup_append.1 hnd3.2
  have hqo : q7 ≠ o := by rintro rfl; exact hnd1.1 (by simp)
  have hqc : q7 ∉ Sc := fun hh => hnd1.1 (by simp [hh])
  have hpc : pb ∉ Sc := fun hh => hnd2.1 (by simp [hh])
  have hoc : o ∉ Sc := fun hh => hnd3.1 (by simp [hh])
  have hom : o ∉ Sm := fun hh => hnd3.1 (by simp [hh])
  simp only [S4_swageref9_Lower, MU_swageref9_Lower, SW, wpD, evDL, evDM, evD, bldLD, List.contains_cons, List.contains_nil, Nat.reduceBEq, beq_self_eq_true, Nat.reduceMul, Nat.reduceSub, wpSp, Option.bind_some, Option.some.injEq, exists_eq_left', exists_eq_left, reduceIte, if_false, if_true, Nat.reduceEqDiff, Nat.reduceAdd, Nat.reduceLeDiff, Int.reduceEq, Int.reduceLT, Int.reduceLE, Int.reduceToNat, decide_true, decide_false, DV.bool.injEq, DV.int.injEq, DV.mp.injEq, DV.msl.injEq, DV.tup.injEq, DV.agg.injEq, DV.fn.injEq, true_implies, forall_const, reduceCtorEq, implies_true, ne_eq, DMem.mt]
  refine ⟨fun n δ M' => ∃ (i : Nat), i ≤ code.length ∧ n = code.length - i ∧ δ 4 = .mp o 0 ∧ δ 7 = .mp q7 0 ∧ δ 8 = .msl pb 0 st.length st.length ∧ δ 11 = .int .i64 i ∧
      SlAt irG M' dc ((code.take i).map (placed st) ++ code.drop i) Sc ∧ (∀ y, y ∉ Sc → M' y = M y), code.length,
    ⟨0, Nat.zero_le _, rfl, h4, h7, h8, rfl, by simpa using hc, fun y _ => rfl⟩, ?_⟩
  rintro n δ M' ⟨i, hi, rfl, h4, h7, h8, h11, hci, hkeep⟩
  have hMw := (hkeep q7 hqc).trans hM7
  have hMs := (hkeep pb hpc).trans hMp
  have hMo' := (hkeep o hoc).trans hMo
  have hlen := half_len (placed st) code hi
  have hle := hci.lenD
  rw [hlen] at hle
  simp only [S2_swageref9_Lower, MU_swageref9_Lower, h4, h7, h8, h11, hMw, hle, SW, wpD, evDL, evDM, evD, bldLD, List.contains_cons, List.contains_nil, Nat.reduceBEq, beq_self_eq_true, Nat.reduceMul, Nat.reduceSub, wpSp, Option.bind_some, Option.some.injEq, exists_eq_left', exists_eq_left, reduceIte, if_false, if_true, Nat.reduceEqDiff, Nat.reduceAdd, Nat.reduceLeDiff, Int.reduceEq, Int.reduceLT, Int.reduceLE, Int.reduceToNat, decide_true, decide_false, DV.bool.injEq, DV.int.injEq, DV.mp.injEq, DV.msl.injEq, DV.tup.injEq, DV.agg.injEq, DV.fn.injEq, true_implies, forall_const, reduceCtorEq, implies_true, ne_eq, DMem.mt, decide_eq_true_eq, decide_eq_false_iff_not]
  refine ⟨fun hlt => ?_, fun hge => ?_⟩
  · have hil : i < code.length := by omega
    have hx := half_get (placed st) code hil (by rw [hlen]; exact hil)
    obtain ⟨b, c, ty, c1, cx, c2, S1, Sx, S2, hd, hMb, hl1, hlx, ⟨⟨da, hcx, hda⟩, hSx⟩, hSe, hcl, _, hput⟩ := hci.inner irG_ok hnc (i := i) (by rw [hlen]; exact hil)
    rw [hlen] at hd hcl
    rw [hx] at hcx hda
    subst hcx
    have hl1 : c1.length = i * 9 := hl1
    have ge : ∀ {off : Nat} {v : DV} {cx : List DV}, M' b = some ⟨ty, c * 9, c1 ++ cx ++ c2⟩ → off < cx.length → cx[off]? = some v → ldD M' (.mp b (i * 9 + off)) = some v := fun {off v cx} h1 h2 h3 => by
      rw [ldM, h1]; show (c1 ++ cx ++ _)[i * 9 + off]? = _; rw [get_field hl1 h2]; exact h3
    have hix : ixD 9 dc (.int .i64 (i : Int)) = some (.mp b (i * 9)) := by rw [hd, ixM hil, Nat.zero_add]
    have hg0 := ge hMb (off := 0) (by simp) rfl
    have hg4 := ge hMb (off := 4) (by simp) rfl
    have hbS : b ∈ Sc := by rw [hSe]; simp
    simp only [Nat.add_zero] at hg0
    have ei : wr64 ((i : Int) + 1) = ((i + 1 : Nat) : Int) := w64s (by omega)
    simp only [hix, hg0, Nat.add_zero, fz_int, List.map_cons, List.map_nil, SW, wpD, evDL, evDM, evD, bldLD, List.contains_cons, List.contains_nil, Nat.reduceBEq, beq_self_eq_true, Nat.reduceMul, Nat.reduceSub, wpSp, Option.bind_some, Option.some.injEq, exists_eq_left', exists_eq_left, reduceIte, if_false, if_true, Nat.reduceEqDiff, Nat.reduceAdd, Nat.reduceLeDiff, Int.reduceEq, Int.reduceLT, Int.reduceLE, Int.reduceToNat, decide_true, decide_false, DV.bool.injEq, DV.int.injEq, DV.mp.injEq, DV.msl.injEq, DV.tup.injEq, DV.agg.injEq, DV.fn.injEq, true_implies, forall_const, reduceCtorEq, implies_true, ne_eq, DMem.mt]
    have hgo' : (decide (code[i].kind = 4) || decide (code[i].kind = 5)) = goesB code[i].kind := rfl
    rw [hgo']
    cases hgo : goesB code[i].kind with
    | true =>
      obtain ⟨hk0, hk1⟩ := hk _ (List.getElem_mem hil) hgo
      obtain ⟨kn, hkn⟩ := Int.eq_ofNat_of_zero_le hk0
      have hkl : kn < st.length := by omega
      rw [hkn] at hg4
      simp only [raw2_swageref9_Lower, P2_swageref9_Lower, MU_swageref9_Lower, h4, h7, h8, h11, hMw, hMs, hix, hg4, ixM hkl, ei, SW, wpD, evDL, evDM, evD, bldLD, List.contains_cons, List.contains_nil, Nat.reduceBEq, beq_self_eq_true, Nat.reduceMul, Nat.reduceSub, wpSp, Option.bind_some, Option.some.injEq, exists_eq_left', exists_eq_left, reduceIte, if_false, if_true, Nat.reduceEqDiff, Nat.reduceAdd, Nat.reduceLeDiff, Int.reduceEq, Int.reduceLT, Int.reduceLE, Int.reduceToNat, decide_true, decide_false, DV.bool.injEq, DV.int.injEq, DV.mp.injEq, DV.msl.injEq, DV.tup.injEq, DV.agg.injEq, DV.fn.injEq, true_implies, forall_const, reduceCtorEq, implies_true, ne_eq, DMem.mt]
      have hgs : (st.map (DV.int .i64))[kn]? = some (.int .i64 st[kn]) := by simp [hkl]
      refine ⟨_, hgs, hgs, ?_⟩
      refine stD hMb rfl rfl (by simp [hl1]) (by show i * 9 + 4 + 1 ≤ c * 9; omega) rfl fun M2 hM2 => ?_
      rw [splD_field hl1 (by simp)] at hM2
      refine ⟨code.length - (i + 1), M2, by omega, SubD.refl _, i + 1, by omega, rfl, rfl, ?_, fun y hy => ?_⟩
      · rw [← half_set (placed st) code hil]
        have hpl : placed st code[i] = { code[i] with k := st[kn] } := by
          unfold placed
          rw [hgo, if_pos rfl]
          congr 1
          rw [hkn]; simp [hkl]
        refine hput M2 (placed st code[i]) _ ?_ hM2
        rw [hpl]
        exact ⟨⟨da, rfl, hda⟩, hSx⟩
      · rw [hM2, DMem.ins_ne _ _ (by rintro rfl; exact hy hbS)]; exact hkeep y hy
    | false =>
      simp only [h4, h7, h8, h11, ei, SW, wpD, evDL, evDM, evD, bldLD, List.contains_cons, List.contains_nil, Nat.reduceBEq, beq_self_eq_true, Nat.reduceMul, Nat.reduceSub, wpSp, Option.bind_some, Option.some.injEq, exists_eq_left', exists_eq_left, reduceIte, if_false, if_true, Nat.reduceEqDiff, Nat.reduceAdd, Nat.reduceLeDiff, Int.reduceEq, Int.reduceLT, Int.reduceLE, Int.reduceToNat, decide_true, decide_false, DV.bool.injEq, DV.int.injEq, DV.mp.injEq, DV.msl.injEq, DV.tup.injEq, DV.agg.injEq, DV.fn.injEq, true_implies, forall_const, reduceCtorEq, implies_true, ne_eq, DMem.mt]
      refine ⟨code.length - (i + 1), M', by omega, SubD.refl _, i + 1, by omega, rfl, rfl, ?_, hkeep⟩
      have hpl : placed st code[i] = code[i] := by unfold placed; rw [hgo] <;> rfl
      rw [← half_set (placed st) code hil, hpl]
      rw [show (List.map (placed st) (List.take i code) ++ List.drop i code).set i code[i] = List.map (placed st) (List.take i code) ++ List.drop i code by
        conv => lhs; arg 3; rw [← hx]
        exact List.set_getElem_self _]
      exact hci
  · have : i = code.length := by omega
    subst this
    rw [List.take_length, List.drop_length, List.append_nil] at hci
    have hmm : SlAt metaG M' dm metas Sm := hm.frame metaG_ok fun y hy => hkeep y fun hh => hdis y hh y hy rfl
    simp only [S3_swageref9_Lower, MU_swageref9_Lower, h4, h7, hMw, ldnM, SW, wpD, evDL, evDM, evD, bldLD, List.contains_cons, List.contains_nil, Nat.reduceBEq, beq_self_eq_true, Nat.reduceMul, Nat.reduceSub, wpSp, Option.bind_some, Option.some.injEq, exists_eq_left', exists_eq_left, reduceIte, if_false, if_true, Nat.reduceEqDiff, Nat.reduceAdd, Nat.reduceLeDiff, Int.reduceEq, Int.reduceLT, Int.reduceLE, Int.reduceToNat, decide_true, decide_false, DV.bool.injEq, DV.int.injEq, DV.mp.injEq, DV.msl.injEq, DV.tup.injEq, DV.agg.injEq, DV.fn.injEq, true_implies, forall_const, reduceCtorEq, implies_true, ne_eq, DMem.mt]
    refine stD hMo' rfl rfl (by simp) (by simp) (by simp only [List.all_cons, List.all_nil, hci.plain, hmm.plain] <;> rfl) fun M2 hM2 => ?_
    have ho2 : M2 o = some ⟨38, 4, [.int .i64 fn, .int .i64 regs, dc, dm]⟩ := by rw [hM2, DMem.ins_same] <;> rfl
    have h2 : ∀ y, y ≠ o → M2 y = M' y := fun y hy => by rw [hM2, DMem.ins_ne _ _ hy]
    simp only [R_swageref9_Lower, h4, ho2, ldnM, SW, wpD, evDL, evDM, evD, bldLD, List.contains_cons, List.contains_nil, Nat.reduceBEq, beq_self_eq_true, Nat.reduceMul, Nat.reduceSub, wpSp, Option.bind_some, Option.some.injEq, exists_eq_left', exists_eq_left, reduceIte, if_false, if_true, Nat.reduceEqDiff, Nat.reduceAdd, Nat.reduceLeDiff, Int.reduceEq, Int.reduceLT, Int.reduceLE, Int.reduceToNat, decide_true, decide_false, DV.bool.injEq, DV.int.injEq, DV.mp.injEq, DV.msl.injEq, DV.tup.injEq, DV.agg.injEq, DV.fn.injEq, true_implies, forall_const, reduceCtorEq, implies_true, ne_eq, DMem.mt]
    exact hR M2 (hci.frame irG_ok fun y hy => h2 y (by rintro rfl; exact hoc hy)) (hmm.frame metaG_ok fun y hy => h2 y (by rintro rfl; exact hom hy)) fun y hy hyc => by rw [h2 y hy, hkeep y hyc]
end Go.Proofs.YtpehdlobicocpaaDoor.Pf
namespace Go.Proofs.YtpehdlobicocpaaDoor.Pf
open Go Go.RowKit Go.Proofs Go.Proofs.YtpehdlobicocpaaDoor.Mw Go.Proofs.YtpehdlobicocpaaDoor.Sx
set_option linter.unusedVariables false
set_option linter.unusedSimpArgs false
set_option maxRecDepth 4000
theorem rowsR_pc {M : DMem} (from' : Int) (k : Nat) (hk : k ≤ 1000) (hf : 0 ≤ from' ∧ from' ≤ 100000) {R : DV → DMem → Prop}
    (hR : ∀ d M' S, SlAt srcE M' d (rowS from' k) S → S.Nodup → (∀ x ∈ S, M x = none) → SubD M M' → R d M') : PC Tryd.prog F_swageref9_rows [.int .i64 from', .int .i64 k] R M := by
  refine pc_swageref9_rows (by simp) ?_
  simp only [S_swageref9_rows, R_swageref9_rows, MU_swageref9_rows, SW, wpD, evDL, evDM, evD, bldLD, List.contains_cons, List.contains_nil, Nat.reduceBEq, beq_self_eq_true, Nat.reduceMul, Nat.reduceSub, wpSp, Option.bind_some, Option.some.injEq, exists_eq_left', exists_eq_left, reduceIte, if_false, if_true, Nat.reduceEqDiff, Nat.reduceAdd, Nat.reduceLeDiff, Int.reduceEq, Int.reduceLT, Int.reduceLE, Int.reduceToNat, decide_true, decide_false, DV.bool.injEq, DV.int.injEq, DV.mp.injEq, DV.msl.injEq, DV.tup.injEq, DV.agg.injEq, DV.fn.injEq, true_implies, forall_const, reduceCtorEq, implies_true, ne_eq, DMem.mt]
  refine ⟨fun n δ M' => ∃ (i : Nat) (S : List Nat), i ≤ k ∧ n = k - i ∧ δ 0 = .int .i64 from' ∧ δ 1 = .int .i64 k ∧ δ 6 = .int .i64 i ∧ SlAt srcE M' (δ 5) (rowS from' i) S ∧ S.Nodup ∧ (∀ x ∈ S, M x = none) ∧ SubD M M', k,
    ⟨0, [], Nat.zero_le _, rfl, rfl, rfl, rfl, SlAt.nil, List.nodup_nil, fun x hx => by simp at hx, SubD.refl _⟩, ?_⟩
  rintro n δ M' ⟨i, S, hi, rfl, h0, hh1, h6, hs, hnd, hS, hsub⟩
  simp only [S1_swageref9_rows, MU_swageref9_rows, h0, hh1, h6, SW, wpD, evDL, evDM, evD, bldLD, List.contains_cons, List.contains_nil, Nat.reduceBEq, beq_self_eq_true, Nat.reduceMul, Nat.reduceSub, wpSp, Option.bind_some, Option.some.injEq, exists_eq_left', exists_eq_left, reduceIte, if_false, if_true, Nat.reduceEqDiff, Nat.reduceAdd, Nat.reduceLeDiff, Int.reduceEq, Int.reduceLT, Int.reduceLE, Int.reduceToNat, decide_true, decide_false, DV.bool.injEq, DV.int.injEq, DV.mp.injEq, DV.msl.injEq, DV.tup.injEq, DV.agg.injEq, DV.fn.injEq, true_implies, forall_const, reduceCtorEq, implies_true, ne_eq, DMem.mt, decide_eq_true_eq, decide_eq_false_iff_not]
  refine ⟨fun hlt => ?_, fun hge => ?_⟩
  · have hik : i < k := by omega
    have e1 : wr64 (from' + (i : Int)) = from' + i := w64 (by omega)
    have hlen : (rowS from' i).length = i := by simp [rowS]
    simp only [e1]
    refine hs.app srcE_ok hnd (ys := [⟨false, from' + i⟩]) (ds := [.bool false, .int .i64 (from' + i)]) (T := []) (RowAt.one ⟨rfl, rfl⟩) (fun x hx => by simp at hx) rfl (by rw [hlen]; omega) (by rw [hlen]; omega) fun d' M2 S' h1 h2 h3 h4 => ?_
    try simp only [h0, hh1, h6, w64s (show i < 4611686018427387905 by omega), SW, wpD, evDL, evDM, evD, bldLD, List.contains_cons, List.contains_nil, Nat.reduceBEq, beq_self_eq_true, Nat.reduceMul, Nat.reduceSub, wpSp, Option.bind_some, Option.some.injEq, exists_eq_left', exists_eq_left, reduceIte, if_false, if_true, Nat.reduceEqDiff, Nat.reduceAdd, Nat.reduceLeDiff, Int.reduceEq, Int.reduceLT, Int.reduceLE, Int.reduceToNat, decide_true, decide_false, DV.bool.injEq, DV.int.injEq, DV.mp.injEq, DV.msl.injEq, DV.tup.injEq, DV.agg.injEq, DV.fn.injEq, true_implies, forall_const, reduceCtorEq, implies_true, ne_eq, DMem.mt]
    refine ⟨k - (i + 1), M2, by omega, SubD.refl _, i + 1, S', by omega, rfl, rfl, ?_, h4 List.nodup_nil, fun x hx => ?_, fun x B hB => ?_⟩
    · have : rowS from' (i + 1) = rowS from' i ++ [⟨false, from' + i⟩] := by simp [rowS, List.range_succ]
      rw [this]; exact h1
    · rcases h3 x hx with h | h | h
      · exact hS x h
      · simp at h
      · cases e : M x with
        | none => rfl
        | some B => have := hsub x B e; rw [h] at this; cases this
    · exact h2 x B (hsub x B hB) fun hh => by rw [hS x hh] at hB; cases hB
  · have : i = k := by omega
    subst this
    try simp only [SW, wpD, evDL, evDM, evD, bldLD, List.contains_cons, List.contains_nil, Nat.reduceBEq, beq_self_eq_true, Nat.reduceMul, Nat.reduceSub, wpSp, Option.bind_some, Option.some.injEq, exists_eq_left', exists_eq_left, reduceIte, if_false, if_true, Nat.reduceEqDiff, Nat.reduceAdd, Nat.reduceLeDiff, Int.reduceEq, Int.reduceLT, Int.reduceLE, Int.reduceToNat, decide_true, decide_false, DV.bool.injEq, DV.int.injEq, DV.mp.injEq, DV.msl.injEq, DV.tup.injEq, DV.agg.injEq, DV.fn.injEq, true_implies, forall_const, reduceCtorEq, implies_true, ne_eq, DMem.mt]
    exact hR _ M' S hs hnd hS hsub
theorem PlainR_pt (p : List Fnc) (fn : Nat) (pc : Int) (h : Nat) (hfn : fn < p.length) (hl : 0 ≤ p[fn].locals ∧ p[fn].locals ≤ 8) (hh : h ≤ 8) (hhe : heightF p fn pc = h) :
    Pt Tryd.prog F_swageref9_Plain [.agg [slD Fnc.c p], .int .i64 fn, .int .i64 pc, .int .i64 0, .int .i64 0] (.agg (plainP p[fn] fn pc h 0).c) := by
  refine Pt.of (pc_swageref9_Plain (by simp) ?_)
  obtain ⟨n, hn⟩ := Int.eq_ofNat_of_zero_le hl.1
  simp only [S_swageref9_Plain, raw0_swageref9_Plain, P0_swageref9_Plain, R_swageref9_Plain, MU_swageref9_Plain, ix_slD Fnc.len hfn, HeightR_pf, fz_prg, hhe, ldnI1, SW, wpD, evDL, evDM, evD, bldLD, List.contains_cons, List.contains_nil, Nat.reduceBEq, beq_self_eq_true, Nat.reduceMul, Nat.reduceSub, wpSp, Option.bind_some, Option.some.injEq, exists_eq_left', exists_eq_left, reduceIte, if_false, if_true, Nat.reduceEqDiff, Nat.reduceAdd, Nat.reduceLeDiff, Int.reduceEq, Int.reduceLT, Int.reduceLE, Int.reduceToNat, decide_true, decide_false, DV.bool.injEq, DV.int.injEq, DV.mp.injEq, DV.msl.injEq, DV.tup.injEq, DV.agg.injEq, DV.fn.injEq, true_implies, forall_const, reduceCtorEq, implies_true, ne_eq, DMem.mt]
  intro q M1 hM1
  rw [hn]
  refine rowsR_pc 0 n (by omega) (by omega) fun d1 M2 S1 h1 n1 f1 k1 => ?_
  have e1 : wr64 (0 + (n : Int)) = n := by rw [w64 (by omega)]; omega
  have e2 : wr64 ((h : Int) - 0) = h := by rw [w64 (by omega)]; omega
  rw [e1, e2]
  refine rowsR_pc n h (by omega) (by omega) fun d2 M3 S2 h2 n2 f2 k2 => ?_
  have h13 := SlAt.sub srcE_ok h1 k2
  simp only [h13.cell, h2.cell, SW, wpD, evDL, evDM, evD, bldLD, List.contains_cons, List.contains_nil, Nat.reduceBEq, beq_self_eq_true, Nat.reduceMul, Nat.reduceSub, wpSp, Option.bind_some, Option.some.injEq, exists_eq_left', exists_eq_left, reduceIte, if_false, if_true, Nat.reduceEqDiff, Nat.reduceAdd, Nat.reduceLeDiff, Int.reduceEq, Int.reduceLT, Int.reduceLE, Int.reduceToNat, decide_true, decide_false, DV.bool.injEq, DV.int.injEq, DV.mp.injEq, DV.msl.injEq, DV.tup.injEq, DV.agg.injEq, DV.fn.injEq, true_implies, forall_const, reduceCtorEq, implies_true, ne_eq, DMem.mt]
  have hq3 : M3 q = some ⟨51, 4, [.int .i64 0, .int .i64 0, .zsl, .zsl]⟩ := k2 q _ (k1 q _ (by rw [hM1, DMem.ins_same]))
  refine stD hq3 rfl rfl (by simp) (by simp) (by simp [h13.plain, h2.plain]; exact ⟨rfl, rfl⟩) fun M4 hM4 => ?_
  have hq4 : M4 q = some ⟨51, 4, [.int .i64 fn, .int .i64 pc, d1, d2]⟩ := by rw [hM4, DMem.ins_same] <;> rfl
  have hqS1 : q ∉ S1 := fun hh => by have := f1 q hh; rw [hM1, DMem.ins_same] at this; cases this
  have hqS2 : q ∉ S2 := fun hh => by have := f2 q hh; rw [k1 q _ (by rw [hM1, DMem.ins_same])] at this; cases this
  have g1 : SlAt srcE M4 d1 (rowS 0 n) S1 := h13.frame srcE_ok fun b hb => by rw [hM4, DMem.ins_ne _ _ (by rintro rfl; exact hqS1 hb)]
  have g2 : SlAt srcE M4 d2 (rowS n h) S2 := h2.frame srcE_ok fun b hb => by rw [hM4, DMem.ins_ne _ _ (by rintro rfl; exact hqS2 hb)]
  obtain ⟨t1, t2⟩ := srcE_th.sl g1
  obtain ⟨t3, t4⟩ := srcE_th.sl g2
  have g1' := SlAt.only srcE_ok g1 (T := S1 ++ S2) (fun b hb => by simp [hb])
  have g2' := SlAt.only srcE_ok g2 (T := S1 ++ S2) (fun b hb => by simp [hb])
  simp only [ldnM, hq4, SW, wpD, evDL, evDM, evD, bldLD, List.contains_cons, List.contains_nil, Nat.reduceBEq, beq_self_eq_true, Nat.reduceMul, Nat.reduceSub, wpSp, Option.bind_some, Option.some.injEq, exists_eq_left', exists_eq_left, reduceIte, if_false, if_true, Nat.reduceEqDiff, Nat.reduceAdd, Nat.reduceLeDiff, Int.reduceEq, Int.reduceLT, Int.reduceLE, Int.reduceToNat, decide_true, decide_false, DV.bool.injEq, DV.int.injEq, DV.mp.injEq, DV.msl.injEq, DV.tup.injEq, DV.agg.injEq, DV.fn.injEq, true_implies, forall_const, reduceCtorEq, implies_true, ne_eq, DMem.mt]
  refine pt_only (S := S1 ++ S2) (by simp only [thawed, thawedL, t1, t3] <;> rfl) (fun b hb => ?_) ?_
  · rcases List.mem_append.1 hb with hb | hb
    · exact t2 b hb
    · exact t4 b hb
  · rw [fz_agg]
    simp only [List.map_cons, List.map_nil, fz_int]
    rw [g1'.fz srcE_ok (k := 3) (by decide), g2'.fz srcE_ok (k := 3) (by decide)]
    unfold plainP
    simp only [hn, Int.toNat_natCast, Int.zero_add] <;> rfl
end Go.Proofs.YtpehdlobicocpaaDoor.Pf
namespace Go.Proofs.YtpehdlobicocpaaDoor.Pf
open Go Go.RowKit Go.Proofs Go.Proofs.YtpehdlobicocpaaDoor.Mw Go.Proofs.YtpehdlobicocpaaDoor.Sx
set_option linter.unusedVariables false
set_option linter.unusedSimpArgs false
set_option maxRecDepth 8000
structure DocAt (M1 M : DMem) (q7 pb o : Nat) (fn regs : Int) (code : List Irc) (metas : List (List Part)) (st : List Int) (dc dm : DV) (Sc Sm : List Nat) : Prop where
  q : M q7 = some ⟨38, 4, [.int .i64 fn, .int .i64 regs, dc, dm]⟩
  p : M pb = some ⟨3, st.length, st.map (.int .i64)⟩
  c : SlAt irG M dc code Sc
  m : SlAt metaG M dm metas Sm
  nd : (q7 :: pb :: o :: (Sc ++ Sm)).Nodup
  new : ∀ y ∈ Sc ++ Sm, M1 y = none
  qn : M1 q7 = none
  pn : M1 pb = none
  on : M1 o ≠ none
  sub : SubD M1 M
section
variable {M1 M : DMem} {q7 pb o : Nat} {fn regs : Int} {code : List Irc} {metas : List (List Part)} {st : List Int} {dc dm : DV} {Sc Sm : List Nat}
theorem DocAt.nds (h : DocAt M1 M q7 pb o fn regs code metas st dc dm Sc Sm) : q7 ≠ pb ∧ q7 ≠ o ∧ pb ≠ o ∧ (∀ y ∈ Sc, y ≠ q7 ∧ y ≠ pb ∧ y ≠ o) ∧ (∀ y ∈ Sm, y ≠ q7 ∧ y ≠ pb ∧ y ≠ o) ∧ Sc.Nodup ∧ Sm.Nodup ∧ (∀ y ∈ Sc, y ∉ Sm) := by
  have hnd1 := List.nodup_cons.1 h.nd
  have hnd2 := List.nodup_cons.1 hnd1.2
  have hnd3 := List.nodup_cons.1 hnd2.2
  obtain ⟨hnc, hnm, hdis⟩ := List.nodup_append.1 hnd3.2
  refine ⟨by rintro rfl; exact hnd1.1 (by simp), by rintro rfl; exact hnd1.1 (by simp), by rintro rfl; exact hnd2.1 (by simp), fun y hy => ⟨?_, ?_, ?_⟩, fun y hy => ⟨?_, ?_, ?_⟩, hnc, hnm, fun y hy hy' => hdis y hy y hy' rfl⟩
  · rintro rfl; exact hnd1.1 (by simp [hy])
  · rintro rfl; exact hnd2.1 (by simp [hy])
  · rintro rfl; exact hnd3.1 (by simp [hy])
  · rintro rfl; exact hnd1.1 (by simp [hy])
  · rintro rfl; exact hnd2.1 (by simp [hy])
  · rintro rfl; exact hnd3.1 (by simp [hy])
theorem nd3 {q7 pb o : Nat} {l : List Nat} (h1 : q7 ≠ pb) (h2 : q7 ≠ o) (h3 : pb ≠ o) (hl : l.Nodup) (h : ∀ y ∈ l, y ≠ q7 ∧ y ≠ pb ∧ y ≠ o) : (q7 :: pb :: o :: l).Nodup := by
  refine List.nodup_cons.2 ⟨fun hh => ?_, List.nodup_cons.2 ⟨fun hh => ?_, List.nodup_cons.2 ⟨fun hh => (h o hh).2.2 rfl, hl⟩⟩⟩
  · simp only [List.mem_cons] at hh
    rcases hh with hh | hh | hh
    · exact h1 hh
    · exact h2 hh
    · exact (h _ hh).1 rfl
  · simp only [List.mem_cons] at hh
    rcases hh with hh | hh
    · exact h3 hh
    · exact (h _ hh).2.1 rfl
theorem DocAt.gone (h : DocAt M1 M q7 pb o fn regs code metas st dc dm Sc Sm) {M5 M6 : DMem} {d' : DV} {code' : List Irc} {S' : List Nat} (h1 : SlAt irG M5 d' code' S') (h2 : ∀ b B, M b = some B → b ∉ Sc → M5 b = some B) (h3 : ∀ b ∈ S', b ∈ Sc ∨ b ∈ ([] : List Nat) ∨ M b = none) (h4 : S'.Nodup)
    (hM6 : M6 = M5.ins q7 ⟨38, 4, [.int .i64 fn, .int .i64 regs, d', dm]⟩) : DocAt M1 M6 q7 pb o fn regs code' metas st d' dm S' Sm := by
  obtain ⟨n1, n2, n3, n4, n5, n6, n7, n8⟩ := h.nds
  have hq : ∀ y, y ≠ q7 → M6 y = M5 y := fun y hy => by rw [hM6, DMem.ins_ne _ _ hy]
  have hS' : ∀ y ∈ S', (y ≠ q7 ∧ y ≠ pb ∧ y ≠ o) ∧ M1 y = none ∧ y ∉ Sm := fun y hy => by
    rcases h3 y hy with h5 | h5 | h5
    · exact ⟨n4 y h5, h.new y (by simp [h5]), n8 y h5⟩
    · simp at h5
    · refine ⟨⟨?_, ?_, ?_⟩, ?_, fun hh => h.m.here metaG_ok y hh h5⟩
      · rintro rfl; rw [h.q] at h5; cases h5
      · rintro rfl; rw [h.p] at h5; cases h5
      · rintro rfl
        cases e : M1 y with
        | none => exact h.on e
        | some B => rw [h.sub y B e] at h5; cases h5
      · cases e : M1 y with
        | none => rfl
        | some B => rw [h.sub y B e] at h5; cases h5
  have hpc : pb ∉ Sc := fun hh => (n4 pb hh).2.1 rfl
  refine ⟨by rw [hM6, DMem.ins_same], by rw [hq pb (Ne.symm n1)]; exact h2 pb _ h.p hpc, h1.frame irG_ok fun y hy => hq y (hS' y hy).1.1, ?_, nd3 n1 n2 n3 (List.nodup_append.2 ⟨h4, n7, fun a ha b hb => by rintro rfl; exact (hS' a ha).2.2 hb⟩) fun y hy => ?_, fun y hy => ?_, h.qn, h.pn, h.on, fun y B hB => ?_⟩
  · refine h.m.frame metaG_ok fun y hy => ?_
    obtain ⟨B, hB⟩ := Option.ne_none_iff_exists'.1 (h.m.here metaG_ok y hy)
    rw [hq y (n5 y hy).1, hB]
    exact h2 y B hB fun hh => n8 y hh hy
  · rcases List.mem_append.1 hy with hy | hy
    · exact (hS' y hy).1
    · exact n5 y hy
  · rcases List.mem_append.1 hy with hy | hy
    · exact (hS' y hy).2.1
    · exact h.new y (by simp [hy])
  · rw [hq y (by rintro rfl; rw [h.qn] at hB; cases hB)]
    exact h2 y B (h.sub y B hB) fun hh => by have := h.new y (by simp [hh]); rw [this] at hB; cases hB
theorem DocAt.left (h : DocAt M1 M q7 pb o fn regs code metas st dc dm Sc Sm) {M5 M6 : DMem} {d' : DV} {metas' : List (List Part)} {S' : List Nat} (h1 : SlAt metaG M5 d' metas' S') (h2 : ∀ b B, M b = some B → b ∉ Sm → M5 b = some B) (h3 : ∀ b ∈ S', b ∈ Sm ∨ b ∈ ([] : List Nat) ∨ M b = none) (h4 : S'.Nodup)
    (hM6 : M6 = M5.ins q7 ⟨38, 4, [.int .i64 fn, .int .i64 regs, dc, d']⟩) : DocAt M1 M6 q7 pb o fn regs code metas' st dc d' Sc S' := by
  obtain ⟨n1, n2, n3, n4, n5, n6, n7, n8⟩ := h.nds
  have hq : ∀ y, y ≠ q7 → M6 y = M5 y := fun y hy => by rw [hM6, DMem.ins_ne _ _ hy]
  have hS' : ∀ y ∈ S', (y ≠ q7 ∧ y ≠ pb ∧ y ≠ o) ∧ M1 y = none ∧ y ∉ Sc := fun y hy => by
    rcases h3 y hy with h5 | h5 | h5
    · exact ⟨n5 y h5, h.new y (by simp [h5]), fun hh => n8 y hh h5⟩
    · simp at h5
    · refine ⟨⟨?_, ?_, ?_⟩, ?_, fun hh => h.c.here irG_ok y hh h5⟩
      · rintro rfl; rw [h.q] at h5; cases h5
      · rintro rfl; rw [h.p] at h5; cases h5
      · rintro rfl
        cases e : M1 y with
        | none => exact h.on e
        | some B => rw [h.sub y B e] at h5; cases h5
      · cases e : M1 y with
        | none => rfl
        | some B => rw [h.sub y B e] at h5; cases h5
  have hpc : pb ∉ Sm := fun hh => (n5 pb hh).2.1 rfl
  refine ⟨by rw [hM6, DMem.ins_same], by rw [hq pb (Ne.symm n1)]; exact h2 pb _ h.p hpc, ?_, h1.frame metaG_ok fun y hy => hq y (hS' y hy).1.1, nd3 n1 n2 n3 (List.nodup_append.2 ⟨n6, h4, fun a ha b hb => by rintro rfl; exact (hS' a hb).2.2 ha⟩) fun y hy => ?_, fun y hy => ?_, h.qn, h.pn, h.on, fun y B hB => ?_⟩
  · refine h.c.frame irG_ok fun y hy => ?_
    obtain ⟨B, hB⟩ := Option.ne_none_iff_exists'.1 (h.c.here irG_ok y hy)
    rw [hq y (n4 y hy).1, hB]
    exact h2 y B hB fun hh => n8 y hy hh
  · rcases List.mem_append.1 hy with hy | hy
    · exact n4 y hy
    · exact (hS' y hy).1
  · rcases List.mem_append.1 hy with hy | hy
    · exact h.new y (by simp [hy])
    · exact (hS' y hy).2.1
  · rw [hq y (by rintro rfl; rw [h.qn] at hB; cases hB)]
    exact h2 y B (h.sub y B hB) fun hh => by have := h.new y (by simp [hh]); rw [this] at hB; cases hB
theorem DocAt.told (h : DocAt M1 M q7 pb o fn regs code metas st dc dm Sc Sm) {M6 : DMem} {st' : List Int} (hl : st'.length = st.length) (hM6 : M6 = M.ins pb ⟨3, st.length, st'.map (.int .i64)⟩) : DocAt M1 M6 q7 pb o fn regs code metas st' dc dm Sc Sm := by
  obtain ⟨n1, n2, n3, n4, n5, n6, n7, n8⟩ := h.nds
  have hq : ∀ y, y ≠ pb → M6 y = M y := fun y hy => by rw [hM6, DMem.ins_ne _ _ hy]
  exact ⟨by rw [hq q7 n1]; exact h.q, by rw [hM6, DMem.ins_same, hl], h.c.frame irG_ok fun y hy => hq y (n4 y hy).2.1, h.m.frame metaG_ok fun y hy => hq y (n5 y hy).2.1, h.nd, h.new, h.qn, h.pn, h.on,
    fun y B hB => by rw [hq y (by rintro rfl; rw [h.pn] at hB; cases hB)]; exact h.sub y B hB⟩
end
theorem docS_put {p : List Fnc} {f : Fnc} {fn : Int} {hs : List Int} {L i : Nat} (h : i < L) : (docS p f fn hs i ++ List.replicate (L - i) 0).set i ((lowS p f fn hs i).code.length : Int) = docS p f fn hs (i + 1) ++ List.replicate (L - (i + 1)) 0 := by
  rw [low_set (by simp [docS]) (by omega), Nat.sub_sub]
  congr 1
  simp [docS, List.range_succ]
theorem docS_len (p : List Fnc) (f : Fnc) (fn : Int) (hs : List Int) {L i : Nat} (h : i ≤ L) : (docS p f fn hs i ++ List.replicate (L - i) 0).length = L := by
  simp [docS]; omega
theorem LowerR_pc {M : DMem} (p : List Fnc) (fn : Int) {R : DV → DMem → Prop}
    (hR : ∀ dc dm M' Sc Sm, SlAt irG M' dc (lowerR p fn).1.code Sc → SlAt metaG M' dm (lowerR p fn).1.metas Sm → (Sc ++ Sm).Nodup → (∀ y ∈ Sc ++ Sm, M y = none) → SubD M M' →
      R (.tup [.agg [.int .i64 (lowerR p fn).1.fn, .int .i64 (lowerR p fn).1.regs, dc, dm], .int .i64 (lowerR p fn).2]) M') : PC Tryd.prog F_swageref9_Lower [.agg [slD Fnc.c p], .int .i64 fn] R M := by
  refine pc_swageref9_Lower (by simp) ?_
  simp only [S_swageref9_Lower, MU_swageref9_Lower, VerifyR_pf, fz_prg, ldnI1, SW, wpD, evDL, evDM, evD, bldLD, List.contains_cons, List.contains_nil, Nat.reduceBEq, beq_self_eq_true, Nat.reduceMul, Nat.reduceSub, wpSp, Option.bind_some, Option.some.injEq, exists_eq_left', exists_eq_left, reduceIte, if_false, if_true, Nat.reduceEqDiff, Nat.reduceAdd, Nat.reduceLeDiff, Int.reduceEq, Int.reduceLT, Int.reduceLE, Int.reduceToNat, decide_true, decide_false, DV.bool.injEq, DV.int.injEq, DV.mp.injEq, DV.msl.injEq, DV.tup.injEq, DV.agg.injEq, DV.fn.injEq, true_implies, forall_const, reduceCtorEq, implies_true, ne_eq, DMem.mt]
  intro o M1 ho hM1
  have hoM : M o = none := ho
  have k1 : SubD M M1 := fun y B hB => by rw [hM1, DMem.ins_ne _ _ (by rintro rfl; rw [hoM] at hB; cases hB)]; exact hB
  have ho1 : M1 o = some ⟨38, 4, [.int .i64 0, .int .i64 0, .zsl, .zsl]⟩ := by rw [hM1, DMem.ins_same]
  clear hM1 ho
  refine ⟨fun hb => ?_, fun hb => ?_⟩
  · have e : lowerR p fn = (cod0, 1100) := by
      unfold lowerR
      rw [if_neg]
      simp at hb
      omega
    rw [e] at hR
    refine stD ho1 rfl rfl (by simp) (by simp) rfl fun M2 hM2 => ?_
    have ho2 : M2 o = some ⟨38, 4, [.int .i64 0, .int .i64 0, .zsl, .zsl]⟩ := by rw [hM2, DMem.ins_same] <;> rfl
    simp only [R_swageref9_Lower, SW, wpD, evDL, evDM, evD, bldLD, List.contains_cons, List.contains_nil, Nat.reduceBEq, beq_self_eq_true, Nat.reduceMul, Nat.reduceSub, wpSp, Option.bind_some, Option.some.injEq, exists_eq_left', exists_eq_left, reduceIte, if_false, if_true, Nat.reduceEqDiff, Nat.reduceAdd, Nat.reduceLeDiff, Int.reduceEq, Int.reduceLT, Int.reduceLE, Int.reduceToNat, decide_true, decide_false, DV.bool.injEq, DV.int.injEq, DV.mp.injEq, DV.msl.injEq, DV.tup.injEq, DV.agg.injEq, DV.fn.injEq, true_implies, forall_const, reduceCtorEq, implies_true, ne_eq, DMem.mt]
    refine ⟨_, by rw [ho2] <;> rfl, hR .zsl .zsl M2 [] [] SlAt.nil SlAt.nil List.nodup_nil (fun y hy => by simp at hy) fun y B hB => ?_⟩
    rw [hM2, DMem.ins_ne _ _ (by rintro rfl; rw [hoM] at hB; cases hB)]
    exact k1 y B hB
  · have hb' : verifyE p = 0 ∧ 0 ≤ fn ∧ fn < p.length := by
      simp at hb
      omega
    obtain ⟨hve, hf0, hfl⟩ := hb'
    obtain ⟨n, rfl⟩ := Int.eq_ofNat_of_zero_le hf0
    have hn : n < p.length := by omega
    obtain ⟨hpk, hall⟩ := verify_ok hve
    have hHF := heights_hf hpk hn (hall n hn)
    have hloc := fn_loc hHF.fn
    have hmay := fn_may hHF.fn
    obtain ⟨hl1, hl2⟩ := fmay_le hmay
    have hp8 := pack_len hpk
    have eR : lowerR p (n : Int) = (lowF p p[n] n, 0) := by
      unfold lowerR
      rw [if_pos ⟨hve, by omega, by omega⟩]
      simp only [Int.toNat_natCast, List.getElem?_eq_getElem hn]
    rw [eR] at hR
    have e8 : wr64 (p[n].locals + 8) = p[n].locals + 8 := w64 (by omega)
    have hl3 : ∀ K : DMem, ∀ r : List DV, ldnD K 3 (.ip (.int .i64 p[n].args :: .int .i64 p[n].locals :: slD Ins.c p[n].code :: r)) = some (.agg p[n].c) := fun K r => by simp [ldnD]
    simp only [ix_slD Fnc.len hn, hl3, e8, SW, wpD, evDL, evDM, evD, bldLD, List.contains_cons, List.contains_nil, Nat.reduceBEq, beq_self_eq_true, Nat.reduceMul, Nat.reduceSub, wpSp, Option.bind_some, Option.some.injEq, exists_eq_left', exists_eq_left, reduceIte, if_false, if_true, Nat.reduceEqDiff, Nat.reduceAdd, Nat.reduceLeDiff, Int.reduceEq, Int.reduceLT, Int.reduceLE, Int.reduceToNat, decide_true, decide_false, DV.bool.injEq, DV.int.injEq, DV.mp.injEq, DV.msl.injEq, DV.tup.injEq, DV.agg.injEq, DV.fn.injEq, true_implies, forall_const, reduceCtorEq, implies_true, ne_eq, DMem.mt]
    intro q7 M2 hq7 hM2
    have hq7M : M1 q7 = none := hq7
    refine mkI (by omega) fun pb M3 hpb hM3 => ?_
    have hpbM : M2 pb = none := hpb
    have hqo : q7 ≠ o := by rintro rfl; rw [ho1] at hq7M; cases hq7M
    have hpq : pb ≠ q7 := by rintro rfl; rw [hM2, DMem.ins_same] at hpbM; cases hpbM
    have hpo : pb ≠ o := by rintro rfl; rw [hM2, DMem.ins_ne _ _ hpq, ho1] at hpbM; cases hpbM
    have hpM1 : M1 pb = none := by rw [hM2, DMem.ins_ne _ _ hpq] at hpbM; exact hpbM
    generalize hhs : (heightsR p (n : Int)).1 = hs at hHF
    have hD0 : DocAt M1 M3 q7 pb o n (p[n].locals + 8) [] [] (docS p p[n] n hs 0 ++ List.replicate (p[n].code.length - 0) 0) .zsl .zsl [] [] := by
      refine ⟨by rw [hM3, DMem.ins_ne _ _ (Ne.symm hpq), hM2, DMem.ins_same], by rw [hM3, DMem.ins_same]; simp [docS], SlAt.nil, SlAt.nil, nd3 (Ne.symm hpq) hqo hpo List.nodup_nil (fun y hy => by simp at hy), fun y hy => by simp at hy, hq7M, hpM1, by rw [ho1]; simp, fun y B hB => ?_⟩
      rw [hM3, DMem.ins_ne _ _ (by rintro rfl; rw [hpM1] at hB; cases hB), hM2, DMem.ins_ne _ _ (by rintro rfl; rw [hq7M] at hB; cases hB)]
      exact hB
    clear hM3 hM2 hpb hpbM hq7
    refine ⟨fun k δ M' => ∃ (i : Nat) (dc dm : DV) (Sc Sm : List Nat), i ≤ p[n].code.length ∧ k = p[n].code.length - i ∧ δ 1 = .int .i64 n ∧ δ 2 = .ip [slD Fnc.c p] ∧ δ 4 = .mp o 0 ∧ δ 5 = .int .i64 0 ∧ δ 6 = .ip p[n].c ∧ δ 7 = .mp q7 0 ∧
        δ 8 = .msl pb 0 p[n].code.length p[n].code.length ∧ δ 9 = .int .i64 i ∧ DocAt M1 M' q7 pb o n (p[n].locals + 8) (lowS p p[n] n hs i).code (lowS p p[n] n hs i).metas (docS p p[n] n hs i ++ List.replicate (p[n].code.length - i) 0) dc dm Sc Sm, p[n].code.length,
      ⟨0, .zsl, .zsl, [], [], Nat.zero_le _, rfl, rfl, rfl, rfl, rfl, rfl, rfl, rfl, rfl, hD0⟩, ?_⟩
    clear hD0
    rintro k δ M' ⟨i, dc, dm, Sc, Sm, hi, rfl, h1, h2, h4, h5, h6, h7, h8, h9, hD⟩
    simp only [S1_swageref9_Lower, MU_swageref9_Lower, h1, h2, h4, h5, h6, h7, h8, h9, SW, wpD, evDL, evDM, evD, bldLD, List.contains_cons, List.contains_nil, Nat.reduceBEq, beq_self_eq_true, Nat.reduceMul, Nat.reduceSub, wpSp, Option.bind_some, Option.some.injEq, exists_eq_left', exists_eq_left, reduceIte, if_false, if_true, Nat.reduceEqDiff, Nat.reduceAdd, Nat.reduceLeDiff, Int.reduceEq, Int.reduceLT, Int.reduceLE, Int.reduceToNat, decide_true, decide_false, DV.bool.injEq, DV.int.injEq, DV.mp.injEq, DV.msl.injEq, DV.tup.injEq, DV.agg.injEq, DV.fn.injEq, true_implies, forall_const, reduceCtorEq, implies_true, ne_eq, DMem.mt, decide_eq_true_eq, decide_eq_false_iff_not]
    refine ⟨fun hlt => ?_, fun hge => ?_⟩
    · have hil : i < p[n].code.length := by omega
      have hhl : i < hs.length := by rw [hHF.hi.len]; exact hil
      have hsl := docS_len p p[n] n hs hi
      have hp := hD.p
      rw [hsl] at hp
      simp only [hD.q, hD.c.lenD, ixM hil, SW, wpD, evDL, evDM, evD, bldLD, List.contains_cons, List.contains_nil, Nat.reduceBEq, beq_self_eq_true, Nat.reduceMul, Nat.reduceSub, wpSp, Option.bind_some, Option.some.injEq, exists_eq_left', exists_eq_left, reduceIte, if_false, if_true, Nat.reduceEqDiff, Nat.reduceAdd, Nat.reduceLeDiff, Int.reduceEq, Int.reduceLT, Int.reduceLE, Int.reduceToNat, decide_true, decide_false, DV.bool.injEq, DV.int.injEq, DV.mp.injEq, DV.msl.injEq, DV.tup.injEq, DV.agg.injEq, DV.fn.injEq, true_implies, forall_const, reduceCtorEq, implies_true, ne_eq, DMem.mt]
      refine stD hp rfl rfl (by rw [List.length_map, hsl]; omega) (by omega) rfl fun M4 hM4 => ?_
      rw [splD_one (by rw [List.length_map, hsl]; exact hil), ← List.map_set, docS_put hil] at hM4
      have hD4 := hD.told (M6 := M4) (st' := docS p p[n] n hs (i + 1) ++ List.replicate (p[n].code.length - (i + 1)) 0) (by rw [hsl, docS_len p p[n] n hs (show i + 1 ≤ p[n].code.length by omega)]) (by rw [hsl]; exact hM4)
      clear hM4 hp
      have hv0 : hs[i]? = some hs[i] := List.getElem?_eq_getElem hhl
      have hhF : heightF p n i = hs[i] := height_at (hall n hn) (by rw [hhs]; exact hv0)
      have ei : wr64 ((i : Int) + 1) = ((i + 1 : Nat) : Int) := w64s (by omega)
      simp only [h1, h2, h4, h5, h6, h7, h8, h9, ldnI1, HeightR_pf, fz_prg, hhF, ei, SW, wpD, evDL, evDM, evD, bldLD, List.contains_cons, List.contains_nil, Nat.reduceBEq, beq_self_eq_true, Nat.reduceMul, Nat.reduceSub, wpSp, Option.bind_some, Option.some.injEq, exists_eq_left', exists_eq_left, reduceIte, if_false, if_true, Nat.reduceEqDiff, Nat.reduceAdd, Nat.reduceLeDiff, Int.reduceEq, Int.reduceLT, Int.reduceLE, Int.reduceToNat, decide_true, decide_false, DV.bool.injEq, DV.int.injEq, DV.mp.injEq, DV.msl.injEq, DV.tup.injEq, DV.agg.injEq, DV.fn.injEq, true_implies, forall_const, reduceCtorEq, implies_true, ne_eq, DMem.mt, decide_eq_true_eq, decide_eq_false_iff_not]
      refine ⟨fun hneg => ?_, fun hpos => ?_⟩
      · have hm1 : hs[i] = -1 := Decidable.byContradiction fun hh => by have := (hHF.hi.val i _ hv0 hh).1; omega
        refine ⟨p[n].code.length - (i + 1), M4, by omega, SubD.refl _, i + 1, dc, dm, Sc, Sm, by omega, rfl, rfl, ?_⟩
        simp only [lowS, lowStep, low_getD hv0, hm1, if_true]
        exact hD4
      · have hne : hs[i] ≠ -1 := by omega
        obtain ⟨hn0, hn8, _⟩ := hHF.hi.val i _ hv0 hne
        have hout := hHF.out i hil _ hv0 hne
        have hmx := fmay_ins hmay hil
        have hl2 : ∀ r : List DV, ldnD M4 2 (.ip (.int .i64 p[n].code[i].kind :: .int .i64 p[n].code[i].a :: r)) = some (.agg p[n].code[i].c) := fun r => by simp [ldnD]
        have eS : lowS p p[n] n hs (i + 1) = lowStep p p[n] n hs[i] i (lowS p p[n] n hs i) := by simp only [lowS, low_getD hv0]
        have e2 : p[n].code.getD i ⟨0, 0⟩ = p[n].code[i] := by rw [List.getD_eq_getElem?_getD, List.getElem?_eq_getElem hil] <;> rfl
        have hcall : p[n].code[i].kind = 14 → 0 ≤ p[n].code[i].a ∧ p[n].code[i].a < p.length ∧ 0 ≤ argsOf p p[n].code[i].a ∧ argsOf p p[n].code[i].a ≤ 4 := fun hk => by
          have h1 := outB_call hout hk
          have h2 := may_call hmx hk
          refine ⟨h2, h1, ?_⟩
          unfold argsOf
          have hlt : p[n].code[i].a.toNat < p.length := by omega
          rw [List.getElem?_eq_getElem hlt]
          exact fnB_args (pack_fn hpk _ (List.getElem_mem hlt))
        obtain ⟨hh, hhe⟩ := Int.eq_ofNat_of_zero_le hn0
        have hln := low_len p p[n] n hs i
        obtain ⟨n1, n2, n3, n4, n5, n6, n7, n8⟩ := hD4.nds
        have hqc : q7 ∉ Sc := fun hh => (n4 q7 hh).1 rfl
        have hqm : q7 ∉ Sm := fun hh => (n5 q7 hh).1 rfl
        have hfz : FrozL [DV.agg [slD Fnc.c p], .int .i64 (n : Int), .int .i64 (i : Int), .int .i64 0, .int .i64 0] := ((((FrozL.nil.cons (Froz.int _ _)).cons (Froz.int _ _)).cons (Froz.int _ _)).cons (Froz.int _ _)).cons (Froz.agg (FrozL.nil.cons (Froz.slD Fnc.froz p)))
        have hfz2 : FrozL [DV.agg [slD Fnc.c p], .int .i64 (n : Int), .int .i64 (i : Int)] := ((FrozL.nil.cons (Froz.int _ _)).cons (Froz.int _ _)).cons (Froz.agg (FrozL.nil.cons (Froz.slD Fnc.froz p)))
        have hone := oneR_pt p n i hh hn hil hmx (by omega) (by omega) (by rw [hhF, hhe]) hcall
        have hpl := PlainR_pt p n i hh hn (by omega) (by omega) (by rw [hhF, hhe])
        have fin : ∀ {M6 : DMem} {δ6 : DEnv} {code' : List Irc} {metas' : List (List Part)} {dc6 dm6 : DV} {Sc6 Sm6 : List Nat}, DocAt M1 M6 q7 pb o n (p[n].locals + 8) code' metas' (docS p p[n] n hs (i + 1) ++ List.replicate (p[n].code.length - (i + 1)) 0) dc6 dm6 Sc6 Sm6 → code'.length ≤ 200 →
            δ6 1 = .int .i64 n → δ6 2 = .ip [slD Fnc.c p] → δ6 7 = .mp q7 0 → δ6 9 = .int .i64 i → ∀ {KK : DEnv → DMem → Prop} {XX : Nat → DEnv → DMem → Prop} {RR : DEnv → DMem → Prop},
            (∀ M7 dc7 Sc7 δ7, δ7 1 = δ6 1 ∧ δ7 2 = δ6 2 ∧ δ7 4 = δ6 4 ∧ δ7 5 = δ6 5 ∧ δ7 6 = δ6 6 ∧ δ7 7 = δ6 7 ∧ δ7 8 = δ6 8 ∧ δ7 9 = δ6 9 → DocAt M1 M7 q7 pb o n (p[n].locals + 8) (code' ++ [irL p p[n].code[i] i (p[n].locals + hh)]) metas' (docS p p[n] n hs (i + 1) ++ List.replicate (p[n].code.length - (i + 1)) 0) dc7 dm6 Sc7 Sm6 → KK δ7 M7) →
            rawW Tryd.prog MU_swageref9_Lower (fun f => roL.contains f) (fun t => G_swageref9_Lower.contains t) 146 (.region 15 O1_swageref9_Lower true) KK XX RR δ6 M6 := by
          intro M6 δ6 code' metas' dc6 dm6 Sc6 Sm6 hD6 hc6 g1 g2 g7 g9 KK XX RR hK
          obtain ⟨m1, m2, m3, m4, m5, m6, m7, m8⟩ := hD6.nds
          simp only [raw1_swageref9_Lower, P1_swageref9_Lower, MU_swageref9_Lower, g1, g2, g7, g9, hD6.q, ldnI1, ldnM, freshI, List.map_cons, List.map_nil, SW, wpD, evDL, evDM, evD, bldLD, List.contains_cons, List.contains_nil, Nat.reduceBEq, beq_self_eq_true, Nat.reduceMul, Nat.reduceSub, wpSp, Option.bind_some, Option.some.injEq, exists_eq_left', exists_eq_left, reduceIte, if_false, if_true, Nat.reduceEqDiff, Nat.reduceAdd, Nat.reduceLeDiff, Int.reduceEq, Int.reduceLT, Int.reduceLE, Int.reduceToNat, decide_true, decide_false, DV.bool.injEq, DV.int.injEq, DV.mp.injEq, DV.msl.injEq, DV.tup.injEq, DV.agg.injEq, DV.fn.injEq, true_implies, forall_const, reduceCtorEq, implies_true, ne_eq, DMem.mt]
          refine Pt.pc (by rw [fzmap_froz hfz2]; exact hone) ?_
          have hM6q : ((M6 q7).bind fun B => B.cs[2]?) = some dc6 := by rw [hD6.q] <;> rfl
          simp only [freshI, List.map_cons, List.map_nil, hM6q, SW, wpD, evDL, evDM, evD, bldLD, List.contains_cons, List.contains_nil, Nat.reduceBEq, beq_self_eq_true, Nat.reduceMul, Nat.reduceSub, wpSp, Option.bind_some, Option.some.injEq, exists_eq_left', exists_eq_left, reduceIte, if_false, if_true, Nat.reduceEqDiff, Nat.reduceAdd, Nat.reduceLeDiff, Int.reduceEq, Int.reduceLT, Int.reduceLE, Int.reduceToNat, decide_true, decide_false, DV.bool.injEq, DV.int.injEq, DV.mp.injEq, DV.msl.injEq, DV.tup.injEq, DV.agg.injEq, DV.fn.injEq, true_implies, forall_const, reduceCtorEq, implies_true, ne_eq, DMem.mt]
          refine hD6.c.app irG_ok m6 (ys := [irL p p[n].code[i] i (p[n].locals + hh)]) (ds := (irL p p[n].code[i] i (p[n].locals + hh)).c) (T := []) (k := 1) (bytes := 88) (RowAt.one ⟨⟨slI (irL p p[n].code[i] i (p[n].locals + hh)).args, rfl, .inl rfl⟩, rfl⟩) (fun x hx => by simp at hx) rfl (by omega) (by omega) fun d7 M7 S7 f1 f2 f3 f4 => ?_
          have hq7 := f2 q7 _ hD6.q (fun hh => (m4 q7 hh).1 rfl)
          try simp only [g7, SW, wpD, evDL, evDM, evD, bldLD, List.contains_cons, List.contains_nil, Nat.reduceBEq, beq_self_eq_true, Nat.reduceMul, Nat.reduceSub, wpSp, Option.bind_some, Option.some.injEq, exists_eq_left', exists_eq_left, reduceIte, if_false, if_true, Nat.reduceEqDiff, Nat.reduceAdd, Nat.reduceLeDiff, Int.reduceEq, Int.reduceLT, Int.reduceLE, Int.reduceToNat, decide_true, decide_false, DV.bool.injEq, DV.int.injEq, DV.mp.injEq, DV.msl.injEq, DV.tup.injEq, DV.agg.injEq, DV.fn.injEq, true_implies, forall_const, reduceCtorEq, implies_true, ne_eq, DMem.mt]
          refine stD hq7 f1.cell rfl (by simp) (by simp) (by simp only [List.all_cons, List.all_nil, f1.plain] <;> rfl) fun M8 hM8 => ?_
          exact hK M8 d7 S7 _ ⟨rfl, rfl, rfl, rfl, rfl, rfl, rfl, rfl⟩ (hD6.gone f1 f2 f3 (f4 List.nodup_nil) (hM8.trans rfl))
        simp only [ix_slD Ins.len hil, hl2, hD4.q, hD4.m.lenD, h1, h2, h4, h5, h6, h7, h8, h9, ei, SW, wpD, evDL, evDM, evD, bldLD, List.contains_cons, List.contains_nil, Nat.reduceBEq, beq_self_eq_true, Nat.reduceMul, Nat.reduceSub, wpSp, Option.bind_some, Option.some.injEq, exists_eq_left', exists_eq_left, reduceIte, if_false, if_true, Nat.reduceEqDiff, Nat.reduceAdd, Nat.reduceLeDiff, Int.reduceEq, Int.reduceLT, Int.reduceLE, Int.reduceToNat, decide_true, decide_false, DV.bool.injEq, DV.int.injEq, DV.mp.injEq, DV.msl.injEq, DV.tup.injEq, DV.agg.injEq, DV.fn.injEq, true_implies, forall_const, reduceCtorEq, implies_true, ne_eq, DMem.mt]
        refine ⟨fun hb => ?_, fun hb => ?_⟩
        · have hbk : backB p[n].code[i] i = true := hb
          have ec : (lowS p p[n] n hs (i + 1)).code = (lowS p p[n] n hs i).code ++ [⟨10, 0, 0, 0, 0, [], 0, (lowS p p[n] n hs i).metas.length, i⟩] ++ [irL p p[n].code[i] i (p[n].locals + hh)] := by
            rw [eS]; unfold lowStep; simp only [e2, if_neg hne, hbk, if_true, hhe, List.append_assoc] <;> rfl
          have em : (lowS p p[n] n hs (i + 1)).metas = (lowS p p[n] n hs i).metas ++ [[plainP p[n] n i hh 0]] := by
            rw [eS]; unfold lowStep; simp only [e2]; rw [if_neg hne]; simp only [hbk, if_true, hhe]
          refine hD4.c.app irG_ok n6 (ys := [⟨10, 0, 0, 0, 0, [], 0, (lowS p p[n] n hs i).metas.length, i⟩]) (ds := [.int .i64 10, .int .i64 0, .int .i64 0, .int .i64 0, .int .i64 0, .zsl, .int .i64 0, .int .i64 (lowS p p[n] n hs i).metas.length, .int .i64 i]) (T := []) (k := 1) (bytes := 88) (RowAt.one ⟨⟨.zsl, rfl, .inr ⟨rfl, rfl⟩⟩, rfl⟩) (fun x hx => by simp at hx) rfl (by omega) (by omega) fun d5 M5 S5 f1 f2 f3 f4 => ?_
          have hq5 := f2 q7 _ hD4.q hqc
          try simp only [h1, h2, h4, h5, h6, h7, h8, h9, SW, wpD, evDL, evDM, evD, bldLD, List.contains_cons, List.contains_nil, Nat.reduceBEq, beq_self_eq_true, Nat.reduceMul, Nat.reduceSub, wpSp, Option.bind_some, Option.some.injEq, exists_eq_left', exists_eq_left, reduceIte, if_false, if_true, Nat.reduceEqDiff, Nat.reduceAdd, Nat.reduceLeDiff, Int.reduceEq, Int.reduceLT, Int.reduceLE, Int.reduceToNat, decide_true, decide_false, DV.bool.injEq, DV.int.injEq, DV.mp.injEq, DV.msl.injEq, DV.tup.injEq, DV.agg.injEq, DV.fn.injEq, true_implies, forall_const, reduceCtorEq, implies_true, ne_eq, DMem.mt]
          refine stD hq5 f1.cell rfl (by simp) (by simp) (by simp only [List.all_cons, List.all_nil, f1.plain] <;> rfl) fun M6 hM6 => ?_
          have hD6 := hD4.gone f1 f2 f3 (f4 List.nodup_nil) (hM6.trans rfl)
          obtain ⟨m1, m2, m3, m4, m5, m6, m7, m8⟩ := hD6.nds
          simp only [raw0_swageref9_Lower, P0_swageref9_Lower, MU_swageref9_Lower, h1, h2, h7, h9, hD6.q, ldnI1, ldnM, freshI, List.map_cons, List.map_nil, SW, wpD, evDL, evDM, evD, bldLD, List.contains_cons, List.contains_nil, Nat.reduceBEq, beq_self_eq_true, Nat.reduceMul, Nat.reduceSub, wpSp, Option.bind_some, Option.some.injEq, exists_eq_left', exists_eq_left, reduceIte, if_false, if_true, Nat.reduceEqDiff, Nat.reduceAdd, Nat.reduceLeDiff, Int.reduceEq, Int.reduceLT, Int.reduceLE, Int.reduceToNat, decide_true, decide_false, DV.bool.injEq, DV.int.injEq, DV.mp.injEq, DV.msl.injEq, DV.tup.injEq, DV.agg.injEq, DV.fn.injEq, true_implies, forall_const, reduceCtorEq, implies_true, ne_eq, DMem.mt]
          refine Pt.pc (by rw [fzmap_froz hfz]; exact hpl) ?_
          have hM6q : ((M6 q7).bind fun B => B.cs[3]?) = some dm := by rw [hD6.q] <;> rfl
          simp only [freshI, List.map_cons, List.map_nil, hM6q, SW, wpD, evDL, evDM, evD, bldLD, List.contains_cons, List.contains_nil, Nat.reduceBEq, beq_self_eq_true, Nat.reduceMul, Nat.reduceSub, wpSp, Option.bind_some, Option.some.injEq, exists_eq_left', exists_eq_left, reduceIte, if_false, if_true, Nat.reduceEqDiff, Nat.reduceAdd, Nat.reduceLeDiff, Int.reduceEq, Int.reduceLT, Int.reduceLE, Int.reduceToNat, decide_true, decide_false, DV.bool.injEq, DV.int.injEq, DV.mp.injEq, DV.msl.injEq, DV.tup.injEq, DV.agg.injEq, DV.fn.injEq, true_implies, forall_const, reduceCtorEq, implies_true, ne_eq, DMem.mt]
          refine hD6.m.app metaG_ok m7 (ys := [[plainP p[n] n i hh 0]]) (ds := metaC [plainP p[n] n i hh 0]) (T := []) (k := 1) (bytes := 24) (RowAt.one ⟨rfl, rfl⟩) (fun x hx => by simp at hx) rfl (by omega) (by omega) fun d7 M7 S7 f5 f6 f7 f8 => ?_
          have hq7 := f6 q7 _ hD6.q (fun hh => (m5 q7 hh).1 rfl)
          try simp only [h7, SW, wpD, evDL, evDM, evD, bldLD, List.contains_cons, List.contains_nil, Nat.reduceBEq, beq_self_eq_true, Nat.reduceMul, Nat.reduceSub, wpSp, Option.bind_some, Option.some.injEq, exists_eq_left', exists_eq_left, reduceIte, if_false, if_true, Nat.reduceEqDiff, Nat.reduceAdd, Nat.reduceLeDiff, Int.reduceEq, Int.reduceLT, Int.reduceLE, Int.reduceToNat, decide_true, decide_false, DV.bool.injEq, DV.int.injEq, DV.mp.injEq, DV.msl.injEq, DV.tup.injEq, DV.agg.injEq, DV.fn.injEq, true_implies, forall_const, reduceCtorEq, implies_true, ne_eq, DMem.mt]
          refine stD hq7 f5.cell rfl (by simp) (by simp) (by simp only [List.all_cons, List.all_nil, f5.plain] <;> rfl) fun M8 hM8 => ?_
          have hD8 := hD6.left f5 f6 f7 (f8 List.nodup_nil) (hM8.trans rfl)
          refine fin hD8 (by simp only [List.length_append, List.length_cons, List.length_nil]; omega) (by exact h1) (by exact h2) (by exact h7) (by exact h9) (fun M9 dc9 Sc9 δ9 ⟨e1, e2', e4, e5, e6, e7, e8, e9⟩ hD9 => ?_)
          simp only [e1, e2', e4, e5, e6, e7, e8, e9, h1, h2, h4, h5, h6, h7, h8, h9, ei, SW, wpD, evDL, evDM, evD, bldLD, List.contains_cons, List.contains_nil, Nat.reduceBEq, beq_self_eq_true, Nat.reduceMul, Nat.reduceSub, wpSp, Option.bind_some, Option.some.injEq, exists_eq_left', exists_eq_left, reduceIte, if_false, if_true, Nat.reduceEqDiff, Nat.reduceAdd, Nat.reduceLeDiff, Int.reduceEq, Int.reduceLT, Int.reduceLE, Int.reduceToNat, decide_true, decide_false, DV.bool.injEq, DV.int.injEq, DV.mp.injEq, DV.msl.injEq, DV.tup.injEq, DV.agg.injEq, DV.fn.injEq, true_implies, forall_const, reduceCtorEq, implies_true, ne_eq, DMem.mt]
          exact ⟨p[n].code.length - (i + 1), M9, by omega, SubD.refl _, i + 1, dc9, d7, Sc9, S7, by omega, rfl, rfl, by rw [ec, em]; exact hD9⟩
        · have hbk : backB p[n].code[i] i = false := hb
          have ec : (lowS p p[n] n hs (i + 1)).code = (lowS p p[n] n hs i).code ++ [irL p p[n].code[i] i (p[n].locals + hh)] := by
            rw [eS]; unfold lowStep; simp only [e2, if_neg hne, hbk, hhe] <;> rfl
          have em : (lowS p p[n] n hs (i + 1)).metas = (lowS p p[n] n hs i).metas := by
            rw [eS]; unfold lowStep; simp only [e2, if_neg hne, hbk, hhe] <;> rfl
          refine fin hD4 (by omega) (by exact h1) (by exact h2) (by exact h7) (by exact h9) (fun M9 dc9 Sc9 δ9 ⟨e1, e2', e4, e5, e6, e7, e8, e9⟩ hD9 => ?_)
          simp only [e1, e2', e4, e5, e6, e7, e8, e9, h1, h2, h4, h5, h6, h7, h8, h9, ei, SW, wpD, evDL, evDM, evD, bldLD, List.contains_cons, List.contains_nil, Nat.reduceBEq, beq_self_eq_true, Nat.reduceMul, Nat.reduceSub, wpSp, Option.bind_some, Option.some.injEq, exists_eq_left', exists_eq_left, reduceIte, if_false, if_true, Nat.reduceEqDiff, Nat.reduceAdd, Nat.reduceLeDiff, Int.reduceEq, Int.reduceLT, Int.reduceLE, Int.reduceToNat, decide_true, decide_false, DV.bool.injEq, DV.int.injEq, DV.mp.injEq, DV.msl.injEq, DV.tup.injEq, DV.agg.injEq, DV.fn.injEq, true_implies, forall_const, reduceCtorEq, implies_true, ne_eq, DMem.mt]
          exact ⟨p[n].code.length - (i + 1), M9, by omega, SubD.refl _, i + 1, dc9, dm, Sc9, Sm, by omega, rfl, rfl, by rw [ec, em]; exact hD9⟩
    · have : i = p[n].code.length := by omega
      subst this
      have est : docS p p[n] n hs p[n].code.length ++ List.replicate (p[n].code.length - p[n].code.length) 0 = docS p p[n] n hs p[n].code.length := by rw [Nat.sub_self]; simp
      rw [est] at hD
      have hll : (docS p p[n] n hs p[n].code.length).length = p[n].code.length := by simp [docS]
      have hlF : lowF p p[n] n = ⟨n, p[n].locals + 8, (lowS p p[n] n hs p[n].code.length).code.map (placed (docS p p[n] n hs p[n].code.length)), (lowS p p[n] n hs p[n].code.length).metas⟩ := by
        unfold lowF
        rw [hhs, doc_eq (pack_fn hpk) hHF]
      have hln := low_len p p[n] n hs p[n].code.length
      refine LowerR_end (M := M') (by exact h4) (by exact h7) (by rw [hll]; exact h8) hD.q (hD.sub o _ ho1) hD.p hD.c hD.m hD.nd (by omega) (fun x hx hg => by rw [hll]; exact low_goes hHF (Nat.le_refl _) x hx hg) fun M6 hc hm hk => ?_
      rw [hlF] at hR
      refine hR dc dm M6 Sc Sm hc hm (List.nodup_cons.1 (List.nodup_cons.1 (List.nodup_cons.1 hD.nd).2).2).2 (fun y hy => ?_) fun y B hB => ?_
      · have := hD.new y hy
        cases e : M y with
        | none => rfl
        | some B => have h3 := k1 y B e; rw [this] at h3; cases h3
      · rw [hk y (by rintro rfl; rw [hoM] at hB; cases hB) fun hh => by have := hD.new y (by simp [hh]); rw [k1 y B hB] at this; cases this]
        exact hD.sub y B (k1 y B hB)
end Go.Proofs.YtpehdlobicocpaaDoor.Pf
namespace Go.Proofs.YtpehdlobicocpaaDoor.Pf
open Go Go.RowKit Go.Proofs Go.Proofs.YtpehdlobicocpaaDoor.Mw Go.Proofs.YtpehdlobicocpaaDoor.Sx
set_option linter.unusedVariables false
set_option linter.unusedSimpArgs false
end Go.Proofs.YtpehdlobicocpaaDoor.Pf
namespace Go.Proofs.YtpehdlobicocpaaDoor.Pf
open Go Go.RowKit Go.Proofs Go.Proofs.YtpehdlobicocpaaDoor.Mw Go.Proofs.YtpehdlobicocpaaDoor.Sx
set_option linter.unusedVariables false
set_option linter.unusedSimpArgs false
structure LowOk (p : List Fnc) (n : Nat) : Prop where
  may : codeMayB p (lowF p (p.getD n ⟨0, 0, []⟩) n) = true
end Go.Proofs.YtpehdlobicocpaaDoor.Pf
