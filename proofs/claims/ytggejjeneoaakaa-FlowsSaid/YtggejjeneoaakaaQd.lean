/- The flow of control: where straight rows begin. No condition. -/
import Derived.Test.YtggejjeneoaakaaQc
namespace Go.Proofs.Ytggejjeneoaakaa.Pf
open Go Go.RowKit Go.Proofs Go.Proofs.Ytggejjeneoaakaa.Mw Go.Proofs.Ytggejjeneoaakaa.Sx
set_option linter.unusedVariables false
set_option linter.unusedSimpArgs false
set_option maxRecDepth 4000
def leadS (out : List Bool) (i : Nat) (x : Ins) : List Bool :=
  let o := if x.kind = 12 ∨ x.kind = 13 then out.set x.a.toNat true else out
  if x.kind = 12 ∨ x.kind = 13 ∨ x.kind = 16 then o.set (i + 1) true else o
def leadL (code : List Ins) : Nat → List Bool
  | 0 => (List.replicate code.length false).set 0 true
  | k + 1 => match code[k]? with
    | some x => leadS (leadL code k) k x
    | none => leadL code k
def leadF (code : List Ins) : List Bool := leadL code code.length
def leadR (f : Fnc) : List Bool × Int := if fmayB f.code = true then (leadF f.code, 0) else ([], 400)
theorem leadS_len (out : List Bool) (i : Nat) (x : Ins) : (leadS out i x).length = out.length := by
  unfold leadS; dsimp only; split <;> split <;> simp
theorem leadL_len (code : List Ins) : ∀ k, (leadL code k).length = code.length
  | 0 => by simp [leadL]
  | k + 1 => by
    unfold leadL; split
    · rw [leadS_len, leadL_len code k]
    · exact leadL_len code k
theorem leadL_succ {code : List Ins} {k : Nat} (h : k < code.length) : leadL code (k + 1) = leadS (leadL code k) k code[k] := by
  conv => lhs; unfold leadL
  rw [List.getElem?_eq_getElem h]
theorem fmay_ins {l : List Ins} (h : fmayB l = true) {k : Nat} (hk : k < l.length) : mayB l[k] = true := by
  simp only [fmayB, Bool.and_eq_true, List.all_eq_true] at h
  exact h.2 _ (List.getElem_mem hk)
theorem may_jump {x : Ins} (h : mayB x = true) (hk : x.kind = 12 ∨ x.kind = 13) : 0 ≤ x.a ∧ x.a < 64 := by
  unfold mayB belowF at h
  rcases hk with hk | hk <;> simp only [hk] at h <;> simp at h <;> omega
theorem slcM_him {sz b o n c j : Nat} {k k' : IntKind} (hj : j ≤ c) (hn : n ≤ c) (h0 : j ≤ n) : slcD sz (.msl b o n c) (.tup []) (.tup [.int k (j : Int)]) (.tup [.int k' (j : Int)]) = some (if j = 0 then .zsl else .msl b o j j) := by
  have e : slcB n c none (some (j : Int)) (some (j : Int)) = some (0, j, j) := by
    simp only [slcB, Option.isSome_some, if_true]
    rw [if_pos ⟨by omega, by omega⟩]
    simp
  simp only [slcD, bnd0, bnd1, Option.bind_some, hn, if_true, e, Option.map_some, Nat.zero_mul, Nat.add_zero, Nat.sub_zero]
theorem rep_tup1 {m : Mem} {d d' : DV} {ds : List DV} {v : Value} (h : ∀ u, Rep m d u → Rep m d' u) (hv : Rep m (.tup (d :: ds)) v) : Rep m (.tup (d' :: ds)) v := by
  simp only [Rep] at hv ⊢
  obtain ⟨vs, h1, h2, h3⟩ := hv
  cases vs with
  | nil => simp at h3
  | cons u us =>
    simp only [RepP] at h2
    exact ⟨u :: us, h1, by simp only [RepP]; exact ⟨h _ h2.1, h2.2⟩, by simpa using h3⟩
theorem Leaders_pt (f : Fnc) : Pt Try.prog F_flow_Leaders [.agg f.c] (.tup [slB (leadR f).1, .int .i64 (leadR f).2]) := by
  refine Pt.of (pc_flow_Leaders (by simp) ?_)
  simp only [S_flow_Leaders, R_flow_Leaders, MU_flow_Leaders, fz_ins, fmay_pf, SW, wpD, evDL, evDM, evD, bldLD, List.contains_cons, List.contains_nil, Nat.reduceBEq, beq_self_eq_true, Nat.reduceMul, Nat.reduceSub, wpSp, Option.bind_some, Option.some.injEq, exists_eq_left', exists_eq_left, reduceIte, if_false, if_true, Nat.reduceEqDiff, Nat.reduceAdd, Nat.reduceLeDiff, Int.reduceEq, Int.reduceLT, Int.reduceLE, Int.reduceToNat, decide_true, decide_false, DV.bool.injEq, DV.int.injEq, DV.mp.injEq, DV.msl.injEq, DV.tup.injEq, DV.agg.injEq, DV.fn.injEq, true_implies, forall_const, reduceCtorEq, implies_true, ne_eq, DMem.mt]
  refine ⟨fun h => ?_, fun h => ?_⟩
  · have e : leadR f = ([], 400) := by simp only [Bool.not_eq_true'] at h; simp only [leadR, h]; rfl
    rw [e]
    exact ⟨DMem.mt, SubD.refl _, ⟨rfl, fun b B hb => by cases hb⟩, fun m v hv => hv⟩
  · simp only [Bool.not_eq_false'] at h
    have e : leadR f = (leadF f.code, 0) := by simp only [leadR, h]; rfl
    obtain ⟨hl1, hl2⟩ := fmay_le h
    rw [e]
    rw [w64s (show f.code.length < 4611686018427387905 by omega)]
    refine mkB (by omega) fun p M' _ hM => ?_
    have hMp : M' p = some ⟨4, f.code.length + 1, (List.replicate (f.code.length + 1) false).map .bool⟩ := by rw [hM, DMem.ins_same]
    simp only [ixM0 (show 0 < f.code.length + 1 by omega), SW, wpD, evDL, evDM, evD, bldLD, List.contains_cons, List.contains_nil, Nat.reduceBEq, beq_self_eq_true, Nat.reduceMul, Nat.reduceSub, wpSp, Option.bind_some, Option.some.injEq, exists_eq_left', exists_eq_left, reduceIte, if_false, if_true, Nat.reduceEqDiff, Nat.reduceAdd, Nat.reduceLeDiff, Int.reduceEq, Int.reduceLT, Int.reduceLE, Int.reduceToNat, decide_true, decide_false, DV.bool.injEq, DV.int.injEq, DV.mp.injEq, DV.msl.injEq, DV.tup.injEq, DV.agg.injEq, DV.fn.injEq, true_implies, forall_const, reduceCtorEq, implies_true, ne_eq, DMem.mt]
    refine stB hMp (by simp) (by simp) fun M1 hM1 => ?_
    try simp only [SW, wpD, evDL, evDM, evD, bldLD, List.contains_cons, List.contains_nil, Nat.reduceBEq, beq_self_eq_true, Nat.reduceMul, Nat.reduceSub, wpSp, Option.bind_some, Option.some.injEq, exists_eq_left', exists_eq_left, reduceIte, if_false, if_true, Nat.reduceEqDiff, Nat.reduceAdd, Nat.reduceLeDiff, Int.reduceEq, Int.reduceLT, Int.reduceLE, Int.reduceToNat, decide_true, decide_false, DV.bool.injEq, DV.int.injEq, DV.mp.injEq, DV.msl.injEq, DV.tup.injEq, DV.agg.injEq, DV.fn.injEq, true_implies, forall_const, reduceCtorEq, implies_true, ne_eq, DMem.mt]
    refine ⟨fun k δ M => ∃ i, i ≤ f.code.length ∧ k = f.code.length - i ∧ (∃ L : List Bool, M p = some ⟨4, f.code.length + 1, L.map .bool⟩ ∧ L.length = f.code.length + 1 ∧ L.take f.code.length = leadL f.code i) ∧ δ 1 = .ip f.c ∧ δ 4 = .msl p 0 (f.code.length + 1) (f.code.length + 1) ∧ δ 17 = slD Ins.c f.code ∧ δ 18 = .int .i64 f.code.length ∧ δ 19 = .int .i64 i,
      f.code.length, ⟨0, Nat.zero_le _, rfl, ⟨_, by rw [hM1, DMem.ins_same], by simp, ?_⟩, rfl, rfl, rfl, rfl, rfl⟩, ?_⟩
    · rw [List.take_set]; simp [leadL]
    rintro k δ M ⟨i, hi, rfl, ⟨L, hL, hLl, hLt⟩, h1, h4, h17, h18, h19⟩
    simp only [S1_flow_Leaders, MU_flow_Leaders, h1, h4, h17, h18, h19, SW, wpD, evDL, evDM, evD, bldLD, List.contains_cons, List.contains_nil, Nat.reduceBEq, beq_self_eq_true, Nat.reduceMul, Nat.reduceSub, wpSp, Option.bind_some, Option.some.injEq, exists_eq_left', exists_eq_left, reduceIte, if_false, if_true, Nat.reduceEqDiff, Nat.reduceAdd, Nat.reduceLeDiff, Int.reduceEq, Int.reduceLT, Int.reduceLE, Int.reduceToNat, decide_true, decide_false, DV.bool.injEq, DV.int.injEq, DV.mp.injEq, DV.msl.injEq, DV.tup.injEq, DV.agg.injEq, DV.fn.injEq, true_implies, forall_const, reduceCtorEq, implies_true, ne_eq, DMem.mt, decide_eq_true_eq, decide_eq_false_iff_not]
    refine ⟨fun hlt => ?_, fun hge => ?_⟩
    · have hlt' : i < f.code.length := by omega
      simp only [ix_slD Ins.len hlt', h1, h4, h17, h18, h19, SW, wpD, evDL, evDM, evD, bldLD, List.contains_cons, List.contains_nil, Nat.reduceBEq, beq_self_eq_true, Nat.reduceMul, Nat.reduceSub, wpSp, Option.bind_some, Option.some.injEq, exists_eq_left', exists_eq_left, reduceIte, if_false, if_true, Nat.reduceEqDiff, Nat.reduceAdd, Nat.reduceLeDiff, Int.reduceEq, Int.reduceLT, Int.reduceLE, Int.reduceToNat, decide_true, decide_false, DV.bool.injEq, DV.int.injEq, DV.mp.injEq, DV.msl.injEq, DV.tup.injEq, DV.agg.injEq, DV.fn.injEq, true_implies, forall_const, reduceCtorEq, implies_true, ne_eq, DMem.mt]
      refine fun q M2 hq hM2 => ?_
      have hqp : q ≠ p := by rintro rfl; rw [hL] at hq; cases hq
      refine stD (hM2 ▸ DMem.ins_same _ _ _) rfl rfl (by simp) (by simp) rfl fun M3 hM3 => ?_
      have hq3 : M3 q = some ⟨78, 2, f.code[i].c⟩ := by rw [hM3, DMem.ins_same]; rfl
      have hp3 : M3 p = some ⟨4, f.code.length + 1, L.map .bool⟩ := by rw [hM3, DMem.ins_ne _ _ hqp.symm, hM2, DMem.ins_ne _ _ hqp.symm, hL]
      have hi62 : i < 4611686018427387905 := by omega
      have hi1 : i + 1 < f.code.length + 1 := by omega
      have hinv : ∀ (M' : DMem) (L' : List Bool), M' p = some ⟨4, f.code.length + 1, L'.map .bool⟩ → L'.length = f.code.length + 1 → L'.take f.code.length = leadS (leadL f.code i) i f.code[i] →
          ∃ L : List Bool, M' p = some ⟨4, f.code.length + 1, L.map .bool⟩ ∧ L.length = f.code.length + 1 ∧ L.take f.code.length = leadL f.code (i + 1) := fun M' L' a b c => ⟨L', a, b, by rw [c, leadL_succ hlt']⟩
      by_cases hk : f.code[i].kind = 12 ∨ f.code[i].kind = 13
      · have hj := may_jump (fmay_ins h hlt') hk
        obtain ⟨a, ha⟩ := Int.eq_ofNat_of_zero_le hj.1
        have hkd : (decide (f.code[i].kind = 12) || decide (f.code[i].kind = 13)) = true := by simpa using hk
        have hk3 : f.code[i].kind = 12 ∨ f.code[i].kind = 13 ∨ f.code[i].kind = 16 := by omega
        by_cases hal : (a : Int) < f.code.length
        · have hal' : a < f.code.length + 1 := by omega
          have hi1 : i + 1 < f.code.length + 1 := by omega
          simp only [hq3, hp3, hkd, h1, h4, h17, h18, h19, hal, ha, ixM hal', w64s hi62, ixM hi1, SW, wpD, evDL, evDM, evD, bldLD, List.contains_cons, List.contains_nil, Nat.reduceBEq, beq_self_eq_true, Nat.reduceMul, Nat.reduceSub, wpSp, Option.bind_some, Option.some.injEq, exists_eq_left', exists_eq_left, reduceIte, if_false, if_true, Nat.reduceEqDiff, Nat.reduceAdd, Nat.reduceLeDiff, Int.reduceEq, Int.reduceLT, Int.reduceLE, Int.reduceToNat, decide_true, decide_false, DV.bool.injEq, DV.int.injEq, DV.mp.injEq, DV.msl.injEq, DV.tup.injEq, DV.agg.injEq, DV.fn.injEq, true_implies, forall_const, reduceCtorEq, implies_true, ne_eq, DMem.mt]
          refine stB hp3 (by omega) (by omega) fun M4 hM4 => ?_
          have hp4 : M4 p = some ⟨4, f.code.length + 1, (L.set a true).map .bool⟩ := by rw [hM4, DMem.ins_same]
          try simp only [hp4, w64s hi62, ixM hi1, h1, h4, h17, h18, h19, SW, wpD, evDL, evDM, evD, bldLD, List.contains_cons, List.contains_nil, Nat.reduceBEq, beq_self_eq_true, Nat.reduceMul, Nat.reduceSub, wpSp, Option.bind_some, Option.some.injEq, exists_eq_left', exists_eq_left, reduceIte, if_false, if_true, Nat.reduceEqDiff, Nat.reduceAdd, Nat.reduceLeDiff, Int.reduceEq, Int.reduceLT, Int.reduceLE, Int.reduceToNat, decide_true, decide_false, DV.bool.injEq, DV.int.injEq, DV.mp.injEq, DV.msl.injEq, DV.tup.injEq, DV.agg.injEq, DV.fn.injEq, true_implies, forall_const, reduceCtorEq, implies_true, ne_eq, DMem.mt]
          refine stB hp4 (by simp; omega) (by simp; omega) fun M5 hM5 => ?_
          try simp only [w64s hi62, h1, h4, h17, h18, h19, SW, wpD, evDL, evDM, evD, bldLD, List.contains_cons, List.contains_nil, Nat.reduceBEq, beq_self_eq_true, Nat.reduceMul, Nat.reduceSub, wpSp, Option.bind_some, Option.some.injEq, exists_eq_left', exists_eq_left, reduceIte, if_false, if_true, Nat.reduceEqDiff, Nat.reduceAdd, Nat.reduceLeDiff, Int.reduceEq, Int.reduceLT, Int.reduceLE, Int.reduceToNat, decide_true, decide_false, DV.bool.injEq, DV.int.injEq, DV.mp.injEq, DV.msl.injEq, DV.tup.injEq, DV.agg.injEq, DV.fn.injEq, true_implies, forall_const, reduceCtorEq, implies_true, ne_eq, DMem.mt]
          refine ⟨f.code.length - (i + 1), M5, by omega, SubD.refl _, i + 1, by omega, rfl, hinv M5 ((L.set a true).set (i + 1) true) (by rw [hM5, DMem.ins_same]) (by simp [hLl]) ?_, rfl⟩
          simp only [leadS, if_pos hk, if_pos hk3, ha, Int.toNat_natCast, List.take_set, hLt]
        · simp only [hq3, hp3, hkd, h1, h4, h17, h18, h19, hal, ha, w64s hi62, ixM hi1, SW, wpD, evDL, evDM, evD, bldLD, List.contains_cons, List.contains_nil, Nat.reduceBEq, beq_self_eq_true, Nat.reduceMul, Nat.reduceSub, wpSp, Option.bind_some, Option.some.injEq, exists_eq_left', exists_eq_left, reduceIte, if_false, if_true, Nat.reduceEqDiff, Nat.reduceAdd, Nat.reduceLeDiff, Int.reduceEq, Int.reduceLT, Int.reduceLE, Int.reduceToNat, decide_true, decide_false, DV.bool.injEq, DV.int.injEq, DV.mp.injEq, DV.msl.injEq, DV.tup.injEq, DV.agg.injEq, DV.fn.injEq, true_implies, forall_const, reduceCtorEq, implies_true, ne_eq, DMem.mt]
          refine stB hp3 (by omega) (by omega) fun M5 hM5 => ?_
          try simp only [w64s hi62, h1, h4, h17, h18, h19, SW, wpD, evDL, evDM, evD, bldLD, List.contains_cons, List.contains_nil, Nat.reduceBEq, beq_self_eq_true, Nat.reduceMul, Nat.reduceSub, wpSp, Option.bind_some, Option.some.injEq, exists_eq_left', exists_eq_left, reduceIte, if_false, if_true, Nat.reduceEqDiff, Nat.reduceAdd, Nat.reduceLeDiff, Int.reduceEq, Int.reduceLT, Int.reduceLE, Int.reduceToNat, decide_true, decide_false, DV.bool.injEq, DV.int.injEq, DV.mp.injEq, DV.msl.injEq, DV.tup.injEq, DV.agg.injEq, DV.fn.injEq, true_implies, forall_const, reduceCtorEq, implies_true, ne_eq, DMem.mt]
          refine ⟨f.code.length - (i + 1), M5, by omega, SubD.refl _, i + 1, by omega, rfl, hinv M5 (L.set (i + 1) true) (by rw [hM5, DMem.ins_same]) (by simp [hLl]) ?_, rfl⟩
          simp only [leadS, if_pos hk, if_pos hk3, ha, Int.toNat_natCast, List.take_set, hLt]
          rw [List.set_eq_of_length_le (i := a) (by rw [leadL_len]; omega)]
      · have hkd : (decide (f.code[i].kind = 12) || decide (f.code[i].kind = 13)) = false := by simpa using hk
        by_cases hk16 : f.code[i].kind = 16
        · have hk3 : f.code[i].kind = 12 ∨ f.code[i].kind = 13 ∨ f.code[i].kind = 16 := .inr (.inr hk16)
          simp only [hq3, hp3, h1, h4, h17, h18, h19, hkd, decide_eq_true hk16, w64s hi62, ixM hi1, SW, wpD, evDL, evDM, evD, bldLD, List.contains_cons, List.contains_nil, Nat.reduceBEq, beq_self_eq_true, Nat.reduceMul, Nat.reduceSub, wpSp, Option.bind_some, Option.some.injEq, exists_eq_left', exists_eq_left, reduceIte, if_false, if_true, Nat.reduceEqDiff, Nat.reduceAdd, Nat.reduceLeDiff, Int.reduceEq, Int.reduceLT, Int.reduceLE, Int.reduceToNat, decide_true, decide_false, DV.bool.injEq, DV.int.injEq, DV.mp.injEq, DV.msl.injEq, DV.tup.injEq, DV.agg.injEq, DV.fn.injEq, true_implies, forall_const, reduceCtorEq, implies_true, ne_eq, DMem.mt]
          refine stB hp3 (by omega) (by omega) fun M5 hM5 => ?_
          try simp only [w64s hi62, h1, h4, h17, h18, h19, SW, wpD, evDL, evDM, evD, bldLD, List.contains_cons, List.contains_nil, Nat.reduceBEq, beq_self_eq_true, Nat.reduceMul, Nat.reduceSub, wpSp, Option.bind_some, Option.some.injEq, exists_eq_left', exists_eq_left, reduceIte, if_false, if_true, Nat.reduceEqDiff, Nat.reduceAdd, Nat.reduceLeDiff, Int.reduceEq, Int.reduceLT, Int.reduceLE, Int.reduceToNat, decide_true, decide_false, DV.bool.injEq, DV.int.injEq, DV.mp.injEq, DV.msl.injEq, DV.tup.injEq, DV.agg.injEq, DV.fn.injEq, true_implies, forall_const, reduceCtorEq, implies_true, ne_eq, DMem.mt]
          refine ⟨f.code.length - (i + 1), M5, by omega, SubD.refl _, i + 1, by omega, rfl, hinv M5 (L.set (i + 1) true) (by rw [hM5, DMem.ins_same]) (by simp [hLl]) ?_, rfl⟩
          simp only [leadS, if_neg hk, if_pos hk3, List.take_set, hLt]
        · have hk3 : ¬ (f.code[i].kind = 12 ∨ f.code[i].kind = 13 ∨ f.code[i].kind = 16) := by omega
          simp only [hq3, hp3, h1, h4, h17, h18, h19, hkd, decide_eq_false hk16, w64s hi62, SW, wpD, evDL, evDM, evD, bldLD, List.contains_cons, List.contains_nil, Nat.reduceBEq, beq_self_eq_true, Nat.reduceMul, Nat.reduceSub, wpSp, Option.bind_some, Option.some.injEq, exists_eq_left', exists_eq_left, reduceIte, if_false, if_true, Nat.reduceEqDiff, Nat.reduceAdd, Nat.reduceLeDiff, Int.reduceEq, Int.reduceLT, Int.reduceLE, Int.reduceToNat, decide_true, decide_false, DV.bool.injEq, DV.int.injEq, DV.mp.injEq, DV.msl.injEq, DV.tup.injEq, DV.agg.injEq, DV.fn.injEq, true_implies, forall_const, reduceCtorEq, implies_true, ne_eq, DMem.mt]
          refine ⟨f.code.length - (i + 1), M3, by omega, SubD.refl _, i + 1, by omega, rfl, hinv M3 L hp3 hLl ?_, rfl⟩
          simp only [leadS, if_neg hk, if_neg hk3, hLt]
    · have : i = f.code.length := by omega
      subst this
      simp only [S2_flow_Leaders, MU_flow_Leaders, h1, h4, h17, h18, h19, SW, wpD, evDL, evDM, evD, bldLD, List.contains_cons, List.contains_nil, Nat.reduceBEq, beq_self_eq_true, Nat.reduceMul, Nat.reduceSub, wpSp, Option.bind_some, Option.some.injEq, exists_eq_left', exists_eq_left, reduceIte, if_false, if_true, Nat.reduceEqDiff, Nat.reduceAdd, Nat.reduceLeDiff, Int.reduceEq, Int.reduceLT, Int.reduceLE, Int.reduceToNat, decide_true, decide_false, DV.bool.injEq, DV.int.injEq, DV.mp.injEq, DV.msl.injEq, DV.tup.injEq, DV.agg.injEq, DV.fn.injEq, true_implies, forall_const, reduceCtorEq, implies_true, ne_eq, DMem.mt]
      have hsl : slcD 1 (.msl p 0 (f.code.length + 1) (f.code.length + 1)) (.tup []) (.tup [.int .i64 f.code.length]) (.tup [.int .i64 f.code.length]) = some (.msl p 0 f.code.length f.code.length) := by
        rw [slcM_him (by omega) (by omega) (by omega), if_neg (by omega)]
      simp only [hsl, h1, h4, h17, h18, h19, SW, wpD, evDL, evDM, evD, bldLD, List.contains_cons, List.contains_nil, Nat.reduceBEq, beq_self_eq_true, Nat.reduceMul, Nat.reduceSub, wpSp, Option.bind_some, Option.some.injEq, exists_eq_left', exists_eq_left, reduceIte, if_false, if_true, Nat.reduceEqDiff, Nat.reduceAdd, Nat.reduceLeDiff, Int.reduceEq, Int.reduceLT, Int.reduceLE, Int.reduceToNat, decide_true, decide_false, DV.bool.injEq, DV.int.injEq, DV.mp.injEq, DV.msl.injEq, DV.tup.injEq, DV.agg.injEq, DV.fn.injEq, true_implies, forall_const, reduceCtorEq, implies_true, ne_eq, DMem.mt]
      refine ⟨DMem.mt.ins p ⟨4, f.code.length + 1, L.map .bool⟩, SubD.one hL, Thaw.one rfl (thawedL_map (fun _ => rfl) L), ?_⟩
      rw [fz_msl (DMem.ins_same _ _ _) 3 0 _ _ (Nat.le_refl _)]
      simp only [List.drop_zero, List.map_map, leadF, ← hLt]
      exact fun m v hv => rep_tup1 (fun u hu => rep_isl (rest := (L.drop f.code.length).map .bool) (by
        rw [List.length_take, Nat.min_eq_left (by omega), ← List.map_append, List.take_append_drop]; exact hu)) hv
end Go.Proofs.Ytggejjeneoaakaa.Pf
