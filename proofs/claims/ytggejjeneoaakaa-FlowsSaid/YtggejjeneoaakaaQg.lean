/- What is reached: the program's walk. No condition. -/
import Derived.Test.YtggejjeneoaakaaQe
import Derived.Test.YtggejjeneoaakaaQf
import Derived.Test.YtggejjeneoaakaaDq
namespace Go.Proofs.Ytggejjeneoaakaa.Pf
open Go Go.RowKit Go.Proofs Go.Proofs.Ytggejjeneoaakaa.Mw Go.Proofs.Ytggejjeneoaakaa.Sx
set_option linter.unusedVariables false
set_option linter.unusedSimpArgs false
set_option maxRecDepth 4000
def nxF (f : Fnc) (i : Nat) : List Nat := (nextF f i).map Int.toNat
theorem compF_mem {l : List Int} {y : Int} (h : y ∈ compF l) : y ∈ l := by
  unfold compF at h
  split at h
  · split at h
    · rename_i e; subst e; simp_all
    · exact h
  · exact h
theorem nextF_mem {f : Fnc} (hf : fmayB f.code = true) {i : Nat} {y : Int} (h : y ∈ nextF f i) : 0 ≤ y ∧ y < f.code.length := by
  unfold nextF at h
  split at h
  · simp at h
  · rename_i x hx
    obtain ⟨hi, rfl⟩ := List.getElem?_eq_some_iff.1 hx
    have h1 := compF_mem h
    rw [List.mem_filter] at h1
    obtain ⟨h1, h2⟩ := h1
    simp only [Bool.not_eq_true', decide_eq_false_iff_not] at h2
    refine ⟨?_, by omega⟩
    have hm := fmay_ins hf hi
    unfold rawNext at h1
    split at h1
    · simp at h1
    split at h1
    · rename_i hk; have := may_jump hm (.inl hk); simp at h1; omega
    split at h1
    · rename_i hk; have := may_jump hm (.inr hk); simp at h1; omega
    · simp at h1; omega
theorem compF_len (l : List Int) : (compF l).length ≤ l.length := by
  unfold compF; split
  · split <;> simp
  · exact Nat.le_refl _
theorem nextF_len (f : Fnc) (i : Nat) : (nextF f i).length ≤ 2 := by
  unfold nextF; split
  · simp
  · rename_i x _
    refine Nat.le_trans (compF_len _) (Nat.le_trans (List.length_filter_le _ _) ?_)
    unfold rawNext; split
    · simp
    · split
      · simp
      · split <;> simp
theorem nxF_lt {f : Fnc} (hf : fmayB f.code = true) {i y : Nat} (h : y ∈ nxF f i) : y < f.code.length := by
  simp only [nxF, List.mem_map] at h
  obtain ⟨z, hz, rfl⟩ := h
  have := nextF_mem hf hz
  omega
def reachF (f : Fnc) : List Bool := reachB (nxF f) f.code.length
def reachR (f : Fnc) : List Bool × Int := if fmayB f.code = true then (reachF f, 0) else ([], 400)
/-- How many are not marked. -/
def unm (L : List Bool) : Nat := L.count false
theorem unm_set {L : List Bool} {i : Nat} (h : i < L.length) (hf : L[i] = false) : unm (L.set i true) + 1 = unm L := by
  unfold unm
  rw [List.count_set h, hf]
  have : 0 < L.count false := List.count_pos_iff.2 (by rw [← hf]; exact List.getElem_mem h)
  simp; omega
theorem startB_zero {n : Nat} (h : 1 ≤ n) : (startB n)[0]? = some true := by
  unfold startB
  rw [List.getElem?_set_self (by simp; omega)]
structure RchI (f : Fnc) (p : Nat) (L : List Bool) (q : List Int) (M : DMem) (d : DV) : Prop where
  len : L.length = f.code.length
  out : M p = some ⟨4, f.code.length, L.map .bool⟩
  que : QueD M d q
  ne : blkD d ≠ some p
  inq : ∀ x ∈ q, ∃ i : Nat, x = i ∧ L[i]? = some true
  snd : SoundB (nxF f) L
  z : L[0]? = some true
  small : 2 * unm L + q.length ≤ 200
/-- One more is marked and stands at the queue's end. -/
theorem RchI.more {f : Fnc} {p : Nat} {L : List Bool} {q : List Int} {M M1 M2 : DMem} {d d' : DV} {y : Nat} (h : RchI f p L q M d) (hy : y < L.length) (hf : L[y] = false) (hr : Rch (nxF f) y)
    (h1 : M1 = M.ins p ⟨4, f.code.length, (L.set y true).map .bool⟩) (hq : QueD M2 d' (q ++ [(y : Int)])) (hg : GrewD M1 M2 d d') : RchI f p (L.set y true) (q ++ [(y : Int)]) M2 d' ∧ 2 * unm (L.set y true) + (q ++ [(y : Int)]).length < 2 * unm L + q.length := by
  have hu := unm_set hy hf
  obtain ⟨g1, g2⟩ := hg.blk (show M1 p = some ⟨4, f.code.length, (L.set y true).map .bool⟩ by rw [h1, DMem.ins_same]) h.ne
  have get : ∀ i : Nat, L[i]? = some true → (L.set y true)[i]? = some true := fun i hi => (LeB.set L y).get hi
  have hm : 2 * unm (L.set y true) + (q ++ [(y : Int)]).length < 2 * unm L + q.length := by simp only [List.length_append, List.length_singleton]; omega
  refine ⟨⟨by simp [h.len], g1, hq, g2, fun x hx => ?_, fun i hi => ?_, get 0 h.z, by have := h.small; omega⟩, hm⟩
  · rcases List.mem_append.1 hx with hx | hx
    · obtain ⟨i, rfl, hi⟩ := h.inq x hx
      exact ⟨i, rfl, get i hi⟩
    · simp at hx; subst hx
      exact ⟨y, rfl, by rw [List.getElem?_set_self hy]⟩
  · rw [List.getElem?_set] at hi
    split at hi
    · rename_i e; subst e; exact hr
    · exact h.snd i hi
theorem Reached_pt (f : Fnc) : Pt Try.prog F_flow_Reached [.agg f.c] (.tup [slB (reachR f).1, .int .i64 (reachR f).2]) := by
  refine Pt.of (pc_flow_Reached (by simp) ?_)
  simp only [S_flow_Reached, R_flow_Reached, MU_flow_Reached, fz_ins, fmay_pf, SW, wpD, evDL, evDM, evD, bldLD, List.contains_cons, List.contains_nil, Nat.reduceBEq, beq_self_eq_true, Nat.reduceMul, Nat.reduceSub, wpSp, Option.bind_some, Option.some.injEq, exists_eq_left', exists_eq_left, reduceIte, if_false, if_true, Nat.reduceEqDiff, Nat.reduceAdd, Nat.reduceLeDiff, Int.reduceEq, Int.reduceLT, Int.reduceLE, Int.reduceToNat, decide_true, decide_false, DV.bool.injEq, DV.int.injEq, DV.mp.injEq, DV.msl.injEq, DV.tup.injEq, DV.agg.injEq, DV.fn.injEq, true_implies, forall_const, reduceCtorEq, implies_true, ne_eq, DMem.mt]
  refine ⟨fun h => ?_, fun h => ?_⟩
  · have e : reachR f = ([], 400) := by simp only [Bool.not_eq_true'] at h; simp only [reachR, h]; rfl
    rw [e]
    exact ⟨DMem.mt, SubD.refl _, ⟨rfl, fun b B hb => by cases hb⟩, fun m v hv => hv⟩
  · simp only [Bool.not_eq_false'] at h
    have e : reachR f = (reachF f, 0) := by simp only [reachR, h]; rfl
    obtain ⟨hl1, hl2⟩ := fmay_le h
    rw [e]
    refine mkB (by omega) fun p M' _ hM => ?_
    have hMp : M' p = some ⟨4, f.code.length, (List.replicate f.code.length false).map .bool⟩ := by rw [hM, DMem.ins_same]
    simp only [ixM0 (show 0 < f.code.length by omega), SW, wpD, evDL, evDM, evD, bldLD, List.contains_cons, List.contains_nil, Nat.reduceBEq, beq_self_eq_true, Nat.reduceMul, Nat.reduceSub, wpSp, Option.bind_some, Option.some.injEq, exists_eq_left', exists_eq_left, reduceIte, if_false, if_true, Nat.reduceEqDiff, Nat.reduceAdd, Nat.reduceLeDiff, Int.reduceEq, Int.reduceLT, Int.reduceLE, Int.reduceToNat, decide_true, decide_false, DV.bool.injEq, DV.int.injEq, DV.mp.injEq, DV.msl.injEq, DV.tup.injEq, DV.agg.injEq, DV.fn.injEq, true_implies, forall_const, reduceCtorEq, implies_true, ne_eq, DMem.mt]
    refine stB hMp (by simp; omega) (by simp) fun M1 hM1 => ?_
    try simp only [SW, wpD, evDL, evDM, evD, bldLD, List.contains_cons, List.contains_nil, Nat.reduceBEq, beq_self_eq_true, Nat.reduceMul, Nat.reduceSub, wpSp, Option.bind_some, Option.some.injEq, exists_eq_left', exists_eq_left, reduceIte, if_false, if_true, Nat.reduceEqDiff, Nat.reduceAdd, Nat.reduceLeDiff, Int.reduceEq, Int.reduceLT, Int.reduceLE, Int.reduceToNat, decide_true, decide_false, DV.bool.injEq, DV.int.injEq, DV.mp.injEq, DV.msl.injEq, DV.tup.injEq, DV.agg.injEq, DV.fn.injEq, true_implies, forall_const, reduceCtorEq, implies_true, ne_eq, DMem.mt]
    refine fun b M2 hb hM2 => ?_
    have hbp : p ≠ b := by rintro rfl; rw [hM1, DMem.ins_same] at hb; cases hb
    refine ⟨fun k δ M => ∃ L q, RchI f p L q M (δ 5) ∧ k = 2 * unm L + q.length ∧ (∀ i y : Nat, L[i]? = some true → (i : Int) ∉ q → y ∈ nxF f i → L[y]? = some true) ∧ δ 1 = .ip f.c ∧ δ 4 = .msl p 0 f.code.length f.code.length,
      _, ⟨startB f.code.length, [0], ⟨by simp [startB], by rw [hM2, DMem.ins_ne _ _ hbp, hM1, DMem.ins_same]; rfl, ?_, ?_, ?_, startB_sound _ _, startB_zero hl1, by have := List.count_le_length (a := false) (l := startB f.code.length); unfold unm; simp [startB] at this ⊢; omega⟩, rfl, ?_, rfl, rfl⟩, ?_⟩
    · exact .inr ⟨b, 0, 1, 1, 3, [], rfl, by rw [hM2, DMem.ins_same]; rfl, rfl, by omega, by simp, by omega⟩
    · simp [blkD, DEnv.upd]; exact hbp.symm
    · intro x hx; simp at hx; exact ⟨0, by simp [hx], startB_zero hl1⟩
    · intro i y hi hn hy
      unfold startB at hi
      rw [List.getElem?_set] at hi
      split at hi
      · rename_i e; subst e; simp at hn
      · rw [List.getElem?_replicate] at hi; split at hi <;> cases hi
    rintro k δ M ⟨L, q, hI, rfl, hcl, h1, h4⟩
    simp only [S4_flow_Reached, MU_flow_Reached, h1, h4, hI.que.len, SW, wpD, evDL, evDM, evD, bldLD, List.contains_cons, List.contains_nil, Nat.reduceBEq, beq_self_eq_true, Nat.reduceMul, Nat.reduceSub, wpSp, Option.bind_some, Option.some.injEq, exists_eq_left', exists_eq_left, reduceIte, if_false, if_true, Nat.reduceEqDiff, Nat.reduceAdd, Nat.reduceLeDiff, Int.reduceEq, Int.reduceLT, Int.reduceLE, Int.reduceToNat, decide_true, decide_false, DV.bool.injEq, DV.int.injEq, DV.mp.injEq, DV.msl.injEq, DV.tup.injEq, DV.agg.injEq, DV.fn.injEq, true_implies, forall_const, reduceCtorEq, implies_true, ne_eq, DMem.mt, decide_eq_true_eq, decide_eq_false_iff_not]
    refine ⟨fun hpos => ?_, fun hend => ?_⟩
    · obtain ⟨x, q, rfl⟩ : ∃ x q', q = x :: q' := by cases q with | nil => simp at hpos | cons x q' => exact ⟨x, q', rfl⟩
      obtain ⟨n, rfl, hn⟩ := hI.inq x (by simp)
      have hnl : n < f.code.length := by
        rcases Nat.lt_or_ge n f.code.length with h | h
        · exact h
        · rw [List.getElem?_eq_none (by rw [hI.len]; exact h)] at hn; cases hn
      simp only [h1, h4, hI.que.head, SW, wpD, evDL, evDM, evD, bldLD, List.contains_cons, List.contains_nil, Nat.reduceBEq, beq_self_eq_true, Nat.reduceMul, Nat.reduceSub, wpSp, Option.bind_some, Option.some.injEq, exists_eq_left', exists_eq_left, reduceIte, if_false, if_true, Nat.reduceEqDiff, Nat.reduceAdd, Nat.reduceLeDiff, Int.reduceEq, Int.reduceLT, Int.reduceLE, Int.reduceToNat, decide_true, decide_false, DV.bool.injEq, DV.int.injEq, DV.mp.injEq, DV.msl.injEq, DV.tup.injEq, DV.agg.injEq, DV.fn.injEq, true_implies, forall_const, reduceCtorEq, implies_true, ne_eq, DMem.mt]
      refine Pu.pc (next_pu f n hnl hl2) ?_
      simp only [S2_flow_Reached, MU_flow_Reached, h1, h4, SW, wpD, evDL, evDM, evD, bldLD, List.contains_cons, List.contains_nil, Nat.reduceBEq, beq_self_eq_true, Nat.reduceMul, Nat.reduceSub, wpSp, Option.bind_some, Option.some.injEq, exists_eq_left', exists_eq_left, reduceIte, if_false, if_true, Nat.reduceEqDiff, Nat.reduceAdd, Nat.reduceLeDiff, Int.reduceEq, Int.reduceLT, Int.reduceLE, Int.reduceToNat, decide_true, decide_false, DV.bool.injEq, DV.int.injEq, DV.mp.injEq, DV.msl.injEq, DV.tup.injEq, DV.agg.injEq, DV.fn.injEq, true_implies, forall_const, reduceCtorEq, implies_true, ne_eq, DMem.mt]
      refine ⟨fun k δ M => ∃ (j : Nat) (L2 : List Bool) (q2 : List Int), j ≤ (nextF f n).length ∧ k = (nextF f n).length - j ∧ RchI f p L2 ((n : Int) :: q2) M (δ 5) ∧ 2 * unm L2 + q2.length ≤ 2 * unm L + q.length ∧
          (∀ i y : Nat, L2[i]? = some true → (i : Int) ∉ ((n : Int) :: q2) → y ∈ nxF f i → L2[y]? = some true) ∧ (∀ y ∈ (nextF f n).take j, L2[y.toNat]? = some true) ∧
          δ 1 = .ip f.c ∧ δ 4 = .msl p 0 f.code.length f.code.length ∧ δ 25 = slI (nextF f n) ∧ δ 26 = .int .i64 (nextF f n).length ∧ δ 27 = .int .i64 j,
        (nextF f n).length, ⟨0, L, q, Nat.zero_le _, rfl, hI, Nat.le_refl _, hcl, fun y hy => by simp at hy, h1, h4, rfl, rfl, rfl⟩, ?_⟩
      rintro k δ M ⟨j, L2, q2, hj, rfl, hI2, hm2, hcl2, hdone, h1, h4, h25, h26, h27⟩
      have hnl2 := nextF_len f n
      have hj62 : j < 4611686018427387905 := by omega
      simp only [S1_flow_Reached, S3_flow_Reached, MU_flow_Reached, h1, h4, h25, h26, h27, SW, wpD, evDL, evDM, evD, bldLD, List.contains_cons, List.contains_nil, Nat.reduceBEq, beq_self_eq_true, Nat.reduceMul, Nat.reduceSub, wpSp, Option.bind_some, Option.some.injEq, exists_eq_left', exists_eq_left, reduceIte, if_false, if_true, Nat.reduceEqDiff, Nat.reduceAdd, Nat.reduceLeDiff, Int.reduceEq, Int.reduceLT, Int.reduceLE, Int.reduceToNat, decide_true, decide_false, DV.bool.injEq, DV.int.injEq, DV.mp.injEq, DV.msl.injEq, DV.tup.injEq, DV.agg.injEq, DV.fn.injEq, true_implies, forall_const, reduceCtorEq, implies_true, ne_eq, DMem.mt, decide_eq_true_eq, decide_eq_false_iff_not]
      refine ⟨fun hlt => ?_, fun hge => ?_⟩
      · have hlt' : j < (nextF f n).length := by omega
        have hmem : (nextF f n)[j] ∈ nextF f n := List.getElem_mem hlt'
        obtain ⟨hy0, hy1⟩ := nextF_mem h hmem
        obtain ⟨y, hy⟩ := Int.eq_ofNat_of_zero_le hy0
        rw [hy] at hy1 hmem
        have hyl : y < f.code.length := by omega
        have hyL : y < L2.length := by rw [hI2.len]; exact hyl
        have hyn : y ∈ nxF f n := by simp only [nxF, List.mem_map]; exact ⟨_, hmem, by simp⟩
        have htake : ∀ L3 : List Bool, (∀ z ∈ (nextF f n).take j, L3[z.toNat]? = some true) → L3[y]? = some true → ∀ z ∈ (nextF f n).take (j + 1), L3[z.toNat]? = some true := fun L3 a b z hz => by
          rw [List.take_succ_eq_append_getElem hlt', List.mem_append] at hz
          rcases hz with hz | hz
          · exact a z hz
          · simp at hz; rw [hz, hy]; simpa using b
        simp only [ix_slI hlt', h1, h4, h25, h26, h27, hy, ixM hyl, hI2.out, get_map .bool L2 hyL, SW, wpD, evDL, evDM, evD, bldLD, List.contains_cons, List.contains_nil, Nat.reduceBEq, beq_self_eq_true, Nat.reduceMul, Nat.reduceSub, wpSp, Option.bind_some, Option.some.injEq, exists_eq_left', exists_eq_left, reduceIte, if_false, if_true, Nat.reduceEqDiff, Nat.reduceAdd, Nat.reduceLeDiff, Int.reduceEq, Int.reduceLT, Int.reduceLE, Int.reduceToNat, decide_true, decide_false, DV.bool.injEq, DV.int.injEq, DV.mp.injEq, DV.msl.injEq, DV.tup.injEq, DV.agg.injEq, DV.fn.injEq, true_implies, forall_const, reduceCtorEq, implies_true, ne_eq, DMem.mt]
        refine ⟨fun hfal => ?_, fun htr => ?_⟩
        · have hfal' : L2[y] = false := by simpa using hfal
          refine stB hI2.out hyL (by rw [hI2.len]; exact Nat.le_refl _) fun M3 hM3 => ?_
          simp only [h1, h4, h25, h26, h27, isl_one, SW, wpD, evDL, evDM, evD, bldLD, List.contains_cons, List.contains_nil, Nat.reduceBEq, beq_self_eq_true, Nat.reduceMul, Nat.reduceSub, wpSp, Option.bind_some, Option.some.injEq, exists_eq_left', exists_eq_left, reduceIte, if_false, if_true, Nat.reduceEqDiff, Nat.reduceAdd, Nat.reduceLeDiff, Int.reduceEq, Int.reduceLT, Int.reduceLE, Int.reduceToNat, decide_true, decide_false, DV.bool.injEq, DV.int.injEq, DV.mp.injEq, DV.msl.injEq, DV.tup.injEq, DV.agg.injEq, DV.fn.injEq, true_implies, forall_const, reduceCtorEq, implies_true, ne_eq, DMem.mt]
          have hq3 : QueD M3 (δ 5) ((n : Int) :: q2) := by rw [hM3]; exact hI2.que.ins hI2.ne _
          have hsm := hI2.small
          simp only [List.length_cons] at hsm
          refine hq3.app (by simp only [List.length_cons, List.length_nil]; omega) (by simp only [List.length_cons, List.length_nil]; omega) fun d' M4 hq4 hg4 => ?_
          obtain ⟨hI4, hm4⟩ := hI2.more hyL hfal' (.step (hI2.snd n (by obtain ⟨i, e, hi⟩ := hI2.inq _ (List.mem_cons_self ..); have : i = n := by omega
                                                                        rw [← this]; exact hi)) hyn) hM3 hq4 hg4
          simp only [h1, h4, h25, h26, h27, w64s hj62, SW, wpD, evDL, evDM, evD, bldLD, List.contains_cons, List.contains_nil, Nat.reduceBEq, beq_self_eq_true, Nat.reduceMul, Nat.reduceSub, wpSp, Option.bind_some, Option.some.injEq, exists_eq_left', exists_eq_left, reduceIte, if_false, if_true, Nat.reduceEqDiff, Nat.reduceAdd, Nat.reduceLeDiff, Int.reduceEq, Int.reduceLT, Int.reduceLE, Int.reduceToNat, decide_true, decide_false, DV.bool.injEq, DV.int.injEq, DV.mp.injEq, DV.msl.injEq, DV.tup.injEq, DV.agg.injEq, DV.fn.injEq, true_implies, forall_const, reduceCtorEq, implies_true, ne_eq, DMem.mt]
          simp only [List.cons_append, List.length_cons] at hI4 hm4
          refine ⟨(nextF f n).length - (j + 1), M4, by omega, SubD.refl _, j + 1, L2.set y true, q2 ++ [(y : Int)], by omega, rfl, hI4, by omega, fun i z hi hni hz => ?_, htake _ (fun z hz => (LeB.set L2 y).get (hdone z hz)) (by rw [List.getElem?_set_self hyL]), rfl⟩
          rw [List.getElem?_set] at hi
          split at hi
          · rename_i e; subst e; simp at hni
          · exact (LeB.set L2 y).get (hcl2 i z hi (fun hh => hni (by rw [← List.cons_append]; exact List.mem_append_left _ hh)) hz)
        · have htr' : L2[y] = true := by simpa using htr
          try simp only [h1, h4, h25, h26, h27, w64s hj62, SW, wpD, evDL, evDM, evD, bldLD, List.contains_cons, List.contains_nil, Nat.reduceBEq, beq_self_eq_true, Nat.reduceMul, Nat.reduceSub, wpSp, Option.bind_some, Option.some.injEq, exists_eq_left', exists_eq_left, reduceIte, if_false, if_true, Nat.reduceEqDiff, Nat.reduceAdd, Nat.reduceLeDiff, Int.reduceEq, Int.reduceLT, Int.reduceLE, Int.reduceToNat, decide_true, decide_false, DV.bool.injEq, DV.int.injEq, DV.mp.injEq, DV.msl.injEq, DV.tup.injEq, DV.agg.injEq, DV.fn.injEq, true_implies, forall_const, reduceCtorEq, implies_true, ne_eq, DMem.mt]
          exact ⟨(nextF f n).length - (j + 1), M, by omega, SubD.refl _, j + 1, L2, q2, by omega, rfl, hI2, hm2, hcl2, htake _ hdone (by rw [List.getElem?_eq_getElem hyL, htr']), rfl⟩
      · have : j = (nextF f n).length := by omega
        subst this
        obtain ⟨d', ht, hq', hne⟩ := hI2.que.tail .i64
        simp only [ht, h1, h4, h25, h26, h27, SW, wpD, evDL, evDM, evD, bldLD, List.contains_cons, List.contains_nil, Nat.reduceBEq, beq_self_eq_true, Nat.reduceMul, Nat.reduceSub, wpSp, Option.bind_some, Option.some.injEq, exists_eq_left', exists_eq_left, reduceIte, if_false, if_true, Nat.reduceEqDiff, Nat.reduceAdd, Nat.reduceLeDiff, Int.reduceEq, Int.reduceLT, Int.reduceLE, Int.reduceToNat, decide_true, decide_false, DV.bool.injEq, DV.int.injEq, DV.mp.injEq, DV.msl.injEq, DV.tup.injEq, DV.agg.injEq, DV.fn.injEq, true_implies, forall_const, reduceCtorEq, implies_true, ne_eq, DMem.mt]
        have hsm := hI2.small
        simp only [List.length_cons] at hsm
        refine ⟨_, M, ?_, SubD.refl _, L2, q2, ⟨hI2.len, hI2.out, hq', hne p hI2.ne, fun x hx => hI2.inq x (List.mem_cons_of_mem _ hx), hI2.snd, hI2.z, by omega⟩, rfl, fun i y hi hni hy => ?_⟩
        · omega
        · by_cases e : i = n
          · subst e
            simp only [nxF, List.mem_map] at hy
            obtain ⟨z, hz, rfl⟩ := hy
            exact hdone z (by rwa [List.take_of_length_le (Nat.le_refl _)])
          · exact hcl2 i y hi (by simp only [List.mem_cons, not_or]; exact ⟨by omega, hni⟩) hy
    · have hq0 : q = [] := List.eq_nil_of_length_eq_zero (by omega)
      subst hq0
      simp only [S5_flow_Reached, MU_flow_Reached, h1, h4, SW, wpD, evDL, evDM, evD, bldLD, List.contains_cons, List.contains_nil, Nat.reduceBEq, beq_self_eq_true, Nat.reduceMul, Nat.reduceSub, wpSp, Option.bind_some, Option.some.injEq, exists_eq_left', exists_eq_left, reduceIte, if_false, if_true, Nat.reduceEqDiff, Nat.reduceAdd, Nat.reduceLeDiff, Int.reduceEq, Int.reduceLT, Int.reduceLE, Int.reduceToNat, decide_true, decide_false, DV.bool.injEq, DV.int.injEq, DV.mp.injEq, DV.msl.injEq, DV.tup.injEq, DV.agg.injEq, DV.fn.injEq, true_implies, forall_const, reduceCtorEq, implies_true, ne_eq, DMem.mt]
      have hL : L = reachF f := reachB_eq (nxF f) (by omega) (fun i y hy => nxF_lt h hy) hI.len hI.z hI.snd fun i y hi hy _ => hcl i y hi (by simp) hy
      have ho := hI.out
      rw [hL] at ho
      refine ⟨DMem.mt.ins p ⟨4, f.code.length, (reachF f).map .bool⟩, SubD.one ho, Thaw.one rfl (thawedL_map (fun _ => rfl) _), ?_⟩
      rw [fz_msl (DMem.ins_same _ _ _) 3 0 _ _ (Nat.le_refl _)]
      have hlen : (reachF f).length = f.code.length := reachB_len _ _
      simp only [List.drop_zero, List.map_map, slB, hlen]
      exact fun m v hv => hv
end Go.Proofs.Ytggejjeneoaakaa.Pf
