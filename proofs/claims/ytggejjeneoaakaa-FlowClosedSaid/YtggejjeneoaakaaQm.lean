/- FlowClosed: the law at every input. No condition. -/
import Derived.Test.YtggejjeneoaakaaQl
namespace Go.Proofs.Ytggejjeneoaakaa.Pf
open Go Go.RowKit Go.Proofs Go.Proofs.Ytggejjeneoaakaa.Mw Go.Proofs.Ytggejjeneoaakaa.Sx
set_option linter.unusedVariables false
set_option linter.unusedSimpArgs false
set_option maxRecDepth 4000
theorem reachF_len (f : Fnc) : (reachF f).length = f.code.length := reachB_len _ _
theorem reachF_zero {f : Fnc} (h : 1 ≤ f.code.length) : (reachF f)[0]? = some true := (sweepN_le (nxF f) f.code.length (startB f.code.length)).get (startB_zero h)
theorem reachF_closed {f : Fnc} (h : fmayB f.code = true) {i y : Nat} (hi : (reachF f)[i]? = some true) (hy : y ∈ nxF f i) : (reachF f)[y]? = some true :=
  closed_of_fix (nxF f) (sweepN_fix (nxF f) f.code.length (startB f.code.length) (by simp [startB])) i y hi hy (by rw [show (sweepN (nxF f) f.code.length (startB f.code.length)).length = (reachF f).length from rfl, reachF_len]; exact nxF_lt h hy)
theorem reachF_sound (f : Fnc) : SoundB (nxF f) (reachF f) := SoundB.sweepN (nxF f) (startB_sound (nxF f) f.code.length)
def frF (f : Fnc) : Nat → List Bool
  | 0 => startB f.code.length
  | k + 1 => if (reachF f)[k]? = some true then mark (frF f k) (nxF f k) else frF f k
theorem frF_len (f : Fnc) : ∀ k, (frF f k).length = f.code.length
  | 0 => by simp [frF, startB]
  | k + 1 => by
    unfold frF; split
    · rw [← (mark_le _ _).len, frF_len f k]
    · exact frF_len f k
theorem frF_le (f : Fnc) (k : Nat) : LeB (frF f k) (frF f (k + 1)) := by
  conv => rhs; unfold frF
  split
  · exact mark_le _ _
  · exact LeB.refl _
theorem frF_mono (f : Fnc) : ∀ {k m : Nat}, k ≤ m → LeB (frF f k) (frF f m)
  | k, 0, h => by have : k = 0 := by omega
                  subst this; exact LeB.refl _
  | k, m + 1, h => by
    by_cases e : k = m + 1
    · subst e; exact LeB.refl _
    · exact (frF_mono f (show k ≤ m by omega)).trans (frF_le f m)
theorem frF_sound (f : Fnc) : ∀ k, SoundB (nxF f) (frF f k)
  | 0 => startB_sound _ _
  | k + 1 => by
    unfold frF; split
    · rename_i h; exact (frF_sound f k).mark (nxF f) (reachF_sound f k h)
    · exact frF_sound f k
theorem frF_all {f : Fnc} (h : fmayB f.code = true) : frF f f.code.length = reachF f := by
  obtain ⟨h1, h2⟩ := fmay_le h
  have hl := frF_len f f.code.length
  refine reachB_eq (nxF f) (by omega) (fun i y hy => nxF_lt h hy) hl ((frF_mono f (Nat.zero_le _)).get (startB_zero h1)) (frF_sound f _) fun i y hi hy hyl => ?_
  have hi' : (reachF f)[i]? = some true := by
    have all : ∀ i, Rch (nxF f) i → (reachF f)[i]? = some true := fun i hi => by
      induction hi with
      | zero => exact reachF_zero h1
      | step _ hy ih => exact reachF_closed h ih hy
    exact all i (frF_sound f _ i hi)
  have hil : i < f.code.length := by
    rcases Nat.lt_or_ge i f.code.length with h | h
    · exact h
    · rw [List.getElem?_eq_none (by rw [hl]; exact h)] at hi; cases hi
  refine (frF_mono f (show i + 1 ≤ f.code.length by omega)).get ?_
  unfold frF
  rw [if_pos hi']
  exact mark_get hy (by rw [frF_len]; exact nxF_lt h hy)
def midF (f : Fnc) (i j : Nat) : List Bool := if (reachF f)[i]? = some true then mark (frF f i) ((nxF f i).take j) else frF f i
theorem midF_len (f : Fnc) (i j : Nat) : (midF f i j).length = f.code.length := by
  unfold midF; split
  · rw [← (mark_le _ _).len, frF_len]
  · exact frF_len f i
theorem midF_zero (f : Fnc) (i : Nat) : midF f i 0 = frF f i := by unfold midF; split <;> simp [mark]
theorem midF_end (f : Fnc) (i : Nat) : midF f i (nextF f i).length = frF f (i + 1) := by
  conv => rhs; unfold frF
  unfold midF
  rw [List.take_of_length_le (by simp [nxF])]
theorem ix_slB0 {l : List Bool} {k : IntKind} (h : 0 < l.length) : ixD 1 (slB l) (.int k 0) = some (.ip (.bool l[0] :: (l.drop 1).map .bool)) := by
  have := @ix_slB l k 0 h
  simpa using this
theorem FlowClosed_pc (fs : List Fnc) (which : Int) (hs : SzP fs) : PC Try.prog F_swagelaw4_FlowClosed [.agg [slD Fnc.c fs], .int .i64 which] (fun d _ => d = .bool true) DMem.mt := by
  refine pc_swagelaw4_FlowClosed (by simp) ?_
  simp only [S_swagelaw4_FlowClosed, R_swagelaw4_FlowClosed, MU_swagelaw4_FlowClosed, awake4_pf, SW, wpD, evDL, evDM, evD, bldLD, List.contains_cons, List.contains_nil, Nat.reduceBEq, beq_self_eq_true, Nat.reduceMul, Nat.reduceSub, wpSp, Option.bind_some, Option.some.injEq, exists_eq_left', exists_eq_left, reduceIte, if_false, if_true, Nat.reduceEqDiff, Nat.reduceAdd, Nat.reduceLeDiff, Int.reduceEq, Int.reduceLT, Int.reduceLE, Int.reduceToNat, decide_true, decide_false, DV.bool.injEq, DV.int.injEq, DV.mp.injEq, DV.msl.injEq, DV.tup.injEq, DV.agg.injEq, DV.fn.injEq, true_implies, forall_const, reduceCtorEq, implies_true, ne_eq, DMem.mt, decide_eq_true_eq, decide_eq_false_iff_not]
  refine fun hne => ?_
  have hpos : 0 < fs.length := by omega
  have hlen : fs.length < 9223372036854775807 := by have := hs.1; omega
  have el : ((fs.length : Int) % 18446744073709551616) = fs.length := Int.emod_eq_of_lt (by omega) (by omega)
  have hr := tmod_bnd which fs.length (by omega)
  have hne' : ¬ ((fs.length : Int) = 0) := by omega
  simp only [raw0_swagelaw4_FlowClosed, P0_swagelaw4_FlowClosed, MU_swagelaw4_FlowClosed, el, hne', SW, wpD, evDL, evDM, evD, bldLD, List.contains_cons, List.contains_nil, Nat.reduceBEq, beq_self_eq_true, Nat.reduceMul, Nat.reduceSub, wpSp, Option.bind_some, Option.some.injEq, exists_eq_left', exists_eq_left, reduceIte, if_false, if_true, Nat.reduceEqDiff, Nat.reduceAdd, Nat.reduceLeDiff, Int.reduceEq, Int.reduceLT, Int.reduceLE, Int.reduceToNat, decide_true, decide_false, DV.bool.injEq, DV.int.injEq, DV.mp.injEq, DV.msl.injEq, DV.tup.injEq, DV.agg.injEq, DV.fn.injEq, true_implies, forall_const, reduceCtorEq, implies_true, ne_eq, DMem.mt]
  generalize (which % 18446744073709551616).tmod (fs.length : Int) = r at hr ⊢
  obtain ⟨n, rfl⟩ := Int.eq_ofNat_of_zero_le hr.1
  have hn : n < fs.length := by omega
  clear el
  rw [w64n n (by omega)]
  simp only [ix_slD Fnc.len hn, SW, wpD, evDL, evDM, evD, bldLD, List.contains_cons, List.contains_nil, Nat.reduceBEq, beq_self_eq_true, Nat.reduceMul, Nat.reduceSub, wpSp, Option.bind_some, Option.some.injEq, exists_eq_left', exists_eq_left, reduceIte, if_false, if_true, Nat.reduceEqDiff, Nat.reduceAdd, Nat.reduceLeDiff, Int.reduceEq, Int.reduceLT, Int.reduceLE, Int.reduceToNat, decide_true, decide_false, DV.bool.injEq, DV.int.injEq, DV.mp.injEq, DV.msl.injEq, DV.tup.injEq, DV.agg.injEq, DV.fn.injEq, true_implies, forall_const, reduceCtorEq, implies_true, ne_eq, DMem.mt]
  generalize fs[n] = f
  clear hn hr hne' hlen hpos hne hs
  simp only [S6_swagelaw4_FlowClosed, MU_swagelaw4_FlowClosed, SW, wpD, evDL, evDM, evD, bldLD, List.contains_cons, List.contains_nil, Nat.reduceBEq, beq_self_eq_true, Nat.reduceMul, Nat.reduceSub, wpSp, Option.bind_some, Option.some.injEq, exists_eq_left', exists_eq_left, reduceIte, if_false, if_true, Nat.reduceEqDiff, Nat.reduceAdd, Nat.reduceLeDiff, Int.reduceEq, Int.reduceLT, Int.reduceLE, Int.reduceToNat, decide_true, decide_false, DV.bool.injEq, DV.int.injEq, DV.mp.injEq, DV.msl.injEq, DV.tup.injEq, DV.agg.injEq, DV.fn.injEq, true_implies, forall_const, reduceCtorEq, implies_true, ne_eq, DMem.mt]
  refine Pu.pc (Reached_pt f).pu ?_
  cases hf : fmayB f.code with
  | false =>
    have e : reachR f = ([], 400) := by simp only [reachR, hf]; rfl
    rw [e]
    simp only [S5_swagelaw4_FlowClosed, MU_swagelaw4_FlowClosed, NumF_pf, SW, wpD, evDL, evDM, evD, bldLD, List.contains_cons, List.contains_nil, Nat.reduceBEq, beq_self_eq_true, Nat.reduceMul, Nat.reduceSub, wpSp, Option.bind_some, Option.some.injEq, exists_eq_left', exists_eq_left, reduceIte, if_false, if_true, Nat.reduceEqDiff, Nat.reduceAdd, Nat.reduceLeDiff, Int.reduceEq, Int.reduceLT, Int.reduceLE, Int.reduceToNat, decide_true, decide_false, DV.bool.injEq, DV.int.injEq, DV.mp.injEq, DV.msl.injEq, DV.tup.injEq, DV.agg.injEq, DV.fn.injEq, true_implies, forall_const, reduceCtorEq, implies_true, ne_eq, DMem.mt]
    rfl
  | true =>
    have e : reachR f = (reachF f, 0) := by simp only [reachR, hf]; rfl
    rw [e]
    obtain ⟨hl1, hl2⟩ := fmay_le hf
    have hrl := reachF_len f
    have h0 : 0 < (reachF f).length := by omega
    have hr0 : (reachF f)[0] = true := by
      have := reachF_zero hl1
      rw [List.getElem?_eq_getElem h0] at this; simpa using this
    have c1 : ¬ ((f.code.length : Int) < 1) := by omega
    simp only [S5_swagelaw4_FlowClosed, MU_swagelaw4_FlowClosed, NumF_pf, ix_slB0 h0, hr0, hrl, c1, SW, wpD, evDL, evDM, evD, bldLD, List.contains_cons, List.contains_nil, Nat.reduceBEq, beq_self_eq_true, Nat.reduceMul, Nat.reduceSub, wpSp, Option.bind_some, Option.some.injEq, exists_eq_left', exists_eq_left, reduceIte, if_false, if_true, Nat.reduceEqDiff, Nat.reduceAdd, Nat.reduceLeDiff, Int.reduceEq, Int.reduceLT, Int.reduceLE, Int.reduceToNat, decide_true, decide_false, DV.bool.injEq, DV.int.injEq, DV.mp.injEq, DV.msl.injEq, DV.tup.injEq, DV.agg.injEq, DV.fn.injEq, true_implies, forall_const, reduceCtorEq, implies_true, ne_eq, DMem.mt]
    refine mkB (by omega) fun p M1 _ hM1 => ?_
    simp only [ixM0 (show 0 < f.code.length by omega), SW, wpD, evDL, evDM, evD, bldLD, List.contains_cons, List.contains_nil, Nat.reduceBEq, beq_self_eq_true, Nat.reduceMul, Nat.reduceSub, wpSp, Option.bind_some, Option.some.injEq, exists_eq_left', exists_eq_left, reduceIte, if_false, if_true, Nat.reduceEqDiff, Nat.reduceAdd, Nat.reduceLeDiff, Int.reduceEq, Int.reduceLT, Int.reduceLE, Int.reduceToNat, decide_true, decide_false, DV.bool.injEq, DV.int.injEq, DV.mp.injEq, DV.msl.injEq, DV.tup.injEq, DV.agg.injEq, DV.fn.injEq, true_implies, forall_const, reduceCtorEq, implies_true, ne_eq, DMem.mt]
    refine stB (hM1 ▸ DMem.ins_same _ _ _) (by simp; omega) (by simp) fun M2 hM2 => ?_
    try simp only [SW, wpD, evDL, evDM, evD, bldLD, List.contains_cons, List.contains_nil, Nat.reduceBEq, beq_self_eq_true, Nat.reduceMul, Nat.reduceSub, wpSp, Option.bind_some, Option.some.injEq, exists_eq_left', exists_eq_left, reduceIte, if_false, if_true, Nat.reduceEqDiff, Nat.reduceAdd, Nat.reduceLeDiff, Int.reduceEq, Int.reduceLT, Int.reduceLE, Int.reduceToNat, decide_true, decide_false, DV.bool.injEq, DV.int.injEq, DV.mp.injEq, DV.msl.injEq, DV.tup.injEq, DV.agg.injEq, DV.fn.injEq, true_implies, forall_const, reduceCtorEq, implies_true, ne_eq, DMem.mt]
    refine ⟨fun k δ M => ∃ i, i ≤ f.code.length ∧ k = f.code.length - i ∧ M p = some ⟨4, f.code.length, (frF f i).map .bool⟩ ∧ δ 5 = .ip f.c ∧ δ 6 = slB (reachF f) ∧ δ 8 = .msl p 0 f.code.length f.code.length ∧ δ 9 = .int .i64 i,
      f.code.length, ⟨0, Nat.zero_le _, rfl, by rw [hM2, DMem.ins_same]; rfl, rfl, rfl, rfl, rfl⟩, ?_⟩
    rintro k δ M ⟨i, hi, rfl, hMp, h5, h6, h8, h9⟩
    simp only [S3_swagelaw4_FlowClosed, MU_swagelaw4_FlowClosed, h5, h6, h8, h9, hrl, SW, wpD, evDL, evDM, evD, bldLD, List.contains_cons, List.contains_nil, Nat.reduceBEq, beq_self_eq_true, Nat.reduceMul, Nat.reduceSub, wpSp, Option.bind_some, Option.some.injEq, exists_eq_left', exists_eq_left, reduceIte, if_false, if_true, Nat.reduceEqDiff, Nat.reduceAdd, Nat.reduceLeDiff, Int.reduceEq, Int.reduceLT, Int.reduceLE, Int.reduceToNat, decide_true, decide_false, DV.bool.injEq, DV.int.injEq, DV.mp.injEq, DV.msl.injEq, DV.tup.injEq, DV.agg.injEq, DV.fn.injEq, true_implies, forall_const, reduceCtorEq, implies_true, ne_eq, DMem.mt, decide_eq_true_eq, decide_eq_false_iff_not]
    refine ⟨fun hlt => ?_, fun hge => ?_⟩
    · have hil : i < f.code.length := by omega
      have hi62 : i < 4611686018427387905 := by omega
      refine Pu.pc (Next_pu f i) ?_
      rw [nextR_in hf hil]
      simp only [S2_swagelaw4_FlowClosed, MU_swagelaw4_FlowClosed, NumF_pf, h5, h6, h8, h9, SW, wpD, evDL, evDM, evD, bldLD, List.contains_cons, List.contains_nil, Nat.reduceBEq, beq_self_eq_true, Nat.reduceMul, Nat.reduceSub, wpSp, Option.bind_some, Option.some.injEq, exists_eq_left', exists_eq_left, reduceIte, if_false, if_true, Nat.reduceEqDiff, Nat.reduceAdd, Nat.reduceLeDiff, Int.reduceEq, Int.reduceLT, Int.reduceLE, Int.reduceToNat, decide_true, decide_false, DV.bool.injEq, DV.int.injEq, DV.mp.injEq, DV.msl.injEq, DV.tup.injEq, DV.agg.injEq, DV.fn.injEq, true_implies, forall_const, reduceCtorEq, implies_true, ne_eq, DMem.mt]
      refine ⟨fun k δ M => ∃ j, j ≤ (nextF f i).length ∧ k = (nextF f i).length - j ∧ M p = some ⟨4, f.code.length, (midF f i j).map .bool⟩ ∧ δ 5 = .ip f.c ∧ δ 6 = slB (reachF f) ∧ δ 8 = .msl p 0 f.code.length f.code.length ∧ δ 9 = .int .i64 i ∧ δ 10 = slI (nextF f i) ∧ δ 12 = .int .i64 j,
        (nextF f i).length, ⟨0, Nat.zero_le _, rfl, by rw [midF_zero]; exact hMp, h5, h6, h8, h9, rfl, rfl⟩, ?_⟩
      rintro k δ M ⟨j, hj, rfl, hMp, h5, h6, h8, h9, h10, h12⟩
      have hnl := nextF_len f i
      have hj62 : j < 4611686018427387905 := by omega
      simp only [S1_swagelaw4_FlowClosed, MU_swagelaw4_FlowClosed, h5, h6, h8, h9, h10, h12, hrl, SW, wpD, evDL, evDM, evD, bldLD, List.contains_cons, List.contains_nil, Nat.reduceBEq, beq_self_eq_true, Nat.reduceMul, Nat.reduceSub, wpSp, Option.bind_some, Option.some.injEq, exists_eq_left', exists_eq_left, reduceIte, if_false, if_true, Nat.reduceEqDiff, Nat.reduceAdd, Nat.reduceLeDiff, Int.reduceEq, Int.reduceLT, Int.reduceLE, Int.reduceToNat, decide_true, decide_false, DV.bool.injEq, DV.int.injEq, DV.mp.injEq, DV.msl.injEq, DV.tup.injEq, DV.agg.injEq, DV.fn.injEq, true_implies, forall_const, reduceCtorEq, implies_true, ne_eq, DMem.mt, decide_eq_true_eq, decide_eq_false_iff_not]
      refine ⟨fun hlt2 => ?_, fun hge2 => ?_⟩
      · have hjl : j < (nextF f i).length := by omega
        have hmem : (nextF f i)[j] ∈ nextF f i := List.getElem_mem hjl
        obtain ⟨hy0, hy1⟩ := nextF_mem hf hmem
        obtain ⟨y, hy⟩ := Int.eq_ofNat_of_zero_le hy0
        rw [hy] at hy1 hmem
        have hyl : y < f.code.length := by omega
        have hyr : y < (reachF f).length := by omega
        have hir : i < (reachF f).length := by omega
        have hyn : y ∈ nxF f i := by simp only [nxF, List.mem_map]; exact ⟨_, hmem, by simp⟩
        have c2 : ¬ ((y : Int) < 0) := by omega
        have c3 : ¬ ((f.code.length : Int) ≤ y) := by omega
        have hml := midF_len f i j
        have hym : y < (midF f i j).length := by omega
        have hcl : (reachF f)[i] = true → (reachF f)[y] = true := fun h => by
          have := reachF_closed hf (i := i) (y := y) (by rw [List.getElem?_eq_getElem hir, h]) hyn
          rw [List.getElem?_eq_getElem hyr] at this; simpa using this
        have htk : (nxF f i).take (j + 1) = (nxF f i).take j ++ [y] := by
          rw [List.take_succ_eq_append_getElem (by simp [nxF]; exact hjl)]
          congr 2
          simp only [nxF, List.getElem_map, hy, Int.toNat_natCast]
        simp only [ix_slI hjl, hy, ix_slB hyr, ix_slB hir, h5, h6, h8, h9, h10, h12, c2, c3, hrl, SW, wpD, evDL, evDM, evD, bldLD, List.contains_cons, List.contains_nil, Nat.reduceBEq, beq_self_eq_true, Nat.reduceMul, Nat.reduceSub, wpSp, Option.bind_some, Option.some.injEq, exists_eq_left', exists_eq_left, reduceIte, if_false, if_true, Nat.reduceEqDiff, Nat.reduceAdd, Nat.reduceLeDiff, Int.reduceEq, Int.reduceLT, Int.reduceLE, Int.reduceToNat, decide_true, decide_false, DV.bool.injEq, DV.int.injEq, DV.mp.injEq, DV.msl.injEq, DV.tup.injEq, DV.agg.injEq, DV.fn.injEq, true_implies, forall_const, reduceCtorEq, implies_true, ne_eq, DMem.mt]
        have hset : (midF f i j).set y (if (reachF f)[i] = true then true else (midF f i j)[y]) = midF f i (j + 1) := by
          unfold midF
          cases hri : (reachF f)[i] with
          | true =>
            simp only [List.getElem?_eq_getElem hir, hri, if_true, htk]
            simp only [mark, List.foldl_append, List.foldl_cons, List.foldl_nil]
          | false =>
            simp only [List.getElem?_eq_getElem hir, hri, Option.some.injEq, Bool.false_eq_true, if_false, List.set_getElem_self]
        have fin : ∀ M' : DMem, M' = M.ins p ⟨4, f.code.length, ((midF f i j).set y (if (reachF f)[i] = true then true else (midF f i j)[y])).map .bool⟩ → M' p = some ⟨4, f.code.length, (midF f i (j + 1)).map .bool⟩ := fun M' h => by rw [h, DMem.ins_same, hset]
        cases hri : (reachF f)[i] with
        | true =>
          rw [hri] at fin
          simp only [if_true] at fin
          cases hmy : (midF f i j)[y] with
          | true =>
            simp only [hcl hri, hri, hmy, raw1_swagelaw4_FlowClosed, P1_swagelaw4_FlowClosed, h5, h6, h8, h9, h10, h12, ix_slI hjl, hy, ix_slB hyr, ix_slB hir, ixM hyl, hMp, get_map .bool (midF f i j) hym, w64s hj62, SW, wpD, evDL, evDM, evD, bldLD, List.contains_cons, List.contains_nil, Nat.reduceBEq, beq_self_eq_true, Nat.reduceMul, Nat.reduceSub, wpSp, Option.bind_some, Option.some.injEq, exists_eq_left', exists_eq_left, reduceIte, if_false, if_true, Nat.reduceEqDiff, Nat.reduceAdd, Nat.reduceLeDiff, Int.reduceEq, Int.reduceLT, Int.reduceLE, Int.reduceToNat, decide_true, decide_false, DV.bool.injEq, DV.int.injEq, DV.mp.injEq, DV.msl.injEq, DV.tup.injEq, DV.agg.injEq, DV.fn.injEq, true_implies, forall_const, reduceCtorEq, implies_true, ne_eq, DMem.mt]
            refine stB hMp hym (by omega) fun M3 hM3 => ?_
            try simp only [h5, h6, h8, h9, h10, h12, w64s hj62, SW, wpD, evDL, evDM, evD, bldLD, List.contains_cons, List.contains_nil, Nat.reduceBEq, beq_self_eq_true, Nat.reduceMul, Nat.reduceSub, wpSp, Option.bind_some, Option.some.injEq, exists_eq_left', exists_eq_left, reduceIte, if_false, if_true, Nat.reduceEqDiff, Nat.reduceAdd, Nat.reduceLeDiff, Int.reduceEq, Int.reduceLT, Int.reduceLE, Int.reduceToNat, decide_true, decide_false, DV.bool.injEq, DV.int.injEq, DV.mp.injEq, DV.msl.injEq, DV.tup.injEq, DV.agg.injEq, DV.fn.injEq, true_implies, forall_const, reduceCtorEq, implies_true, ne_eq, DMem.mt]
            exact ⟨(nextF f i).length - (j + 1), M3, by omega, SubD.refl _, j + 1, by omega, rfl, fin M3 hM3, rfl⟩
          | false =>
            simp only [hcl hri, hri, hmy, raw1_swagelaw4_FlowClosed, P1_swagelaw4_FlowClosed, h5, h6, h8, h9, h10, h12, ix_slI hjl, hy, ix_slB hyr, ix_slB hir, ixM hyl, hMp, get_map .bool (midF f i j) hym, w64s hj62, SW, wpD, evDL, evDM, evD, bldLD, List.contains_cons, List.contains_nil, Nat.reduceBEq, beq_self_eq_true, Nat.reduceMul, Nat.reduceSub, wpSp, Option.bind_some, Option.some.injEq, exists_eq_left', exists_eq_left, reduceIte, if_false, if_true, Nat.reduceEqDiff, Nat.reduceAdd, Nat.reduceLeDiff, Int.reduceEq, Int.reduceLT, Int.reduceLE, Int.reduceToNat, decide_true, decide_false, DV.bool.injEq, DV.int.injEq, DV.mp.injEq, DV.msl.injEq, DV.tup.injEq, DV.agg.injEq, DV.fn.injEq, true_implies, forall_const, reduceCtorEq, implies_true, ne_eq, DMem.mt]
            refine stB hMp hym (by omega) fun M3 hM3 => ?_
            try simp only [h5, h6, h8, h9, h10, h12, w64s hj62, SW, wpD, evDL, evDM, evD, bldLD, List.contains_cons, List.contains_nil, Nat.reduceBEq, beq_self_eq_true, Nat.reduceMul, Nat.reduceSub, wpSp, Option.bind_some, Option.some.injEq, exists_eq_left', exists_eq_left, reduceIte, if_false, if_true, Nat.reduceEqDiff, Nat.reduceAdd, Nat.reduceLeDiff, Int.reduceEq, Int.reduceLT, Int.reduceLE, Int.reduceToNat, decide_true, decide_false, DV.bool.injEq, DV.int.injEq, DV.mp.injEq, DV.msl.injEq, DV.tup.injEq, DV.agg.injEq, DV.fn.injEq, true_implies, forall_const, reduceCtorEq, implies_true, ne_eq, DMem.mt]
            exact ⟨(nextF f i).length - (j + 1), M3, by omega, SubD.refl _, j + 1, by omega, rfl, fin M3 hM3, rfl⟩
        | false =>
          rw [hri] at fin
          simp only [Bool.false_eq_true, if_false] at fin
          cases hmy : (midF f i j)[y] with
          | true =>
            rw [hmy] at fin
            simp only [hri, hmy, raw1_swagelaw4_FlowClosed, P1_swagelaw4_FlowClosed, h5, h6, h8, h9, h10, h12, ix_slI hjl, hy, ix_slB hyr, ix_slB hir, ixM hyl, hMp, get_map .bool (midF f i j) hym, w64s hj62, SW, wpD, evDL, evDM, evD, bldLD, List.contains_cons, List.contains_nil, Nat.reduceBEq, beq_self_eq_true, Nat.reduceMul, Nat.reduceSub, wpSp, Option.bind_some, Option.some.injEq, exists_eq_left', exists_eq_left, reduceIte, if_false, if_true, Nat.reduceEqDiff, Nat.reduceAdd, Nat.reduceLeDiff, Int.reduceEq, Int.reduceLT, Int.reduceLE, Int.reduceToNat, decide_true, decide_false, DV.bool.injEq, DV.int.injEq, DV.mp.injEq, DV.msl.injEq, DV.tup.injEq, DV.agg.injEq, DV.fn.injEq, true_implies, forall_const, reduceCtorEq, implies_true, ne_eq, DMem.mt]
            refine stB hMp hym (by omega) fun M3 hM3 => ?_
            try simp only [h5, h6, h8, h9, h10, h12, w64s hj62, SW, wpD, evDL, evDM, evD, bldLD, List.contains_cons, List.contains_nil, Nat.reduceBEq, beq_self_eq_true, Nat.reduceMul, Nat.reduceSub, wpSp, Option.bind_some, Option.some.injEq, exists_eq_left', exists_eq_left, reduceIte, if_false, if_true, Nat.reduceEqDiff, Nat.reduceAdd, Nat.reduceLeDiff, Int.reduceEq, Int.reduceLT, Int.reduceLE, Int.reduceToNat, decide_true, decide_false, DV.bool.injEq, DV.int.injEq, DV.mp.injEq, DV.msl.injEq, DV.tup.injEq, DV.agg.injEq, DV.fn.injEq, true_implies, forall_const, reduceCtorEq, implies_true, ne_eq, DMem.mt]
            exact ⟨(nextF f i).length - (j + 1), M3, by omega, SubD.refl _, j + 1, by omega, rfl, fin M3 hM3, rfl⟩
          | false =>
            rw [hmy] at fin
            simp only [hri, hmy, raw1_swagelaw4_FlowClosed, P1_swagelaw4_FlowClosed, h5, h6, h8, h9, h10, h12, ix_slI hjl, hy, ix_slB hyr, ix_slB hir, ixM hyl, hMp, get_map .bool (midF f i j) hym, w64s hj62, SW, wpD, evDL, evDM, evD, bldLD, List.contains_cons, List.contains_nil, Nat.reduceBEq, beq_self_eq_true, Nat.reduceMul, Nat.reduceSub, wpSp, Option.bind_some, Option.some.injEq, exists_eq_left', exists_eq_left, reduceIte, if_false, if_true, Nat.reduceEqDiff, Nat.reduceAdd, Nat.reduceLeDiff, Int.reduceEq, Int.reduceLT, Int.reduceLE, Int.reduceToNat, decide_true, decide_false, DV.bool.injEq, DV.int.injEq, DV.mp.injEq, DV.msl.injEq, DV.tup.injEq, DV.agg.injEq, DV.fn.injEq, true_implies, forall_const, reduceCtorEq, implies_true, ne_eq, DMem.mt]
            refine stB hMp hym (by omega) fun M3 hM3 => ?_
            try simp only [h5, h6, h8, h9, h10, h12, w64s hj62, SW, wpD, evDL, evDM, evD, bldLD, List.contains_cons, List.contains_nil, Nat.reduceBEq, beq_self_eq_true, Nat.reduceMul, Nat.reduceSub, wpSp, Option.bind_some, Option.some.injEq, exists_eq_left', exists_eq_left, reduceIte, if_false, if_true, Nat.reduceEqDiff, Nat.reduceAdd, Nat.reduceLeDiff, Int.reduceEq, Int.reduceLT, Int.reduceLE, Int.reduceToNat, decide_true, decide_false, DV.bool.injEq, DV.int.injEq, DV.mp.injEq, DV.msl.injEq, DV.tup.injEq, DV.agg.injEq, DV.fn.injEq, true_implies, forall_const, reduceCtorEq, implies_true, ne_eq, DMem.mt]
            exact ⟨(nextF f i).length - (j + 1), M3, by omega, SubD.refl _, j + 1, by omega, rfl, fin M3 hM3, rfl⟩
      · have : j = (nextF f i).length := by omega
        subst this
        simp only [h5, h6, h8, h9, h10, h12, w64s hi62, SW, wpD, evDL, evDM, evD, bldLD, List.contains_cons, List.contains_nil, Nat.reduceBEq, beq_self_eq_true, Nat.reduceMul, Nat.reduceSub, wpSp, Option.bind_some, Option.some.injEq, exists_eq_left', exists_eq_left, reduceIte, if_false, if_true, Nat.reduceEqDiff, Nat.reduceAdd, Nat.reduceLeDiff, Int.reduceEq, Int.reduceLT, Int.reduceLE, Int.reduceToNat, decide_true, decide_false, DV.bool.injEq, DV.int.injEq, DV.mp.injEq, DV.msl.injEq, DV.tup.injEq, DV.agg.injEq, DV.fn.injEq, true_implies, forall_const, reduceCtorEq, implies_true, ne_eq, DMem.mt]
        rw [midF_end] at hMp
        exact ⟨f.code.length - (i + 1), M, by omega, SubD.refl _, i + 1, by omega, rfl, hMp, rfl⟩
    · have : i = f.code.length := by omega
      subst this
      rw [frF_all hf] at hMp
      have hfz : fz M 4 (.msl p 0 f.code.length f.code.length) = slB (reachF f) := by
        rw [fz_msl hMp 3 0 _ _ (Nat.le_refl _), List.drop_zero, List.map_map]
        simp only [slB, hrl]
        rfl
      simp only [S4_swagelaw4_FlowClosed, MU_swagelaw4_FlowClosed, h5, h6, h8, h9, hfz, fz_slB, SameBools_pf _ _ (show (reachF f).length ≤ 4611686018427387904 by omega), SW, wpD, evDL, evDM, evD, bldLD, List.contains_cons, List.contains_nil, Nat.reduceBEq, beq_self_eq_true, Nat.reduceMul, Nat.reduceSub, wpSp, Option.bind_some, Option.some.injEq, exists_eq_left', exists_eq_left, reduceIte, if_false, if_true, Nat.reduceEqDiff, Nat.reduceAdd, Nat.reduceLeDiff, Int.reduceEq, Int.reduceLT, Int.reduceLE, Int.reduceToNat, decide_true, decide_false, DV.bool.injEq, DV.int.injEq, DV.mp.injEq, DV.msl.injEq, DV.tup.injEq, DV.agg.injEq, DV.fn.injEq, true_implies, forall_const, reduceCtorEq, implies_true, ne_eq, DMem.mt]
end Go.Proofs.Ytggejjeneoaakaa.Pf
