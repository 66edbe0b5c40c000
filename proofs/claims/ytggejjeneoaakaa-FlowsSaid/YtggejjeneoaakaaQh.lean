/- What is reached: the document's walk. No condition. -/
import Derived.Test.YtggejjeneoaakaaQg
namespace Go.Proofs.Ytggejjeneoaakaa.Pf
open Go Go.RowKit Go.Proofs Go.Proofs.Ytggejjeneoaakaa.Mw Go.Proofs.Ytggejjeneoaakaa.Sx
set_option linter.unusedVariables false
set_option linter.unusedSimpArgs false
set_option maxRecDepth 4000
theorem nextR_in {f : Fnc} (h : fmayB f.code = true) {n : Nat} (hn : n < f.code.length) : nextR f n = (nextF f n, 0) := by
  have : okNext f n = true := by
    simp only [okNext, h, Bool.not_true, Bool.false_or, Bool.not_or, Bool.and_eq_true, Bool.not_eq_true', decide_eq_false_iff_not]
    omega
  simp only [nextR, this, if_true, Int.toNat_natCast]
structure RchJ (f : Fnc) (p : Nat) (L : List Bool) (q : List Int) (M : DMem) (d : DV) : Prop where
  len : L.length = f.code.length
  out : M p = some ⟨4, f.code.length, L.map .bool⟩
  que : QueD M d q
  ne : blkD d ≠ some p
  inq : ∀ x ∈ q, ∃ i : Nat, x = i ∧ i < f.code.length ∧ Rch (nxF f) i
  snd : SoundB (nxF f) L
  z : L[0]? = some true ∨ (0 : Int) ∈ q
  small : 3 * unm L + q.length ≤ 300
  cl : ∀ i y : Nat, L[i]? = some true → y ∈ nxF f i → L[y]? = some true ∨ (y : Int) ∈ q
theorem ReachedR_pu (f : Fnc) : Pu Try.prog F_swageref1_Reached [.agg f.c] (.tup [slB (reachR f).1, .int .i64 (reachR f).2]) := by
  refine Pu.of (pc_swageref1_Reached (by simp) ?_)
  simp only [S_swageref1_Reached, R_swageref1_Reached, MU_swageref1_Reached, fz_ins, fz_fnca, FuncMay_pf, SW, wpD, evDL, evDM, evD, bldLD, List.contains_cons, List.contains_nil, Nat.reduceBEq, beq_self_eq_true, Nat.reduceMul, Nat.reduceSub, wpSp, Option.bind_some, Option.some.injEq, exists_eq_left', exists_eq_left, reduceIte, if_false, if_true, Nat.reduceEqDiff, Nat.reduceAdd, Nat.reduceLeDiff, Int.reduceEq, Int.reduceLT, Int.reduceLE, Int.reduceToNat, decide_true, decide_false, DV.bool.injEq, DV.int.injEq, DV.mp.injEq, DV.msl.injEq, DV.tup.injEq, DV.agg.injEq, DV.fn.injEq, true_implies, forall_const, reduceCtorEq, implies_true, ne_eq, DMem.mt]
  refine ⟨fun h => ?_, fun h => ?_⟩
  · have e : reachR f = ([], 400) := by simp only [Bool.not_eq_true'] at h; simp only [reachR, h]; rfl
    rw [e]
    rfl
  · simp only [Bool.not_eq_false'] at h
    have e : reachR f = (reachF f, 0) := by simp only [reachR, h]; rfl
    obtain ⟨hl1, hl2⟩ := fmay_le h
    rw [e]
    refine mkB (by omega) fun p M1 _ hM1 => ?_
    try simp only [SW, wpD, evDL, evDM, evD, bldLD, List.contains_cons, List.contains_nil, Nat.reduceBEq, beq_self_eq_true, Nat.reduceMul, Nat.reduceSub, wpSp, Option.bind_some, Option.some.injEq, exists_eq_left', exists_eq_left, reduceIte, if_false, if_true, Nat.reduceEqDiff, Nat.reduceAdd, Nat.reduceLeDiff, Int.reduceEq, Int.reduceLT, Int.reduceLE, Int.reduceToNat, decide_true, decide_false, DV.bool.injEq, DV.int.injEq, DV.mp.injEq, DV.msl.injEq, DV.tup.injEq, DV.agg.injEq, DV.fn.injEq, true_implies, forall_const, reduceCtorEq, implies_true, ne_eq, DMem.mt]
    refine fun b M2 hb hM2 => ?_
    have hbp : p ≠ b := by rintro rfl; rw [hM1, DMem.ins_same] at hb; cases hb
    refine ⟨fun k δ M => ∃ L q, RchJ f p L q M (δ 5) ∧ k = 3 * unm L + q.length ∧ δ 1 = .ip f.c ∧ δ 4 = .msl p 0 f.code.length f.code.length,
      _, ⟨List.replicate f.code.length false, [0], ⟨by simp, by rw [hM2, DMem.ins_ne _ _ hbp, hM1, DMem.ins_same], ?_, ?_, ?_, ?_, .inr (by simp), ?_, ?_⟩, rfl, rfl, rfl⟩, ?_⟩
    · exact .inr ⟨b, 0, 1, 1, 3, [], rfl, by rw [hM2, DMem.ins_same]; rfl, rfl, by omega, by simp, by omega⟩
    · simp [blkD, DEnv.upd]; exact hbp.symm
    · intro x hx; simp at hx; exact ⟨0, by simp [hx], by omega, .zero⟩
    · intro i hi; rw [List.getElem?_replicate] at hi; split at hi <;> cases hi
    · unfold unm; simp; omega
    · intro i y hi hy
      rw [List.getElem?_replicate] at hi; split at hi <;> cases hi
    rintro k δ M ⟨L, q, hI, rfl, h1, h4⟩
    simp only [S2_swageref1_Reached, MU_swageref1_Reached, h1, h4, hI.que.len, SW, wpD, evDL, evDM, evD, bldLD, List.contains_cons, List.contains_nil, Nat.reduceBEq, beq_self_eq_true, Nat.reduceMul, Nat.reduceSub, wpSp, Option.bind_some, Option.some.injEq, exists_eq_left', exists_eq_left, reduceIte, if_false, if_true, Nat.reduceEqDiff, Nat.reduceAdd, Nat.reduceLeDiff, Int.reduceEq, Int.reduceLT, Int.reduceLE, Int.reduceToNat, decide_true, decide_false, DV.bool.injEq, DV.int.injEq, DV.mp.injEq, DV.msl.injEq, DV.tup.injEq, DV.agg.injEq, DV.fn.injEq, true_implies, forall_const, reduceCtorEq, implies_true, ne_eq, DMem.mt, decide_eq_true_eq, decide_eq_false_iff_not]
    refine ⟨fun hpos => ?_, fun hend => ?_⟩
    · obtain ⟨x, q, rfl⟩ : ∃ x q', q = x :: q' := by cases q with | nil => simp at hpos | cons x q' => exact ⟨x, q', rfl⟩
      obtain ⟨n, rfl, hnl, hrn⟩ := hI.inq x (by simp)
      have hnL : n < L.length := by rw [hI.len]; exact hnl
      obtain ⟨d', ht, hq', hne⟩ := hI.que.tail .i64
      have hsm := hI.small
      simp only [List.length_cons] at hsm
      try simp only [h1, h4, hI.que.head, ht, ixM hnl, hI.out, get_map .bool L hnL, SW, wpD, evDL, evDM, evD, bldLD, List.contains_cons, List.contains_nil, Nat.reduceBEq, beq_self_eq_true, Nat.reduceMul, Nat.reduceSub, wpSp, Option.bind_some, Option.some.injEq, exists_eq_left', exists_eq_left, reduceIte, if_false, if_true, Nat.reduceEqDiff, Nat.reduceAdd, Nat.reduceLeDiff, Int.reduceEq, Int.reduceLT, Int.reduceLE, Int.reduceToNat, decide_true, decide_false, DV.bool.injEq, DV.int.injEq, DV.mp.injEq, DV.msl.injEq, DV.tup.injEq, DV.agg.injEq, DV.fn.injEq, true_implies, forall_const, reduceCtorEq, implies_true, ne_eq, DMem.mt]
      refine ⟨fun htr => ?_, fun hfal => ?_⟩
      · refine ⟨_, M, ?_, SubD.refl _, L, q, ⟨hI.len, hI.out, hq', hne p hI.ne, fun x hx => hI.inq x (List.mem_cons_of_mem _ hx), hI.snd, ?_, by omega, fun i y hi hy => ?_⟩, rfl⟩
        · omega
        · rcases hI.z with hz | hz
          · exact .inl hz
          · rcases List.mem_cons.1 hz with hz | hz
            · have : n = 0 := by omega
              subst this; exact .inl (by rw [List.getElem?_eq_getElem hnL, htr])
            · exact .inr hz
        · rcases hI.cl i y hi hy with hz | hz
          · exact .inl hz
          · rcases List.mem_cons.1 hz with hz | hz
            · have : y = n := by omega
              subst this; exact .inl (by rw [List.getElem?_eq_getElem hnL, htr])
            · exact .inr hz
      · refine stB hI.out hnL (by rw [hI.len]; exact Nat.le_refl _) fun M3 hM3 => ?_
        have hu := unm_set hnL hfal
        try simp only [h1, h4, fz_fnca, SW, wpD, evDL, evDM, evD, bldLD, List.contains_cons, List.contains_nil, Nat.reduceBEq, beq_self_eq_true, Nat.reduceMul, Nat.reduceSub, wpSp, Option.bind_some, Option.some.injEq, exists_eq_left', exists_eq_left, reduceIte, if_false, if_true, Nat.reduceEqDiff, Nat.reduceAdd, Nat.reduceLeDiff, Int.reduceEq, Int.reduceLT, Int.reduceLE, Int.reduceToNat, decide_true, decide_false, DV.bool.injEq, DV.int.injEq, DV.mp.injEq, DV.msl.injEq, DV.tup.injEq, DV.agg.injEq, DV.fn.injEq, true_implies, forall_const, reduceCtorEq, implies_true, ne_eq, DMem.mt]
        refine Pu.pc (NextR_pu f n) ?_
        rw [nextR_in h hnl]
        have hnl2 := nextF_len f n
        have hq3 : QueD M3 d' q := by rw [hM3]; exact hq'.ins (hne p hI.ne) _
        simp only [S1_swageref1_Reached, MU_swageref1_Reached, h1, h4, SW, wpD, evDL, evDM, evD, bldLD, List.contains_cons, List.contains_nil, Nat.reduceBEq, beq_self_eq_true, Nat.reduceMul, Nat.reduceSub, wpSp, Option.bind_some, Option.some.injEq, exists_eq_left', exists_eq_left, reduceIte, if_false, if_true, Nat.reduceEqDiff, Nat.reduceAdd, Nat.reduceLeDiff, Int.reduceEq, Int.reduceLT, Int.reduceLE, Int.reduceToNat, decide_true, decide_false, DV.bool.injEq, DV.int.injEq, DV.mp.injEq, DV.msl.injEq, DV.tup.injEq, DV.agg.injEq, DV.fn.injEq, true_implies, forall_const, reduceCtorEq, implies_true, ne_eq, DMem.mt]
        refine hq3.app (by omega) (by omega) fun d2 M4 hq4 hg4 => ?_
        obtain ⟨g1, g2⟩ := hg4.blk (show M3 p = some ⟨4, f.code.length, (L.set n true).map .bool⟩ by rw [hM3, DMem.ins_same]) (hne p hI.ne)
        try simp only [h1, h4, SW, wpD, evDL, evDM, evD, bldLD, List.contains_cons, List.contains_nil, Nat.reduceBEq, beq_self_eq_true, Nat.reduceMul, Nat.reduceSub, wpSp, Option.bind_some, Option.some.injEq, exists_eq_left', exists_eq_left, reduceIte, if_false, if_true, Nat.reduceEqDiff, Nat.reduceAdd, Nat.reduceLeDiff, Int.reduceEq, Int.reduceLT, Int.reduceLE, Int.reduceToNat, decide_true, decide_false, DV.bool.injEq, DV.int.injEq, DV.mp.injEq, DV.msl.injEq, DV.tup.injEq, DV.agg.injEq, DV.fn.injEq, true_implies, forall_const, reduceCtorEq, implies_true, ne_eq, DMem.mt]
        have get : ∀ i : Nat, L[i]? = some true → (L.set n true)[i]? = some true := fun i hi => (LeB.set L n).get hi
        have hself : (L.set n true)[n]? = some true := List.getElem?_set_self hnL
        refine ⟨_, M4, ?_, SubD.refl _, L.set n true, q ++ nextF f n, ⟨by simp [hI.len], g1, hq4, g2, fun x hx => ?_, fun i hi => ?_, ?_, ?_, fun i y hi hy => ?_⟩, rfl⟩
        · simp only [List.length_append]; omega
        · rcases List.mem_append.1 hx with hx | hx
          · exact hI.inq x (List.mem_cons_of_mem _ hx)
          · obtain ⟨hy0, hy1⟩ := nextF_mem h hx
            obtain ⟨y, rfl⟩ := Int.eq_ofNat_of_zero_le hy0
            exact ⟨y, rfl, by omega, .step hrn (by simp only [nxF, List.mem_map]; exact ⟨_, hx, by simp⟩)⟩
        · rw [List.getElem?_set] at hi
          split at hi
          · rename_i e; subst e; exact hrn
          · exact hI.snd i hi
        · rcases hI.z with hz | hz
          · exact .inl (get 0 hz)
          · rcases List.mem_cons.1 hz with hz | hz
            · have : n = 0 := by omega
              subst this; exact .inl hself
            · exact .inr (List.mem_append_left _ hz)
        · simp only [List.length_append]; omega
        · rw [List.getElem?_set] at hi
          split at hi
          · rename_i e; subst e
            refine .inr (List.mem_append_right _ ?_)
            simp only [nxF, List.mem_map] at hy
            obtain ⟨z, hz, rfl⟩ := hy
            have := nextF_mem h hz
            rwa [Int.toNat_of_nonneg this.1]
          · rcases hI.cl i y hi hy with hz | hz
            · exact .inl (get y hz)
            · rcases List.mem_cons.1 hz with hz | hz
              · have : y = n := by omega
                subst this; exact .inl hself
              · exact .inr (List.mem_append_left _ hz)
    · have hq0 : q = [] := List.eq_nil_of_length_eq_zero (by omega)
      subst hq0
      simp only [S3_swageref1_Reached, MU_swageref1_Reached, h1, h4, SW, wpD, evDL, evDM, evD, bldLD, List.contains_cons, List.contains_nil, Nat.reduceBEq, beq_self_eq_true, Nat.reduceMul, Nat.reduceSub, wpSp, Option.bind_some, Option.some.injEq, exists_eq_left', exists_eq_left, reduceIte, if_false, if_true, Nat.reduceEqDiff, Nat.reduceAdd, Nat.reduceLeDiff, Int.reduceEq, Int.reduceLT, Int.reduceLE, Int.reduceToNat, decide_true, decide_false, DV.bool.injEq, DV.int.injEq, DV.mp.injEq, DV.msl.injEq, DV.tup.injEq, DV.agg.injEq, DV.fn.injEq, true_implies, forall_const, reduceCtorEq, implies_true, ne_eq, DMem.mt]
      have hL : L = reachF f := reachB_eq (nxF f) (by omega) (fun i y hy => nxF_lt h hy) hI.len (by rcases hI.z with hz | hz; exact hz; simp at hz) hI.snd fun i y hi hy _ => by
        rcases hI.cl i y hi hy with hz | hz
        · exact hz
        · simp at hz
      have ho := hI.out
      rw [hL] at ho
      rw [fz_msl ho 3 0 _ _ (Nat.le_refl _)]
      have hlen : (reachF f).length = f.code.length := reachB_len _ _
      simp only [List.drop_zero, List.map_map, slB, hlen]
      rfl
end Go.Proofs.Ytggejjeneoaakaa.Pf
