/- The flow of control: where an instruction may lead. No condition. -/
import Derived.Test.YtggejjeneoaakaaQa
namespace Go.Proofs.Ytggejjeneoaakaa.Pf
open Go Go.RowKit Go.Proofs Go.Proofs.Ytggejjeneoaakaa.Mw Go.Proofs.Ytggejjeneoaakaa.Sx
set_option linter.unusedVariables false
set_option linter.unusedSimpArgs false
set_option maxRecDepth 4000
theorem IndexFunc_int (g : Nat) (a b : List DV) (ha : FrozL a) (hb : FrozL b) (p : Int → Bool) (l : List Int) (hl : l.length ≤ 4611686018427387904)
    (hp : ∀ i (h : i < l.length), pf Try.prog g (a ++ .int .i64 l[i] :: b) = some (.bool (p l[i]))) :
    pf Try.prog F_slices_IndexFunc_int_int [slI l, .fn (.func g) a b] = some (.int .i64 (idxF p l)) := by
  refine pf_of (v := .int _ _) (pc_slices_IndexFunc_int_int (by simp) ?_) ((FrozL.nil.cons (Froz.fn ha hb)).cons (Froz.slI _)) rfl rfl
  simp only [S_slices_IndexFunc_int_int, R_slices_IndexFunc_int_int, MU_slices_IndexFunc_int_int, MU_slices_IndexFunc_int_int, S1_slices_IndexFunc_int_int, SW, wpD, evDL, evDM, evD, bldLD, List.contains_cons, List.contains_nil, Nat.reduceBEq, beq_self_eq_true, Nat.reduceMul, Nat.reduceSub, wpSp, Option.bind_some, Option.some.injEq, exists_eq_left', exists_eq_left, reduceIte, if_false, if_true, Nat.reduceEqDiff, Nat.reduceAdd, Nat.reduceLeDiff, Int.reduceEq, Int.reduceLT, Int.reduceLE, Int.reduceToNat, decide_true, decide_false, DV.bool.injEq, DV.int.injEq, DV.mp.injEq, DV.msl.injEq, DV.tup.injEq, DV.agg.injEq, DV.fn.injEq, true_implies, forall_const, reduceCtorEq, implies_true, ne_eq, DMem.mt]
  refine ⟨fun k δ M => ∃ i, i ≤ l.length ∧ k = l.length - i ∧ M = DMem.mt ∧ δ 0 = slI l ∧ δ 1 = .fn (.func g) a b ∧ δ 7 = .int .i64 l.length ∧ δ 8 = .int .i64 i ∧ (∀ j (h : j < l.length), j < i → p l[j] = false),
    l.length, ⟨0, Nat.zero_le _, rfl, rfl, rfl, rfl, rfl, rfl, fun j h hj => absurd hj (by omega)⟩, ?_⟩
  rintro k δ M ⟨i, hi, rfl, rfl, h0, h1, h7, h8, hj⟩
  simp only [h0, h1, h7, h8, SW, wpD, evDL, evDM, evD, bldLD, List.contains_cons, List.contains_nil, Nat.reduceBEq, beq_self_eq_true, Nat.reduceMul, Nat.reduceSub, wpSp, Option.bind_some, Option.some.injEq, exists_eq_left', exists_eq_left, reduceIte, if_false, if_true, Nat.reduceEqDiff, Nat.reduceAdd, Nat.reduceLeDiff, Int.reduceEq, Int.reduceLT, Int.reduceLE, Int.reduceToNat, decide_true, decide_false, DV.bool.injEq, DV.int.injEq, DV.mp.injEq, DV.msl.injEq, DV.tup.injEq, DV.agg.injEq, DV.fn.injEq, true_implies, forall_const, reduceCtorEq, implies_true, ne_eq, DMem.mt, decide_eq_true_eq, decide_eq_false_iff_not]
  refine ⟨fun h => ?_, fun h => ?_⟩
  · have hlt : i < l.length := by omega
    simp only [ix_slI hlt, h0, h1, h7, h8, SW, wpD, evDL, evDM, evD, bldLD, List.contains_cons, List.contains_nil, Nat.reduceBEq, beq_self_eq_true, Nat.reduceMul, Nat.reduceSub, wpSp, Option.bind_some, Option.some.injEq, exists_eq_left', exists_eq_left, reduceIte, if_false, if_true, Nat.reduceEqDiff, Nat.reduceAdd, Nat.reduceLeDiff, Int.reduceEq, Int.reduceLT, Int.reduceLE, Int.reduceToNat, decide_true, decide_false, DV.bool.injEq, DV.int.injEq, DV.mp.injEq, DV.msl.injEq, DV.tup.injEq, DV.agg.injEq, DV.fn.injEq, true_implies, forall_const, reduceCtorEq, implies_true, ne_eq, DMem.mt, w64s (show i < 4611686018427387905 by omega)]
    refine ⟨g, a, b, rfl, rfl, rfl, PC.of_pf (d := .bool (p l[i])) ?_ ?_⟩
    · rw [fzmap_froz (by simpa using ha.append (hb.cons (Froz.int .i64 l[i])))]; simpa using hp i hlt
    · simp only [SW, wpD, evDL, evDM, evD, bldLD, List.contains_cons, List.contains_nil, Nat.reduceBEq, beq_self_eq_true, Nat.reduceMul, Nat.reduceSub, wpSp, Option.bind_some, Option.some.injEq, exists_eq_left', exists_eq_left, reduceIte, if_false, if_true, Nat.reduceEqDiff, Nat.reduceAdd, Nat.reduceLeDiff, Int.reduceEq, Int.reduceLT, Int.reduceLE, Int.reduceToNat, decide_true, decide_false, DV.bool.injEq, DV.int.injEq, DV.mp.injEq, DV.msl.injEq, DV.tup.injEq, DV.agg.injEq, DV.fn.injEq, true_implies, forall_const, reduceCtorEq, implies_true, ne_eq, DMem.mt]
      refine ⟨fun hpi => ?_, fun hpi => ⟨l.length - (i + 1), DMem.mt, by omega, SubD.refl _, i + 1, by omega, rfl, rfl, rfl, fun j h' hji => ?_⟩⟩
      · rw [idxF_hit i hlt hpi hj]
      · rcases Nat.lt_or_ge j i with h2 | h2
        · exact hj j h' h2
        · have : j = i := by omega
          subst this; exact hpi
  · rw [idxF_miss fun j h' => hj j h' (by omega)]
theorem next1_pf (f : Fnc) (x : Int) : pf Try.prog F_flow_next_1 [.int .i64 x, .ip [.ip f.c]] = some (.bool (decide ((f.code.length : Int) ≤ x))) := by
  refine pf_of (v := .bool _) (pc_flow_next_1 (by simp) ?_) ((FrozL.nil.cons (Froz.ip (FrozL.nil.cons (Froz.ip f.froz)))).cons (Froz.int _ _)) rfl rfl
  simp only [S_flow_next_1, R_flow_next_1, MU_flow_next_1, MU_flow_next_1, SW, wpD, evDL, evDM, evD, bldLD, List.contains_cons, List.contains_nil, Nat.reduceBEq, beq_self_eq_true, Nat.reduceMul, Nat.reduceSub, wpSp, Option.bind_some, Option.some.injEq, exists_eq_left', exists_eq_left, reduceIte, if_false, if_true, Nat.reduceEqDiff, Nat.reduceAdd, Nat.reduceLeDiff, Int.reduceEq, Int.reduceLT, Int.reduceLE, Int.reduceToNat, decide_true, decide_false, DV.bool.injEq, DV.int.injEq, DV.mp.injEq, DV.msl.injEq, DV.tup.injEq, DV.agg.injEq, DV.fn.injEq, true_implies, forall_const, reduceCtorEq, implies_true, ne_eq, DMem.mt]
theorem idxF_neg {α : Type} {p : α → Bool} {l : List α} (h : idxF p l = -1) : l.filter (fun x => !p x) = l := by
  unfold idxF at h
  split at h
  · omega
  · rename_i e
    rw [List.findIdx?_eq_none_iff] at e
    exact List.filter_eq_self.2 fun x hx => by simp [e x hx]
theorem idxF_pos {α : Type} {p : α → Bool} {l : List α} (h : ¬ idxF p l = -1) : ∃ i, ∃ h : i < l.length, idxF p l = i ∧ p l[i] = true ∧ (l.take i).filter (fun x => !p x) = l.take i := by
  unfold idxF at h ⊢
  split at h
  · rename_i i e
    have e' := e
    rw [List.findIdx?_eq_some_iff_getElem] at e
    obtain ⟨h1, h2, h3⟩ := e
    refine ⟨i, h1, rfl, h2, List.filter_eq_self.2 fun x hx => ?_⟩
    obtain ⟨j, hj, rfl⟩ := List.getElem_of_mem hx
    have hj' : j < i := by simp at hj; omega
    rw [List.getElem_take]
    have := h3 j hj'
    simpa using this
  · exact absurd rfl h
theorem splD_mid {A B C : List DV} {x y : DV} : splD (A ++ (x :: B) ++ C) A.length [y] = A ++ (y :: B) ++ C := by
  unfold splD
  simp
theorem Delete_pc {M : DMem} {p n : Nat} {l : List Int} (hM : M p = some ⟨3, n, l.map (.int .i64)⟩) (hn : l.length = n) (hs : n ≤ 1000) (g : Nat) (b : List DV) (hb : FrozL b) (pr : Int → Bool)
    (hp : ∀ x, pf Try.prog g (.int .i64 x :: b) = some (.bool (pr x))) {R : DV → DMem → Prop}
    (hR : ∀ M' (rest : List Int), M' p = some ⟨3, n, (l.filter fun x => !pr x).map (.int .i64) ++ rest.map (.int .i64)⟩ → (∀ x, x ≠ p → M' x = M x) → R (.msl p 0 (l.filter fun x => !pr x).length n) M') :
    PC Try.prog F_slices_DeleteFunc_int_int [.msl p 0 n n, .fn (.func g) [] b] R M := by
  refine pc_slices_DeleteFunc_int_int (by simp) ?_
  have hfz : fz M 4 (.msl p 0 n n) = slI l := by
    rw [fz_msl hM 3 0 n n (Nat.le_refl _)]
    simp only [List.drop_zero, List.map_map]
    subst hn; rfl
  have hidx := IndexFunc_int g [] b FrozL.nil hb pr l (by omega) (fun i h => by simpa using hp l[i])
  simp only [S_slices_DeleteFunc_int_int, R_slices_DeleteFunc_int_int, MU_slices_DeleteFunc_int_int, hfz, fzmap_froz hb, hidx, SW, wpD, evDL, evDM, evD, bldLD, List.contains_cons, List.contains_nil, Nat.reduceBEq, beq_self_eq_true, Nat.reduceMul, Nat.reduceSub, wpSp, Option.bind_some, Option.some.injEq, exists_eq_left', exists_eq_left, reduceIte, if_false, if_true, Nat.reduceEqDiff, Nat.reduceAdd, Nat.reduceLeDiff, Int.reduceEq, Int.reduceLT, Int.reduceLE, Int.reduceToNat, decide_true, decide_false, DV.bool.injEq, DV.int.injEq, DV.mp.injEq, DV.msl.injEq, DV.tup.injEq, DV.agg.injEq, DV.fn.injEq, true_implies, forall_const, reduceCtorEq, implies_true, ne_eq, DMem.mt, decide_eq_true_eq, decide_eq_false_iff_not]
  refine ⟨fun h => ?_, fun h => ?_⟩
  · have e := idxF_neg h
    rw [e] at hR
    have := hR M [] (by simpa using hM) (fun _ _ => rfl)
    rwa [hn] at this
  obtain ⟨i0, hi0, e0, hpi, hfl⟩ := idxF_pos h
  rw [e0, w64s (show i0 < 4611686018427387905 by omega)]
  have hlt : (l.take i0).length = i0 := by simp; omega
  refine ⟨fun k δ M' => ∃ (j : Nat) (F : List Int) (Z : List DV), j ≤ n ∧ k = n - j ∧ F = (l.take j).filter (fun x => !pr x) ∧ F.length + Z.length = j ∧ 0 < Z.length ∧ δ 0 = .msl p 0 n n ∧ δ 1 = .fn (.func g) [] b ∧ δ 5 = .int .i64 F.length ∧ δ 6 = .int .i64 j ∧
      M' p = some ⟨3, n, F.map (.int .i64) ++ Z ++ (l.drop j).map (.int .i64)⟩ ∧ (∀ x, x ≠ p → M' x = M x), n - (i0 + 1),
    ⟨i0 + 1, l.take i0, [.int .i64 l[i0]], by omega, rfl, ?_, by simp; omega, by simp, rfl, rfl, by rw [hlt]; rfl, rfl, ?_, fun _ _ => rfl⟩, ?_⟩
  · rw [List.take_succ_eq_append_getElem hi0, List.filter_append, hfl]; simp [hpi]
  · rw [hM]
    congr 2
    have e : l = l.take i0 ++ [l[i0]] ++ l.drop (i0 + 1) := by rw [← List.take_succ_eq_append_getElem hi0, List.take_append_drop]
    exact (congrArg (List.map (DV.int .i64)) e).trans (by simp only [List.map_append, List.map_cons, List.map_nil])
  rintro k δ M' ⟨j, F, Z, hj, rfl, hF, hFZ, hZ, h0, h1, h5, h6, hMp, hMx⟩
  simp only [S2_slices_DeleteFunc_int_int, MU_slices_DeleteFunc_int_int, h0, h1, h5, h6, hMp, SW, wpD, evDL, evDM, evD, bldLD, List.contains_cons, List.contains_nil, Nat.reduceBEq, beq_self_eq_true, Nat.reduceMul, Nat.reduceSub, wpSp, Option.bind_some, Option.some.injEq, exists_eq_left', exists_eq_left, reduceIte, if_false, if_true, Nat.reduceEqDiff, Nat.reduceAdd, Nat.reduceLeDiff, Int.reduceEq, Int.reduceLT, Int.reduceLE, Int.reduceToNat, decide_true, decide_false, DV.bool.injEq, DV.int.injEq, DV.mp.injEq, DV.msl.injEq, DV.tup.injEq, DV.agg.injEq, DV.fn.injEq, true_implies, forall_const, reduceCtorEq, implies_true, ne_eq, DMem.mt, decide_eq_true_eq, decide_eq_false_iff_not]
  refine ⟨fun h => ?_, fun h => ?_⟩
  · have hjn : j < n := by omega
    have hjl : j < l.length := by omega
    have hget : (F.map (DV.int .i64) ++ Z ++ (l.drop j).map (.int .i64))[j]? = some (.int .i64 l[j]) := by
      rw [List.getElem?_append_right (by simp; omega)]
      simp [hFZ, hjl]
    simp only [ixM hjn, hMp, hget, h0, h1, h5, h6, SW, wpD, evDL, evDM, evD, bldLD, List.contains_cons, List.contains_nil, Nat.reduceBEq, beq_self_eq_true, Nat.reduceMul, Nat.reduceSub, wpSp, Option.bind_some, Option.some.injEq, exists_eq_left', exists_eq_left, reduceIte, if_false, if_true, Nat.reduceEqDiff, Nat.reduceAdd, Nat.reduceLeDiff, Int.reduceEq, Int.reduceLT, Int.reduceLE, Int.reduceToNat, decide_true, decide_false, DV.bool.injEq, DV.int.injEq, DV.mp.injEq, DV.msl.injEq, DV.tup.injEq, DV.agg.injEq, DV.fn.injEq, true_implies, forall_const, reduceCtorEq, implies_true, ne_eq, DMem.mt]
    refine ⟨g, [], b, rfl, rfl, rfl, PC.of_pf (d := .bool (pr l[j])) ?_ ?_⟩
    · rw [fzmap_froz (by simpa using (hb.cons (Froz.int .i64 l[j])))]; simpa using hp l[j]
    · have hdrop : l.drop j = l[j] :: l.drop (j + 1) := (List.getElem_cons_drop hjl).symm
      simp only [S1_slices_DeleteFunc_int_int, h0, h1, h5, h6, hMp, SW, wpD, evDL, evDM, evD, bldLD, List.contains_cons, List.contains_nil, Nat.reduceBEq, beq_self_eq_true, Nat.reduceMul, Nat.reduceSub, wpSp, Option.bind_some, Option.some.injEq, exists_eq_left', exists_eq_left, reduceIte, if_false, if_true, Nat.reduceEqDiff, Nat.reduceAdd, Nat.reduceLeDiff, Int.reduceEq, Int.reduceLT, Int.reduceLE, Int.reduceToNat, decide_true, decide_false, DV.bool.injEq, DV.int.injEq, DV.mp.injEq, DV.msl.injEq, DV.tup.injEq, DV.agg.injEq, DV.fn.injEq, true_implies, forall_const, reduceCtorEq, implies_true, ne_eq, DMem.mt]
      refine ⟨fun hm => ?_, fun hm => ?_⟩
      · obtain ⟨z, Z', rfl⟩ : ∃ z Z', Z = z :: Z' := by cases Z with | nil => simp at hZ | cons z Z' => exact ⟨z, Z', rfl⟩
        have hFn : F.length < n := by simp at hFZ; omega
        have hs := @splD_mid (F.map (DV.int .i64)) Z' ((l.drop j).map (.int .i64)) z (.int .i64 l[j])
        rw [List.length_map] at hs
        simp only [ixM hFn, h0, h1, h5, h6, hMp, StoreD, SW, wpD, evDL, evDM, evD, bldLD, List.contains_cons, List.contains_nil, Nat.reduceBEq, beq_self_eq_true, Nat.reduceMul, Nat.reduceSub, wpSp, Option.bind_some, Option.some.injEq, exists_eq_left', exists_eq_left, reduceIte, if_false, if_true, Nat.reduceEqDiff, Nat.reduceAdd, Nat.reduceLeDiff, Int.reduceEq, Int.reduceLT, Int.reduceLE, Int.reduceToNat, decide_true, decide_false, DV.bool.injEq, DV.int.injEq, DV.mp.injEq, DV.msl.injEq, DV.tup.injEq, DV.agg.injEq, DV.fn.injEq, true_implies, forall_const, reduceCtorEq, implies_true, ne_eq, DMem.mt]
        refine ⟨by simp, by omega, fun M2 hM2 => ?_⟩
        simp only [h0, h1, h5, h6, SW, wpD, evDL, evDM, evD, bldLD, List.contains_cons, List.contains_nil, Nat.reduceBEq, beq_self_eq_true, Nat.reduceMul, Nat.reduceSub, wpSp, Option.bind_some, Option.some.injEq, exists_eq_left', exists_eq_left, reduceIte, if_false, if_true, Nat.reduceEqDiff, Nat.reduceAdd, Nat.reduceLeDiff, Int.reduceEq, Int.reduceLT, Int.reduceLE, Int.reduceToNat, decide_true, decide_false, DV.bool.injEq, DV.int.injEq, DV.mp.injEq, DV.msl.injEq, DV.tup.injEq, DV.agg.injEq, DV.fn.injEq, true_implies, forall_const, reduceCtorEq, implies_true, ne_eq, DMem.mt, w64s (show F.length < 4611686018427387905 by omega), w64s (show j < 4611686018427387905 by omega)]
        refine ⟨n - (j + 1), M2, by omega, SubD.refl _, j + 1, F ++ [l[j]], Z' ++ [.int .i64 l[j]], by omega, rfl, ?_, by simp at hFZ ⊢; omega, by simp, by simp, rfl, ?_, fun x hx => by rw [hM2, DMem.ins_ne _ _ hx]; exact hMx x hx⟩
        · rw [List.take_succ_eq_append_getElem hjl, List.filter_append, ← hF]; simp at hm; simp [hm]
        · rw [hM2, DMem.ins_same, hs, hdrop]; simp only [List.map_cons, List.map_append, List.map_nil, List.append_assoc, List.cons_append, List.nil_append]
      · refine ⟨n - (j + 1), M', by omega, SubD.refl _, j + 1, F, Z ++ [.int .i64 l[j]], by omega, rfl, ?_, by simp; omega, by simp, ?_⟩
        · rw [List.take_succ_eq_append_getElem hjl, List.filter_append, ← hF]; simp at hm; simp [hm]
        · refine ⟨rfl, w64s (by omega), ?_, hMx⟩
          rw [hMp, hdrop]; simp only [List.map_cons, List.map_append, List.map_nil, List.append_assoc, List.cons_append, List.nil_append]
  · have : j = n := by omega
    subst this
    have hdr : l.drop j = [] := List.drop_eq_nil_of_le (by omega)
    have htk : l.take j = l := List.take_of_length_le (by omega)
    rw [hdr] at hMp
    rw [htk] at hF
    have hFn : F.length ≤ j := by omega
    have c1 : ¬ j = F.length := by omega
    have c2 : ¬ j = 0 := by omega
    simp only [S3_slices_DeleteFunc_int_int, h0, h1, h5, h6, hMp, slcM_lo (k := .i64) hFn (Nat.le_refl j), slcM_hi (k := .i64) hFn (Nat.le_refl j), c1, c2, SW, wpD, evDL, evDM, evD, bldLD, List.contains_cons, List.contains_nil, Nat.reduceBEq, beq_self_eq_true, Nat.reduceMul, Nat.reduceSub, wpSp, Option.bind_some, Option.some.injEq, exists_eq_left', exists_eq_left, reduceIte, if_false, if_true, Nat.reduceEqDiff, Nat.reduceAdd, Nat.reduceLeDiff, Int.reduceEq, Int.reduceLT, Int.reduceLE, Int.reduceToNat, decide_true, decide_false, DV.bool.injEq, DV.int.injEq, DV.mp.injEq, DV.msl.injEq, DV.tup.injEq, DV.agg.injEq, DV.fn.injEq, true_implies, forall_const, reduceCtorEq, implies_true, ne_eq, DMem.mt]
    refine ⟨by simp, by omega, by rw [List.all_eq_true]; intro x hx; rw [(List.mem_replicate.1 hx).2]; rfl, fun M2 hM2 => ?_⟩
    have hs' : splD (F.map (DV.int .i64) ++ Z) F.length (List.replicate (j - F.length) (.int .i64 0)) = F.map (.int .i64) ++ List.replicate (j - F.length) (.int .i64 0) := by
      unfold splD
      rw [List.take_append_of_le_length (by simp), List.take_of_length_le (by simp), List.drop_eq_nil_of_le (by simp; omega), List.append_nil]
    rw [hs'] at hM2
    have := hR M2 (List.replicate (j - F.length) 0) (by rw [← hF, hM2, DMem.ins_same, List.map_replicate]) fun x hx => by rw [hM2, DMem.ins_ne _ _ hx]; exact hMx x hx
    rw [← hF] at this
    exact this
/-- Compact, on no more than two. -/
def compF : List Int → List Int
  | [x, y] => if x = y then [x] else [x, y]
  | l => l
theorem Compact_pc {M : DMem} {p n : Nat} {l rest : List Int} (hM : M p = some ⟨3, n, l.map (.int .i64) ++ rest.map (.int .i64)⟩) (hl : l.length ≤ 2) (hn : l.length ≤ n) {R : DV → DMem → Prop}
    (hR : ∀ M' (rest : List Int), M' p = some ⟨3, n, (compF l).map (.int .i64) ++ rest.map (.int .i64)⟩ → (∀ x, x ≠ p → M' x = M x) → R (.msl p 0 (compF l).length n) M') :
    PC Try.prog F_slices_Compact_int_int [.msl p 0 l.length n] R M := by
  refine pc_slices_Compact_int_int (by simp) ?_
  simp only [S_slices_Compact_int_int, R_slices_Compact_int_int, MU_slices_Compact_int_int, SW, wpD, evDL, evDM, evD, bldLD, List.contains_cons, List.contains_nil, Nat.reduceBEq, beq_self_eq_true, Nat.reduceMul, Nat.reduceSub, wpSp, Option.bind_some, Option.some.injEq, exists_eq_left', exists_eq_left, reduceIte, if_false, if_true, Nat.reduceEqDiff, Nat.reduceAdd, Nat.reduceLeDiff, Int.reduceEq, Int.reduceLT, Int.reduceLE, Int.reduceToNat, decide_true, decide_false, DV.bool.injEq, DV.int.injEq, DV.mp.injEq, DV.msl.injEq, DV.tup.injEq, DV.agg.injEq, DV.fn.injEq, true_implies, forall_const, reduceCtorEq, implies_true, ne_eq, DMem.mt, decide_eq_true_eq, decide_eq_false_iff_not]
  refine ⟨fun h => ?_, fun h => ?_⟩
  · have e : compF l = l := by
      match l, hl, h with
      | [], _, _ => rfl
      | [x], _, _ => rfl
      | [x, y], _, h => simp at h
    rw [e] at hR
    exact hR M rest hM fun _ _ => rfl
  · obtain ⟨x, y, rfl⟩ : ∃ x y, l = [x, y] := by
      match l, hl, h with
      | [], _, h => simp at h
      | [x], _, h => simp at h
      | [x, y], _, _ => exact ⟨x, y, rfl⟩
    refine ⟨fun k δ M' => M' = M ∧ δ 0 = .msl p 0 2 n ∧ ∃ i : Nat, 1 ≤ i ∧ i ≤ 2 ∧ k = 2 - i ∧ δ 3 = .int .i64 i ∧ (i = 2 → ¬ x = y), 1, ⟨rfl, rfl, 1, by omega, by omega, rfl, rfl, fun h => absurd h (by decide)⟩, ?_⟩
    rintro k δ M' ⟨rfl, h0, i, hi1, hi2, rfl, h3, hxy⟩
    have hi : i = 1 ∨ i = 2 := by omega
    rcases hi with rfl | rfl
    · have e0 : wr64 (((1 : Nat) : Int) - 1) = ((0 : Nat) : Int) := w64 (by decide)
      have e1 : (decide (((1 : Nat) : Int) < ((2 : Nat) : Int))) = true := by decide
      have hMp : M' p = some ⟨3, n, .int .i64 x :: .int .i64 y :: rest.map (.int .i64)⟩ := by simpa using hM
      have hn' : 2 ≤ n := by simpa using hn
      simp only [S3_slices_Compact_int_int, MU_slices_Compact_int_int, h0, h3, e0, e1, ixM (show (1 : Nat) < 2 by decide), ixM (show (0 : Nat) < 2 by decide), hMp, SW, wpD, evDL, evDM, evD, bldLD, List.contains_cons, List.contains_nil, Nat.reduceBEq, beq_self_eq_true, Nat.reduceMul, Nat.reduceSub, wpSp, Option.bind_some, Option.some.injEq, exists_eq_left', exists_eq_left, reduceIte, if_false, if_true, Nat.reduceEqDiff, Nat.reduceAdd, Nat.reduceLeDiff, Int.reduceEq, Int.reduceLT, Int.reduceLE, Int.reduceToNat, decide_true, decide_false, DV.bool.injEq, DV.int.injEq, DV.mp.injEq, DV.msl.injEq, DV.tup.injEq, DV.agg.injEq, DV.fn.injEq, true_implies, forall_const, reduceCtorEq, implies_true, ne_eq, DMem.mt]
      refine ⟨fun he => ?_, fun he => ⟨0, M', by omega, SubD.refl _, rfl, 2, by omega, by omega, rfl, w64s (by omega), fun _ hx => (of_decide_eq_false he) hx.symm⟩⟩
      have he' : y = x := of_decide_eq_true he
      subst he'
      have ec : compF [y, y] = [y] := by simp [compF]
      rw [ec] at hR
      have c1 : ¬ n = 1 := by omega
      have c2 : ¬ n = 0 := by omega
      simp only [slcM_lo (sz := 1) (b := p) (o := 0) (k := .i64) (show (1 : Nat) ≤ 2 by decide) hn', c1, SW, wpD, evDL, evDM, evD, bldLD, List.contains_cons, List.contains_nil, Nat.reduceBEq, beq_self_eq_true, Nat.reduceMul, Nat.reduceSub, wpSp, Option.bind_some, Option.some.injEq, exists_eq_left', exists_eq_left, reduceIte, if_false, if_true, Nat.reduceEqDiff, Nat.reduceAdd, Nat.reduceLeDiff, Int.reduceEq, Int.reduceLT, Int.reduceLE, Int.reduceToNat, decide_true, decide_false, DV.bool.injEq, DV.int.injEq, DV.mp.injEq, DV.msl.injEq, DV.tup.injEq, DV.agg.injEq, DV.fn.injEq, true_implies, forall_const, reduceCtorEq, implies_true, ne_eq, DMem.mt]
      refine ⟨fun k δ M1 => M1 = M' ∧ δ 0 = .msl p 0 2 n ∧ δ 3 = .int .i64 ((1 : Nat) : Int) ∧ δ 4 = .msl p 1 1 (n - 1) ∧ δ 5 = .int .i64 1, 0, ⟨rfl, h0, h3, rfl, rfl⟩, ?_⟩
      rintro k δ M1 ⟨rfl, h0, h3, h4, h5⟩
      have e2 : decide ((1 : Int) < ((1 : Nat) : Int)) = false := by decide
      simp only [S1_slices_Compact_int_int, S2_slices_Compact_int_int, MU_slices_Compact_int_int, h0, h3, h4, h5, e2, hMp, slcM_lo (sz := 1) (b := p) (o := 0) (k := .i64) (show (1 : Nat) ≤ 2 by decide) hn', slcM_hi (sz := 1) (b := p) (o := 0) (k := .i64) (show (1 : Nat) ≤ n by omega) hn', c1, c2, SW, wpD, evDL, evDM, evD, bldLD, List.contains_cons, List.contains_nil, Nat.reduceBEq, beq_self_eq_true, Nat.reduceMul, Nat.reduceSub, wpSp, Option.bind_some, Option.some.injEq, exists_eq_left', exists_eq_left, reduceIte, if_false, if_true, Nat.reduceEqDiff, Nat.reduceAdd, Nat.reduceLeDiff, Int.reduceEq, Int.reduceLT, Int.reduceLE, Int.reduceToNat, decide_true, decide_false, DV.bool.injEq, DV.int.injEq, DV.mp.injEq, DV.msl.injEq, DV.tup.injEq, DV.agg.injEq, DV.fn.injEq, true_implies, forall_const, reduceCtorEq, implies_true, ne_eq, DMem.mt]
      refine ⟨by omega, by rw [List.all_eq_true]; intro x hx; rw [(List.mem_replicate.1 hx).2]; rfl, fun M2 hM2 => ?_⟩
      exact hR M2 (0 :: rest) (by rw [hM2, DMem.ins_same]; rfl) fun x hx => by rw [hM2, DMem.ins_ne _ _ hx]
    · have e : compF [x, y] = [x, y] := by simp [compF, hxy rfl]
      rw [e] at hR
      simp only [S3_slices_Compact_int_int, h0, h3, SW, wpD, evDL, evDM, evD, bldLD, List.contains_cons, List.contains_nil, Nat.reduceBEq, beq_self_eq_true, Nat.reduceMul, Nat.reduceSub, wpSp, Option.bind_some, Option.some.injEq, exists_eq_left', exists_eq_left, reduceIte, if_false, if_true, Nat.reduceEqDiff, Nat.reduceAdd, Nat.reduceLeDiff, Int.reduceEq, Int.reduceLT, Int.reduceLE, Int.reduceToNat, decide_true, decide_false, DV.bool.injEq, DV.int.injEq, DV.mp.injEq, DV.msl.injEq, DV.tup.injEq, DV.agg.injEq, DV.fn.injEq, true_implies, forall_const, reduceCtorEq, implies_true, ne_eq, DMem.mt]
      exact ⟨fun h => absurd h (by decide), fun _ => hR M' rest hM fun _ _ => rfl⟩
/-- Where an instruction may lead, as the program makes it: unsorted, cut, compacted. -/
def rawNext (f : Fnc) (i : Nat) (x : Ins) : List Int := if x.kind = 16 then [] else if x.kind = 12 then [x.a] else if x.kind = 13 then [(i : Int) + 1, x.a] else [(i : Int) + 1]
def nextF (f : Fnc) (i : Nat) : List Int := match f.code[i]? with
  | none => []
  | some x => compF ((rawNext f i x).filter fun y => !decide ((f.code.length : Int) ≤ y))
theorem Delete_zsl {M : DMem} (g : Nat) (b : List DV) (hb : FrozL b) {R : DV → DMem → Prop} (hR : R .zsl M) : PC Try.prog F_slices_DeleteFunc_int_int [.zsl, .fn (.func g) [] b] R M := by
  refine pc_slices_DeleteFunc_int_int (by simp) ?_
  have hidx := IndexFunc_int g [] b FrozL.nil hb (fun _ => false) [] (by simp) (fun i h => absurd h (by simp))
  have hfz : fz M 4 .zsl = slI [] := fz_zsl _ _
  have hi : idxF (fun _ => false) ([] : List Int) = -1 := rfl
  simp only [S_slices_DeleteFunc_int_int, R_slices_DeleteFunc_int_int, MU_slices_DeleteFunc_int_int, hfz, fzmap_froz hb, hidx, hi, SW, wpD, evDL, evDM, evD, bldLD, List.contains_cons, List.contains_nil, Nat.reduceBEq, beq_self_eq_true, Nat.reduceMul, Nat.reduceSub, wpSp, Option.bind_some, Option.some.injEq, exists_eq_left', exists_eq_left, reduceIte, if_false, if_true, Nat.reduceEqDiff, Nat.reduceAdd, Nat.reduceLeDiff, Int.reduceEq, Int.reduceLT, Int.reduceLE, Int.reduceToNat, decide_true, decide_false, DV.bool.injEq, DV.int.injEq, DV.mp.injEq, DV.msl.injEq, DV.tup.injEq, DV.agg.injEq, DV.fn.injEq, true_implies, forall_const, reduceCtorEq, implies_true, ne_eq, DMem.mt]
  exact hR
theorem Compact_zsl {M : DMem} {R : DV → DMem → Prop} (hR : R .zsl M) : PC Try.prog F_slices_Compact_int_int [.zsl] R M := by
  refine pc_slices_Compact_int_int (by simp) ?_
  simp only [S_slices_Compact_int_int, R_slices_Compact_int_int, MU_slices_Compact_int_int, SW, wpD, evDL, evDM, evD, bldLD, List.contains_cons, List.contains_nil, Nat.reduceBEq, beq_self_eq_true, Nat.reduceMul, Nat.reduceSub, wpSp, Option.bind_some, Option.some.injEq, exists_eq_left', exists_eq_left, reduceIte, if_false, if_true, Nat.reduceEqDiff, Nat.reduceAdd, Nat.reduceLeDiff, Int.reduceEq, Int.reduceLT, Int.reduceLE, Int.reduceToNat, decide_true, decide_false, DV.bool.injEq, DV.int.injEq, DV.mp.injEq, DV.msl.injEq, DV.tup.injEq, DV.agg.injEq, DV.fn.injEq, true_implies, forall_const, reduceCtorEq, implies_true, ne_eq, DMem.mt]
  exact hR
/-- A new slice of whole numbers, all that is new. -/
def NewI (M : DMem) (d : DV) (l : List Int) : Prop := (d = .zsl ∧ l = [] ∧ M = DMem.mt) ∨ ∃ b n, ∃ rest : List Int, d = .msl b 0 l.length n ∧ l.length ≤ n ∧ M = DMem.mt.ins b ⟨3, n, l.map (.int .i64) ++ rest.map (.int .i64)⟩
theorem NewI.shows {M : DMem} {d : DV} {l : List Int} (h : NewI M d l) : ∀ m v, Rep m (fz M 4 d) v → Rep m (slI l) v := by
  obtain ⟨rfl, rfl, rfl⟩ | ⟨b, n, rest, rfl, hl, rfl⟩ := h
  · intro m v hv; exact hv
  · intro m v hv
    rw [fz_msl (DMem.ins_same _ _ _) 3 0 _ _ hl] at hv
    simp only [List.drop_zero, List.map_append, List.map_map] at hv
    exact rep_isl hv
theorem thawedL_ints (l : List Int) : thawedL (l.map (.int .i64)) = true := by
  induction l with
  | nil => rfl
  | cons x l ih => simp only [List.map_cons, thawedL, thawed, ih]; rfl
theorem thawedL_append : ∀ (a b : List DV), thawedL (a ++ b) = (thawedL a && thawedL b)
  | [], b => by simp [thawedL]
  | d :: a, b => by simp only [List.cons_append, thawedL, thawedL_append a b, Bool.and_assoc]
theorem NewI.thaw {M : DMem} {d : DV} {l : List Int} (h : NewI M d l) : Thaw d M := by
  obtain ⟨rfl, rfl, rfl⟩ | ⟨b, n, rest, rfl, hl, rfl⟩ := h
  · exact ⟨rfl, fun b B hb => by cases hb⟩
  · refine ⟨rfl, fun x B hb => ?_⟩
    by_cases hx : x = b
    · subst hx; rw [DMem.ins_same] at hb; cases hb
      simp only [thawedL_append, thawedL_ints]; rfl
    · rw [DMem.ins_ne _ _ hx] at hb; cases hb
theorem next_tail {M : DMem} {p n : Nat} {l : List Int} {δ : DEnv} {R : DV → DMem → Prop} {XX : Nat → DEnv → DMem → Prop} (f : Fnc) (hM : M = DMem.mt.ins p ⟨3, n, l.map (.int .i64)⟩) (hn : l.length = n) (h2 : n ≤ 2)
    (hR : ∀ d M', NewI M' d (compF (l.filter fun y => !decide ((f.code.length : Int) ≤ y))) → R d M') :
    PC Try.prog F_slices_DeleteFunc_int_int [.msl p 0 n n, .fn (.func F_flow_next_1) [] [.ip [.ip f.c]]] (fun v M' => wpD Try.prog MU_flow_next (fun f => roL.contains f) (fun t => G_flow_next.contains t) 39 S1_flow_next (fun δ M' => R (δ 4) M') XX (fun δ M' => R (δ 4) M') (δ.upd 37 v) M') M := by
  have hMp : M p = some ⟨3, n, l.map (.int .i64)⟩ := by rw [hM, DMem.ins_same]
  refine Delete_pc hMp hn (by omega) F_flow_next_1 [.ip [.ip f.c]] (FrozL.nil.cons (Froz.ip (FrozL.nil.cons (Froz.ip f.froz)))) (fun y => decide ((f.code.length : Int) ≤ y)) (fun x => next1_pf f x) fun M2 rest e2 k2 => ?_
  have hle := List.length_filter_le (fun y => !decide ((f.code.length : Int) ≤ y)) l
  simp only [S1_flow_next, MU_flow_next, SW, wpD, evDL, evDM, evD, bldLD, List.contains_cons, List.contains_nil, Nat.reduceBEq, beq_self_eq_true, Nat.reduceMul, Nat.reduceSub, wpSp, Option.bind_some, Option.some.injEq, exists_eq_left', exists_eq_left, reduceIte, if_false, if_true, Nat.reduceEqDiff, Nat.reduceAdd, Nat.reduceLeDiff, Int.reduceEq, Int.reduceLT, Int.reduceLE, Int.reduceToNat, decide_true, decide_false, DV.bool.injEq, DV.int.injEq, DV.mp.injEq, DV.msl.injEq, DV.tup.injEq, DV.agg.injEq, DV.fn.injEq, true_implies, forall_const, reduceCtorEq, implies_true, ne_eq, DMem.mt]
  refine Compact_pc e2 (by omega) (by omega) fun M3 rest3 e3 k3 => ?_
  have hcl : ∀ l : List Int, (compF l).length ≤ l.length := fun l => by
    unfold compF; split
    · split <;> simp
    · exact Nat.le_refl _
  have hc1 := hcl (l.filter fun y => !decide ((f.code.length : Int) ≤ y))
  refine hR _ _ (.inr ⟨p, n, rest3, rfl, by omega, ?_⟩)
  funext x
  by_cases hx : x = p
  · subst hx; rw [DMem.ins_same, e3]
  · rw [DMem.ins_ne _ _ hx, k3 x hx, k2 x hx, hM, DMem.ins_ne _ _ hx]
theorem next_pc (f : Fnc) (i : Nat) (hi : i < f.code.length) (hl : f.code.length ≤ 64) {R : DV → DMem → Prop} (hR : ∀ d M', NewI M' d (nextF f i) → R d M') : PC Try.prog F_flow_next [.ip f.c, .int .i64 i] R DMem.mt := by
  refine pc_flow_next (by simp) ?_
  have e : nextF f i = compF ((rawNext f i f.code[i]).filter fun y => !decide ((f.code.length : Int) ≤ y)) := by
    simp only [nextF, List.getElem?_eq_getElem hi]
  rw [e] at hR
  have ew : wr64 ((i : Int) + 1) = i + 1 := w64 (by omega)
  simp only [S_flow_next, R_flow_next, MU_flow_next, ix_slD Ins.len hi, ew, SW, wpD, evDL, evDM, evD, bldLD, List.contains_cons, List.contains_nil, Nat.reduceBEq, beq_self_eq_true, Nat.reduceMul, Nat.reduceSub, wpSp, Option.bind_some, Option.some.injEq, exists_eq_left', exists_eq_left, reduceIte, if_false, if_true, Nat.reduceEqDiff, Nat.reduceAdd, Nat.reduceLeDiff, Int.reduceEq, Int.reduceLT, Int.reduceLE, Int.reduceToNat, decide_true, decide_false, DV.bool.injEq, DV.int.injEq, DV.mp.injEq, DV.msl.injEq, DV.tup.injEq, DV.agg.injEq, DV.fn.injEq, true_implies, forall_const, reduceCtorEq, implies_true, ne_eq, DMem.mt, decide_eq_true_eq, decide_eq_false_iff_not]
  refine ⟨fun h => ?_, fun h => ⟨fun h' b M' hM' => ?_, fun h' => ⟨fun h'' b M' hM' => ?_, fun h'' b M' hM' => ?_⟩⟩⟩
  · refine Delete_zsl F_flow_next_1 _ (FrozL.nil.cons (Froz.ip (FrozL.nil.cons (Froz.ip f.froz)))) ?_
    simp only [S1_flow_next, MU_flow_next, SW, wpD, evDL, evDM, evD, bldLD, List.contains_cons, List.contains_nil, Nat.reduceBEq, beq_self_eq_true, Nat.reduceMul, Nat.reduceSub, wpSp, Option.bind_some, Option.some.injEq, exists_eq_left', exists_eq_left, reduceIte, if_false, if_true, Nat.reduceEqDiff, Nat.reduceAdd, Nat.reduceLeDiff, Int.reduceEq, Int.reduceLT, Int.reduceLE, Int.reduceToNat, decide_true, decide_false, DV.bool.injEq, DV.int.injEq, DV.mp.injEq, DV.msl.injEq, DV.tup.injEq, DV.agg.injEq, DV.fn.injEq, true_implies, forall_const, reduceCtorEq, implies_true, ne_eq, DMem.mt]
    refine Compact_zsl ?_
    exact hR _ _ (.inl ⟨rfl, by simp only [rawNext, h, if_true]; rfl, rfl⟩)
  · have er : rawNext f i f.code[i] = [f.code[i].a] := by simp only [rawNext, if_neg h, if_pos h']
    rw [er] at hR
    exact next_tail (l := [f.code[i].a]) f (by rw [hM']; rfl) rfl (by simp) hR
  · have er : rawNext f i f.code[i] = [(i : Int) + 1, f.code[i].a] := by simp only [rawNext, if_neg h, if_neg h', if_pos h'']
    rw [er] at hR
    exact next_tail (l := [(i : Int) + 1, f.code[i].a]) f (by rw [hM']; rfl) rfl (by simp) hR
  · have er : rawNext f i f.code[i] = [(i : Int) + 1] := by simp only [rawNext, if_neg h, if_neg h', if_neg h'']
    rw [er] at hR
    exact next_tail (l := [(i : Int) + 1]) f (by rw [hM']; rfl) rfl (by simp) hR
theorem next_pu (f : Fnc) (i : Nat) (hi : i < f.code.length) (hl : f.code.length ≤ 64) : Pu Try.prog F_flow_next [.ip f.c, .int .i64 i] (slI (nextF f i)) :=
  Pu.of_le (next_pc f i hi hl fun d M' h => h.shows)
end Go.Proofs.Ytggejjeneoaakaa.Pf
