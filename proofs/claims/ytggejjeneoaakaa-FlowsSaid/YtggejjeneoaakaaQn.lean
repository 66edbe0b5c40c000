/- FlowChain: the law at every input. No condition. -/
import Derived.Test.YtggejjeneoaakaaQm
namespace Go.Proofs.Ytggejjeneoaakaa.Pf
open Go Go.RowKit Go.Proofs Go.Proofs.Ytggejjeneoaakaa.Mw Go.Proofs.Ytggejjeneoaakaa.Sx
set_option linter.unusedVariables false
set_option linter.unusedSimpArgs false
set_option maxRecDepth 4000
def toC (steps : List Int) (k i : Nat) : Nat := match steps[i]? with
  | some x => ((x % 18446744073709551616).tmod k).toNat
  | none => 0
theorem toC_lt (steps : List Int) {k : Nat} (hk : 0 < k) (i : Nat) : toC steps k i < k := by
  unfold toC; split
  · rename_i x _; have := tmod_bnd x k (by omega); omega
  · exact hk
def insC (steps : List Int) (k i : Nat) : List Ins := (List.range i).map (fun j => ⟨12, (toC steps k j : Int)⟩) ++ List.replicate (k - i) ⟨0, 0⟩
def chain (steps : List Int) (k : Nat) : List Ins := insC steps k k
theorem insC_len (steps : List Int) {k i : Nat} (hi : i ≤ k) : (insC steps k i).length = k := by simp [insC]; omega
theorem insC_set (steps : List Int) {k i : Nat} (hi : i < k) : (insC steps k i).set i ⟨12, (toC steps k i : Int)⟩ = insC steps k (i + 1) := by
  unfold insC
  rw [List.set_append_right _ _ (by simp), List.length_map, List.length_range, Nat.sub_self, List.range_succ, List.map_append, List.append_assoc]
  congr 1
  rw [show k - i = (k - (i + 1)) + 1 by omega, List.replicate_succ, List.set_cons_zero]
  rfl
theorem chain_get (steps : List Int) {k i : Nat} (hi : i < k) (h : i < (chain steps k).length) : (chain steps k)[i] = ⟨12, (toC steps k i : Int)⟩ := by
  have : (chain steps k)[i]? = some ⟨12, (toC steps k i : Int)⟩ := by
    unfold chain insC
    rw [List.getElem?_append_left (by simp; omega), List.getElem?_map, List.getElem?_range hi]
    rfl
  rw [List.getElem?_eq_getElem h] at this
  simpa using this
def fC (steps : List Int) (k : Nat) : Fnc := ⟨0, 0, chain steps k⟩
theorem chain_len (steps : List Int) (k : Nat) : (chain steps k).length = k := insC_len steps (Nat.le_refl k)
theorem chain_may (steps : List Int) {k : Nat} (h1 : 1 ≤ k) (h2 : k ≤ 33) : fmayB (chain steps k) = true := by
  simp only [fmayB, chain_len, Bool.and_eq_true, decide_eq_true_eq, List.all_eq_true]
  refine ⟨⟨h1, by omega⟩, fun x hx => ?_⟩
  obtain ⟨i, hi, rfl⟩ := List.getElem_of_mem hx
  have hi' : i < k := by rw [chain_len] at hi; exact hi
  rw [chain_get steps hi']
  have := toC_lt steps (show 0 < k by omega) i
  simp [mayB, belowF]
  omega
theorem chain_next (steps : List Int) {k i : Nat} (hi : i < k) : nextF (fC steps k) i = [(toC steps k i : Int)] := by
  have hl : i < (fC steps k).code.length := by simp only [fC, chain_len]; exact hi
  have := toC_lt steps (show 0 < k by omega) i
  simp only [nextF, List.getElem?_eq_getElem hl]
  simp only [fC, chain_get steps hi, rawNext, chain_len]
  have h2 : ¬ ((k : Int) ≤ (toC steps k i : Int)) := by omega
  simp [h2, compF]
theorem chain_nx (steps : List Int) {k i : Nat} (hi : i < k) : nxF (fC steps k) i = [toC steps k i] := by simp [nxF, chain_next steps hi]
theorem chain_leads (steps : List Int) {k : Nat} (h1 : 1 ≤ k) : leadF (chain steps k) = List.replicate k true := by
  have : ∀ m, m ≤ k → ∀ j, j ≤ m → j < k → (leadL (chain steps k) m)[j]? = some true := by
    intro m
    induction m with
    | zero =>
      intro _ j hj hk
      have : j = 0 := by omega
      subst this
      unfold leadL
      rw [List.getElem?_set_self (by simp [chain_len]; omega)]
    | succ m ih =>
      intro hm j hj hk
      have hml : m < (chain steps k).length := by rw [chain_len]; omega
      rw [leadL_succ hml, chain_get steps (show m < k by omega)]
      unfold leadS
      simp only [true_or, if_true]
      by_cases e : j = m + 1
      · subst e
        rw [List.getElem?_set_self (by simp [leadL_len, chain_len]; omega)]
      · exact (LeB.set _ _).get ((LeB.set _ _).get (ih (by omega) j (by omega) hk))
  apply List.ext_getElem?
  intro j
  unfold leadF
  rw [chain_len]
  rcases Nat.lt_or_ge j k with hj | hj
  · rw [this k (Nat.le_refl k) j (by omega) hj, List.getElem?_replicate, if_pos hj]
  · rw [List.getElem?_eq_none (by rw [leadL_len, chain_len]; exact hj), List.getElem?_eq_none (by simp; exact hj)]
theorem flat_get {l : List Ins} {i : Nat} (h : i < l.length) : (l.flatMap Ins.c)[i * 2 + 1]? = some (.int .i64 l[i].a) := by
  have := drop_flat Ins.len l i h
  rw [← List.getElem?_drop, this]
  rfl
theorem Next_pt (f : Fnc) (pc : Int) : Pt Try.prog F_flow_Next [.agg f.c, .int .i64 pc] (.tup [slI (nextR f pc).1, .int .i64 (nextR f pc).2]) := by
  refine Next_pc f pc fun d0 M2 h2 => ?_
  obtain ⟨a, b⟩ := h2.thaw
  refine ⟨⟨by simp only [thawed, thawedL, a]; rfl, b⟩, ?_⟩
  rw [fz_tup]
  simp only [List.map_cons, List.map_nil, fz_int]
  exact Imp.tup (ImpL.cons h2.shows (ImpL.refl _))
theorem FlowChain_pc (steps : List Int) (size : Int) (hs : steps.length ≤ 9223372036854775807) : PC Try.prog F_swagelaw4_FlowChain [slI steps, .int .i64 size] (fun d _ => d = .bool true) DMem.mt := by
  refine pc_swagelaw4_FlowChain (by simp) ?_
  have hd := and_bnd size 5 (by decide)
  rw [show bits .and .i64 size ((2 ^ 5 - 1 : Nat) : Int) = bits .and .i64 size 31 from rfl] at hd
  simp only [S_swagelaw4_FlowChain, R_swagelaw4_FlowChain, MU_swagelaw4_FlowChain, awake4_pf, SW, wpD, evDL, evDM, evD, bldLD, List.contains_cons, List.contains_nil, Nat.reduceBEq, beq_self_eq_true, Nat.reduceMul, Nat.reduceSub, wpSp, Option.bind_some, Option.some.injEq, exists_eq_left', exists_eq_left, reduceIte, if_false, if_true, Nat.reduceEqDiff, Nat.reduceAdd, Nat.reduceLeDiff, Int.reduceEq, Int.reduceLT, Int.reduceLE, Int.reduceToNat, decide_true, decide_false, DV.bool.injEq, DV.int.injEq, DV.mp.injEq, DV.msl.injEq, DV.tup.injEq, DV.agg.injEq, DV.fn.injEq, true_implies, forall_const, reduceCtorEq, implies_true, ne_eq, DMem.mt]
  generalize bits .and .i64 size 31 = y at hd ⊢
  obtain ⟨m, rfl⟩ := Int.eq_ofNat_of_zero_le hd.1
  have hm : m < 32 := by have := hd.2; omega
  have ek : wr64 (2 + (m : Int)) = ((2 + m : Nat) : Int) := by rw [w64 (by omega)]; omega
  rw [ek]
  clear ek hd
  generalize hk : 2 + m = k
  have hk1 : 2 ≤ k := by omega
  have hk2 : k ≤ 33 := by omega
  clear hk hm
  refine mkF (c := Ins.c) ⟨0, 0⟩ rfl (by decide) rfl (by omega) (by omega) fun p M1 hp hM1 => ?_
  simp only [SW, wpD, evDL, evDM, evD, bldLD, List.contains_cons, List.contains_nil, Nat.reduceBEq, beq_self_eq_true, Nat.reduceMul, Nat.reduceSub, wpSp, Option.bind_some, Option.some.injEq, exists_eq_left', exists_eq_left, reduceIte, if_false, if_true, Nat.reduceEqDiff, Nat.reduceAdd, Nat.reduceLeDiff, Int.reduceEq, Int.reduceLT, Int.reduceLE, Int.reduceToNat, decide_true, decide_false, DV.bool.injEq, DV.int.injEq, DV.mp.injEq, DV.msl.injEq, DV.tup.injEq, DV.agg.injEq, DV.fn.injEq, true_implies, forall_const, reduceCtorEq, implies_true, ne_eq, DMem.mt]
  refine mkB (by omega) fun s M2 hs2 hM2 => ?_
  have hps : p ≠ s := by rintro rfl; rw [hM1, DMem.ins_same] at hs2; cases hs2
  try simp only [SW, wpD, evDL, evDM, evD, bldLD, List.contains_cons, List.contains_nil, Nat.reduceBEq, beq_self_eq_true, Nat.reduceMul, Nat.reduceSub, wpSp, Option.bind_some, Option.some.injEq, exists_eq_left', exists_eq_left, reduceIte, if_false, if_true, Nat.reduceEqDiff, Nat.reduceAdd, Nat.reduceLeDiff, Int.reduceEq, Int.reduceLT, Int.reduceLE, Int.reduceToNat, decide_true, decide_false, DV.bool.injEq, DV.int.injEq, DV.mp.injEq, DV.msl.injEq, DV.tup.injEq, DV.agg.injEq, DV.fn.injEq, true_implies, forall_const, reduceCtorEq, implies_true, ne_eq, DMem.mt]
  refine ⟨fun f δ M => ∃ i, i ≤ k ∧ f = k - i ∧ M p = some ⟨78, k * 2, (insC steps k i).flatMap Ins.c⟩ ∧ M s = some ⟨4, k, (List.replicate k false).map .bool⟩ ∧ δ 0 = slI steps ∧ δ 5 = .int .i64 k ∧ δ 6 = .ip [.int .i64 0, .int .i64 0, .msl p 0 k k] ∧ δ 7 = .msl s 0 k k ∧ δ 8 = .int .i64 i,
    k, ⟨0, Nat.zero_le _, rfl, by rw [hM2, DMem.ins_ne _ _ hps, hM1, DMem.ins_same]; rfl, by rw [hM2, DMem.ins_same], rfl, rfl, rfl, rfl, rfl⟩, ?_⟩
  rintro f δ M ⟨i, hi, rfl, hMp, hMs, h0, h5, h6, h7, h8⟩
  simp only [S1_swagelaw4_FlowChain, MU_swagelaw4_FlowChain, h0, h5, h6, h7, h8, SW, wpD, evDL, evDM, evD, bldLD, List.contains_cons, List.contains_nil, Nat.reduceBEq, beq_self_eq_true, Nat.reduceMul, Nat.reduceSub, wpSp, Option.bind_some, Option.some.injEq, exists_eq_left', exists_eq_left, reduceIte, if_false, if_true, Nat.reduceEqDiff, Nat.reduceAdd, Nat.reduceLeDiff, Int.reduceEq, Int.reduceLT, Int.reduceLE, Int.reduceToNat, decide_true, decide_false, DV.bool.injEq, DV.int.injEq, DV.mp.injEq, DV.msl.injEq, DV.tup.injEq, DV.agg.injEq, DV.fn.injEq, true_implies, forall_const, reduceCtorEq, implies_true, ne_eq, DMem.mt, decide_eq_true_eq, decide_eq_false_iff_not]
  refine ⟨fun hlt => ?_, fun hge => ?_⟩
  · have hik : i < k := by omega
    have hi62 : i < 4611686018427387905 := by omega
    have hil : i < (insC steps k i).length := by rw [insC_len steps hi]; exact hik
    have fin : ∀ M' : DMem, M' = M.ins p ⟨78, k * 2, ((insC steps k i).set i ⟨12, (toC steps k i : Int)⟩).flatMap Ins.c⟩ → M' p = some ⟨78, k * 2, (insC steps k (i + 1)).flatMap Ins.c⟩ ∧ M' s = some ⟨4, k, (List.replicate k false).map .bool⟩ := fun M' h =>
      ⟨by rw [h, DMem.ins_same, insC_set steps hik], by rw [h, DMem.ins_ne _ _ hps.symm]; exact hMs⟩
    by_cases hst : i < steps.length
    · have hst' : (i : Int) < steps.length := by omega
      have hto : toC steps k i = ((steps[i] % 18446744073709551616).tmod k).toNat := by simp only [toC, List.getElem?_eq_getElem hst]
      have hb := tmod_bnd steps[i] k (by omega)
      have ekm : ((k : Int) % 18446744073709551616) = k := Int.emod_eq_of_lt (by omega) (by omega)
      have hk0 : ¬ ((k : Int) = 0) := by omega
      have ew : wr64 ((steps[i] % 18446744073709551616).tmod (k : Int)) = (toC steps k i : Int) := by rw [hto, Int.toNat_of_nonneg hb.1, w64 (by omega)]
      simp only [hst', ix_slI hst, ekm, hk0, ew, ixM hik, h0, h5, h6, h7, h8, SW, wpD, evDL, evDM, evD, bldLD, List.contains_cons, List.contains_nil, Nat.reduceBEq, beq_self_eq_true, Nat.reduceMul, Nat.reduceSub, wpSp, Option.bind_some, Option.some.injEq, exists_eq_left', exists_eq_left, reduceIte, if_false, if_true, Nat.reduceEqDiff, Nat.reduceAdd, Nat.reduceLeDiff, Int.reduceEq, Int.reduceLT, Int.reduceLE, Int.reduceToNat, decide_true, decide_false, DV.bool.injEq, DV.int.injEq, DV.mp.injEq, DV.msl.injEq, DV.tup.injEq, DV.agg.injEq, DV.fn.injEq, true_implies, forall_const, reduceCtorEq, implies_true, ne_eq, DMem.mt]
      refine stF Ins.len (x := ⟨12, (toC steps k i : Int)⟩) hMp hil (by rw [insC_len steps hi]; exact Nat.le_refl _) rfl fun M3 hM3 => ?_
      try simp only [h0, h5, h6, h7, h8, w64s hi62, SW, wpD, evDL, evDM, evD, bldLD, List.contains_cons, List.contains_nil, Nat.reduceBEq, beq_self_eq_true, Nat.reduceMul, Nat.reduceSub, wpSp, Option.bind_some, Option.some.injEq, exists_eq_left', exists_eq_left, reduceIte, if_false, if_true, Nat.reduceEqDiff, Nat.reduceAdd, Nat.reduceLeDiff, Int.reduceEq, Int.reduceLT, Int.reduceLE, Int.reduceToNat, decide_true, decide_false, DV.bool.injEq, DV.int.injEq, DV.mp.injEq, DV.msl.injEq, DV.tup.injEq, DV.agg.injEq, DV.fn.injEq, true_implies, forall_const, reduceCtorEq, implies_true, ne_eq, DMem.mt]
      obtain ⟨f1, f2⟩ := fin M3 hM3
      exact ⟨k - (i + 1), M3, by omega, SubD.refl _, i + 1, by omega, rfl, f1, f2, rfl⟩
    · have hst' : ¬ (i : Int) < steps.length := by omega
      have hto : toC steps k i = 0 := by simp only [toC, List.getElem?_eq_none (Nat.not_lt.1 hst)]
      rw [hto] at fin
      simp only [hst', ixM hik, h0, h5, h6, h7, h8, SW, wpD, evDL, evDM, evD, bldLD, List.contains_cons, List.contains_nil, Nat.reduceBEq, beq_self_eq_true, Nat.reduceMul, Nat.reduceSub, wpSp, Option.bind_some, Option.some.injEq, exists_eq_left', exists_eq_left, reduceIte, if_false, if_true, Nat.reduceEqDiff, Nat.reduceAdd, Nat.reduceLeDiff, Int.reduceEq, Int.reduceLT, Int.reduceLE, Int.reduceToNat, decide_true, decide_false, DV.bool.injEq, DV.int.injEq, DV.mp.injEq, DV.msl.injEq, DV.tup.injEq, DV.agg.injEq, DV.fn.injEq, true_implies, forall_const, reduceCtorEq, implies_true, ne_eq, DMem.mt]
      refine stF Ins.len (x := ⟨12, ((0 : Nat) : Int)⟩) hMp hil (by rw [insC_len steps hi]; exact Nat.le_refl _) rfl fun M3 hM3 => ?_
      try simp only [h0, h5, h6, h7, h8, w64s hi62, SW, wpD, evDL, evDM, evD, bldLD, List.contains_cons, List.contains_nil, Nat.reduceBEq, beq_self_eq_true, Nat.reduceMul, Nat.reduceSub, wpSp, Option.bind_some, Option.some.injEq, exists_eq_left', exists_eq_left, reduceIte, if_false, if_true, Nat.reduceEqDiff, Nat.reduceAdd, Nat.reduceLeDiff, Int.reduceEq, Int.reduceLT, Int.reduceLE, Int.reduceToNat, decide_true, decide_false, DV.bool.injEq, DV.int.injEq, DV.mp.injEq, DV.msl.injEq, DV.tup.injEq, DV.agg.injEq, DV.fn.injEq, true_implies, forall_const, reduceCtorEq, implies_true, ne_eq, DMem.mt]
      obtain ⟨f1, f2⟩ := fin M3 hM3
      exact ⟨k - (i + 1), M3, by omega, SubD.refl _, i + 1, by omega, rfl, f1, f2, rfl⟩
  · have : k = i := by omega
    subst this
    have hnil : ∀ L : List Ins, M p = some ⟨78, k * 2, L.flatMap Ins.c⟩ → True := fun _ _ => trivial
    simp only [S8_swagelaw4_FlowChain, MU_swagelaw4_FlowChain, h0, h5, h6, h7, h8, SW, wpD, evDL, evDM, evD, bldLD, List.contains_cons, List.contains_nil, Nat.reduceBEq, beq_self_eq_true, Nat.reduceMul, Nat.reduceSub, wpSp, Option.bind_some, Option.some.injEq, exists_eq_left', exists_eq_left, reduceIte, if_false, if_true, Nat.reduceEqDiff, Nat.reduceAdd, Nat.reduceLeDiff, Int.reduceEq, Int.reduceLT, Int.reduceLE, Int.reduceToNat, decide_true, decide_false, DV.bool.injEq, DV.int.injEq, DV.mp.injEq, DV.msl.injEq, DV.tup.injEq, DV.agg.injEq, DV.fn.injEq, true_implies, forall_const, reduceCtorEq, implies_true, ne_eq, DMem.mt]
    refine ⟨fun g δ M => ∃ (L : List Bool) (a : Nat), L.length = k ∧ g = unm L ∧ M p = some ⟨78, k * 2, (chain steps k).flatMap Ins.c⟩ ∧ M s = some ⟨4, k, L.map .bool⟩ ∧ SoundB (nxF (fC steps k)) L ∧ a < k ∧ Rch (nxF (fC steps k)) a ∧ (L[0]? = some true ∨ a = 0) ∧
        (∀ i y : Nat, L[i]? = some true → y ∈ nxF (fC steps k) i → L[y]? = some true ∨ y = a) ∧ δ 5 = .int .i64 k ∧ δ 6 = .ip [.int .i64 0, .int .i64 0, .msl p 0 k k] ∧ δ 7 = .msl s 0 k k ∧ δ 10 = .int .i64 a,
      _, ⟨List.replicate k false, 0, by simp, rfl, hMp, hMs, (fun i hi => by rw [List.getElem?_replicate] at hi; split at hi <;> cases hi), by omega, .zero, .inr rfl, (fun i y hi => by rw [List.getElem?_replicate] at hi; split at hi <;> cases hi), h5, h6, h7, rfl⟩, ?_⟩
    clear h0 h5 h6 h7 h8 hMp hMs hge hi hnil
    rintro g δ M ⟨L, a, hL, rfl, hMp, hMs, hsnd, hak, hra, hz, hcl, h5, h6, h7, h10⟩
    have haL : a < L.length := by omega
    have hac : a < (chain steps k).length := by rw [chain_len]; exact hak
    have hget := flat_get hac
    rw [chain_get steps hak hac] at hget
    have hnx := chain_nx steps hak
    have htl := toC_lt steps (show 0 < k by omega) a
    simp only [S2_swagelaw4_FlowChain, MU_swagelaw4_FlowChain, h5, h6, h7, h10, ixM hak, hMs, get_map .bool L haL, SW, wpD, evDL, evDM, evD, bldLD, List.contains_cons, List.contains_nil, Nat.reduceBEq, beq_self_eq_true, Nat.reduceMul, Nat.reduceSub, wpSp, Option.bind_some, Option.some.injEq, exists_eq_left', exists_eq_left, reduceIte, if_false, if_true, Nat.reduceEqDiff, Nat.reduceAdd, Nat.reduceLeDiff, Int.reduceEq, Int.reduceLT, Int.reduceLE, Int.reduceToNat, decide_true, decide_false, DV.bool.injEq, DV.int.injEq, DV.mp.injEq, DV.msl.injEq, DV.tup.injEq, DV.agg.injEq, DV.fn.injEq, true_implies, forall_const, reduceCtorEq, implies_true, ne_eq, DMem.mt]
    cases hLa : L[a] with
    | false =>
      simp only [h5, h6, h7, h10, ixM hak, hMp, hget, SW, wpD, evDL, evDM, evD, bldLD, List.contains_cons, List.contains_nil, Nat.reduceBEq, beq_self_eq_true, Nat.reduceMul, Nat.reduceSub, wpSp, Option.bind_some, Option.some.injEq, exists_eq_left', exists_eq_left, reduceIte, if_false, if_true, Nat.reduceEqDiff, Nat.reduceAdd, Nat.reduceLeDiff, Int.reduceEq, Int.reduceLT, Int.reduceLE, Int.reduceToNat, decide_true, decide_false, DV.bool.injEq, DV.int.injEq, DV.mp.injEq, DV.msl.injEq, DV.tup.injEq, DV.agg.injEq, DV.fn.injEq, true_implies, forall_const, reduceCtorEq, implies_true, ne_eq, DMem.mt]
      refine stB hMs haL (by omega) fun M3 hM3 => ?_
      have hMp3 : M3 p = some ⟨78, k * 2, (chain steps k).flatMap Ins.c⟩ := by rw [hM3, DMem.ins_ne _ _ hps]; exact hMp
      simp only [h5, h6, h7, h10, ixM hak, hMp3, hget, SW, wpD, evDL, evDM, evD, bldLD, List.contains_cons, List.contains_nil, Nat.reduceBEq, beq_self_eq_true, Nat.reduceMul, Nat.reduceSub, wpSp, Option.bind_some, Option.some.injEq, exists_eq_left', exists_eq_left, reduceIte, if_false, if_true, Nat.reduceEqDiff, Nat.reduceAdd, Nat.reduceLeDiff, Int.reduceEq, Int.reduceLT, Int.reduceLE, Int.reduceToNat, decide_true, decide_false, DV.bool.injEq, DV.int.injEq, DV.mp.injEq, DV.msl.injEq, DV.tup.injEq, DV.agg.injEq, DV.fn.injEq, true_implies, forall_const, reduceCtorEq, implies_true, ne_eq, DMem.mt]
      have hu := unm_set haL hLa
      have hself : (L.set a true)[a]? = some true := List.getElem?_set_self haL
      refine ⟨_, M3, ?_, SubD.refl _, L.set a true, toC steps k a, by simp [hL], rfl, hMp3, by rw [hM3, DMem.ins_same], fun i hi => ?_, htl, .step hra (by rw [hnx]; simp), .inl ?_, fun i y hi hy => ?_, rfl⟩
      · omega
      · rw [List.getElem?_set] at hi
        split at hi
        · rename_i e; subst e; exact hra
        · exact hsnd i hi
      · rcases hz with hz | hz
        · exact (LeB.set L a).get hz
        · subst hz; exact hself
      · by_cases e : a = i
        · subst e
          rw [hnx] at hy
          simp at hy
          exact .inr hy
        · rw [List.getElem?_set_ne e] at hi
          rcases hcl i y hi hy with h | h
          · exact .inl ((LeB.set L a).get h)
          · subst h; exact .inl hself
    | true =>
      have hmay := chain_may steps (show 1 ≤ k by omega) hk2
      have hLa' : L[a]? = some true := by rw [List.getElem?_eq_getElem haL, hLa]
      have hcode : (fC steps k).code.length = k := chain_len steps k
      have hreach : L = reachF (fC steps k) := by
        unfold reachF
        rw [hcode]
        refine reachB_eq (nxF (fC steps k)) (by omega) (fun i y hy => by have := nxF_lt (f := fC steps k) hmay hy; omega) hL ?_ hsnd fun i y hi hy _ => ?_
        · rcases hz with hz | hz
          · exact hz
          · subst hz; exact hLa'
        · rcases hcl i y hi hy with h | h
          · exact h
          · subst h; exact hLa'
      have hfz : fz M 4 (.msl p 0 k k) = slD Ins.c (chain steps k) := by
        rw [fz_msl hMp 3 0 _ _ (Nat.le_refl _), fzmap_froz (FrozL.flatMap Ins.froz _), List.drop_zero]
        simp only [slD, chain_len]
      have himp : Imp (fz M 4 (.agg [.int .i64 0, .int .i64 0, .msl p 0 k k])) (.agg (fC steps k).c) := by
        rw [fz_agg]
        simp only [List.map_cons, List.map_nil, fz_int, hfz]
        exact Imp.refl _
      have hfs : fz M 4 (.msl s 0 k k) = slB (reachF (fC steps k)) := by
        rw [fz_msl hMs 3 0 _ _ (Nat.le_refl _), List.drop_zero, List.map_map, ← hreach]
        simp only [slB, hL]
        rfl
      have er : reachR (fC steps k) = (reachF (fC steps k), 0) := by simp only [reachR, show fmayB (fC steps k).code = true from hmay]; rfl
      have el : leadR (fC steps k) = (List.replicate k true, 0) := by
        simp only [leadR, show fmayB (fC steps k).code = true from hmay, if_true]
        rw [show (fC steps k).code = chain steps k from rfl, chain_leads steps (by omega)]
      simp only [S7_swagelaw4_FlowChain, MU_swagelaw4_FlowChain, h5, h6, h7, h10, SW, wpD, evDL, evDM, evD, bldLD, List.contains_cons, List.contains_nil, Nat.reduceBEq, beq_self_eq_true, Nat.reduceMul, Nat.reduceSub, wpSp, Option.bind_some, Option.some.injEq, exists_eq_left', exists_eq_left, reduceIte, if_false, if_true, Nat.reduceEqDiff, Nat.reduceAdd, Nat.reduceLeDiff, Int.reduceEq, Int.reduceLT, Int.reduceLE, Int.reduceToNat, decide_true, decide_false, DV.bool.injEq, DV.int.injEq, DV.mp.injEq, DV.msl.injEq, DV.tup.injEq, DV.agg.injEq, DV.fn.injEq, true_implies, forall_const, reduceCtorEq, implies_true, ne_eq, DMem.mt]
      refine Pt.pc (by exact (Reached_pt (fC steps k)).weak (ImpL.cons himp (ImpL.refl []))) ?_
      rw [er]
      simp only [S6_swagelaw4_FlowChain, MU_swagelaw4_FlowChain, h5, h6, h7, h10, SW, wpD, evDL, evDM, evD, bldLD, List.contains_cons, List.contains_nil, Nat.reduceBEq, beq_self_eq_true, Nat.reduceMul, Nat.reduceSub, wpSp, Option.bind_some, Option.some.injEq, exists_eq_left', exists_eq_left, reduceIte, if_false, if_true, Nat.reduceEqDiff, Nat.reduceAdd, Nat.reduceLeDiff, Int.reduceEq, Int.reduceLT, Int.reduceLE, Int.reduceToNat, decide_true, decide_false, DV.bool.injEq, DV.int.injEq, DV.mp.injEq, DV.msl.injEq, DV.tup.injEq, DV.agg.injEq, DV.fn.injEq, true_implies, forall_const, reduceCtorEq, implies_true, ne_eq, DMem.mt]
      refine Pt.pc (by exact (Leaders_pt (fC steps k)).weak (ImpL.cons himp (ImpL.refl []))) ?_
      rw [el]
      have hrl : (reachF (fC steps k)).length = k := by rw [reachF_len, hcode]
      have hrep : (List.replicate k true).length = k := List.length_replicate
      simp only [S5_swagelaw4_FlowChain, MU_swagelaw4_FlowChain, h5, h6, h7, h10, NumF_pf, hfs, fz_slB, SameBools_pf _ _ (show (reachF (fC steps k)).length ≤ 4611686018427387904 by omega), hrep, SW, wpD, evDL, evDM, evD, bldLD, List.contains_cons, List.contains_nil, Nat.reduceBEq, beq_self_eq_true, Nat.reduceMul, Nat.reduceSub, wpSp, Option.bind_some, Option.some.injEq, exists_eq_left', exists_eq_left, reduceIte, if_false, if_true, Nat.reduceEqDiff, Nat.reduceAdd, Nat.reduceLeDiff, Int.reduceEq, Int.reduceLT, Int.reduceLE, Int.reduceToNat, decide_true, decide_false, DV.bool.injEq, DV.int.injEq, DV.mp.injEq, DV.msl.injEq, DV.tup.injEq, DV.agg.injEq, DV.fn.injEq, true_implies, forall_const, reduceCtorEq, implies_true, ne_eq, DMem.mt]
      refine ⟨fun g δ M' => ∃ i, i ≤ k ∧ g = k - i ∧ M' = M ∧ δ 5 = .int .i64 k ∧ δ 6 = .ip [.int .i64 0, .int .i64 0, .msl p 0 k k] ∧ δ 13 = slB (List.replicate k true) ∧ δ 15 = .int .i64 i, k, ⟨0, Nat.zero_le _, rfl, rfl, h5, h6, rfl, rfl⟩, ?_⟩
      rintro g δ M' ⟨i, hi, rfl, rfl, h5, h6, h13, h15⟩
      simp only [S4_swagelaw4_FlowChain, MU_swagelaw4_FlowChain, h5, h6, h13, h15, SW, wpD, evDL, evDM, evD, bldLD, List.contains_cons, List.contains_nil, Nat.reduceBEq, beq_self_eq_true, Nat.reduceMul, Nat.reduceSub, wpSp, Option.bind_some, Option.some.injEq, exists_eq_left', exists_eq_left, reduceIte, if_false, if_true, Nat.reduceEqDiff, Nat.reduceAdd, Nat.reduceLeDiff, Int.reduceEq, Int.reduceLT, Int.reduceLE, Int.reduceToNat, decide_true, decide_false, DV.bool.injEq, DV.int.injEq, DV.mp.injEq, DV.msl.injEq, DV.tup.injEq, DV.agg.injEq, DV.fn.injEq, true_implies, forall_const, reduceCtorEq, implies_true, ne_eq, DMem.mt, decide_eq_true_eq, decide_eq_false_iff_not]
      refine fun hlt => ?_
      have hik : i < k := by omega
      have hi62 : i < 4611686018427387905 := by omega
      have hic : i < (chain steps k).length := by rw [chain_len]; exact hik
      have hget2 := flat_get hic
      rw [chain_get steps hik hic] at hget2
      refine Pt.pc (d := .tup [slI [(toC steps k i : Int)], .int .i64 0]) ?_ ?_
      · have := Next_pt (fC steps k) i
        rw [nextR_in hmay (show i < (fC steps k).code.length by rw [hcode]; exact hik), chain_next steps hik] at this
        exact this.weak (ImpL.cons himp (ImpL.cons (by rw [fz_int]; exact Imp.refl _) (ImpL.refl [])))
      · have hir : i < (List.replicate k true).length := by rw [hrep]; exact hik
        have hrt : (List.replicate k true)[i] = true := by simp
        simp only [S3_swagelaw4_FlowChain, MU_swagelaw4_FlowChain, h5, h6, h13, h15, NumF_pf, ixM hik, hMp, hget2, ix_slB hir, hrt, SW, wpD, evDL, evDM, evD, bldLD, List.contains_cons, List.contains_nil, Nat.reduceBEq, beq_self_eq_true, Nat.reduceMul, Nat.reduceSub, wpSp, Option.bind_some, Option.some.injEq, exists_eq_left', exists_eq_left, reduceIte, if_false, if_true, Nat.reduceEqDiff, Nat.reduceAdd, Nat.reduceLeDiff, Int.reduceEq, Int.reduceLT, Int.reduceLE, Int.reduceToNat, decide_true, decide_false, DV.bool.injEq, DV.int.injEq, DV.mp.injEq, DV.msl.injEq, DV.tup.injEq, DV.agg.injEq, DV.fn.injEq, true_implies, forall_const, reduceCtorEq, implies_true, ne_eq, DMem.mt]
        have hsame := SameInts_pf [(toC steps k i : Int)] [(toC steps k i : Int)] (by simp)
        rw [decide_eq_true rfl] at hsame
        simp only [isl_one, hsame, h5, h6, h13, h15, w64s hi62, SW, wpD, evDL, evDM, evD, bldLD, List.contains_cons, List.contains_nil, Nat.reduceBEq, beq_self_eq_true, Nat.reduceMul, Nat.reduceSub, wpSp, Option.bind_some, Option.some.injEq, exists_eq_left', exists_eq_left, reduceIte, if_false, if_true, Nat.reduceEqDiff, Nat.reduceAdd, Nat.reduceLeDiff, Int.reduceEq, Int.reduceLT, Int.reduceLE, Int.reduceToNat, decide_true, decide_false, DV.bool.injEq, DV.int.injEq, DV.mp.injEq, DV.msl.injEq, DV.tup.injEq, DV.agg.injEq, DV.fn.injEq, true_implies, forall_const, reduceCtorEq, implies_true, ne_eq, DMem.mt]
        exact ⟨k - (i + 1), M', by omega, SubD.refl _, i + 1, by omega, rfl, rfl, rfl⟩
end Go.Proofs.Ytggejjeneoaakaa.Pf
