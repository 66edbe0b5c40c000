/- Programs held against each other, and written over. No condition. -/
import Derived.Test.YtaifmmeghninhaaKk
namespace Go.Proofs.Ytaifmmeghninhaa.Pf
open Go Go.RowKit Go.Proofs Go.Proofs.Ytaifmmeghninhaa.Mw Go.Proofs.Ytaifmmeghninhaa.Sx
set_option linter.unusedVariables false
set_option linter.unusedSimpArgs false
set_option maxRecDepth 4000
instance : DecidableEq Fnc := fun a b => decidable_of_iff (a.args = b.args ∧ a.locals = b.locals ∧ a.code = b.code) (by cases a; cases b; simp)
theorem fnc_eq (a b : Fnc) : ((decide (¬a.args = b.args) || decide (¬a.locals = b.locals)) || !decide (a.code = b.code)) = !decide (a = b) := by
  have h : a = b ↔ a.args = b.args ∧ a.locals = b.locals ∧ a.code = b.code := by cases a; cases b; simp
  rw [Bool.eq_iff_iff]
  simp only [Bool.or_eq_true, decide_eq_true_eq, Bool.not_eq_true', decide_eq_false_iff_not, h]
  by_cases h1 : a.args = b.args <;> by_cases h2 : a.locals = b.locals <;> simp [h1, h2]
theorem SameProgram_pf (a b : List Fnc) (ha : a.length ≤ 4611686018427387904) (hc : ∀ f ∈ a, f.code.length ≤ 4611686018427387904) : pf Try.prog F_swagelaw0_SameProgram [.agg [slD Fnc.c a], .agg [slD Fnc.c b]] = some (.bool (decide (a = b))) := by
  have hf : ∀ l : List Fnc, Froz (.agg [slD Fnc.c l]) := fun l => Froz.agg (FrozL.nil.cons (Froz.slD Fnc.froz l))
  refine pf_of (v := .bool _) (pc_swagelaw0_SameProgram (by simp) ?_) ((FrozL.nil.cons (hf b)).cons (hf a)) rfl rfl
  simp only [S_swagelaw0_SameProgram, R_swagelaw0_SameProgram, MU_swagelaw0_SameProgram, SW, wpD, evDL, evDM, evD, bldLD, List.contains_cons, List.contains_nil, Nat.reduceBEq, beq_self_eq_true, Nat.reduceMul, Nat.reduceSub, wpSp, Option.bind_some, Option.some.injEq, exists_eq_left', exists_eq_left, reduceIte, if_false, if_true, Nat.reduceEqDiff, Nat.reduceAdd, Nat.reduceLeDiff, Int.reduceEq, Int.reduceLT, Int.reduceLE, Int.reduceToNat, decide_true, decide_false, DV.bool.injEq, DV.int.injEq, DV.mp.injEq, DV.msl.injEq, DV.tup.injEq, DV.agg.injEq, DV.fn.injEq, true_implies, forall_const, reduceCtorEq, implies_true, ne_eq, DMem.mt, decide_eq_true_eq, decide_eq_false_iff_not]
  refine ⟨fun hne => ?_, fun hle => ?_⟩
  · exact (decide_eq_false (by rintro rfl; exact hne rfl)).symm
  · have hlen : a.length = b.length := by omega
    refine ⟨fun k δ M => ∃ i, i ≤ a.length ∧ k = a.length - i ∧ M = DMem.mt ∧ δ 2 = .ip [slD Fnc.c a] ∧ δ 3 = .ip [slD Fnc.c b] ∧ δ 5 = .int .i64 i ∧ (∀ j (h1 : j < a.length) (h2 : j < b.length), j < i → a[j] = b[j]),
      a.length, ⟨0, Nat.zero_le _, rfl, rfl, rfl, rfl, rfl, fun j _ _ hj => absurd hj (by omega)⟩, ?_⟩
    rintro k δ M ⟨i, hi, rfl, rfl, h2, h3, h5, hj⟩
    simp only [S2_swagelaw0_SameProgram, MU_swagelaw0_SameProgram, h2, h3, h5, SW, wpD, evDL, evDM, evD, bldLD, List.contains_cons, List.contains_nil, Nat.reduceBEq, beq_self_eq_true, Nat.reduceMul, Nat.reduceSub, wpSp, Option.bind_some, Option.some.injEq, exists_eq_left', exists_eq_left, reduceIte, if_false, if_true, Nat.reduceEqDiff, Nat.reduceAdd, Nat.reduceLeDiff, Int.reduceEq, Int.reduceLT, Int.reduceLE, Int.reduceToNat, decide_true, decide_false, DV.bool.injEq, DV.int.injEq, DV.mp.injEq, DV.msl.injEq, DV.tup.injEq, DV.agg.injEq, DV.fn.injEq, true_implies, forall_const, reduceCtorEq, implies_true, ne_eq, DMem.mt, decide_eq_true_eq, decide_eq_false_iff_not]
    refine ⟨fun h => ?_, fun h => ?_⟩
    · have hlt : i < a.length := by omega
      have hlt' : i < b.length := by omega
      simp only [raw0_swagelaw0_SameProgram, P0_swagelaw0_SameProgram, MU_swagelaw0_SameProgram, ix_slD Fnc.len hlt, ix_slD Fnc.len hlt', h2, h3, h5, SW, wpD, evDL, evDM, evD, bldLD, List.contains_cons, List.contains_nil, Nat.reduceBEq, beq_self_eq_true, Nat.reduceMul, Nat.reduceSub, wpSp, Option.bind_some, Option.some.injEq, exists_eq_left', exists_eq_left, reduceIte, if_false, if_true, Nat.reduceEqDiff, Nat.reduceAdd, Nat.reduceLeDiff, Int.reduceEq, Int.reduceLT, Int.reduceLE, Int.reduceToNat, decide_true, decide_false, DV.bool.injEq, DV.int.injEq, DV.mp.injEq, DV.msl.injEq, DV.tup.injEq, DV.agg.injEq, DV.fn.injEq, true_implies, forall_const, reduceCtorEq, implies_true, ne_eq, DMem.mt, decide_eq_true_eq, decide_eq_false_iff_not]
      simp only [S1_swagelaw0_SameProgram, MU_swagelaw0_SameProgram, h2, h3, h5, fz_ins, SameInss_pf a[i].code b[i].code (hc _ (List.getElem_mem hlt)), w64s (show i < 4611686018427387905 by omega), SW, wpD, evDL, evDM, evD, bldLD, List.contains_cons, List.contains_nil, Nat.reduceBEq, beq_self_eq_true, Nat.reduceMul, Nat.reduceSub, wpSp, Option.bind_some, Option.some.injEq, exists_eq_left', exists_eq_left, reduceIte, if_false, if_true, Nat.reduceEqDiff, Nat.reduceAdd, Nat.reduceLeDiff, Int.reduceEq, Int.reduceLT, Int.reduceLE, Int.reduceToNat, decide_true, decide_false, DV.bool.injEq, DV.int.injEq, DV.mp.injEq, DV.msl.injEq, DV.tup.injEq, DV.agg.injEq, DV.fn.injEq, true_implies, forall_const, reduceCtorEq, implies_true, ne_eq, DMem.mt]
      simp only [fnc_eq]
      refine ⟨fun hne => (decide_eq_false (by rintro rfl; simp at hne)).symm, fun he => ⟨a.length - (i + 1), DMem.mt, by omega, SubD.refl _, i + 1, by omega, rfl, rfl, rfl, fun j g1 g2 hji => ?_⟩⟩
      rcases Nat.lt_or_ge j i with h2 | h2
      · exact hj j g1 g2 h2
      · have : j = i := by omega
        subst this
        simpa using he
    · have : a = b := same_all hlen fun j h1 h2 => hj j h1 h2 (by omega)
      try simp only [SW, wpD, evDL, evDM, evD, bldLD, List.contains_cons, List.contains_nil, Nat.reduceBEq, beq_self_eq_true, Nat.reduceMul, Nat.reduceSub, wpSp, Option.bind_some, Option.some.injEq, exists_eq_left', exists_eq_left, reduceIte, if_false, if_true, Nat.reduceEqDiff, Nat.reduceAdd, Nat.reduceLeDiff, Int.reduceEq, Int.reduceLT, Int.reduceLE, Int.reduceToNat, decide_true, decide_false, DV.bool.injEq, DV.int.injEq, DV.mp.injEq, DV.msl.injEq, DV.tup.injEq, DV.agg.injEq, DV.fn.injEq, true_implies, forall_const, reduceCtorEq, implies_true, ne_eq, DMem.mt]
      rw [decide_eq_true this]
theorem SpoilInss_pc {M : DMem} {d : DV} {l : List Ins} {S : List Nat} (h : SlAt insE M d l S) (hS : S.Nodup) (hl : l.length ≤ 4611686018427387904) {R : DV → DMem → Prop}
    (hR : ∀ M' l', SlAt insE M' d l' S → (∀ x, x ∉ S → M' x = M x) → R (.tup []) M') : PC Try.prog F_swagelaw0_SpoilInss [d] R M := by
  refine pc_swagelaw0_SpoilInss (by simp) ?_
  simp only [S_swagelaw0_SpoilInss, R_swagelaw0_SpoilInss, MU_swagelaw0_SpoilInss, SW, wpD, evDL, evDM, evD, bldLD, List.contains_cons, List.contains_nil, Nat.reduceBEq, beq_self_eq_true, Nat.reduceMul, Nat.reduceSub, wpSp, Option.bind_some, Option.some.injEq, exists_eq_left', exists_eq_left, reduceIte, if_false, if_true, Nat.reduceEqDiff, Nat.reduceAdd, Nat.reduceLeDiff, Int.reduceEq, Int.reduceLT, Int.reduceLE, Int.reduceToNat, decide_true, decide_false, DV.bool.injEq, DV.int.injEq, DV.mp.injEq, DV.msl.injEq, DV.tup.injEq, DV.agg.injEq, DV.fn.injEq, true_implies, forall_const, reduceCtorEq, implies_true, ne_eq, DMem.mt]
  refine ⟨fun k δ M' => ∃ i l', i ≤ l.length ∧ k = l.length - i ∧ l'.length = l.length ∧ δ 0 = d ∧ δ 2 = .int .i64 i ∧ SlAt insE M' d l' S ∧ ∀ x, x ∉ S → M' x = M x, l.length, ⟨0, l, Nat.zero_le _, rfl, rfl, rfl, rfl, h, fun _ _ => rfl⟩, ?_⟩
  rintro k δ M' ⟨i, l', hi, rfl, hl', h0, h2, hsl, hk⟩
  simp only [S1_swagelaw0_SpoilInss, MU_swagelaw0_SpoilInss, h0, h2, hsl.lenD, hl', SW, wpD, evDL, evDM, evD, bldLD, List.contains_cons, List.contains_nil, Nat.reduceBEq, beq_self_eq_true, Nat.reduceMul, Nat.reduceSub, wpSp, Option.bind_some, Option.some.injEq, exists_eq_left', exists_eq_left, reduceIte, if_false, if_true, Nat.reduceEqDiff, Nat.reduceAdd, Nat.reduceLeDiff, Int.reduceEq, Int.reduceLT, Int.reduceLE, Int.reduceToNat, decide_true, decide_false, DV.bool.injEq, DV.int.injEq, DV.mp.injEq, DV.msl.injEq, DV.tup.injEq, DV.agg.injEq, DV.fn.injEq, true_implies, forall_const, reduceCtorEq, implies_true, ne_eq, DMem.mt, decide_eq_true_eq, decide_eq_false_iff_not]
  refine ⟨fun hlt => ?_, fun hge => ?_⟩
  · have hip : i < l'.length := by omega
    obtain ⟨b, c, ty, c1, cx, c2, S1, Sx, S2, hd, hM, hc1, hcx, ⟨rfl, rfl⟩, hSe, hle, _, put⟩ := hsl.inner insE_ok hS hip
    replace hc1 : c1.length = i * 2 := hc1
    have hget : (c1 ++ l'[i].c ++ c2)[i * 2 + 1]? = some (.int .i64 l'[i].a) := by rw [get_field hc1 (by simp)]; rfl
    have hbS : b ∈ S := by rw [hSe]; simp
    have hdx : ixD 2 d (.int .i64 i) = some (.mp b (i * 2)) := by rw [hd, ixM hip, Nat.zero_add]
    simp only [hdx, hM, hget, h0, h2, SW, wpD, evDL, evDM, evD, bldLD, List.contains_cons, List.contains_nil, Nat.reduceBEq, beq_self_eq_true, Nat.reduceMul, Nat.reduceSub, wpSp, Option.bind_some, Option.some.injEq, exists_eq_left', exists_eq_left, reduceIte, if_false, if_true, Nat.reduceEqDiff, Nat.reduceAdd, Nat.reduceLeDiff, Int.reduceEq, Int.reduceLT, Int.reduceLE, Int.reduceToNat, decide_true, decide_false, DV.bool.injEq, DV.int.injEq, DV.mp.injEq, DV.msl.injEq, DV.tup.injEq, DV.agg.injEq, DV.fn.injEq, true_implies, forall_const, reduceCtorEq, implies_true, ne_eq, DMem.mt]
    refine stD hM rfl rfl (by simp only [List.length_append, hc1, Ins.len]; omega) (by have : insE.sz = 2 := rfl; rw [this]; omega) rfl fun M2 hM2 => ?_
    rw [splD_field hc1 (by simp)] at hM2
    simp only [h0, h2, w64s (show i < 4611686018427387905 by omega), SW, wpD, evDL, evDM, evD, bldLD, List.contains_cons, List.contains_nil, Nat.reduceBEq, beq_self_eq_true, Nat.reduceMul, Nat.reduceSub, wpSp, Option.bind_some, Option.some.injEq, exists_eq_left', exists_eq_left, reduceIte, if_false, if_true, Nat.reduceEqDiff, Nat.reduceAdd, Nat.reduceLeDiff, Int.reduceEq, Int.reduceLT, Int.reduceLE, Int.reduceToNat, decide_true, decide_false, DV.bool.injEq, DV.int.injEq, DV.mp.injEq, DV.msl.injEq, DV.tup.injEq, DV.agg.injEq, DV.fn.injEq, true_implies, forall_const, reduceCtorEq, implies_true, ne_eq, DMem.mt]
    refine ⟨l.length - (i + 1), M2, by omega, SubD.refl _, i + 1, _, by omega, rfl, ?_, rfl, put M2 ⟨l'[i].kind, bits BinOp.xor IntKind.i64 l'[i].a 90⟩ _ ⟨rfl, rfl⟩ hM2, fun x hx => ?_⟩
    · rw [List.length_set]; exact hl'
    · rw [hM2, DMem.ins_ne _ _ (by rintro rfl; exact hx hbS)]; exact hk x hx
  · exact hR _ l' hsl hk
theorem SpoilProgram_pc {M : DMem} {d : DV} {p : List Fnc} {S : List Nat} (h : SlAt fncE M d p S) (hS : S.Nodup) (hl : p.length ≤ 4611686018427387904) (hc : ∀ f ∈ p, f.code.length ≤ 4611686018427387904) {R : DV → DMem → Prop}
    (hR : ∀ M', (∀ x, x ∉ S → M' x = M x) → R (.tup []) M') : PC Try.prog F_swagelaw0_SpoilProgram [.agg [d]] R M := by
  refine pc_swagelaw0_SpoilProgram (by simp) ?_
  simp only [S_swagelaw0_SpoilProgram, R_swagelaw0_SpoilProgram, MU_swagelaw0_SpoilProgram, h.cell, SW, wpD, evDL, evDM, evD, bldLD, List.contains_cons, List.contains_nil, Nat.reduceBEq, beq_self_eq_true, Nat.reduceMul, Nat.reduceSub, wpSp, Option.bind_some, Option.some.injEq, exists_eq_left', exists_eq_left, reduceIte, if_false, if_true, Nat.reduceEqDiff, Nat.reduceAdd, Nat.reduceLeDiff, Int.reduceEq, Int.reduceLT, Int.reduceLE, Int.reduceToNat, decide_true, decide_false, DV.bool.injEq, DV.int.injEq, DV.mp.injEq, DV.msl.injEq, DV.tup.injEq, DV.agg.injEq, DV.fn.injEq, true_implies, forall_const, reduceCtorEq, implies_true, ne_eq, DMem.mt]
  refine ⟨fun k δ M' => ∃ (i : Nat) (p' : List Fnc), i ≤ p.length ∧ k = p.length - i ∧ p'.length = p.length ∧ (∀ j (h1 : j < p'.length) (h2 : j < p.length), i ≤ j → p'[j] = p[j]) ∧ δ 1 = .ip [d] ∧ δ 2 = .int .i64 i ∧ SlAt fncE M' d p' S ∧ ∀ x, x ∉ S → M' x = M x, p.length, ⟨0, p, Nat.zero_le _, rfl, rfl, fun _ _ _ _ => rfl, rfl, rfl, h, fun _ _ => rfl⟩, ?_⟩
  rintro k δ M' ⟨i, p', hi, rfl, hp', hsame, h1, h2, hsl, hk⟩
  simp only [S1_swagelaw0_SpoilProgram, MU_swagelaw0_SpoilProgram, h1, h2, hsl.lenD, hp', SW, wpD, evDL, evDM, evD, bldLD, List.contains_cons, List.contains_nil, Nat.reduceBEq, beq_self_eq_true, Nat.reduceMul, Nat.reduceSub, wpSp, Option.bind_some, Option.some.injEq, exists_eq_left', exists_eq_left, reduceIte, if_false, if_true, Nat.reduceEqDiff, Nat.reduceAdd, Nat.reduceLeDiff, Int.reduceEq, Int.reduceLT, Int.reduceLE, Int.reduceToNat, decide_true, decide_false, DV.bool.injEq, DV.int.injEq, DV.mp.injEq, DV.msl.injEq, DV.tup.injEq, DV.agg.injEq, DV.fn.injEq, true_implies, forall_const, reduceCtorEq, implies_true, ne_eq, DMem.mt, decide_eq_true_eq, decide_eq_false_iff_not]
  refine ⟨fun hlt => ?_, fun hge => ?_⟩
  · have hip : i < p'.length := by omega
    have hipp : i < p.length := by omega
    obtain ⟨b, c, ty, c1, cx, c2, S1, Sx, S2, hd, hM, hc1, hcx, ⟨d1, rfl, hsl1⟩, hSe, hle, put1, _⟩ := hsl.inner fncE_ok hS hip
    replace hc1 : c1.length = i * 3 := hc1
    have hget : (c1 ++ [.int .i64 p'[i].args, .int .i64 p'[i].locals, d1] ++ c2)[i * 3 + 2]? = some d1 := by rw [get_field hc1 (by simp)]; rfl
    have hdx : ixD 3 d (.int .i64 i) = some (.mp b (i * 3)) := by rw [hd, ixM hip, Nat.zero_add]
    have hnx : Sx.Nodup := by
      rw [hSe] at hS
      exact (List.nodup_append.1 (List.nodup_append.1 (List.nodup_cons.1 hS).2).1).2.1
    have hxS : ∀ x ∈ Sx, x ∈ S := fun x hx => by rw [hSe]; simp [hx]
    simp only [hdx, hM, hget, h1, h2, SW, wpD, evDL, evDM, evD, bldLD, List.contains_cons, List.contains_nil, Nat.reduceBEq, beq_self_eq_true, Nat.reduceMul, Nat.reduceSub, wpSp, Option.bind_some, Option.some.injEq, exists_eq_left', exists_eq_left, reduceIte, if_false, if_true, Nat.reduceEqDiff, Nat.reduceAdd, Nat.reduceLeDiff, Int.reduceEq, Int.reduceLT, Int.reduceLE, Int.reduceToNat, decide_true, decide_false, DV.bool.injEq, DV.int.injEq, DV.mp.injEq, DV.msl.injEq, DV.tup.injEq, DV.agg.injEq, DV.fn.injEq, true_implies, forall_const, reduceCtorEq, implies_true, ne_eq, DMem.mt]
    refine SpoilInss_pc hsl1 hnx (by rw [hsame i hip hipp (Nat.le_refl i)]; exact hc _ (List.getElem_mem hipp)) fun M2 l2 hsl2 hk2 => ?_
    have hsl3 := put1 M2 ⟨p'[i].args, p'[i].locals, l2⟩ ⟨d1, rfl, hsl2⟩ fun x _ hx => hk2 x hx
    have hip3 : i < (p'.set i ⟨p'[i].args, p'[i].locals, l2⟩).length := by rw [List.length_set]; exact hip
    obtain ⟨b', c', ty', e1, ex, e2, T1, Tx, T2, hd', hM2, he1, hex, ⟨d2, rfl, hsl4⟩, hSe', hle', _, put2⟩ := hsl3.inner fncE_ok hS hip3
    replace he1 : e1.length = i * 3 := he1
    rw [hd] at hd'
    have hb : b' = b := by injection hd' with g1 g2 g3 g4; exact g1.symm
    subst hb
    have hbS : b' ∈ S := by rw [hSe]; simp
    simp only [List.getElem_set_self] at hM2
    have hget2 : (e1 ++ [.int .i64 p'[i].args, .int .i64 p'[i].locals, d2] ++ e2)[i * 3]? = some (.int .i64 p'[i].args) := by
      have := get_field (off := 0) (c2 := e2) (cx := [.int .i64 p'[i].args, .int .i64 p'[i].locals, d2]) he1 (by simp)
      simpa using this
    simp only [raw0_swagelaw0_SpoilProgram, P0_swagelaw0_SpoilProgram, MU_swagelaw0_SpoilProgram, hdx, hM2, hget2, h1, h2, SW, wpD, evDL, evDM, evD, bldLD, List.contains_cons, List.contains_nil, Nat.reduceBEq, beq_self_eq_true, Nat.reduceMul, Nat.reduceSub, wpSp, Option.bind_some, Option.some.injEq, exists_eq_left', exists_eq_left, reduceIte, if_false, if_true, Nat.reduceEqDiff, Nat.reduceAdd, Nat.reduceLeDiff, Int.reduceEq, Int.reduceLT, Int.reduceLE, Int.reduceToNat, decide_true, decide_false, DV.bool.injEq, DV.int.injEq, DV.mp.injEq, DV.msl.injEq, DV.tup.injEq, DV.agg.injEq, DV.fn.injEq, true_implies, forall_const, reduceCtorEq, implies_true, ne_eq, DMem.mt]
    have hlc : i + 1 ≤ c' := by rw [List.length_set] at hle'; omega
    refine stD hM2 rfl rfl (by simp only [List.length_append, he1]; omega) (by have : fncE.sz = 3 := rfl; rw [this]; omega) rfl fun M3 hM3 => ?_
    have hspl : ∀ v, splD (e1 ++ [.int .i64 p'[i].args, .int .i64 p'[i].locals, d2] ++ e2) (i * 3) [v] = e1 ++ [v, .int .i64 p'[i].locals, d2] ++ e2 := fun v => by
      have := splD_field (v := v) (off := 0) (c2 := e2) (cx := [.int .i64 p'[i].args, .int .i64 p'[i].locals, d2]) he1 (by simp)
      simpa using this
    rw [hspl] at hM3
    simp only [List.getElem_set_self] at hsl4
    try simp only [h1, h2, w64s (show i < 4611686018427387905 by omega), SW, wpD, evDL, evDM, evD, bldLD, List.contains_cons, List.contains_nil, Nat.reduceBEq, beq_self_eq_true, Nat.reduceMul, Nat.reduceSub, wpSp, Option.bind_some, Option.some.injEq, exists_eq_left', exists_eq_left, reduceIte, if_false, if_true, Nat.reduceEqDiff, Nat.reduceAdd, Nat.reduceLeDiff, Int.reduceEq, Int.reduceLT, Int.reduceLE, Int.reduceToNat, decide_true, decide_false, DV.bool.injEq, DV.int.injEq, DV.mp.injEq, DV.msl.injEq, DV.tup.injEq, DV.agg.injEq, DV.fn.injEq, true_implies, forall_const, reduceCtorEq, implies_true, ne_eq, DMem.mt]
    refine ⟨p.length - (i + 1), M3, by omega, SubD.refl _, i + 1, _, by omega, rfl, ?_, ?_, rfl, put2 M3 ⟨_, p'[i].locals, l2⟩ _ ⟨d2, rfl, hsl4⟩ hM3, fun x hx => ?_⟩
    · rw [List.length_set, List.length_set]; exact hp'
    · intro j g1 g2 hj
      rw [List.getElem_set_ne (by omega), List.getElem_set_ne (by omega)]
      exact hsame j (by simpa using g1) g2 (by omega)
    · rw [hM3, DMem.ins_ne _ _ (by rintro rfl; exact hx hbS), hk2 x (fun hh => hx (hxS x hh))]; exact hk x hx
  · exact hR _ hk
end Go.Proofs.Ytaifmmeghninhaa.Pf
