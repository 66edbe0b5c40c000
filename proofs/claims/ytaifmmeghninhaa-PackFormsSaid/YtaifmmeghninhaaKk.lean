/- Programs copied, held against each other, written over. No condition. -/
import Derived.Test.YtaifmmeghninhaaKj
import Derived.Test.YtaifmmeghninhaaLz
namespace Go.Proofs.Ytaifmmeghninhaa.Pf
open Go Go.RowKit Go.Proofs Go.Proofs.Ytaifmmeghninhaa.Mw Go.Proofs.Ytaifmmeghninhaa.Sx
set_option linter.unusedVariables false
set_option linter.unusedSimpArgs false
set_option maxRecDepth 4000
theorem CopyInss_pc {M : DMem} (l : List Ins) (hl : l.length * 16 ≤ 140737488355328) {R : DV → DMem → Prop}
    (hR : ∀ d M' S, SlAt insE M' d l S → S.Nodup → (∀ x ∈ S, M x = none) → SubD M M' → R d M') : PC Try.prog F_swagelaw0_CopyInss [slD Ins.c l] R M := by
  refine pc_swagelaw0_CopyInss (by simp) ?_
  simp only [S_swagelaw0_CopyInss, R_swagelaw0_CopyInss, MU_swagelaw0_CopyInss, SW, wpD, evDL, evDM, evD, bldLD, List.contains_cons, List.contains_nil, Nat.reduceBEq, beq_self_eq_true, Nat.reduceMul, Nat.reduceSub, wpSp, Option.bind_some, Option.some.injEq, exists_eq_left', exists_eq_left, reduceIte, if_false, if_true, Nat.reduceEqDiff, Nat.reduceAdd, Nat.reduceLeDiff, Int.reduceEq, Int.reduceLT, Int.reduceLE, Int.reduceToNat, decide_true, decide_false, DV.bool.injEq, DV.int.injEq, DV.mp.injEq, DV.msl.injEq, DV.tup.injEq, DV.agg.injEq, DV.fn.injEq, true_implies, forall_const, reduceCtorEq, implies_true, ne_eq, DMem.mt]
  have h := (SlAt.nil (E := insE) (M := M)).app insE_ok List.nodup_nil (e := 43) (bytes := 16) (ys := l) (ds := l.flatMap Ins.c) (T := []) (k := l.length) RowAt.flat (fun x hx => by simp at hx) rfl (by simp; omega) (by simp; omega) (Post := R) fun d' M' S' h1 h2 h3 h4 => hR d' M' S' (by simpa using h1) (h4 List.nodup_nil) (fun x hx => by
      rcases h3 x hx with h | h | h
      · simp at h
      · simp at h
      · exact h) fun b B hB => h2 b B hB (by simp)
  exact h
theorem CopyProgram_pc {M : DMem} (p : List Fnc) (hp : p.length * 40 ≤ 140737488355328) (hc : ∀ f ∈ p, f.code.length * 16 ≤ 140737488355328) {R : DV → DMem → Prop}
    (hR : ∀ d M' S, SlAt fncE M' d p S → S.Nodup → (∀ x ∈ S, M x = none) → SubD M M' → R (.agg [d]) M') : PC Try.prog F_swagelaw0_CopyProgram [.agg [slD Fnc.c p]] R M := by
  refine pc_swagelaw0_CopyProgram (by simp) ?_
  simp only [S_swagelaw0_CopyProgram, R_swagelaw0_CopyProgram, MU_swagelaw0_CopyProgram, SW, wpD, evDL, evDM, evD, bldLD, List.contains_cons, List.contains_nil, Nat.reduceBEq, beq_self_eq_true, Nat.reduceMul, Nat.reduceSub, wpSp, Option.bind_some, Option.some.injEq, exists_eq_left', exists_eq_left, reduceIte, if_false, if_true, Nat.reduceEqDiff, Nat.reduceAdd, Nat.reduceLeDiff, Int.reduceEq, Int.reduceLT, Int.reduceLE, Int.reduceToNat, decide_true, decide_false, DV.bool.injEq, DV.int.injEq, DV.mp.injEq, DV.msl.injEq, DV.tup.injEq, DV.agg.injEq, DV.fn.injEq, true_implies, forall_const, reduceCtorEq, implies_true, ne_eq, DMem.mt]
  intro r M1 hr hM1
  try simp only [SW, wpD, evDL, evDM, evD, bldLD, List.contains_cons, List.contains_nil, Nat.reduceBEq, beq_self_eq_true, Nat.reduceMul, Nat.reduceSub, wpSp, Option.bind_some, Option.some.injEq, exists_eq_left', exists_eq_left, reduceIte, if_false, if_true, Nat.reduceEqDiff, Nat.reduceAdd, Nat.reduceLeDiff, Int.reduceEq, Int.reduceLT, Int.reduceLE, Int.reduceToNat, decide_true, decide_false, DV.bool.injEq, DV.int.injEq, DV.mp.injEq, DV.msl.injEq, DV.tup.injEq, DV.agg.injEq, DV.fn.injEq, true_implies, forall_const, reduceCtorEq, implies_true, ne_eq, DMem.mt]
  intro o M2 ho hM2
  have hro : r ≠ o := by rintro rfl; rw [hM1, DMem.ins_same] at ho; cases ho
  have hr2 : M2 r = some ⟨24, 1, [.zsl]⟩ := by rw [hM2, DMem.ins_ne _ _ hro, hM1, DMem.ins_same]
  have ho2 : M2 o = some ⟨24, 1, [.zsl]⟩ := by rw [hM2, DMem.ins_same]
  have hk2 : ∀ x B, M x = some B → M2 x = some B ∧ x ≠ r ∧ x ≠ o := fun x B hB => by
    have e1 : x ≠ r := by rintro rfl; rw [hr] at hB; cases hB
    have e2 : x ≠ o := by rintro rfl; rw [hM1, DMem.ins_ne _ _ e1, hB] at ho; cases ho
    exact ⟨by rw [hM2, DMem.ins_ne _ _ e2, hM1, DMem.ins_ne _ _ e1]; exact hB, e1, e2⟩
  clear hM1 hM2 ho
  try simp only [SW, wpD, evDL, evDM, evD, bldLD, List.contains_cons, List.contains_nil, Nat.reduceBEq, beq_self_eq_true, Nat.reduceMul, Nat.reduceSub, wpSp, Option.bind_some, Option.some.injEq, exists_eq_left', exists_eq_left, reduceIte, if_false, if_true, Nat.reduceEqDiff, Nat.reduceAdd, Nat.reduceLeDiff, Int.reduceEq, Int.reduceLT, Int.reduceLE, Int.reduceToNat, decide_true, decide_false, DV.bool.injEq, DV.int.injEq, DV.mp.injEq, DV.msl.injEq, DV.tup.injEq, DV.agg.injEq, DV.fn.injEq, true_implies, forall_const, reduceCtorEq, implies_true, ne_eq, DMem.mt]
  refine ⟨fun k δ M' => ∃ (i : Nat) (d : DV) (S : List Nat), i ≤ p.length ∧ k = p.length - i ∧ δ 1 = .ip [slD Fnc.c p] ∧ δ 2 = .mp r 0 ∧ δ 3 = .mp o 0 ∧ δ 4 = .int .i64 i ∧ M' r = some ⟨24, 1, [.zsl]⟩ ∧ M' o = some ⟨24, 1, [d]⟩ ∧ SlAt fncE M' d (p.take i) S ∧ S.Nodup ∧ r ∉ S ∧ o ∉ S ∧ (∀ x ∈ S, M x = none) ∧ ∀ x B, M x = some B → M' x = some B,
    p.length, ⟨0, .zsl, [], Nat.zero_le _, rfl, rfl, rfl, rfl, rfl, hr2, ho2, SlAt.nil, List.nodup_nil, by simp, by simp, fun x hx => by simp at hx, fun x B hB => (hk2 x B hB).1⟩, ?_⟩
  have hoM : M o = none := by
    cases e : M o with
    | none => rfl
    | some B => exact absurd rfl (hk2 o B e).2.2
  clear hr2 ho2 hk2
  rintro k δ M' ⟨i, d, S, hi, rfl, h1, h2, h3, h4, hMr, hMo, hsl, hnd, hrS, hoS, hS, hkeep⟩
  simp only [S2_swagelaw0_CopyProgram, MU_swagelaw0_CopyProgram, h1, h2, h3, h4, SW, wpD, evDL, evDM, evD, bldLD, List.contains_cons, List.contains_nil, Nat.reduceBEq, beq_self_eq_true, Nat.reduceMul, Nat.reduceSub, wpSp, Option.bind_some, Option.some.injEq, exists_eq_left', exists_eq_left, reduceIte, if_false, if_true, Nat.reduceEqDiff, Nat.reduceAdd, Nat.reduceLeDiff, Int.reduceEq, Int.reduceLT, Int.reduceLE, Int.reduceToNat, decide_true, decide_false, DV.bool.injEq, DV.int.injEq, DV.mp.injEq, DV.msl.injEq, DV.tup.injEq, DV.agg.injEq, DV.fn.injEq, true_implies, forall_const, reduceCtorEq, implies_true, ne_eq, DMem.mt, decide_eq_true_eq, decide_eq_false_iff_not]
  refine ⟨fun hlt => ?_, fun hge => ?_⟩
  · have hip : i < p.length := by omega
    simp only [ix_slD Fnc.len hip, h1, h2, h3, h4, SW, wpD, evDL, evDM, evD, bldLD, List.contains_cons, List.contains_nil, Nat.reduceBEq, beq_self_eq_true, Nat.reduceMul, Nat.reduceSub, wpSp, Option.bind_some, Option.some.injEq, exists_eq_left', exists_eq_left, reduceIte, if_false, if_true, Nat.reduceEqDiff, Nat.reduceAdd, Nat.reduceLeDiff, Int.reduceEq, Int.reduceLT, Int.reduceLE, Int.reduceToNat, decide_true, decide_false, DV.bool.injEq, DV.int.injEq, DV.mp.injEq, DV.msl.injEq, DV.tup.injEq, DV.agg.injEq, DV.fn.injEq, true_implies, forall_const, reduceCtorEq, implies_true, ne_eq, DMem.mt]
    intro q N1 hq hN1
    have hqr : q ≠ r := by rintro rfl; rw [hMr] at hq; cases hq
    have hqo : q ≠ o := by rintro rfl; rw [hMo] at hq; cases hq
    have hqS : q ∉ S := fun hh => hsl.here fncE_ok q hh hq
    have hqM : M q = none := by
      cases e : M q with
      | none => rfl
      | some B => have := hkeep q B e; rw [hq] at this; cases this
    have hq1 : N1 q = some ⟨46, 3, [.int .i64 p[i].args, .int .i64 p[i].locals, slD Ins.c p[i].code]⟩ := by rw [hN1, DMem.ins_same]
    have hk1 : ∀ x, x ≠ q → N1 x = M' x := fun x e => by rw [hN1, DMem.ins_ne _ _ e]
    clear hN1
    simp only [h1, h2, h3, h4, hq1, SW, wpD, evDL, evDM, evD, bldLD, List.contains_cons, List.contains_nil, Nat.reduceBEq, beq_self_eq_true, Nat.reduceMul, Nat.reduceSub, wpSp, Option.bind_some, Option.some.injEq, exists_eq_left', exists_eq_left, reduceIte, if_false, if_true, Nat.reduceEqDiff, Nat.reduceAdd, Nat.reduceLeDiff, Int.reduceEq, Int.reduceLT, Int.reduceLE, Int.reduceToNat, decide_true, decide_false, DV.bool.injEq, DV.int.injEq, DV.mp.injEq, DV.msl.injEq, DV.tup.injEq, DV.agg.injEq, DV.fn.injEq, true_implies, forall_const, reduceCtorEq, implies_true, ne_eq, DMem.mt]
    refine CopyInss_pc p[i].code (hc _ (List.getElem_mem hip)) fun d1 N2 T hsl1 hnd1 hT hs2 => ?_
    have hq2 := hs2 q _ hq1
    simp only [S1_swagelaw0_CopyProgram, MU_swagelaw0_CopyProgram, h1, h2, h3, h4, SW, wpD, evDL, evDM, evD, bldLD, List.contains_cons, List.contains_nil, Nat.reduceBEq, beq_self_eq_true, Nat.reduceMul, Nat.reduceSub, wpSp, Option.bind_some, Option.some.injEq, exists_eq_left', exists_eq_left, reduceIte, if_false, if_true, Nat.reduceEqDiff, Nat.reduceAdd, Nat.reduceLeDiff, Int.reduceEq, Int.reduceLT, Int.reduceLE, Int.reduceToNat, decide_true, decide_false, DV.bool.injEq, DV.int.injEq, DV.mp.injEq, DV.msl.injEq, DV.tup.injEq, DV.agg.injEq, DV.fn.injEq, true_implies, forall_const, reduceCtorEq, implies_true, ne_eq, DMem.mt]
    refine stD hq2 (hsl1.cell) rfl (by simp) (by simp) (by simp only [List.all_cons, List.all_nil, hsl1.plain]; rfl) fun N3 hN3 => ?_
    have hq3 : N3 q = some ⟨46, 3, [.int .i64 p[i].args, .int .i64 p[i].locals, d1]⟩ := by rw [hN3, DMem.ins_same]; rfl
    have hqT : q ∉ T := fun hh => by have := hT q hh; rw [hq1] at this; cases this
    have hk3 : ∀ x B, x ≠ q → M' x = some B → N3 x = some B := fun x B e hB => by rw [hN3, DMem.ins_ne _ _ e]; exact hs2 x B (by rw [hk1 x e]; exact hB)
    have hsl3 : SlAt insE N3 d1 p[i].code T := hsl1.frame insE_ok fun x hx => by rw [hN3, DMem.ins_ne _ _ (by rintro rfl; exact hqT hx)]
    have hTM : ∀ x ∈ T, M' x = none := fun x hx => by
      have := hT x hx
      rwa [hk1 x (by rintro rfl; exact hqT hx)] at this
    have hMo3 := hk3 o _ (Ne.symm hqo) hMo
    have hMr3 := hk3 r _ (Ne.symm hqr) hMr
    have hne : ∀ x ∈ S, M' x ≠ none := fun x hx => hsl.here fncE_ok x hx
    have hslF : SlAt fncE N3 d (p.take i) S := hsl.frame fncE_ok fun x hx => by
      obtain ⟨B, hB⟩ := Option.ne_none_iff_exists'.1 (hne x hx)
      rw [hB, hk3 x B (by rintro rfl; exact hqS hx) hB]
    have hti : (p.take i).length = i := by simp; omega
    simp only [h1, h2, h3, h4, hMo3, hq3, ldnM, SW, wpD, evDL, evDM, evD, bldLD, List.contains_cons, List.contains_nil, Nat.reduceBEq, beq_self_eq_true, Nat.reduceMul, Nat.reduceSub, wpSp, Option.bind_some, Option.some.injEq, exists_eq_left', exists_eq_left, reduceIte, if_false, if_true, Nat.reduceEqDiff, Nat.reduceAdd, Nat.reduceLeDiff, Int.reduceEq, Int.reduceLT, Int.reduceLE, Int.reduceToNat, decide_true, decide_false, DV.bool.injEq, DV.int.injEq, DV.mp.injEq, DV.msl.injEq, DV.tup.injEq, DV.agg.injEq, DV.fn.injEq, true_implies, forall_const, reduceCtorEq, implies_true, ne_eq, DMem.mt]
    refine hslF.app fncE_ok hnd (ys := [p[i]]) (ds := [.int .i64 p[i].args, .int .i64 p[i].locals, d1]) (T := T) (RowAt.one ⟨d1, rfl, hsl3⟩) (fun x hx hh => hne x hh (hTM x hx)) rfl (by rw [hti]; omega) (by rw [hti]; omega) fun d' M9 S' hsl9 hk9 hS9 hnd9 => ?_
    have hMo9 := hk9 o _ hMo3 hoS
    try simp only [h1, h2, h3, h4, SW, wpD, evDL, evDM, evD, bldLD, List.contains_cons, List.contains_nil, Nat.reduceBEq, beq_self_eq_true, Nat.reduceMul, Nat.reduceSub, wpSp, Option.bind_some, Option.some.injEq, exists_eq_left', exists_eq_left, reduceIte, if_false, if_true, Nat.reduceEqDiff, Nat.reduceAdd, Nat.reduceLeDiff, Int.reduceEq, Int.reduceLT, Int.reduceLE, Int.reduceToNat, decide_true, decide_false, DV.bool.injEq, DV.int.injEq, DV.mp.injEq, DV.msl.injEq, DV.tup.injEq, DV.agg.injEq, DV.fn.injEq, true_implies, forall_const, reduceCtorEq, implies_true, ne_eq, DMem.mt]
    refine stD hMo9 (hsl9.cell) rfl (by simp) (by simp) (by simp only [List.all_cons, List.all_nil, hsl9.plain]; rfl) fun M10 hM10 => ?_
    have hoS9 : o ∉ S' := fun hh => by
      rcases hS9 o hh with h' | h' | h'
      · exact hoS h'
      · have := hTM o h'; rw [hMo] at this; cases this
      · rw [hMo3] at h'; cases h'
    have hrS9 : r ∉ S' := fun hh => by
      rcases hS9 r hh with h' | h' | h'
      · exact hrS h'
      · have := hTM r h'; rw [hMr] at this; cases this
      · rw [hMr3] at h'; cases h'
    try simp only [h1, h2, h3, h4, w64s (show i < 4611686018427387905 by omega), SW, wpD, evDL, evDM, evD, bldLD, List.contains_cons, List.contains_nil, Nat.reduceBEq, beq_self_eq_true, Nat.reduceMul, Nat.reduceSub, wpSp, Option.bind_some, Option.some.injEq, exists_eq_left', exists_eq_left, reduceIte, if_false, if_true, Nat.reduceEqDiff, Nat.reduceAdd, Nat.reduceLeDiff, Int.reduceEq, Int.reduceLT, Int.reduceLE, Int.reduceToNat, decide_true, decide_false, DV.bool.injEq, DV.int.injEq, DV.mp.injEq, DV.msl.injEq, DV.tup.injEq, DV.agg.injEq, DV.fn.injEq, true_implies, forall_const, reduceCtorEq, implies_true, ne_eq, DMem.mt]
    refine ⟨p.length - (i + 1), M10, by omega, SubD.refl _, i + 1, d', S', by omega, rfl, rfl, ?_, by rw [hM10, DMem.ins_same]; rfl, ?_, hnd9 hnd1, hrS9, hoS9, fun x hx => ?_, fun x B hB => ?_⟩
    · rw [hM10, DMem.ins_ne _ _ hro]; exact hk9 r _ hMr3 hrS
    · rw [List.take_succ_eq_append_getElem hip]
      exact hsl9.frame fncE_ok fun x hx => by rw [hM10, DMem.ins_ne _ _ (by rintro rfl; exact hoS9 hx)]
    · have hold : M' x = none → M x = none := fun h' => by
        cases e1 : M x with
        | none => rfl
        | some B => have := hkeep x B e1; rw [h'] at this; cases this
      rcases hS9 x hx with h' | h' | h'
      · exact hS x h'
      · exact hold (hTM x h')
      · refine hold ?_
        cases e1 : M' x with
        | none => rfl
        | some B => have := hk3 x B (fun e' => by rw [e', hq3] at h'; cases h') e1; rw [h'] at this; cases this
    · have e1 : x ≠ o := by rintro rfl; rw [hoM] at hB; cases hB
      have e2 : x ∉ S := fun hh => by rw [hS x hh] at hB; cases hB
      have e4 : x ≠ q := by rintro rfl; rw [hqM] at hB; cases hB
      rw [hM10, DMem.ins_ne _ _ e1]
      exact hk9 x B (hk3 x B e4 (hkeep x B hB)) e2
  · have hil : i = p.length := by omega
    subst hil
    rw [List.take_length] at hsl
    simp only [S3_swagelaw0_CopyProgram, MU_swagelaw0_CopyProgram, h1, h2, h3, h4, hMo, ldnM, SW, wpD, evDL, evDM, evD, bldLD, List.contains_cons, List.contains_nil, Nat.reduceBEq, beq_self_eq_true, Nat.reduceMul, Nat.reduceSub, wpSp, Option.bind_some, Option.some.injEq, exists_eq_left', exists_eq_left, reduceIte, if_false, if_true, Nat.reduceEqDiff, Nat.reduceAdd, Nat.reduceLeDiff, Int.reduceEq, Int.reduceLT, Int.reduceLE, Int.reduceToNat, decide_true, decide_false, DV.bool.injEq, DV.int.injEq, DV.mp.injEq, DV.msl.injEq, DV.tup.injEq, DV.agg.injEq, DV.fn.injEq, true_implies, forall_const, reduceCtorEq, implies_true, ne_eq, DMem.mt]
    refine stD hMr rfl rfl (by simp) (by simp) (by simp only [List.all_cons, List.all_nil, hsl.plain]; rfl) fun M2 hM2 => ?_
    have f2 : M2 r = some ⟨24, 1, [d]⟩ := by rw [hM2, DMem.ins_same]; rfl
    simp only [h1, h2, h3, h4, f2, ldnM, SW, wpD, evDL, evDM, evD, bldLD, List.contains_cons, List.contains_nil, Nat.reduceBEq, beq_self_eq_true, Nat.reduceMul, Nat.reduceSub, wpSp, Option.bind_some, Option.some.injEq, exists_eq_left', exists_eq_left, reduceIte, if_false, if_true, Nat.reduceEqDiff, Nat.reduceAdd, Nat.reduceLeDiff, Int.reduceEq, Int.reduceLT, Int.reduceLE, Int.reduceToNat, decide_true, decide_false, DV.bool.injEq, DV.int.injEq, DV.mp.injEq, DV.msl.injEq, DV.tup.injEq, DV.agg.injEq, DV.fn.injEq, true_implies, forall_const, reduceCtorEq, implies_true, ne_eq, DMem.mt]
    exact hR d M2 S (hsl.frame fncE_ok fun x hx => by rw [hM2, DMem.ins_ne _ _ (by rintro rfl; exact hrS hx)]) hnd hS fun x B hB => by
      have e1 : x ≠ r := by rintro rfl; rw [hr] at hB; cases hB
      rw [hM2, DMem.ins_ne _ _ e1]; exact hkeep x B hB
end Go.Proofs.Ytaifmmeghninhaa.Pf
