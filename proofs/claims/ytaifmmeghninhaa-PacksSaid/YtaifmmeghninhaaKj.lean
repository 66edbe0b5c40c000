/- A program out of bytes: the document's, whole. No condition. -/
import Derived.Test.YtaifmmeghninhaaKi
namespace Go.Proofs.Ytaifmmeghninhaa.Pf
open Go Go.RowKit Go.Proofs Go.Proofs.Ytaifmmeghninhaa.Mw Go.Proofs.Ytaifmmeghninhaa.Sx
set_option linter.unusedVariables false
set_option linter.unusedSimpArgs false
set_option maxRecDepth 4000
set_option maxHeartbeats 4000000 in
theorem GetR_pc {M : DMem} (l : List UInt8) (hl : l.length ≤ 140737488355328) {R : DV → DMem → Prop}
    (hR : ∀ d M' S, SlAt fncE M' d (getR l).1 S → S.Nodup → (∀ x ∈ S, M x = none) → SubD M M' → R (.tup [.agg [d], .int .i64 (getR l).2]) M') :
    PC Try.prog F_swageref1_Get [.str (bstr l)] R M := by
  refine pc_swageref1_Get (by simp) ?_
  simp only [S_swageref1_Get, R_swageref1_Get, MU_swageref1_Get, SW, wpD, evDL, evDM, evD, bldLD, List.contains_cons, List.contains_nil, Nat.reduceBEq, beq_self_eq_true, Nat.reduceMul, Nat.reduceSub, wpSp, Option.bind_some, Option.some.injEq, exists_eq_left', exists_eq_left, reduceIte, if_false, if_true, Nat.reduceEqDiff, Nat.reduceAdd, Nat.reduceLeDiff, Int.reduceEq, Int.reduceLT, Int.reduceLE, Int.reduceToNat, decide_true, decide_false, DV.bool.injEq, DV.int.injEq, DV.mp.injEq, DV.msl.injEq, DV.tup.injEq, DV.agg.injEq, DV.fn.injEq, true_implies, forall_const, reduceCtorEq, implies_true, ne_eq, DMem.mt]
  intro r M1 hr hM1
  have hr1 : M1 r = some ⟨24, 1, [.zsl]⟩ := by rw [hM1, DMem.ins_same]
  have hk1 : ∀ x B, M x = some B → M1 x = some B ∧ x ≠ r := fun x B hB => by
    have e1 : x ≠ r := by rintro rfl; rw [hr] at hB; cases hB
    exact ⟨by rw [hM1, DMem.ins_ne _ _ e1]; exact hB, e1⟩
  clear hM1
  try simp only [SW, wpD, evDL, evDM, evD, bldLD, List.contains_cons, List.contains_nil, Nat.reduceBEq, beq_self_eq_true, Nat.reduceMul, Nat.reduceSub, wpSp, Option.bind_some, Option.some.injEq, exists_eq_left', exists_eq_left, reduceIte, if_false, if_true, Nat.reduceEqDiff, Nat.reduceAdd, Nat.reduceLeDiff, Int.reduceEq, Int.reduceLT, Int.reduceLE, Int.reduceToNat, decide_true, decide_false, DV.bool.injEq, DV.int.injEq, DV.mp.injEq, DV.msl.injEq, DV.tup.injEq, DV.agg.injEq, DV.fn.injEq, true_implies, forall_const, reduceCtorEq, implies_true, ne_eq, DMem.mt]
  intro b M2 hb hM2
  have hbr : b ≠ r := by rintro rfl; rw [hr1] at hb; cases hb
  have hr2 : M2 r = some ⟨24, 1, [.zsl]⟩ := by rw [hM2, DMem.ins_ne _ _ (Ne.symm hbr)]; exact hr1
  have hb2 : RkAt M2 b l (l.drop 3, false) := ⟨3, by rw [hM2, DMem.ins_same]; rfl, rfl, by omega⟩
  have hk2 : ∀ x B, M x = some B → M2 x = some B ∧ x ≠ r ∧ x ≠ b := fun x B hB => by
    obtain ⟨f1, f2⟩ := hk1 x B hB
    have e1 : x ≠ b := by rintro rfl; rw [hb] at f1; cases f1
    exact ⟨by rw [hM2, DMem.ins_ne _ _ e1]; exact f1, f2, e1⟩
  have hMb : M b = none := by
    cases e : M b with
    | none => rfl
    | some B => have := (hk1 b B e).1; rw [hb] at this; cases this
  clear hM2 hb hr1 hk1
  try simp only [SW, wpD, evDL, evDM, evD, bldLD, List.contains_cons, List.contains_nil, Nat.reduceBEq, beq_self_eq_true, Nat.reduceMul, Nat.reduceSub, wpSp, Option.bind_some, Option.some.injEq, exists_eq_left', exists_eq_left, reduceIte, if_false, if_true, Nat.reduceEqDiff, Nat.reduceAdd, Nat.reduceLeDiff, Int.reduceEq, Int.reduceLT, Int.reduceLE, Int.reduceToNat, decide_true, decide_false, DV.bool.injEq, DV.int.injEq, DV.mp.injEq, DV.msl.injEq, DV.tup.injEq, DV.agg.injEq, DV.fn.injEq, true_implies, forall_const, reduceCtorEq, implies_true, ne_eq, DMem.mt]
  intro p M3 hp hM3
  have hpr : p ≠ r := by rintro rfl; rw [hr2] at hp; cases hp
  have hpb : p ≠ b := by rintro rfl; obtain ⟨_, g, _⟩ := hb2; rw [hp] at g; cases g
  have hr3 : M3 r = some ⟨24, 1, [.zsl]⟩ := by rw [hM3, DMem.ins_ne _ _ (Ne.symm hpr)]; exact hr2
  have hp3 : M3 p = some ⟨24, 1, [.zsl]⟩ := by rw [hM3, DMem.ins_same]
  have hb3 : RkAt M3 b l (l.drop 3, false) := hb2.other fun B hB => by rw [hM3, DMem.ins_ne _ _ (Ne.symm hpb)]; exact hB
  have hk3 : ∀ x B, M x = some B → M3 x = some B ∧ x ≠ r ∧ x ≠ b ∧ x ≠ p := fun x B hB => by
    obtain ⟨f1, f2, f3⟩ := hk2 x B hB
    have e1 : x ≠ p := by rintro rfl; rw [hp] at f1; cases f1
    exact ⟨by rw [hM3, DMem.ins_ne _ _ e1]; exact f1, f2, f3, e1⟩
  have hMp : M p = none := by
    cases e : M p with
    | none => rfl
    | some B => have := (hk2 p B e).1; rw [hp] at this; cases this
  clear hM3 hp hr2 hb2 hk2
  try simp only [SW, wpD, evDL, evDM, evD, bldLD, List.contains_cons, List.contains_nil, Nat.reduceBEq, beq_self_eq_true, Nat.reduceMul, Nat.reduceSub, wpSp, Option.bind_some, Option.some.injEq, exists_eq_left', exists_eq_left, reduceIte, if_false, if_true, Nat.reduceEqDiff, Nat.reduceAdd, Nat.reduceLeDiff, Int.reduceEq, Int.reduceLT, Int.reduceLE, Int.reduceToNat, decide_true, decide_false, DV.bool.injEq, DV.int.injEq, DV.mp.injEq, DV.msl.injEq, DV.tup.injEq, DV.agg.injEq, DV.fn.injEq, true_implies, forall_const, reduceCtorEq, implies_true, ne_eq, DMem.mt]
  refine nextR_pc hb3 hl fun M4 hb4 hk4 => ?_
  have hr4 : M4 r = some ⟨24, 1, [.zsl]⟩ := by rw [hk4 r (Ne.symm hbr)]; exact hr3
  have hp4 : M4 p = some ⟨24, 1, [.zsl]⟩ := by rw [hk4 p hpb]; exact hp3
  have hk5 : ∀ x B, M x = some B → M4 x = some B := fun x B hB => by
    obtain ⟨f1, f2, f3, f4⟩ := hk3 x B hB
    rw [hk4 x f3]; exact f1
  clear hk4 hr3 hp3 hb3 hk3
  simp only [S17_swageref1_Get, MU_swageref1_Get, SW, wpD, evDL, evDM, evD, bldLD, List.contains_cons, List.contains_nil, Nat.reduceBEq, beq_self_eq_true, Nat.reduceMul, Nat.reduceSub, wpSp, Option.bind_some, Option.some.injEq, exists_eq_left', exists_eq_left, reduceIte, if_false, if_true, Nat.reduceEqDiff, Nat.reduceAdd, Nat.reduceLeDiff, Int.reduceEq, Int.reduceLT, Int.reduceLE, Int.reduceToNat, decide_true, decide_false, DV.bool.injEq, DV.int.injEq, DV.mp.injEq, DV.msl.injEq, DV.tup.injEq, DV.agg.injEq, DV.fn.injEq, true_implies, forall_const, reduceCtorEq, implies_true, ne_eq, DMem.mt]
  have hnin := nextP_in (l.drop 3, false)
  have hprg : prgP (l.drop 3) = fncsP (nextP (l.drop 3, false)).1.toNat (nextP (l.drop 3, false)).2 := rfl
  generalize hn : nextP (l.drop 3, false) = nt at hb4 hnin hprg ⊢
  obtain ⟨n, t0⟩ := nt
  obtain ⟨m, rfl⟩ := Int.eq_ofNat_of_zero_le hnin.1
  simp only [Int.toNat_natCast] at hprg
  have hm : m < 256 := by have := hnin.2; omega
  refine ⟨fun k δ M' => ∃ (acc : List Fnc) (t' : Tk) (d : DV) (S : List Nat), fncsP m t0 = (acc ++ (fncsP k t').1, (fncsP k t').2) ∧ acc.length + k = m ∧ δ 0 = .str (bstr l) ∧ δ 2 = .mp r 0 ∧ δ 4 = .mp b 0 ∧ δ 5 = .mp p 0 ∧ δ 6 = .int .i64 m ∧ δ 7 = .int .i64 acc.length ∧
      M' r = some ⟨24, 1, [.zsl]⟩ ∧ M' p = some ⟨24, 1, [d]⟩ ∧ RkAt M' b l t' ∧ SlAt fncE M' d acc S ∧ S.Nodup ∧ p ∉ S ∧ b ∉ S ∧ (∀ x ∈ S, M x = none ∧ x ≠ r) ∧ ∀ x B, M x = some B → M' x = some B, m,
    ⟨[], t0, .zsl, [], by simp, by simp, rfl, rfl, rfl, rfl, rfl, rfl, hr4, hp4, hb4, SlAt.nil, List.nodup_nil, by simp, by simp, fun x hx => by simp at hx, hk5⟩, ?_⟩
  clear hr4 hp4 hb4 hk5
  rintro k δ M' ⟨acc, t', d, S, hc, hlen, h0, h2, h4, h5, h6, h7, hMr, hMp', ht, hsl, hnd, hpS, hbS, hS, hkeep⟩
  have hrS : r ∉ S := fun hh => (hS r hh).2 rfl
  have hTk := ht
  obtain ⟨a, hMb', hd, ha⟩ := ht
  simp only [S14_swageref1_Get, MU_swageref1_Get, h0, h2, h4, h5, h6, h7, hMb', SW, wpD, evDL, evDM, evD, bldLD, List.contains_cons, List.contains_nil, Nat.reduceBEq, beq_self_eq_true, Nat.reduceMul, Nat.reduceSub, wpSp, Option.bind_some, Option.some.injEq, exists_eq_left', exists_eq_left, reduceIte, if_false, if_true, Nat.reduceEqDiff, Nat.reduceAdd, Nat.reduceLeDiff, Int.reduceEq, Int.reduceLT, Int.reduceLE, Int.reduceToNat, decide_true, decide_false, DV.bool.injEq, DV.int.injEq, DV.mp.injEq, DV.msl.injEq, DV.tup.injEq, DV.agg.injEq, DV.fn.injEq, true_implies, forall_const, reduceCtorEq, implies_true, ne_eq, DMem.mt]
  refine ⟨fun hcnd => ?_, fun hcnd => ?_⟩
  · simp only [Bool.and_eq_true, decide_eq_true_eq, Bool.not_eq_true'] at hcnd
    obtain ⟨hlt, hbad⟩ := hcnd
    obtain ⟨k, rfl⟩ : ∃ k', k = k' + 1 := ⟨k - 1, by omega⟩
    have hcode : fncsP (k + 1) t' = ((fncP t').1 :: (fncsP k (fncP t').2).1, (fncsP k (fncP t').2).2) := by simp only [fncsP, hbad]; rfl
    refine nextR_pc hTk hl fun N1 hT1 hk1 => ?_
    simp only [S13_swageref1_Get, MU_swageref1_Get, h4, SW, wpD, evDL, evDM, evD, bldLD, List.contains_cons, List.contains_nil, Nat.reduceBEq, beq_self_eq_true, Nat.reduceMul, Nat.reduceSub, wpSp, Option.bind_some, Option.some.injEq, exists_eq_left', exists_eq_left, reduceIte, if_false, if_true, Nat.reduceEqDiff, Nat.reduceAdd, Nat.reduceLeDiff, Int.reduceEq, Int.reduceLT, Int.reduceLE, Int.reduceToNat, decide_true, decide_false, DV.bool.injEq, DV.int.injEq, DV.mp.injEq, DV.msl.injEq, DV.tup.injEq, DV.agg.injEq, DV.fn.injEq, true_implies, forall_const, reduceCtorEq, implies_true, ne_eq, DMem.mt]
    intro q N2 hq hN2
    have hq1 : N1 q = none := hq
    have hbq : b ≠ q := by rintro rfl; obtain ⟨_, g, _⟩ := hT1; rw [hq] at g; cases g
    have hqM' : M' q = none := by rw [← hk1 q (Ne.symm hbq)]; exact hq
    have hq2 : N2 q = some ⟨46, 3, [.int .i64 (nextP t').1, .int .i64 0, .zsl]⟩ := by rw [hN2, DMem.ins_same]
    have hT2 : RkAt N2 b l (nextP t').2 := hT1.other fun B hB => by rw [hN2, DMem.ins_ne _ _ hbq]; exact hB
    have hk2 : ∀ x, x ≠ b → x ≠ q → N2 x = M' x := fun x e1 e2 => by rw [hN2, DMem.ins_ne _ _ e2, hk1 x e1]
    clear hk1 hT1 hN2 hq hq1
    try simp only [h4, SW, wpD, evDL, evDM, evD, bldLD, List.contains_cons, List.contains_nil, Nat.reduceBEq, beq_self_eq_true, Nat.reduceMul, Nat.reduceSub, wpSp, Option.bind_some, Option.some.injEq, exists_eq_left', exists_eq_left, reduceIte, if_false, if_true, Nat.reduceEqDiff, Nat.reduceAdd, Nat.reduceLeDiff, Int.reduceEq, Int.reduceLT, Int.reduceLE, Int.reduceToNat, decide_true, decide_false, DV.bool.injEq, DV.int.injEq, DV.mp.injEq, DV.msl.injEq, DV.tup.injEq, DV.agg.injEq, DV.fn.injEq, true_implies, forall_const, reduceCtorEq, implies_true, ne_eq, DMem.mt]
    refine nextR_pc hT2 hl fun N3 hT3 hk3 => ?_
    have hq3 := (hk3 q (Ne.symm hbq)).trans hq2
    simp only [S12_swageref1_Get, MU_swageref1_Get, h4, SW, wpD, evDL, evDM, evD, bldLD, List.contains_cons, List.contains_nil, Nat.reduceBEq, beq_self_eq_true, Nat.reduceMul, Nat.reduceSub, wpSp, Option.bind_some, Option.some.injEq, exists_eq_left', exists_eq_left, reduceIte, if_false, if_true, Nat.reduceEqDiff, Nat.reduceAdd, Nat.reduceLeDiff, Int.reduceEq, Int.reduceLT, Int.reduceLE, Int.reduceToNat, decide_true, decide_false, DV.bool.injEq, DV.int.injEq, DV.mp.injEq, DV.msl.injEq, DV.tup.injEq, DV.agg.injEq, DV.fn.injEq, true_implies, forall_const, reduceCtorEq, implies_true, ne_eq, DMem.mt]
    refine stD hq3 rfl rfl (by simp) (by simp) rfl fun N4 hN4 => ?_
    have hq4 : N4 q = some ⟨46, 3, [.int .i64 (nextP t').1, .int .i64 (nextP (nextP t').2).1, .zsl]⟩ := by rw [hN4, DMem.ins_same]; rfl
    have hT4 : RkAt N4 b l (nextP (nextP t').2).2 := hT3.other fun B hB => by rw [hN4, DMem.ins_ne _ _ hbq]; exact hB
    have hk4 : ∀ x, x ≠ b → x ≠ q → N4 x = M' x := fun x e1 e2 => by rw [hN4, DMem.ins_ne _ _ e2, hk3 x e1, hk2 x e1 e2]
    clear hk3 hT3 hN4 hq3 hk2 hq2 hT2
    try simp only [h4, SW, wpD, evDL, evDM, evD, bldLD, List.contains_cons, List.contains_nil, Nat.reduceBEq, beq_self_eq_true, Nat.reduceMul, Nat.reduceSub, wpSp, Option.bind_some, Option.some.injEq, exists_eq_left', exists_eq_left, reduceIte, if_false, if_true, Nat.reduceEqDiff, Nat.reduceAdd, Nat.reduceLeDiff, Int.reduceEq, Int.reduceLT, Int.reduceLE, Int.reduceToNat, decide_true, decide_false, DV.bool.injEq, DV.int.injEq, DV.mp.injEq, DV.msl.injEq, DV.tup.injEq, DV.agg.injEq, DV.fn.injEq, true_implies, forall_const, reduceCtorEq, implies_true, ne_eq, DMem.mt]
    refine nextR_pc hT4 hl fun N5 hT5 hk5 => ?_
    have hq5 := (hk5 q (Ne.symm hbq)).trans hq4
    have hk6 : ∀ x, x ≠ b → x ≠ q → N5 x = M' x := fun x e1 e2 => by rw [hk5 x e1, hk4 x e1 e2]
    clear hk5 hT4 hk4 hq4
    have hnin2 := nextP_in (nextP (nextP t').2).2
    generalize hn2 : nextP (nextP (nextP t').2).2 = nt2 at hT5 hnin2 ⊢
    obtain ⟨n2, t2⟩ := nt2
    obtain ⟨m2, rfl⟩ := Int.eq_ofNat_of_zero_le hnin2.1
    have hm2 : m2 < 256 := by have := hnin2.2; omega
    have hfn : fncP t' = (⟨(nextP t').1, (nextP (nextP t').2).1, (codeP m2 t2).1⟩, (codeP m2 t2).2) := by unfold fncP; simp only [hn2, Int.toNat_natCast]
    simp only [S11_swageref1_Get, MU_swageref1_Get, h4, SW, wpD, evDL, evDM, evD, bldLD, List.contains_cons, List.contains_nil, Nat.reduceBEq, beq_self_eq_true, Nat.reduceMul, Nat.reduceSub, wpSp, Option.bind_some, Option.some.injEq, exists_eq_left', exists_eq_left, reduceIte, if_false, if_true, Nat.reduceEqDiff, Nat.reduceAdd, Nat.reduceLeDiff, Int.reduceEq, Int.reduceLT, Int.reduceLE, Int.reduceToNat, decide_true, decide_false, DV.bool.injEq, DV.int.injEq, DV.mp.injEq, DV.msl.injEq, DV.tup.injEq, DV.agg.injEq, DV.fn.injEq, true_implies, forall_const, reduceCtorEq, implies_true, ne_eq, DMem.mt]
    refine refCode (KK := fun _ _ => True) (m := m2) (t0 := t2) (q := q) hl h4 rfl rfl rfl hm2 hq5 hT5 fun δ7 M7 d1 T g0 g2 g4 g5 g6 g7 g8 hT7 hq7 hsl1 hnd1 hTf hk7 => ?_
    rw [show (codeP m2 t2).2 = (fncP t').2 by rw [hfn]] at hT7
    rw [show (codeP m2 t2).1 = (fncP t').1.code by rw [hfn]] at hsl1
    have ea : (fncP t').1.args = (nextP t').1 := by rw [hfn]
    have el : (fncP t').1.locals = (nextP (nextP t').2).1 := by rw [hfn]
    replace g0 : δ7 0 = _ := g0.trans h0
    replace g2 : δ7 2 = _ := g2.trans h2
    replace g4 : δ7 4 = _ := g4.trans h4
    replace g5 : δ7 5 = _ := g5.trans h5
    replace g6 : δ7 6 = _ := g6.trans h6
    replace g7 : δ7 7 = _ := g7.trans h7
    replace g8 : δ7 8 = .mp q 0 := g8
    clear hnin2 hn2 hfn hm2
    have hqM : M q = none := by
      cases e : M q with
      | none => rfl
      | some B => have := hkeep q B e; rw [hqM'] at this; cases this
    have hk8 : ∀ x B, x ≠ b → x ≠ q → M' x = some B → M7 x = some B := fun x B e1 e2 hB => hk7 x B e1 e2 (by rw [hk6 x e1 e2]; exact hB)
    have hqp : q ≠ p := by rintro rfl; rw [hMp'] at hqM'; cases hqM'
    have hqr : q ≠ r := by rintro rfl; rw [hMr] at hqM'; cases hqM'
    have hMp7 := hk8 p _ hpb (Ne.symm hqp) hMp'
    have hMr7 := hk8 r _ (Ne.symm hbr) (Ne.symm hqr) hMr
    have hne : ∀ x ∈ S, M' x ≠ none := fun x hx => hsl.here fncE_ok x hx
    have hqS : q ∉ S := fun hh => hne q hh hqM'
    have hsl7 : SlAt fncE M7 d acc S := hsl.frame fncE_ok fun x hx => by
      obtain ⟨B, hB⟩ := Option.ne_none_iff_exists'.1 (hne x hx)
      rw [hB, hk8 x B (by rintro rfl; exact hbS hx) (by rintro rfl; exact hqS hx) hB]
    have hTM : ∀ x ∈ T, M' x = none ∧ x ≠ b ∧ x ≠ q := fun x hx => by
      have hn5 := hTf x hx
      have e1 : x ≠ b := by rintro rfl; obtain ⟨_, g, _⟩ := hT5; rw [hn5] at g; cases g
      have e2 : x ≠ q := by rintro rfl; rw [hq5] at hn5; cases hn5
      exact ⟨by rw [← hk6 x e1 e2]; exact hn5, e1, e2⟩
    simp only [S10_swageref1_Get, MU_swageref1_Get, g5, g8, hMp7, hq7, ldnM, SW, wpD, evDL, evDM, evD, bldLD, List.contains_cons, List.contains_nil, Nat.reduceBEq, beq_self_eq_true, Nat.reduceMul, Nat.reduceSub, wpSp, Option.bind_some, Option.some.injEq, exists_eq_left', exists_eq_left, reduceIte, if_false, if_true, Nat.reduceEqDiff, Nat.reduceAdd, Nat.reduceLeDiff, Int.reduceEq, Int.reduceLT, Int.reduceLE, Int.reduceToNat, decide_true, decide_false, DV.bool.injEq, DV.int.injEq, DV.mp.injEq, DV.msl.injEq, DV.tup.injEq, DV.agg.injEq, DV.fn.injEq, true_implies, forall_const, reduceCtorEq, implies_true, ne_eq, DMem.mt]
    refine hsl7.app fncE_ok hnd (ys := [(fncP t').1]) (ds := [.int .i64 (nextP t').1, .int .i64 (nextP (nextP t').2).1, d1]) (T := T) (RowAt.one ⟨d1, by rw [ea, el], hsl1⟩) (fun x hx hh => hne x hh (hTM x hx).1) rfl (by omega) (by omega) fun d' M9 S' hsl9 hk9 hS9 hnd9 => ?_
    have hMp9 := hk9 p _ hMp7 hpS
    try simp only [g5, SW, wpD, evDL, evDM, evD, bldLD, List.contains_cons, List.contains_nil, Nat.reduceBEq, beq_self_eq_true, Nat.reduceMul, Nat.reduceSub, wpSp, Option.bind_some, Option.some.injEq, exists_eq_left', exists_eq_left, reduceIte, if_false, if_true, Nat.reduceEqDiff, Nat.reduceAdd, Nat.reduceLeDiff, Int.reduceEq, Int.reduceLT, Int.reduceLE, Int.reduceToNat, decide_true, decide_false, DV.bool.injEq, DV.int.injEq, DV.mp.injEq, DV.msl.injEq, DV.tup.injEq, DV.agg.injEq, DV.fn.injEq, true_implies, forall_const, reduceCtorEq, implies_true, ne_eq, DMem.mt]
    refine stD hMp9 (hsl9.cell) rfl (by simp) (by simp) (by simp only [List.all_cons, List.all_nil, hsl9.plain]; rfl) fun M10 hM10 => ?_
    have hpT : p ∉ T := fun hh => by have := (hTM p hh).1; rw [hMp'] at this; cases this
    have hbT : b ∉ T := fun hh => (hTM b hh).2.1 rfl
    have hrT : r ∉ T := fun hh => by have := (hTM r hh).1; rw [hMr] at this; cases this
    have hb7 : M7 b ≠ none := by obtain ⟨_, g, _⟩ := hT7; rw [g]; simp
    have hpS9 : p ∉ S' := fun hh => by
      rcases hS9 p hh with h' | h' | h'
      · exact hpS h'
      · exact hpT h'
      · rw [hMp7] at h'; cases h'
    have hbS9 : b ∉ S' := fun hh => by
      rcases hS9 b hh with h' | h' | h'
      · exact hbS h'
      · exact hbT h'
      · exact hb7 h'
    have e10 : wr64 ((acc.length : Int) + 1) = ((acc.length + 1 : Nat) : Int) := by rw [w64 (by omega)]; omega
    try simp only [g0, g2, g4, g5, g6, g7, g8, e10, SW, wpD, evDL, evDM, evD, bldLD, List.contains_cons, List.contains_nil, Nat.reduceBEq, beq_self_eq_true, Nat.reduceMul, Nat.reduceSub, wpSp, Option.bind_some, Option.some.injEq, exists_eq_left', exists_eq_left, reduceIte, if_false, if_true, Nat.reduceEqDiff, Nat.reduceAdd, Nat.reduceLeDiff, Int.reduceEq, Int.reduceLT, Int.reduceLE, Int.reduceToNat, decide_true, decide_false, DV.bool.injEq, DV.int.injEq, DV.mp.injEq, DV.msl.injEq, DV.tup.injEq, DV.agg.injEq, DV.fn.injEq, true_implies, forall_const, reduceCtorEq, implies_true, ne_eq, DMem.mt]
    refine ⟨k, M10, by omega, SubD.refl _, acc ++ [(fncP t').1], (fncP t').2, d', S', ?_, by simp; omega, by simp, ?_, by rw [hM10, DMem.ins_same]; rfl, ?_, ?_, hnd9 hnd1, hpS9, hbS9, fun x hx => ?_, fun x B hB => ?_⟩
    · rw [hc, hcode]; simp
    · rw [hM10, DMem.ins_ne _ _ (Ne.symm hpr)]; exact hk9 r _ hMr7 hrS
    · exact hT7.other fun B hB => by rw [hM10, DMem.ins_ne _ _ (Ne.symm hpb)]; exact hk9 b B hB hbS
    · exact hsl9.frame fncE_ok fun x hx => by rw [hM10, DMem.ins_ne _ _ (by rintro rfl; exact hpS9 hx)]
    · have hold : M' x = none → M x = none := fun h' => by
        cases e1 : M x with
        | none => rfl
        | some B => have := hkeep x B e1; rw [h'] at this; cases this
      rcases hS9 x hx with h' | h' | h'
      · exact hS x h'
      · exact ⟨hold (hTM x h').1, by rintro rfl; exact hrT h'⟩
      · have hxb : x ≠ b := fun e' => hb7 (by rw [← e']; exact h')
        have hxq : x ≠ q := fun e' => by rw [e', hq7] at h'; cases h'
        refine ⟨hold ?_, fun e' => by rw [e', hMr7] at h'; cases h'⟩
        cases e1 : M' x with
        | none => rfl
        | some B => have := hk8 x B hxb hxq e1; rw [h'] at this; cases this
    · have e1 : x ≠ p := by rintro rfl; rw [hMp] at hB; cases hB
      have e2 : x ∉ S := fun hh => by rw [(hS x hh).1] at hB; cases hB
      have e3 : x ≠ b := by rintro rfl; rw [hMb] at hB; cases hB
      have e4 : x ≠ q := by rintro rfl; rw [hqM] at hB; cases hB
      rw [hM10, DMem.ins_ne _ _ e1]
      exact hk9 x B (hk8 x B e3 e4 (hkeep x B hB)) e2
  · have hend : fncsP k t' = ([], t') := by
      cases k with
      | zero => rfl
      | succ k =>
        have : (decide ((acc.length : Int) < m)) = true := decide_eq_true (by omega)
        rw [this] at hcnd
        have e : t'.2 = true := by simpa using hcnd
        simp [fncsP, e]
    rw [hend, List.append_nil] at hc
    have hcd : fncsP m t0 = (acc, t') := hc
    rw [hcd] at hprg
    have hfz : fz M' 4 (.agg [d]) = .agg [slD Fnc.c acc] := by
      rw [fz_agg]; simp only [List.map_cons, List.map_nil]; rw [hsl.fz fncE_ok (k := 3) (by decide)]; rfl
    simp only [S16_swageref1_Get, MU_swageref1_Get, h0, h2, h4, h5, ldnM, hMp', SW, wpD, evDL, evDM, evD, bldLD, List.contains_cons, List.contains_nil, Nat.reduceBEq, beq_self_eq_true, Nat.reduceMul, Nat.reduceSub, wpSp, Option.bind_some, Option.some.injEq, exists_eq_left', exists_eq_left, reduceIte, if_false, if_true, Nat.reduceEqDiff, Nat.reduceAdd, Nat.reduceLeDiff, Int.reduceEq, Int.reduceLT, Int.reduceLE, Int.reduceToNat, decide_true, decide_false, DV.bool.injEq, DV.int.injEq, DV.mp.injEq, DV.msl.injEq, DV.tup.injEq, DV.agg.injEq, DV.fn.injEq, true_implies, forall_const, reduceCtorEq, implies_true, ne_eq, DMem.mt]
    refine PC.of_pf (by simp only [List.map_cons, List.map_nil, hfz]; exact PutR_pf acc) ?_
    simp only [S15_swageref1_Get, MU_swageref1_Get, h0, h2, h4, h5, hMb', bstr_list, beq_dec, SW, wpD, evDL, evDM, evD, bldLD, List.contains_cons, List.contains_nil, Nat.reduceBEq, beq_self_eq_true, Nat.reduceMul, Nat.reduceSub, wpSp, Option.bind_some, Option.some.injEq, exists_eq_left', exists_eq_left, reduceIte, if_false, if_true, Nat.reduceEqDiff, Nat.reduceAdd, Nat.reduceLeDiff, Int.reduceEq, Int.reduceLT, Int.reduceLE, Int.reduceToNat, decide_true, decide_false, DV.bool.injEq, DV.int.injEq, DV.mp.injEq, DV.msl.injEq, DV.tup.injEq, DV.agg.injEq, DV.fn.injEq, true_implies, forall_const, reduceCtorEq, implies_true, ne_eq, DMem.mt]
    refine ⟨fun hcnd => ?_, fun hcnd => ?_⟩
    · obtain ⟨c1, c2⟩ | ⟨c1, c2⟩ := getR_is (acc := acc) (t := t') hprg
      · refine stD hMr rfl rfl (by simp) (by simp) rfl fun M2 hM2 => ?_
        have f2 : M2 r = some ⟨24, 1, [.zsl]⟩ := by rw [hM2, DMem.ins_same]; rfl
        refine ⟨_, by rw [f2]; rfl, ?_⟩
        have := hR .zsl M2 [] (by rw [c2]; exact SlAt.nil) List.nodup_nil (by simp) fun x B hB => by
          have e1 : x ≠ r := by rintro rfl; rw [hr] at hB; cases hB
          rw [hM2, DMem.ins_ne _ _ e1]; exact hkeep x B hB
        rw [c2] at this
        exact this
      · rw [hcnd] at c1; cases c1
    · obtain ⟨c1, c2⟩ | ⟨c1, c2⟩ := getR_is (acc := acc) (t := t') hprg
      · rw [hcnd] at c1; cases c1
      · simp only [h0, h2, h4, h5, hMp', SW, wpD, evDL, evDM, evD, bldLD, List.contains_cons, List.contains_nil, Nat.reduceBEq, beq_self_eq_true, Nat.reduceMul, Nat.reduceSub, wpSp, Option.bind_some, Option.some.injEq, exists_eq_left', exists_eq_left, reduceIte, if_false, if_true, Nat.reduceEqDiff, Nat.reduceAdd, Nat.reduceLeDiff, Int.reduceEq, Int.reduceLT, Int.reduceLE, Int.reduceToNat, decide_true, decide_false, DV.bool.injEq, DV.int.injEq, DV.mp.injEq, DV.msl.injEq, DV.tup.injEq, DV.agg.injEq, DV.fn.injEq, true_implies, forall_const, reduceCtorEq, implies_true, ne_eq, DMem.mt]
        refine stD hMr rfl rfl (by simp) (by simp) (by simp only [List.all_cons, List.all_nil, hsl.plain]; rfl) fun M2 hM2 => ?_
        have f2 : M2 r = some ⟨24, 1, [d]⟩ := by rw [hM2, DMem.ins_same]; rfl
        refine ⟨_, by rw [f2]; rfl, ?_⟩
        have := hR d M2 S (by rw [c2]; exact hsl.frame fncE_ok fun x hx => by rw [hM2, DMem.ins_ne _ _ (hS x hx).2]) hnd (fun x hx => (hS x hx).1) fun x B hB => by
          have e1 : x ≠ r := by rintro rfl; rw [hr] at hB; cases hB
          rw [hM2, DMem.ins_ne _ _ e1]; exact hkeep x B hB
        rw [c2] at this
        exact this
end Go.Proofs.Ytaifmmeghninhaa.Pf
