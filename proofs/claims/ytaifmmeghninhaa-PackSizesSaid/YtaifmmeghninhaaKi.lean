/- A program out of bytes: the document's. No condition. -/
import Derived.Test.YtaifmmeghninhaaKh
namespace Go.Proofs.Ytaifmmeghninhaa.Pf
open Go Go.RowKit Go.Proofs Go.Proofs.Ytaifmmeghninhaa.Mw Go.Proofs.Ytaifmmeghninhaa.Sx
set_option linter.unusedVariables false
set_option linter.unusedSimpArgs false
set_option maxRecDepth 4000
/-- The document's taker. -/
def RkAt (M : DMem) (b : Nat) (l : List UInt8) (t : Tk) : Prop := ∃ a : Nat, M b = some ⟨69, 3, [.str (bstr l), .int .i64 a, .bool t.2]⟩ ∧ t.1 = l.drop a ∧ a ≤ l.length + 3
theorem RkAt.other {M M' : DMem} {b : Nat} {l : List UInt8} {t : Tk} (h : RkAt M b l t) (hk : ∀ B, M b = some B → M' b = some B) : RkAt M' b l t := by
  obtain ⟨a, h1, h2⟩ := h
  exact ⟨a, hk _ h1, h2⟩
theorem nextR_pc {M : DMem} {b : Nat} {l : List UInt8} {t : Tk} (h : RkAt M b l t) (hl : l.length ≤ 140737488355328) {R : DV → DMem → Prop} (hR : ∀ M', RkAt M' b l (nextP t).2 → (∀ x, x ≠ b → M' x = M x) → R (.int .i64 (nextP t).1) M') :
    PC Try.prog F_swageref1_taker_next [.mp b 0] R M := by
  obtain ⟨a, hM, hd, ha⟩ := h
  obtain ⟨tl, e⟩ := t
  simp only at hM hd
  refine pc_swageref1_taker_next (by simp) ?_
  simp only [S_swageref1_taker_next, R_swageref1_taker_next, MU_swageref1_taker_next, hM, bstr_slen, SW, wpD, evDL, evDM, evD, bldLD, List.contains_cons, List.contains_nil, Nat.reduceBEq, beq_self_eq_true, Nat.reduceMul, Nat.reduceSub, wpSp, Option.bind_some, Option.some.injEq, exists_eq_left', exists_eq_left, reduceIte, if_false, if_true, Nat.reduceEqDiff, Nat.reduceAdd, Nat.reduceLeDiff, Int.reduceEq, Int.reduceLT, Int.reduceLE, Int.reduceToNat, decide_true, decide_false, DV.bool.injEq, DV.int.injEq, DV.mp.injEq, DV.msl.injEq, DV.tup.injEq, DV.agg.injEq, DV.fn.injEq, true_implies, forall_const, reduceCtorEq, implies_true, ne_eq, DMem.mt, decide_eq_true_eq, decide_eq_false_iff_not]
  refine ⟨fun hc => ?_, fun hc => ?_⟩
  · have hnil : tl = [] := by rw [hd]; exact List.drop_eq_nil_of_le (by omega)
    subst hnil
    refine stD hM rfl rfl (by simp) (by simp) rfl fun M' hM' => ?_
    try simp only [SW, wpD, evDL, evDM, evD, bldLD, List.contains_cons, List.contains_nil, Nat.reduceBEq, beq_self_eq_true, Nat.reduceMul, Nat.reduceSub, wpSp, Option.bind_some, Option.some.injEq, exists_eq_left', exists_eq_left, reduceIte, if_false, if_true, Nat.reduceEqDiff, Nat.reduceAdd, Nat.reduceLeDiff, Int.reduceEq, Int.reduceLT, Int.reduceLE, Int.reduceToNat, decide_true, decide_false, DV.bool.injEq, DV.int.injEq, DV.mp.injEq, DV.msl.injEq, DV.tup.injEq, DV.agg.injEq, DV.fn.injEq, true_implies, forall_const, reduceCtorEq, implies_true, ne_eq, DMem.mt]
    exact hR M' ⟨a, by rw [hM', DMem.ins_same]; rfl, hd, ha⟩ fun x hx => by rw [hM', DMem.ins_ne _ _ hx]
  · have hlt : a < l.length := by omega
    have hcons : tl = l[a] :: l.drop (a + 1) := by rw [hd]; exact List.drop_eq_getElem_cons hlt
    subst hcons
    refine stD hM rfl rfl (by simp) (by simp) rfl fun M' hM' => ?_
    have e1 : wr64 ((a : Int) + 1) = ((a + 1 : Nat) : Int) := by rw [w64 (by omega)]; omega
    have e2 : wr64 (((a + 1 : Nat) : Int) - 1) = (a : Int) := by rw [w64 (by omega)]; omega
    have hM1 : M' b = some ⟨69, 3, [.str (bstr l), .int .i64 ((a + 1 : Nat) : Int), .bool e]⟩ := by rw [hM', DMem.ins_same, e1]; rfl
    have e3 : wr64 (l[a].toNat : Int) = l[a].toNat := by rw [w64 (by have := l[a].toNat_lt; omega)]
    simp only [hM1, e2, bstr_sidx hlt, e3, SW, wpD, evDL, evDM, evD, bldLD, List.contains_cons, List.contains_nil, Nat.reduceBEq, beq_self_eq_true, Nat.reduceMul, Nat.reduceSub, wpSp, Option.bind_some, Option.some.injEq, exists_eq_left', exists_eq_left, reduceIte, if_false, if_true, Nat.reduceEqDiff, Nat.reduceAdd, Nat.reduceLeDiff, Int.reduceEq, Int.reduceLT, Int.reduceLE, Int.reduceToNat, decide_true, decide_false, DV.bool.injEq, DV.int.injEq, DV.mp.injEq, DV.msl.injEq, DV.tup.injEq, DV.agg.injEq, DV.fn.injEq, true_implies, forall_const, reduceCtorEq, implies_true, ne_eq, DMem.mt]
    exact hR M' ⟨a + 1, hM1, rfl, by omega⟩ fun x hx => by rw [hM', DMem.ins_ne _ _ hx]
theorem wrapR_pf (x : Int) : pf Try.prog F_swageref1_Wrap [.int .i64 x] = some (.int .i64 (wrap32 x)) := by
  refine pf_of (v := .int _ _) (pc_swageref1_Wrap (by simp) ?_) (FrozL.nil.cons (Froz.int _ _)) rfl rfl
  simp only [S_swageref1_Wrap, R_swageref1_Wrap, MU_swageref1_Wrap, MU_swageref1_Wrap, SW, wpD, evDL, evDM, evD, bldLD, List.contains_cons, List.contains_nil, Nat.reduceBEq, beq_self_eq_true, Nat.reduceMul, Nat.reduceSub, wpSp, Option.bind_some, Option.some.injEq, exists_eq_left', exists_eq_left, reduceIte, if_false, if_true, Nat.reduceEqDiff, Nat.reduceAdd, Nat.reduceLeDiff, Int.reduceEq, Int.reduceLT, Int.reduceLE, Int.reduceToNat, decide_true, decide_false, DV.bool.injEq, DV.int.injEq, DV.mp.injEq, DV.msl.injEq, DV.tup.injEq, DV.agg.injEq, DV.fn.injEq, true_implies, forall_const, reduceCtorEq, implies_true, ne_eq, DMem.mt]
  congr 1
  have e : wrap32 (x % 18446744073709551616 % 4294967296) = wrap32 x := by unfold wrap32; omega
  rw [e, w64 (by unfold wrap32; omega)]
theorem refCode {M0 : DMem} {δ0 : DEnv} {b q m : Nat} {l : List UInt8} {t0 : Tk} {x1 x2 : DV} {KK : DEnv → DMem → Prop} {XX : Nat → DEnv → DMem → Prop} {RR : DEnv → DMem → Prop} (hl : l.length ≤ 140737488355328)
    (h4 : δ0 4 = .mp b 0) (h8 : δ0 8 = .mp q 0) (h9 : δ0 9 = .int .i64 (m : Nat)) (h10 : δ0 10 = .int .i64 0) (hm : m < 256) (hq : M0 q = some ⟨46, 3, [x1, x2, .zsl]⟩) (hb : RkAt M0 b l t0)
    (hK : ∀ (δ : DEnv) M' d S, δ 0 = δ0 0 → δ 2 = δ0 2 → δ 4 = δ0 4 → δ 5 = δ0 5 → δ 6 = δ0 6 → δ 7 = δ0 7 → δ 8 = δ0 8 → RkAt M' b l (codeP m t0).2 → M' q = some ⟨46, 3, [x1, x2, d]⟩ → SlAt insE M' d (codeP m t0).1 S → S.Nodup → (∀ x ∈ S, M0 x = none) → (∀ x B, x ≠ b → x ≠ q → M0 x = some B → M' x = some B) → XX 2 δ M') :
    wpD Try.prog MU_swageref1_Get (fun f => roL.contains f) (fun t => G_swageref1_Get.contains t) 116 (.loop S9_swageref1_Get) KK XX RR δ0 M0 := by
  have hbq : b ≠ q := by rintro rfl; obtain ⟨_, g, _⟩ := hb; rw [hq] at g; cases g
  have hbM : M0 b ≠ none := by obtain ⟨_, g, _⟩ := hb; rw [g]; simp
  refine ⟨fun k δ M' => ∃ (acc : List Ins) (t' : Tk) (d : DV) (S : List Nat), codeP m t0 = (acc ++ (codeP k t').1, (codeP k t').2) ∧ acc.length + k = m ∧ δ 0 = δ0 0 ∧ δ 2 = δ0 2 ∧ δ 4 = δ0 4 ∧ δ 5 = δ0 5 ∧ δ 6 = δ0 6 ∧ δ 7 = δ0 7 ∧ δ 8 = δ0 8 ∧ δ 9 = δ0 9 ∧ δ 10 = .int .i64 acc.length ∧
      M' q = some ⟨46, 3, [x1, x2, d]⟩ ∧ RkAt M' b l t' ∧ SlAt insE M' d acc S ∧ S.Nodup ∧ q ∉ S ∧ (∀ x ∈ S, M0 x = none) ∧ ∀ x B, x ≠ b → x ≠ q → M0 x = some B → M' x = some B, m,
    ⟨[], t0, .zsl, [], by simp, by simp, rfl, rfl, rfl, rfl, rfl, rfl, rfl, rfl, h10, hq, hb, SlAt.nil, List.nodup_nil, by simp, fun x hx => by simp at hx, fun x B _ _ hB => hB⟩, ?_⟩
  rintro k δ M' ⟨acc, t', d, S, hc, hlen, g0, g2, g4, g5, g6, g7, g8, g9, g10, hMq, ht, hsl, hnd, hqS, hS, hkeep⟩
  rw [h4] at g4
  rw [h8] at g8
  rw [h9] at g9
  obtain ⟨a, hMb, hd, ha⟩ := ht
  have hTk : RkAt M' b l t' := ⟨a, hMb, hd, ha⟩
  simp only [S9_swageref1_Get, MU_swageref1_Get, g4, g8, g9, g10, hMb, hMq, SW, wpD, evDL, evDM, evD, bldLD, List.contains_cons, List.contains_nil, Nat.reduceBEq, beq_self_eq_true, Nat.reduceMul, Nat.reduceSub, wpSp, Option.bind_some, Option.some.injEq, exists_eq_left', exists_eq_left, reduceIte, if_false, if_true, Nat.reduceEqDiff, Nat.reduceAdd, Nat.reduceLeDiff, Int.reduceEq, Int.reduceLT, Int.reduceLE, Int.reduceToNat, decide_true, decide_false, DV.bool.injEq, DV.int.injEq, DV.mp.injEq, DV.msl.injEq, DV.tup.injEq, DV.agg.injEq, DV.fn.injEq, true_implies, forall_const, reduceCtorEq, implies_true, ne_eq, DMem.mt]
  refine ⟨fun hcnd => ?_, fun hcnd => ?_⟩
  · simp only [Bool.and_eq_true, decide_eq_true_eq, Bool.not_eq_true'] at hcnd
    obtain ⟨hlt, hbad⟩ := hcnd
    obtain ⟨k, rfl⟩ : ∃ k', k = k' + 1 := ⟨k - 1, by omega⟩
    have hcode : codeP (k + 1) t' = ((insP t').1 :: (codeP k (insP t').2).1, (codeP k (insP t').2).2) := by simp only [codeP, hbad]; rfl
    refine nextR_pc hTk hl fun M1 hT1 hk1 => ?_
    have hMq1 := (hk1 q (Ne.symm hbq)).trans hMq
    have hsl1 : SlAt insE M1 d acc S := hsl.frame insE_ok fun x hx => hk1 x (by rintro rfl; exact hbM (hS x hx))
    have hkeep1 : ∀ x B, x ≠ b → x ≠ q → M0 x = some B → M1 x = some B := fun x B e1 e2 hB => by rw [hk1 x e1]; exact hkeep x B e1 e2 hB
    clear hk1 hsl hkeep hMb hTk hMq
    simp only [S8_swageref1_Get, MU_swageref1_Get, g4, g8, SW, wpD, evDL, evDM, evD, bldLD, List.contains_cons, List.contains_nil, Nat.reduceBEq, beq_self_eq_true, Nat.reduceMul, Nat.reduceSub, wpSp, Option.bind_some, Option.some.injEq, exists_eq_left', exists_eq_left, reduceIte, if_false, if_true, Nat.reduceEqDiff, Nat.reduceAdd, Nat.reduceLeDiff, Int.reduceEq, Int.reduceLT, Int.reduceLE, Int.reduceToNat, decide_true, decide_false, DV.bool.injEq, DV.int.injEq, DV.mp.injEq, DV.msl.injEq, DV.tup.injEq, DV.agg.injEq, DV.fn.injEq, true_implies, forall_const, reduceCtorEq, implies_true, ne_eq, DMem.mt]
    intro o M2 ho hM2
    have hoq : o ≠ q := by rintro rfl; rw [hMq1] at ho; cases ho
    have hbo : b ≠ o := by rintro rfl; obtain ⟨_, g, _⟩ := hT1; rw [ho] at g; cases g
    have hoS : o ∉ S := fun hh => hsl1.here insE_ok o hh ho
    have hMo2 : M2 o = some ⟨43, 2, [.int .i64 (nextP t').1, .int .i64 0]⟩ := by rw [hM2, DMem.ins_same]
    have hMq2 : M2 q = some ⟨46, 3, [x1, x2, d]⟩ := by rw [hM2, DMem.ins_ne _ _ (Ne.symm hoq)]; exact hMq1
    have hT2 : RkAt M2 b l (nextP t').2 := hT1.other fun B hB => by rw [hM2, DMem.ins_ne _ _ hbo]; exact hB
    have hsl2 : SlAt insE M2 d acc S := hsl1.frame insE_ok fun x hx => by rw [hM2, DMem.ins_ne _ _ (by rintro rfl; exact hoS hx)]
    have hkeep2 : ∀ x B, x ≠ b → x ≠ q → M0 x = some B → M2 x = some B ∧ x ≠ o := fun x B e1 e2 hB => by
      have g := hkeep1 x B e1 e2 hB
      have e3 : x ≠ o := by rintro rfl; rw [ho] at g; cases g
      exact ⟨by rw [hM2, DMem.ins_ne _ _ e3]; exact g, e3⟩
    clear hsl1 hkeep1 hT1 hM2 hMq1 ho
    have fin : ∀ (δ' : DEnv) (M' : DMem) (x : Int) (t'' : Tk) (K' : DEnv → DMem → Prop) (X' : Nat → DEnv → DMem → Prop), (∀ δ'' M'', (∃ l_1, ((binD BinOp.add (δ'' 10) (DV.int IntKind.i64 1)).bind fun v => some [(10, v)]) = some l_1 ∧ ∃ k' M0', k' < k + 1 ∧ SubD M0' M'' ∧ ∃ (acc : List Ins) (t' : Tk) (d : DV) (S : List Nat), codeP m t0 = (acc ++ (codeP k' t').1, (codeP k' t').2) ∧ acc.length + k' = m ∧ δ''.upds l_1 0 = δ0 0 ∧ δ''.upds l_1 2 = δ0 2 ∧ δ''.upds l_1 4 = δ0 4 ∧ δ''.upds l_1 5 = δ0 5 ∧ δ''.upds l_1 6 = δ0 6 ∧ δ''.upds l_1 7 = δ0 7 ∧ δ''.upds l_1 8 = δ0 8 ∧ δ''.upds l_1 9 = δ0 9 ∧ δ''.upds l_1 10 = .int .i64 acc.length ∧
        M0' q = some ⟨46, 3, [x1, x2, d]⟩ ∧ RkAt M0' b l t' ∧ SlAt insE M0' d acc S ∧ S.Nodup ∧ ¬ q ∈ S ∧ (∀ x ∈ S, M0 x = none) ∧ ∀ x B, ¬ x = b → ¬ x = q → M0 x = some B → M0' x = some B) → K' δ'' M'') →
        M' o = some ⟨43, 2, [.int .i64 (nextP t').1, .int .i64 x]⟩ → insP t' = (⟨(nextP t').1, x⟩, t'') → RkAt M' b l t'' → (∀ y, y ≠ b → y ≠ o → M' y = M2 y) →
        δ' 0 = δ0 0 → δ' 2 = δ0 2 → δ' 4 = δ0 4 → δ' 5 = δ0 5 → δ' 6 = δ0 6 → δ' 7 = δ0 7 → δ' 8 = δ0 8 → δ' 9 = δ0 9 → δ' 10 = .int .i64 acc.length → δ' 11 = .mp o 0 →
        wpD Try.prog MU_swageref1_Get (fun f => roL.contains f) (fun t => G_swageref1_Get.contains t) 116 S6_swageref1_Get K' X' RR δ' M' := by
      intro δ' M' x t'' K' X' hK' hMo hins hT hk f0 f2 f4 f5 f6 f7 f8 f9 f10 f11
      rw [h8] at f8
      have hMq' : M' q = some ⟨46, 3, [x1, x2, d]⟩ := by rw [hk q (Ne.symm hbq) (Ne.symm hoq)]; exact hMq2
      have hsl' : SlAt insE M' d acc S := hsl2.frame insE_ok fun y hy => hk y (by rintro rfl; exact hbM (hS y hy)) (by rintro rfl; exact hoS hy)
      simp only [S6_swageref1_Get, MU_swageref1_Get, f8, f11, hMq', hMo, ldnM, SW, wpD, evDL, evDM, evD, bldLD, List.contains_cons, List.contains_nil, Nat.reduceBEq, beq_self_eq_true, Nat.reduceMul, Nat.reduceSub, wpSp, Option.bind_some, Option.some.injEq, exists_eq_left', exists_eq_left, reduceIte, if_false, if_true, Nat.reduceEqDiff, Nat.reduceAdd, Nat.reduceLeDiff, Int.reduceEq, Int.reduceLT, Int.reduceLE, Int.reduceToNat, decide_true, decide_false, DV.bool.injEq, DV.int.injEq, DV.mp.injEq, DV.msl.injEq, DV.tup.injEq, DV.agg.injEq, DV.fn.injEq, true_implies, forall_const, reduceCtorEq, implies_true, ne_eq, DMem.mt]
      refine hsl'.app insE_ok hnd (ys := [⟨(nextP t').1, x⟩]) (ds := [.int .i64 (nextP t').1, .int .i64 x]) (T := []) (RowAt.one ⟨rfl, rfl⟩) (fun x hx => by simp at hx) rfl (by omega) (by omega) fun d' M9 S' hsl9 hk9 hS9 hnd9 => ?_
      have hMq9 := hk9 q _ hMq' hqS
      try simp only [f8, SW, wpD, evDL, evDM, evD, bldLD, List.contains_cons, List.contains_nil, Nat.reduceBEq, beq_self_eq_true, Nat.reduceMul, Nat.reduceSub, wpSp, Option.bind_some, Option.some.injEq, exists_eq_left', exists_eq_left, reduceIte, if_false, if_true, Nat.reduceEqDiff, Nat.reduceAdd, Nat.reduceLeDiff, Int.reduceEq, Int.reduceLT, Int.reduceLE, Int.reduceToNat, decide_true, decide_false, DV.bool.injEq, DV.int.injEq, DV.mp.injEq, DV.msl.injEq, DV.tup.injEq, DV.agg.injEq, DV.fn.injEq, true_implies, forall_const, reduceCtorEq, implies_true, ne_eq, DMem.mt]
      refine stD hMq9 (hsl9.cell) rfl (by simp) (by simp) (by simp only [List.all_cons, List.all_nil, hsl9.plain]; rfl) fun M10 hM10 => ?_
      have hqS9 : q ∉ S' := fun hh => by
        rcases hS9 q hh with h' | h' | h'
        · exact hqS h'
        · simp at h'
        · rw [hMq'] at h'; cases h'
      try simp only [SW, wpD, evDL, evDM, evD, bldLD, List.contains_cons, List.contains_nil, Nat.reduceBEq, beq_self_eq_true, Nat.reduceMul, Nat.reduceSub, wpSp, Option.bind_some, Option.some.injEq, exists_eq_left', exists_eq_left, reduceIte, if_false, if_true, Nat.reduceEqDiff, Nat.reduceAdd, Nat.reduceLeDiff, Int.reduceEq, Int.reduceLT, Int.reduceLE, Int.reduceToNat, decide_true, decide_false, DV.bool.injEq, DV.int.injEq, DV.mp.injEq, DV.msl.injEq, DV.tup.injEq, DV.agg.injEq, DV.fn.injEq, true_implies, forall_const, reduceCtorEq, implies_true, ne_eq, DMem.mt]
      refine hK' _ _ ?_
      have e10 : wr64 ((acc.length : Int) + 1) = ((acc.length + 1 : Nat) : Int) := by rw [w64 (by omega)]; omega
      simp only [f0, f2, f4, f5, f6, f7, f8, f9, f10, h8, e10, SW, wpD, evDL, evDM, evD, bldLD, List.contains_cons, List.contains_nil, Nat.reduceBEq, beq_self_eq_true, Nat.reduceMul, Nat.reduceSub, wpSp, Option.bind_some, Option.some.injEq, exists_eq_left', exists_eq_left, reduceIte, if_false, if_true, Nat.reduceEqDiff, Nat.reduceAdd, Nat.reduceLeDiff, Int.reduceEq, Int.reduceLT, Int.reduceLE, Int.reduceToNat, decide_true, decide_false, DV.bool.injEq, DV.int.injEq, DV.mp.injEq, DV.msl.injEq, DV.tup.injEq, DV.agg.injEq, DV.fn.injEq, true_implies, forall_const, reduceCtorEq, implies_true, ne_eq, DMem.mt]
      refine ⟨k, M10, by omega, SubD.refl _, acc ++ [⟨(nextP t').1, x⟩], t'', d', S', ?_, by simp; omega, by simp, by rw [hM10, DMem.ins_same]; rfl, ?_, ?_, hnd9 List.nodup_nil, hqS9, fun y hy => ?_, fun y B e1 e2 hB => ?_⟩
      · rw [hc, hcode, hins]; simp
      · exact hT.other fun B hB => by rw [hM10, DMem.ins_ne _ _ hbq]; exact hk9 b B hB (fun hh => hbM (hS b hh))
      · exact hsl9.frame insE_ok fun y hy => by rw [hM10, DMem.ins_ne _ _ (by rintro rfl; exact hqS9 hy)]
      · rcases hS9 y hy with h' | h' | h'
        · exact hS y h'
        · simp at h'
        · cases e3 : M0 y with
          | none => rfl
          | some B =>
            have hyb : y ≠ b := fun e => by obtain ⟨_, g, _⟩ := hT; rw [← e, h'] at g; cases g
            have hyq : y ≠ q := fun e => by rw [e, hMq'] at h'; cases h'
            obtain ⟨k1, k2⟩ := hkeep2 y B hyb hyq e3
            rw [hk y hyb k2, k1] at h'; cases h'
      · obtain ⟨k1, k2⟩ := hkeep2 y B e1 e2 hB
        rw [hM10, DMem.ins_ne _ _ e2]
        exact hk9 y B (by rw [hk y e1 k2]; exact k1) (fun hh => by have := hS y hh; rw [hB] at this; cases this)
    simp only [hMo2, g4, g8, SW, wpD, evDL, evDM, evD, bldLD, List.contains_cons, List.contains_nil, Nat.reduceBEq, beq_self_eq_true, Nat.reduceMul, Nat.reduceSub, wpSp, Option.bind_some, Option.some.injEq, exists_eq_left', exists_eq_left, reduceIte, if_false, if_true, Nat.reduceEqDiff, Nat.reduceAdd, Nat.reduceLeDiff, Int.reduceEq, Int.reduceLT, Int.reduceLE, Int.reduceToNat, decide_true, decide_false, DV.bool.injEq, DV.int.injEq, DV.mp.injEq, DV.msl.injEq, DV.tup.injEq, DV.agg.injEq, DV.fn.injEq, true_implies, forall_const, reduceCtorEq, implies_true, ne_eq, DMem.mt, decide_eq_true_eq, decide_eq_false_iff_not]
    refine ⟨fun hk => ?_, fun hk => ?_⟩
    · refine nextR_pc hT2 hl fun M3 hT3 hk3 => ?_
      simp only [S4_swageref1_Get, MU_swageref1_Get, g4, g8, SW, wpD, evDL, evDM, evD, bldLD, List.contains_cons, List.contains_nil, Nat.reduceBEq, beq_self_eq_true, Nat.reduceMul, Nat.reduceSub, wpSp, Option.bind_some, Option.some.injEq, exists_eq_left', exists_eq_left, reduceIte, if_false, if_true, Nat.reduceEqDiff, Nat.reduceAdd, Nat.reduceLeDiff, Int.reduceEq, Int.reduceLT, Int.reduceLE, Int.reduceToNat, decide_true, decide_false, DV.bool.injEq, DV.int.injEq, DV.mp.injEq, DV.msl.injEq, DV.tup.injEq, DV.agg.injEq, DV.fn.injEq, true_implies, forall_const, reduceCtorEq, implies_true, ne_eq, DMem.mt]
      refine nextR_pc hT3 hl fun M4 hT4 hk4 => ?_
      simp only [S3_swageref1_Get, MU_swageref1_Get, g4, g8, SW, wpD, evDL, evDM, evD, bldLD, List.contains_cons, List.contains_nil, Nat.reduceBEq, beq_self_eq_true, Nat.reduceMul, Nat.reduceSub, wpSp, Option.bind_some, Option.some.injEq, exists_eq_left', exists_eq_left, reduceIte, if_false, if_true, Nat.reduceEqDiff, Nat.reduceAdd, Nat.reduceLeDiff, Int.reduceEq, Int.reduceLT, Int.reduceLE, Int.reduceToNat, decide_true, decide_false, DV.bool.injEq, DV.int.injEq, DV.mp.injEq, DV.msl.injEq, DV.tup.injEq, DV.agg.injEq, DV.fn.injEq, true_implies, forall_const, reduceCtorEq, implies_true, ne_eq, DMem.mt]
      refine nextR_pc hT4 hl fun M5 hT5 hk5 => ?_
      simp only [S2_swageref1_Get, MU_swageref1_Get, g4, g8, SW, wpD, evDL, evDM, evD, bldLD, List.contains_cons, List.contains_nil, Nat.reduceBEq, beq_self_eq_true, Nat.reduceMul, Nat.reduceSub, wpSp, Option.bind_some, Option.some.injEq, exists_eq_left', exists_eq_left, reduceIte, if_false, if_true, Nat.reduceEqDiff, Nat.reduceAdd, Nat.reduceLeDiff, Int.reduceEq, Int.reduceLT, Int.reduceLE, Int.reduceToNat, decide_true, decide_false, DV.bool.injEq, DV.int.injEq, DV.mp.injEq, DV.msl.injEq, DV.tup.injEq, DV.agg.injEq, DV.fn.injEq, true_implies, forall_const, reduceCtorEq, implies_true, ne_eq, DMem.mt]
      refine nextR_pc hT5 hl fun M6 hT6 hk6 => ?_
      have i2 := nextP_in (nextP t').2
      have i3 := nextP_in (nextP (nextP t').2).2
      have i4 := nextP_in (nextP (nextP (nextP t').2).2).2
      have i5 := nextP_in (nextP (nextP (nextP (nextP t').2).2).2).2
      have hins : insP t' = (⟨(nextP t').1, num4 (nextP (nextP t').2).1 (nextP (nextP (nextP t').2).2).1 (nextP (nextP (nextP (nextP t').2).2).2).1 (nextP (nextP (nextP (nextP (nextP t').2).2).2).2).1⟩, (nextP (nextP (nextP (nextP (nextP t').2).2).2).2).2) := by
        unfold insP; simp only [hk, if_true]
      have hMo6 : M6 o = some ⟨43, 2, [.int .i64 (nextP t').1, .int .i64 0]⟩ := by
        rw [hk6 o (Ne.symm hbo), hk5 o (Ne.symm hbo), hk4 o (Ne.symm hbo), hk3 o (Ne.symm hbo)]; exact hMo2
      have hk6' : ∀ y, y ≠ b → M6 y = M2 y := fun y e1 => by rw [hk6 y e1, hk5 y e1, hk4 y e1, hk3 y e1]
      clear hT3 hT4 hT5 hk3 hk4 hk5 hk6 hT2
      revert hins hT6
      generalize (nextP (nextP (nextP (nextP (nextP t').2).2).2).2).2 = t6 at *
      generalize (nextP (nextP t').2).1 = v2 at *
      generalize (nextP (nextP (nextP t').2).2).1 = v3 at *
      generalize (nextP (nextP (nextP (nextP t').2).2).2).1 = v4 at *
      generalize (nextP (nextP (nextP (nextP (nextP t').2).2).2).2).1 = v5 at *
      intro hT6 hins
      have s3 : wr64 (v2 + IntKind.i64.wrap (v3 * 2 ^ min 8 IntKind.i64.bits)) = v2 + v3 * 256 := by rw [wr_shl i3.1 i3.2 (by decide), w64 (by omega)]; rfl
      have s4 : wr64 (v2 + v3 * 256 + IntKind.i64.wrap (v4 * 2 ^ min 16 IntKind.i64.bits)) = v2 + v3 * 256 + v4 * 65536 := by rw [wr_shl i4.1 i4.2 (by decide), w64 (by omega)]; rfl
      have s5 : wr64 (v2 + v3 * 256 + v4 * 65536 + IntKind.i64.wrap (v5 * 2 ^ min 24 IntKind.i64.bits)) = v2 + v3 * 256 + v4 * 65536 + v5 * 16777216 := by rw [wr_shl i5.1 i5.2 (by decide), w64 (by omega)]; rfl
      simp only [S1_swageref1_Get, MU_swageref1_Get, g4, g8, s3, s4, s5, wrapR_pf, SW, wpD, evDL, evDM, evD, bldLD, List.contains_cons, List.contains_nil, Nat.reduceBEq, beq_self_eq_true, Nat.reduceMul, Nat.reduceSub, wpSp, Option.bind_some, Option.some.injEq, exists_eq_left', exists_eq_left, reduceIte, if_false, if_true, Nat.reduceEqDiff, Nat.reduceAdd, Nat.reduceLeDiff, Int.reduceEq, Int.reduceLT, Int.reduceLE, Int.reduceToNat, decide_true, decide_false, DV.bool.injEq, DV.int.injEq, DV.mp.injEq, DV.msl.injEq, DV.tup.injEq, DV.agg.injEq, DV.fn.injEq, true_implies, forall_const, reduceCtorEq, implies_true, ne_eq, DMem.mt]
      refine stD hMo6 rfl rfl (by simp) (by simp) rfl fun M7 hM7 => ?_
      have hMo7 : M7 o = some ⟨43, 2, [.int .i64 (nextP t').1, .int .i64 (num4 v2 v3 v4 v5)]⟩ := by rw [hM7, DMem.ins_same]; rfl
      have hT7 : RkAt M7 b l t6 := hT6.other fun B hB => by rw [hM7, DMem.ins_ne _ _ hbo]; exact hB
      have hsm : hasB (nextP t').1 = false := by rw [hk]; rfl
      simp only [S7_swageref1_Get, MU_swageref1_Get, g4, g8, hMo7, small_pf, hsm, SW, wpD, evDL, evDM, evD, bldLD, List.contains_cons, List.contains_nil, Nat.reduceBEq, beq_self_eq_true, Nat.reduceMul, Nat.reduceSub, wpSp, Option.bind_some, Option.some.injEq, exists_eq_left', exists_eq_left, reduceIte, if_false, if_true, Nat.reduceEqDiff, Nat.reduceAdd, Nat.reduceLeDiff, Int.reduceEq, Int.reduceLT, Int.reduceLE, Int.reduceToNat, decide_true, decide_false, DV.bool.injEq, DV.int.injEq, DV.mp.injEq, DV.msl.injEq, DV.tup.injEq, DV.agg.injEq, DV.fn.injEq, true_implies, forall_const, reduceCtorEq, implies_true, ne_eq, DMem.mt]
      refine fin _ M7 _ t6 _ _ (fun _ _ h => h) hMo7 hins hT7 (fun y e1 e2 => by rw [hM7, DMem.ins_ne _ _ e2, hk6' y e1]) ?_ ?_ ?_ ?_ ?_ ?_ ?_ ?_ ?_ ?_ <;> simp only [g0, g2, g4, g5, g6, g7, g8, g9, g10, h4, h8, h9, SW, wpD, evDL, evDM, evD, bldLD, List.contains_cons, List.contains_nil, Nat.reduceBEq, beq_self_eq_true, Nat.reduceMul, Nat.reduceSub, wpSp, Option.bind_some, Option.some.injEq, exists_eq_left', exists_eq_left, reduceIte, if_false, if_true, Nat.reduceEqDiff, Nat.reduceAdd, Nat.reduceLeDiff, Int.reduceEq, Int.reduceLT, Int.reduceLE, Int.reduceToNat, decide_true, decide_false, DV.bool.injEq, DV.int.injEq, DV.mp.injEq, DV.msl.injEq, DV.tup.injEq, DV.agg.injEq, DV.fn.injEq, true_implies, forall_const, reduceCtorEq, implies_true, ne_eq, DMem.mt]
    · simp only [S7_swageref1_Get, MU_swageref1_Get, g4, g8, hMo2, small_pf, SW, wpD, evDL, evDM, evD, bldLD, List.contains_cons, List.contains_nil, Nat.reduceBEq, beq_self_eq_true, Nat.reduceMul, Nat.reduceSub, wpSp, Option.bind_some, Option.some.injEq, exists_eq_left', exists_eq_left, reduceIte, if_false, if_true, Nat.reduceEqDiff, Nat.reduceAdd, Nat.reduceLeDiff, Int.reduceEq, Int.reduceLT, Int.reduceLE, Int.reduceToNat, decide_true, decide_false, DV.bool.injEq, DV.int.injEq, DV.mp.injEq, DV.msl.injEq, DV.tup.injEq, DV.agg.injEq, DV.fn.injEq, true_implies, forall_const, reduceCtorEq, implies_true, ne_eq, DMem.mt]
      refine ⟨fun hh => ?_, fun hh => ?_⟩
      · refine nextR_pc hT2 hl fun M3 hT3 hk3 => ?_
        have hMo3 : M3 o = some ⟨43, 2, [.int .i64 (nextP t').1, .int .i64 0]⟩ := by rw [hk3 o (Ne.symm hbo)]; exact hMo2
        simp only [S5_swageref1_Get, MU_swageref1_Get, g4, g8, SW, wpD, evDL, evDM, evD, bldLD, List.contains_cons, List.contains_nil, Nat.reduceBEq, beq_self_eq_true, Nat.reduceMul, Nat.reduceSub, wpSp, Option.bind_some, Option.some.injEq, exists_eq_left', exists_eq_left, reduceIte, if_false, if_true, Nat.reduceEqDiff, Nat.reduceAdd, Nat.reduceLeDiff, Int.reduceEq, Int.reduceLT, Int.reduceLE, Int.reduceToNat, decide_true, decide_false, DV.bool.injEq, DV.int.injEq, DV.mp.injEq, DV.msl.injEq, DV.tup.injEq, DV.agg.injEq, DV.fn.injEq, true_implies, forall_const, reduceCtorEq, implies_true, ne_eq, DMem.mt]
        refine stD hMo3 rfl rfl (by simp) (by simp) rfl fun M7 hM7 => ?_
        have hMo7 : M7 o = some ⟨43, 2, [.int .i64 (nextP t').1, .int .i64 (nextP (nextP t').2).1]⟩ := by rw [hM7, DMem.ins_same]; rfl
        have hT7 : RkAt M7 b l (nextP (nextP t').2).2 := hT3.other fun B hB => by rw [hM7, DMem.ins_ne _ _ hbo]; exact hB
        have hins : insP t' = (⟨(nextP t').1, (nextP (nextP t').2).1⟩, (nextP (nextP t').2).2) := by unfold insP; simp only [hk, if_false, hh, if_true]
        try simp only [SW, wpD, evDL, evDM, evD, bldLD, List.contains_cons, List.contains_nil, Nat.reduceBEq, beq_self_eq_true, Nat.reduceMul, Nat.reduceSub, wpSp, Option.bind_some, Option.some.injEq, exists_eq_left', exists_eq_left, reduceIte, if_false, if_true, Nat.reduceEqDiff, Nat.reduceAdd, Nat.reduceLeDiff, Int.reduceEq, Int.reduceLT, Int.reduceLE, Int.reduceToNat, decide_true, decide_false, DV.bool.injEq, DV.int.injEq, DV.mp.injEq, DV.msl.injEq, DV.tup.injEq, DV.agg.injEq, DV.fn.injEq, true_implies, forall_const, reduceCtorEq, implies_true, ne_eq, DMem.mt]
        refine fin _ M7 _ _ _ _ (fun _ _ h => h) hMo7 hins hT7 (fun y e1 e2 => by rw [hM7, DMem.ins_ne _ _ e2, hk3 y e1]) ?_ ?_ ?_ ?_ ?_ ?_ ?_ ?_ ?_ ?_ <;> simp only [g0, g2, g4, g5, g6, g7, g8, g9, g10, h4, h8, h9, SW, wpD, evDL, evDM, evD, bldLD, List.contains_cons, List.contains_nil, Nat.reduceBEq, beq_self_eq_true, Nat.reduceMul, Nat.reduceSub, wpSp, Option.bind_some, Option.some.injEq, exists_eq_left', exists_eq_left, reduceIte, if_false, if_true, Nat.reduceEqDiff, Nat.reduceAdd, Nat.reduceLeDiff, Int.reduceEq, Int.reduceLT, Int.reduceLE, Int.reduceToNat, decide_true, decide_false, DV.bool.injEq, DV.int.injEq, DV.mp.injEq, DV.msl.injEq, DV.tup.injEq, DV.agg.injEq, DV.fn.injEq, true_implies, forall_const, reduceCtorEq, implies_true, ne_eq, DMem.mt]
      · have hins : insP t' = (⟨(nextP t').1, 0⟩, (nextP t').2) := by unfold insP; simp only [hk, if_false, hh, Bool.false_eq_true]
        refine fin _ M2 _ _ _ _ (fun _ _ h => h) hMo2 hins hT2 (fun y e1 e2 => rfl) ?_ ?_ ?_ ?_ ?_ ?_ ?_ ?_ ?_ ?_ <;> simp only [g0, g2, g4, g5, g6, g7, g8, g9, g10, h4, h8, h9, SW, wpD, evDL, evDM, evD, bldLD, List.contains_cons, List.contains_nil, Nat.reduceBEq, beq_self_eq_true, Nat.reduceMul, Nat.reduceSub, wpSp, Option.bind_some, Option.some.injEq, exists_eq_left', exists_eq_left, reduceIte, if_false, if_true, Nat.reduceEqDiff, Nat.reduceAdd, Nat.reduceLeDiff, Int.reduceEq, Int.reduceLT, Int.reduceLE, Int.reduceToNat, decide_true, decide_false, DV.bool.injEq, DV.int.injEq, DV.mp.injEq, DV.msl.injEq, DV.tup.injEq, DV.agg.injEq, DV.fn.injEq, true_implies, forall_const, reduceCtorEq, implies_true, ne_eq, DMem.mt]
  · have hend : codeP k t' = ([], t') := by
      cases k with
      | zero => rfl
      | succ k =>
        have : (decide ((acc.length : Int) < m)) = true := decide_eq_true (by omega)
        rw [this] at hcnd
        have e : t'.2 = true := by simpa using hcnd
        simp [codeP, e]
    rw [hend, List.append_nil] at hc
    have hcd : codeP m t0 = (acc, t') := hc
    exact hK _ _ d S (by simpa [DEnv.upd_eq] using g0) (by simpa [DEnv.upd_eq] using g2) (by rw [h4]; simpa [DEnv.upd_eq] using g4) (by simpa [DEnv.upd_eq] using g5) (by simpa [DEnv.upd_eq] using g6) (by simpa [DEnv.upd_eq] using g7) (by rw [h8]; simpa [DEnv.upd_eq] using g8) (by rw [hcd]; exact hTk) hMq (by rw [hcd]; exact hsl) hnd hS hkeep
end Go.Proofs.Ytaifmmeghninhaa.Pf
