/- A function out of bytes: the program's taker. No condition. -/
import Derived.Test.YtaifmmeghninhaaKf
namespace Go.Proofs.Ytaifmmeghninhaa.Pf
open Go Go.RowKit Go.Proofs Go.Proofs.Ytaifmmeghninhaa.Mw Go.Proofs.Ytaifmmeghninhaa.Sx
set_option linter.unusedVariables false
set_option linter.unusedSimpArgs false
set_option maxRecDepth 4000
def insE : El Ins := flatE Ins.c 2
theorem insE_ok : insE.Ok := flatE_ok (by decide) Ins.len Ins.froz (fun x => rfl)
def fncE : El Fnc := ⟨3, Fnc.c, 1, fun M f cs S => ∃ d, cs = [.int .i64 f.args, .int .i64 f.locals, d] ∧ SlAt insE M d f.code S⟩
theorem fncE_ok : fncE.Ok where
  pos := by decide
  len := by rintro M x cs S ⟨d, rfl, _⟩; rfl
  clen := fun x => rfl
  frame := by rintro M M' x cs S ⟨d, rfl, h⟩ hk; exact ⟨d, rfl, h.frame insE_ok hk⟩
  fz := by
    rintro M x cs S k ⟨d, rfl, h⟩ hk
    obtain ⟨j, rfl⟩ : ∃ j, k = j + 1 := ⟨k - 1, by have : 1 ≤ k := hk; omega⟩
    simp only [List.map_cons, List.map_nil, fz_int]
    rw [h.fz insE_ok (k := j) (Nat.zero_le _)]
    rfl
  plain := by
    rintro M x cs S ⟨d, rfl, h⟩
    simp only [List.all_cons, List.all_nil, h.plain]; rfl
  here := by rintro M x cs S ⟨d, rfl, h⟩ b hb; exact h.here insE_ok b hb
theorem fn_pc {M : DMem} {b : Nat} {t : Tk} (h : TkAt M b t) {R : DV → DMem → Prop}
    (hR : ∀ M' d S, TkAt M' b (fncP t).2 → SlAt insE M' d (fncP t).1.code S → S.Nodup → (∀ x ∈ S, M x = none) → (∀ x B, x ≠ b → M x = some B → M' x = some B) → R (.agg [.int .i64 (fncP t).1.args, .int .i64 (fncP t).1.locals, d]) M') :
    PC Try.prog F_pack_taker_fn [.mp b 0] R M := by
  refine pc_pack_taker_fn (by simp) ?_
  simp only [S_pack_taker_fn, R_pack_taker_fn, MU_pack_taker_fn, SW, wpD, evDL, evDM, evD, bldLD, List.contains_cons, List.contains_nil, Nat.reduceBEq, beq_self_eq_true, Nat.reduceMul, Nat.reduceSub, wpSp, Option.bind_some, Option.some.injEq, exists_eq_left', exists_eq_left, reduceIte, if_false, if_true, Nat.reduceEqDiff, Nat.reduceAdd, Nat.reduceLeDiff, Int.reduceEq, Int.reduceLT, Int.reduceLE, Int.reduceToNat, decide_true, decide_false, DV.bool.injEq, DV.int.injEq, DV.mp.injEq, DV.msl.injEq, DV.tup.injEq, DV.agg.injEq, DV.fn.injEq, true_implies, forall_const, reduceCtorEq, implies_true, ne_eq, DMem.mt]
  intro p M1 hp hM1
  have hbp : b ≠ p := by rintro rfl; obtain ⟨_, h1, _⟩ := h; rw [hp] at h1; cases h1
  have h1 : TkAt M1 b t := h.other fun B hB => by rw [hM1, DMem.ins_ne _ _ hbp]; exact hB
  refine next_pc h1 _ fun M2 h2 hk2 => ?_
  have hp2 : M2 p = some ⟨46, 3, [.int .i64 0, .int .i64 0, .zsl]⟩ := by rw [hk2 p (Ne.symm hbp), hM1, DMem.ins_same]
  simp only [S5_pack_taker_fn, MU_pack_taker_fn, SW, wpD, evDL, evDM, evD, bldLD, List.contains_cons, List.contains_nil, Nat.reduceBEq, beq_self_eq_true, Nat.reduceMul, Nat.reduceSub, wpSp, Option.bind_some, Option.some.injEq, exists_eq_left', exists_eq_left, reduceIte, if_false, if_true, Nat.reduceEqDiff, Nat.reduceAdd, Nat.reduceLeDiff, Int.reduceEq, Int.reduceLT, Int.reduceLE, Int.reduceToNat, decide_true, decide_false, DV.bool.injEq, DV.int.injEq, DV.mp.injEq, DV.msl.injEq, DV.tup.injEq, DV.agg.injEq, DV.fn.injEq, true_implies, forall_const, reduceCtorEq, implies_true, ne_eq, DMem.mt]
  intro q M3 hq hM3
  have hqp : q ≠ p := by rintro rfl; rw [hp2] at hq; cases hq
  have hbq : b ≠ q := by rintro rfl; obtain ⟨_, g, _⟩ := h2; rw [hq] at g; cases g
  have hq3 : M3 q = some ⟨46, 3, [.int .i64 (nextP t).1, .int .i64 0, .zsl]⟩ := by rw [hM3, DMem.ins_same]
  have hp3 : M3 p = some ⟨46, 3, [.int .i64 0, .int .i64 0, .zsl]⟩ := by rw [hM3, DMem.ins_ne _ _ (Ne.symm hqp)]; exact hp2
  have h3 : TkAt M3 b (nextP t).2 := h2.other fun B hB => by rw [hM3, DMem.ins_ne _ _ hbq]; exact hB
  have hk3 : ∀ x B, x ≠ b → M x = some B → M3 x = some B ∧ x ≠ p ∧ x ≠ q := fun x B hx hB => by
    have e1 : x ≠ p := by rintro rfl; rw [hp] at hB; cases hB
    have e2 : M2 x = some B := by rw [hk2 x hx, hM1, DMem.ins_ne _ _ e1]; exact hB
    have e3 : x ≠ q := by rintro rfl; rw [hq] at e2; cases e2
    exact ⟨by rw [hM3, DMem.ins_ne _ _ e3]; exact e2, e1, e3⟩
  have hbM : M b ≠ none := by obtain ⟨_, g, _⟩ := h; rw [g]; simp
  clear hk2 hM3 hM1 h1 h2 hp2 hq
  try simp only [SW, wpD, evDL, evDM, evD, bldLD, List.contains_cons, List.contains_nil, Nat.reduceBEq, beq_self_eq_true, Nat.reduceMul, Nat.reduceSub, wpSp, Option.bind_some, Option.some.injEq, exists_eq_left', exists_eq_left, reduceIte, if_false, if_true, Nat.reduceEqDiff, Nat.reduceAdd, Nat.reduceLeDiff, Int.reduceEq, Int.reduceLT, Int.reduceLE, Int.reduceToNat, decide_true, decide_false, DV.bool.injEq, DV.int.injEq, DV.mp.injEq, DV.msl.injEq, DV.tup.injEq, DV.agg.injEq, DV.fn.injEq, true_implies, forall_const, reduceCtorEq, implies_true, ne_eq, DMem.mt]
  refine next_pc h3 _ fun M4 h4 hk4 => ?_
  have hq4 : M4 q = _ := (hk4 q (Ne.symm hbq)).trans hq3
  simp only [S4_pack_taker_fn, MU_pack_taker_fn, SW, wpD, evDL, evDM, evD, bldLD, List.contains_cons, List.contains_nil, Nat.reduceBEq, beq_self_eq_true, Nat.reduceMul, Nat.reduceSub, wpSp, Option.bind_some, Option.some.injEq, exists_eq_left', exists_eq_left, reduceIte, if_false, if_true, Nat.reduceEqDiff, Nat.reduceAdd, Nat.reduceLeDiff, Int.reduceEq, Int.reduceLT, Int.reduceLE, Int.reduceToNat, decide_true, decide_false, DV.bool.injEq, DV.int.injEq, DV.mp.injEq, DV.msl.injEq, DV.tup.injEq, DV.agg.injEq, DV.fn.injEq, true_implies, forall_const, reduceCtorEq, implies_true, ne_eq, DMem.mt]
  refine stD hq4 rfl rfl (by simp) (by simp) rfl fun M5 hM5 => ?_
  have hq5 : M5 q = some ⟨46, 3, [.int .i64 (nextP t).1, .int .i64 (nextP (nextP t).2).1, .zsl]⟩ := by rw [hM5, DMem.ins_same]; rfl
  have hk5 : ∀ x, x ≠ b → x ≠ q → M5 x = M3 x := fun x e1 e2 => by rw [hM5, DMem.ins_ne _ _ e2, hk4 x e1]
  have h5 : TkAt M5 b (nextP (nextP t).2).2 := h4.other fun B hB => by rw [hM5, DMem.ins_ne _ _ hbq]; exact hB
  clear hq4 hM5 h4 hk4
  refine next_pc h5 _ fun M6 h6 hk6 => ?_
  have hq6 : M6 q = _ := (hk6 q (Ne.symm hbq)).trans hq5
  have hp6 : M6 p = some ⟨46, 3, [.int .i64 0, .int .i64 0, .zsl]⟩ := by rw [hk6 p (Ne.symm hbp), hk5 p (Ne.symm hbp) (Ne.symm hqp)]; exact hp3
  have hk7 : ∀ x B, x ≠ b → M x = some B → M6 x = some B := fun x B hx hB => by
    obtain ⟨f1, f2, f3⟩ := hk3 x B hx hB
    rw [hk6 x hx, hk5 x hx f3]; exact f1
  have hq0 : M q = none := by
    cases e : M q with
    | none => rfl
    | some B => exact absurd rfl (hk3 q B (Ne.symm hbq) e).2.2
  clear hk5 hq5 h5 hk6 hq3 hp3 hk3 h3
  simp only [S3_pack_taker_fn, MU_pack_taker_fn, SW, wpD, evDL, evDM, evD, bldLD, List.contains_cons, List.contains_nil, Nat.reduceBEq, beq_self_eq_true, Nat.reduceMul, Nat.reduceSub, wpSp, Option.bind_some, Option.some.injEq, exists_eq_left', exists_eq_left, reduceIte, if_false, if_true, Nat.reduceEqDiff, Nat.reduceAdd, Nat.reduceLeDiff, Int.reduceEq, Int.reduceLT, Int.reduceLE, Int.reduceToNat, decide_true, decide_false, DV.bool.injEq, DV.int.injEq, DV.mp.injEq, DV.msl.injEq, DV.tup.injEq, DV.agg.injEq, DV.fn.injEq, true_implies, forall_const, reduceCtorEq, implies_true, ne_eq, DMem.mt]
  have hnin := nextP_in (nextP (nextP t).2).2
  generalize hn : nextP (nextP (nextP t).2).2 = nt at h6 hnin
  obtain ⟨n, t0⟩ := nt
  obtain ⟨m, rfl⟩ := Int.eq_ofNat_of_zero_le hnin.1
  have hm : m < 256 := by have := hnin.2; omega
  refine ⟨fun k δ M' => ∃ (acc : List Ins) (t' : Tk) (d : DV) (S : List Nat), codeP m t0 = (acc ++ (codeP k t').1, (codeP k t').2) ∧ acc.length + k ≤ 256 ∧ k ≤ 255 ∧ δ 0 = .mp b 0 ∧ δ 2 = .mp p 0 ∧ δ 3 = .mp q 0 ∧ δ 4 = .int .i64 k ∧
      M' q = some ⟨46, 3, [.int .i64 (nextP t).1, .int .i64 (nextP (nextP t).2).1, d]⟩ ∧ M' p = some ⟨46, 3, [.int .i64 0, .int .i64 0, .zsl]⟩ ∧ TkAt M' b t' ∧ SlAt insE M' d acc S ∧ S.Nodup ∧ q ∉ S ∧ (∀ x ∈ S, M x = none ∧ x ≠ p) ∧ ∀ x B, x ≠ b → M x = some B → M' x = some B, m,
    ⟨[], t0, .zsl, [], by simp, by simp; omega, by omega, rfl, rfl, rfl, rfl, hq6, hp6, h6, SlAt.nil, List.nodup_nil, by simp, fun x hx => by simp at hx, hk7⟩, ?_⟩
  clear hq6 hp6 h6 hk7
  rintro k δ M' ⟨acc, t', d, S, hc, hlen, hk255, h0, h2, h3, h4, hMq, hMp, ht, hsl, hnd, hqS, hS, hkeep⟩
  /- the end -/
  have fin : codeP m t0 = (acc, t') → StoreD M' 3 (.mp p 0) (.agg [.int .i64 (nextP t).1, .int .i64 (nextP (nextP t).2).1, d]) fun v M' => ∃ d, ldnD M' 3 (.mp p 0) = some d ∧ R d M' := by
    intro he
    have hf : fncP t = (⟨(nextP t).1, (nextP (nextP t).2).1, acc⟩, t') := by unfold fncP; simp only [hn, Int.toNat_natCast, he]
    refine stD hMp rfl rfl (by simp) (by simp) (by simp only [List.all_cons, List.all_nil, hsl.plain]; rfl) fun M8 hM8 => ?_
    have g6 : M8 p = some ⟨46, 3, [.int .i64 (nextP t).1, .int .i64 (nextP (nextP t).2).1, d]⟩ := by rw [hM8, DMem.ins_same]; rfl
    refine ⟨_, by simp only [ldnM, g6, SW, wpD, evDL, evDM, evD, bldLD, List.contains_cons, List.contains_nil, Nat.reduceBEq, beq_self_eq_true, Nat.reduceMul, Nat.reduceSub, wpSp, Option.bind_some, Option.some.injEq, exists_eq_left', exists_eq_left, reduceIte, if_false, if_true, Nat.reduceEqDiff, Nat.reduceAdd, Nat.reduceLeDiff, Int.reduceEq, Int.reduceLT, Int.reduceLE, Int.reduceToNat, decide_true, decide_false, DV.bool.injEq, DV.int.injEq, DV.mp.injEq, DV.msl.injEq, DV.tup.injEq, DV.agg.injEq, DV.fn.injEq, true_implies, forall_const, reduceCtorEq, implies_true, ne_eq, DMem.mt]; rfl, ?_⟩
    have := hR M8 d S (by rw [hf]; exact ht.other fun B hB => by rw [hM8, DMem.ins_ne _ _ hbp]; exact hB) (by rw [hf]; exact hsl.frame insE_ok fun x hx => by rw [hM8, DMem.ins_ne _ _ (hS x hx).2]) hnd (fun x hx => (hS x hx).1) fun x B hx hB => by
      have e1 : x ≠ p := by rintro rfl; rw [hp] at hB; cases hB
      rw [hM8, DMem.ins_ne _ _ e1]; exact hkeep x B hx hB
    rw [hf] at this
    exact this
  obtain ⟨errs, hMb, hE⟩ := ht
  cases k with
  | zero =>
    replace h4 : δ 4 = .int .i64 0 := h4
    simp only [S1_pack_taker_fn, S2_pack_taker_fn, MU_pack_taker_fn, h0, h2, h3, h4, hMb, hMq, ldnM, SW, wpD, evDL, evDM, evD, bldLD, List.contains_cons, List.contains_nil, Nat.reduceBEq, beq_self_eq_true, Nat.reduceMul, Nat.reduceSub, wpSp, Option.bind_some, Option.some.injEq, exists_eq_left', exists_eq_left, reduceIte, if_false, if_true, Nat.reduceEqDiff, Nat.reduceAdd, Nat.reduceLeDiff, Int.reduceEq, Int.reduceLT, Int.reduceLE, Int.reduceToNat, decide_true, decide_false, DV.bool.injEq, DV.int.injEq, DV.mp.injEq, DV.msl.injEq, DV.tup.injEq, DV.agg.injEq, DV.fn.injEq, true_implies, forall_const, reduceCtorEq, implies_true, ne_eq, DMem.mt]
    exact fin (by rw [hc]; simp [codeP])
  | succ k =>
    have hpos : (0 : Int) < ((k + 1 : Nat) : Int) := by omega
    simp only [S1_pack_taker_fn, MU_pack_taker_fn, h0, h2, h3, h4, hMb, hMq, hpos, ldnM, SW, wpD, evDL, evDM, evD, bldLD, List.contains_cons, List.contains_nil, Nat.reduceBEq, beq_self_eq_true, Nat.reduceMul, Nat.reduceSub, wpSp, Option.bind_some, Option.some.injEq, exists_eq_left', exists_eq_left, reduceIte, if_false, if_true, Nat.reduceEqDiff, Nat.reduceAdd, Nat.reduceLeDiff, Int.reduceEq, Int.reduceLT, Int.reduceLE, Int.reduceToNat, decide_true, decide_false, DV.bool.injEq, DV.int.injEq, DV.mp.injEq, DV.msl.injEq, DV.tup.injEq, DV.agg.injEq, DV.fn.injEq, true_implies, forall_const, reduceCtorEq, implies_true, ne_eq, DMem.mt]
    cases errs with
    | cons s l =>
      refine effEqNil rfl u61 (b := false) (.inr ⟨rfl, _, _, by simp only [SW, wpD, evDL, evDM, evD, bldLD, List.contains_cons, List.contains_nil, Nat.reduceBEq, beq_self_eq_true, Nat.reduceMul, Nat.reduceSub, wpSp, Option.bind_some, Option.some.injEq, exists_eq_left', exists_eq_left, reduceIte, if_false, if_true, Nat.reduceEqDiff, Nat.reduceAdd, Nat.reduceLeDiff, Int.reduceEq, Int.reduceLT, Int.reduceLE, Int.reduceToNat, decide_true, decide_false, DV.bool.injEq, DV.int.injEq, DV.mp.injEq, DV.msl.injEq, DV.tup.injEq, DV.agg.injEq, DV.fn.injEq, true_implies, forall_const, reduceCtorEq, implies_true, ne_eq, DMem.mt]; rfl⟩) ?_
      simp only [S2_pack_taker_fn, MU_pack_taker_fn, h0, h2, h3, h4, hMb, hMq, hpos, ldnM, SW, wpD, evDL, evDM, evD, bldLD, List.contains_cons, List.contains_nil, Nat.reduceBEq, beq_self_eq_true, Nat.reduceMul, Nat.reduceSub, wpSp, Option.bind_some, Option.some.injEq, exists_eq_left', exists_eq_left, reduceIte, if_false, if_true, Nat.reduceEqDiff, Nat.reduceAdd, Nat.reduceLeDiff, Int.reduceEq, Int.reduceLT, Int.reduceLE, Int.reduceToNat, decide_true, decide_false, DV.bool.injEq, DV.int.injEq, DV.mp.injEq, DV.msl.injEq, DV.tup.injEq, DV.agg.injEq, DV.fn.injEq, true_implies, forall_const, reduceCtorEq, implies_true, ne_eq, DMem.mt]
      have e : t'.2 = true := by rw [← hE]; rfl
      exact fin (by rw [hc]; simp [codeP, e])
    | nil =>
      refine effEqNil rfl u61 (b := true) (.inl ⟨rfl, by simp only [SW, wpD, evDL, evDM, evD, bldLD, List.contains_cons, List.contains_nil, Nat.reduceBEq, beq_self_eq_true, Nat.reduceMul, Nat.reduceSub, wpSp, Option.bind_some, Option.some.injEq, exists_eq_left', exists_eq_left, reduceIte, if_false, if_true, Nat.reduceEqDiff, Nat.reduceAdd, Nat.reduceLeDiff, Int.reduceEq, Int.reduceLT, Int.reduceLE, Int.reduceToNat, decide_true, decide_false, DV.bool.injEq, DV.int.injEq, DV.mp.injEq, DV.msl.injEq, DV.tup.injEq, DV.agg.injEq, DV.fn.injEq, true_implies, forall_const, reduceCtorEq, implies_true, ne_eq, DMem.mt]; rfl⟩) ?_
      have e : t'.2 = false := by rw [← hE]; rfl
      simp only [raw0_pack_taker_fn, P0_pack_taker_fn, MU_pack_taker_fn, h0, h2, h3, h4, hMb, hMq, hpos, ldnM, SW, wpD, evDL, evDM, evD, bldLD, List.contains_cons, List.contains_nil, Nat.reduceBEq, beq_self_eq_true, Nat.reduceMul, Nat.reduceSub, wpSp, Option.bind_some, Option.some.injEq, exists_eq_left', exists_eq_left, reduceIte, if_false, if_true, Nat.reduceEqDiff, Nat.reduceAdd, Nat.reduceLeDiff, Int.reduceEq, Int.reduceLT, Int.reduceLE, Int.reduceToNat, decide_true, decide_false, DV.bool.injEq, DV.int.injEq, DV.mp.injEq, DV.msl.injEq, DV.tup.injEq, DV.agg.injEq, DV.fn.injEq, true_implies, forall_const, reduceCtorEq, implies_true, ne_eq, DMem.mt]
      refine ins_pc ⟨[], hMb, hE⟩ fun M7 h7 hk7 => ?_
      have hMq7 := hk7 q _ (Ne.symm hbq) hMq
      have hMp7 := hk7 p _ (Ne.symm hbp) hMp
      have hsl7 : SlAt insE M7 d acc S := hsl.frame insE_ok fun x hx => by
        obtain ⟨B, hB⟩ := Option.ne_none_iff_exists'.1 (hsl.here insE_ok x hx)
        rw [hB, hk7 x B (by rintro rfl; exact hbM (hS x hx).1) hB]
      simp only [freshI, List.map_cons, List.map_nil, hMq7, SW, wpD, evDL, evDM, evD, bldLD, List.contains_cons, List.contains_nil, Nat.reduceBEq, beq_self_eq_true, Nat.reduceMul, Nat.reduceSub, wpSp, Option.bind_some, Option.some.injEq, exists_eq_left', exists_eq_left, reduceIte, if_false, if_true, Nat.reduceEqDiff, Nat.reduceAdd, Nat.reduceLeDiff, Int.reduceEq, Int.reduceLT, Int.reduceLE, Int.reduceToNat, decide_true, decide_false, DV.bool.injEq, DV.int.injEq, DV.mp.injEq, DV.msl.injEq, DV.tup.injEq, DV.agg.injEq, DV.fn.injEq, true_implies, forall_const, reduceCtorEq, implies_true, ne_eq, DMem.mt]
      refine hsl7.app insE_ok hnd (ys := [(insP t').1]) (ds := (insP t').1.c) (T := []) (RowAt.one ⟨rfl, rfl⟩) (fun x hx => by simp at hx) rfl (by omega) (by omega) fun d' M9 S' hsl9 hk9 hS9 hnd9 => ?_
      have hMq9 := hk9 q _ hMq7 hqS
      have hbS : b ∉ S := fun hh => hbM (hS b hh).1
      have hpS : p ∉ S := fun hh => (hS p hh).2 rfl
      refine stD hMq9 (hsl9.cell) rfl (by simp) (by simp) (by simp only [List.all_cons, List.all_nil, hsl9.plain]; rfl) fun M10 hM10 => ?_
      have hqS9 : q ∉ S' := fun hh => by
        rcases hS9 q hh with h | h | h
        · exact hqS h
        · simp at h
        · rw [hMq7] at h; cases h
      have hcode : codeP (k + 1) t' = ((insP t').1 :: (codeP k (insP t').2).1, (codeP k (insP t').2).2) := by simp only [codeP, e]; rfl
      have hkd : wr64 (((k + 1 : Nat) : Int) - 1) = (k : Int) := by rw [w64 (by omega)]; omega
      try simp only [h0, h2, h3, h4, hkd, SW, wpD, evDL, evDM, evD, bldLD, List.contains_cons, List.contains_nil, Nat.reduceBEq, beq_self_eq_true, Nat.reduceMul, Nat.reduceSub, wpSp, Option.bind_some, Option.some.injEq, exists_eq_left', exists_eq_left, reduceIte, if_false, if_true, Nat.reduceEqDiff, Nat.reduceAdd, Nat.reduceLeDiff, Int.reduceEq, Int.reduceLT, Int.reduceLE, Int.reduceToNat, decide_true, decide_false, DV.bool.injEq, DV.int.injEq, DV.mp.injEq, DV.msl.injEq, DV.tup.injEq, DV.agg.injEq, DV.fn.injEq, true_implies, forall_const, reduceCtorEq, implies_true, ne_eq, DMem.mt]
      refine ⟨k, M10, by omega, SubD.refl _, acc ++ [(insP t').1], (insP t').2, d', S', ?_, by simp; omega, by omega, rfl, by rw [hM10, DMem.ins_same]; rfl, ?_, ?_, ?_, hnd9 List.nodup_nil, hqS9, fun x hx => ?_, fun x B hx hB => ?_⟩
      · rw [hc, hcode]; simp
      · rw [hM10, DMem.ins_ne _ _ (Ne.symm hqp)]; exact hk9 p _ hMp7 hpS
      · exact h7.other fun B hB => by rw [hM10, DMem.ins_ne _ _ hbq]; exact hk9 b B hB hbS
      · exact hsl9.frame insE_ok fun x hx => by rw [hM10, DMem.ins_ne _ _ (by rintro rfl; exact hqS9 hx)]
      · rcases hS9 x hx with h' | h' | h'
        · exact hS x h'
        · simp at h'
        · refine ⟨?_, by rintro rfl; rw [hMp7] at h'; cases h'⟩
          cases e1 : M x with
          | none => rfl
          | some B =>
            have hxb : x ≠ b := fun e => by obtain ⟨_, g, _⟩ := h7; rw [← e, h'] at g; cases g
            have := hk7 x B hxb (hkeep x B hxb e1)
            rw [h'] at this; cases this
      · have e1 : x ≠ q := by rintro rfl; rw [hq0] at hB; cases hB
        have e2 : x ∉ S := fun hh => by rw [(hS x hh).1] at hB; cases hB
        rw [hM10, DMem.ins_ne _ _ e1]
        exact hk9 x B (hk7 x B hx (hkeep x B hx hB)) e2
end Go.Proofs.Ytaifmmeghninhaa.Pf
