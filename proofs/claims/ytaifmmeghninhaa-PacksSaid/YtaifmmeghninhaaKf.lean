/- A program out of bytes: what is computed, and the program's taker. No condition. -/
import Derived.Test.YtaifmmeghninhaaKs
import Derived.Test.YtaifmmeghninhaaKe
namespace Go.Proofs.Ytaifmmeghninhaa.Pf
open Go Go.RowKit Go.Proofs Go.Proofs.Ytaifmmeghninhaa.Mw Go.Proofs.Ytaifmmeghninhaa.Sx
set_option linter.unusedVariables false
set_option linter.unusedSimpArgs false
set_option maxRecDepth 4000
/-- What is left, and whether something was not there. -/
abbrev Tk := List UInt8 × Bool
def nextP : Tk → Int × Tk
  | ([], _) => (0, ([], true))
  | (b :: r, e) => (b.toNat, (r, e))
theorem nextP_in (t : Tk) : 0 ≤ (nextP t).1 ∧ (nextP t).1 < 256 := by
  obtain ⟨l, e⟩ := t
  cases l with
  | nil => exact ⟨Int.le_refl 0, (by decide : (0 : Int) < 256)⟩
  | cons b r => have := b.toNat_lt; simp only [nextP]; omega
def num4 (a b c d : Int) : Int := wrap32 (a + b * 256 + c * 65536 + d * 16777216)
def insP (t : Tk) : Ins × Tk :=
  let (k, t1) := nextP t
  if k = 0 then
    let (a, t2) := nextP t1
    let (b, t3) := nextP t2
    let (c, t4) := nextP t3
    let (d, t5) := nextP t4
    (⟨k, num4 a b c d⟩, t5)
  else if hasB k then
    let (a, t2) := nextP t1
    (⟨k, a⟩, t2)
  else (⟨k, 0⟩, t1)
def codeP : Nat → Tk → List Ins × Tk
  | 0, t => ([], t)
  | n + 1, t => if t.2 then ([], t) else ((insP t).1 :: (codeP n (insP t).2).1, (codeP n (insP t).2).2)
def fncP (t : Tk) : Fnc × Tk :=
  let a := nextP t
  let b := nextP a.2
  let n := nextP b.2
  let c := codeP n.1.toNat n.2
  (⟨a.1, b.1, c.1⟩, c.2)
def fncsP : Nat → Tk → List Fnc × Tk
  | 0, t => ([], t)
  | n + 1, t => if t.2 then ([], t) else ((fncP t).1 :: (fncsP n (fncP t).2).1, (fncsP n (fncP t).2).2)
def prgP (l : List UInt8) : List Fnc × Tk := fncsP (nextP (l, false)).1.toNat (nextP (l, false)).2
/-- What is got: a program whose bytes they are. -/
def getR (l : List UInt8) : List Fnc × Int :=
  if (prgP (l.drop 3)).2.2 = false ∧ packB (prgP (l.drop 3)).1 = true ∧ putB (prgP (l.drop 3)).1 = l then ((prgP (l.drop 3)).1, 0) else ([], 300)
/-- A taker's block. -/
def TkAt (M : DMem) (b : Nat) (t : Tk) : Prop := ∃ errs, M b = some ⟨63, 2, [.str (bstr t.1), errD errs]⟩ ∧ hasE errs = t.2
theorem cellsIfc (t : TypeId) (d : DV) : cellsD (.ifc t d) = some [.ifc t d] := rfl
theorem of0_nilI : of0 .nilIface = .raw .nilIface := rfl
theorem ofV_nilI : ofV .nilIface = .raw .nilIface := rfl
theorem bstr_nil : (⟨#[]⟩ : ByteArray) = bstr [] := rfl
theorem cells_err' (l : List ByteArray) : cellsD (errD l) = some [errD l] := by cases l <;> rfl
theorem next_pc {M : DMem} {b : Nat} {t : Tk} (h : TkAt M b t) (s : ByteArray) {R : DV → DMem → Prop} (hR : ∀ M', TkAt M' b (nextP t).2 → (∀ x, x ≠ b → M' x = M x) → R (.int .i64 (nextP t).1) M') :
    PC Try.prog F_pack_taker_next [.mp b 0, .str s] R M := by
  obtain ⟨errs, hM, he⟩ := h
  obtain ⟨l, e⟩ := t
  refine pc_pack_taker_next (by simp) ?_
  cases l with
  | nil =>
    simp only [S_pack_taker_next, R_pack_taker_next, MU_pack_taker_next, hM, bstr_nil, bstr_list, beq_dec, cells_err', cellsIfc, of0_nilI, SW, wpD, evDL, evDM, evD, bldLD, List.contains_cons, List.contains_nil, Nat.reduceBEq, beq_self_eq_true, Nat.reduceMul, Nat.reduceSub, wpSp, Option.bind_some, Option.some.injEq, exists_eq_left', exists_eq_left, reduceIte, if_false, if_true, Nat.reduceEqDiff, Nat.reduceAdd, Nat.reduceLeDiff, Int.reduceEq, Int.reduceLT, Int.reduceLE, Int.reduceToNat, decide_true, decide_false, DV.bool.injEq, DV.int.injEq, DV.mp.injEq, DV.msl.injEq, DV.tup.injEq, DV.agg.injEq, DV.fn.injEq, true_implies, forall_const, reduceCtorEq, implies_true, ne_eq, DMem.mt]
    refine Join_pc errs s ?_
    simp only [S1_pack_taker_next, MU_pack_taker_next, hM, SW, wpD, evDL, evDM, evD, bldLD, List.contains_cons, List.contains_nil, Nat.reduceBEq, beq_self_eq_true, Nat.reduceMul, Nat.reduceSub, wpSp, Option.bind_some, Option.some.injEq, exists_eq_left', exists_eq_left, reduceIte, if_false, if_true, Nat.reduceEqDiff, Nat.reduceAdd, Nat.reduceLeDiff, Int.reduceEq, Int.reduceLT, Int.reduceLE, Int.reduceToNat, decide_true, decide_false, DV.bool.injEq, DV.int.injEq, DV.mp.injEq, DV.msl.injEq, DV.tup.injEq, DV.agg.injEq, DV.fn.injEq, true_implies, forall_const, reduceCtorEq, implies_true, ne_eq, DMem.mt]
    refine stD hM (cells_err' (s :: errs)) rfl (by simp) (by simp) rfl fun M' hM' => ?_
    try simp only [SW, wpD, evDL, evDM, evD, bldLD, List.contains_cons, List.contains_nil, Nat.reduceBEq, beq_self_eq_true, Nat.reduceMul, Nat.reduceSub, wpSp, Option.bind_some, Option.some.injEq, exists_eq_left', exists_eq_left, reduceIte, if_false, if_true, Nat.reduceEqDiff, Nat.reduceAdd, Nat.reduceLeDiff, Int.reduceEq, Int.reduceLT, Int.reduceLE, Int.reduceToNat, decide_true, decide_false, DV.bool.injEq, DV.int.injEq, DV.mp.injEq, DV.msl.injEq, DV.tup.injEq, DV.agg.injEq, DV.fn.injEq, true_implies, forall_const, reduceCtorEq, implies_true, ne_eq, DMem.mt]
    exact hR M' ⟨s :: errs, by rw [hM', DMem.ins_same]; rfl, rfl⟩ fun x hx => by rw [hM', DMem.ins_ne _ _ hx]
  | cons c r =>
    have h0 : sidxD (.str (bstr (c :: r))) (.int .i64 0) = some (.int .u8 c.toNat) := bstr_sidx (k := .i64) (i := 0) (by simp)
    have h1 : sslcD (.str (bstr (c :: r))) (.tup [.int .i64 1]) (.tup []) = some (.str (bstr r)) := bstr_lo (k := .i64) (i := 1) (by simp)
    have hne : ¬ (c :: r = []) := by simp
    simp only [S_pack_taker_next, S2_pack_taker_next, R_pack_taker_next, MU_pack_taker_next, hM, bstr_nil, bstr_list, beq_dec, hne, h0, h1, SW, wpD, evDL, evDM, evD, bldLD, List.contains_cons, List.contains_nil, Nat.reduceBEq, beq_self_eq_true, Nat.reduceMul, Nat.reduceSub, wpSp, Option.bind_some, Option.some.injEq, exists_eq_left', exists_eq_left, reduceIte, if_false, if_true, Nat.reduceEqDiff, Nat.reduceAdd, Nat.reduceLeDiff, Int.reduceEq, Int.reduceLT, Int.reduceLE, Int.reduceToNat, decide_true, decide_false, DV.bool.injEq, DV.int.injEq, DV.mp.injEq, DV.msl.injEq, DV.tup.injEq, DV.agg.injEq, DV.fn.injEq, true_implies, forall_const, reduceCtorEq, implies_true, ne_eq, DMem.mt]
    refine stD hM rfl rfl (by simp) (by simp) rfl fun M' hM' => ?_
    try simp only [SW, wpD, evDL, evDM, evD, bldLD, List.contains_cons, List.contains_nil, Nat.reduceBEq, beq_self_eq_true, Nat.reduceMul, Nat.reduceSub, wpSp, Option.bind_some, Option.some.injEq, exists_eq_left', exists_eq_left, reduceIte, if_false, if_true, Nat.reduceEqDiff, Nat.reduceAdd, Nat.reduceLeDiff, Int.reduceEq, Int.reduceLT, Int.reduceLE, Int.reduceToNat, decide_true, decide_false, DV.bool.injEq, DV.int.injEq, DV.mp.injEq, DV.msl.injEq, DV.tup.injEq, DV.agg.injEq, DV.fn.injEq, true_implies, forall_const, reduceCtorEq, implies_true, ne_eq, DMem.mt]
    rw [w64 (by have := c.toNat_lt; omega)]
    exact hR M' ⟨errs, by rw [hM', DMem.ins_same]; rfl, he⟩ fun x hx => by rw [hM', DMem.ins_ne _ _ hx]
def numS : Nat → Tk → Int × Tk
  | 0, t => (0, t)
  | j + 1, t => ((numS j t).1 + (nextP (numS j t).2).1 * 256 ^ j, (nextP (numS j t).2).2)
theorem wr_shl {x : Int} (h0 : 0 ≤ x) (h1 : x < 256) {n : Nat} (hn : n ≤ 24) : IntKind.i64.wrap (x * 2 ^ min n IntKind.i64.bits) = x * 2 ^ n := by
  have e : min n IntKind.i64.bits = n := Nat.min_eq_left (Nat.le_trans hn (by decide))
  have h2 : (2 : Int) ^ n ≤ 2 ^ 24 := by
    have : (2 : Nat) ^ n ≤ 2 ^ 24 := Nat.pow_le_pow_right (by decide) hn
    exact_mod_cast this
  have h3 : (0 : Int) < 2 ^ n := by
    have : 0 < (2 : Nat) ^ n := Nat.pow_pos (by decide)
    exact_mod_cast this
  rw [e]
  have h4 : 0 ≤ x * 2 ^ n := Int.mul_nonneg h0 (by omega)
  have h5 : x * 2 ^ n ≤ 255 * 2 ^ n := Int.mul_le_mul_of_nonneg_right (by omega) (by omega)
  have h6 : (2 : Int) ^ 24 = 16777216 := by decide
  rw [IntKind.wrap_i64]
  omega
theorem wrap_i64_id : ∀ n : Int, 0 ≤ n → n < 2 ^ 63 → IntKind.i64.wrap n = n := fun n h0 h1 => by
  rw [IntKind.wrap_i64]; omega
theorem or_num {a b : Int} {n : Nat} (hn : n ≤ 24) (h0 : 0 ≤ a) (h1 : a < 2 ^ n) (h2 : 0 ≤ b) (h3 : b < 256) : bits .or .i64 a (b * 2 ^ n) = a + b * 2 ^ n := by
  obtain ⟨x, rfl⟩ := Int.eq_ofNat_of_zero_le h0
  obtain ⟨y, rfl⟩ := Int.eq_ofNat_of_zero_le h2
  have hx : x < 2 ^ n := by exact_mod_cast h1
  have hy : y < 256 := by omega
  have hp : (2 : Nat) ^ n ≤ 2 ^ 24 := Nat.pow_le_pow_right (by decide) hn
  have hm : y * 2 ^ n ≤ 255 * 2 ^ n := Nat.mul_le_mul_right _ (by omega)
  have h24 : (2 : Nat) ^ 24 = 16777216 := by decide
  have h63 : (2 : Nat) ^ 63 = 9223372036854775808 := by decide
  have h := (bits_nat .i64 63 (by decide) wrap_i64_id x (y * 2 ^ n) (by omega) (by omega)).2
  have e : x ||| (y * 2 ^ n) = x + y * 2 ^ n := by
    rw [Nat.or_comm, Nat.mul_comm, ← Nat.two_pow_add_eq_or_of_lt hx]; omega
  rw [e] at h
  rw [show ((y : Int) * 2 ^ n) = ((y * 2 ^ n : Nat) : Int) by push_cast; rfl, h]
  push_cast; rfl
theorem pow8 (j : Nat) : (2 : Int) ^ (8 * j) = 256 ^ j := by rw [Int.pow_mul]; rfl
theorem numS_in : ∀ (j : Nat) (t : Tk), 0 ≤ (numS j t).1 ∧ (numS j t).1 < 256 ^ j
  | 0, t => ⟨Int.le_refl 0, show (0 : Int) < 256 ^ 0 by decide⟩
  | j + 1, t => by
    have h1 := numS_in j t
    have h2 := nextP_in (numS j t).2
    have h3 : (0 : Int) ≤ (nextP (numS j t).2).1 * 256 ^ j := Int.mul_nonneg h2.1 (by omega)
    have h4 : (nextP (numS j t).2).1 * 256 ^ j ≤ 255 * 256 ^ j := Int.mul_le_mul_of_nonneg_right (by omega) (by omega)
    have h5 : (256 : Int) ^ (j + 1) = 256 ^ j * 256 := Int.pow_succ 256 j
    simp only [numS]
    omega
theorem wrapWrap_pf (x : Int) : pf Try.prog F_wrap_Wrap [.int .i64 x] = some (.int .i64 (wrap32 x)) := by
  refine pf_of (v := .int _ _) (pc_wrap_Wrap (by simp) ?_) (FrozL.nil.cons (Froz.int _ _)) rfl rfl
  simp only [S_wrap_Wrap, R_wrap_Wrap, MU_wrap_Wrap, MU_wrap_Wrap, SW, wpD, evDL, evDM, evD, bldLD, List.contains_cons, List.contains_nil, Nat.reduceBEq, beq_self_eq_true, Nat.reduceMul, Nat.reduceSub, wpSp, Option.bind_some, Option.some.injEq, exists_eq_left', exists_eq_left, reduceIte, if_false, if_true, Nat.reduceEqDiff, Nat.reduceAdd, Nat.reduceLeDiff, Int.reduceEq, Int.reduceLT, Int.reduceLE, Int.reduceToNat, decide_true, decide_false, DV.bool.injEq, DV.int.injEq, DV.mp.injEq, DV.msl.injEq, DV.tup.injEq, DV.agg.injEq, DV.fn.injEq, true_implies, forall_const, reduceCtorEq, implies_true, ne_eq, DMem.mt]
  congr 1
  rw [w64 (by unfold wrap32; omega)]
theorem TkAt.other {M M' : DMem} {b : Nat} {t : Tk} (h : TkAt M b t) (hk : ∀ B, M b = some B → M' b = some B) : TkAt M' b t := by
  obtain ⟨errs, h1, h2⟩ := h
  exact ⟨errs, hk _ h1, h2⟩
theorem ins_pc {M : DMem} {b : Nat} {t : Tk} (h : TkAt M b t) {R : DV → DMem → Prop} (hR : ∀ M', TkAt M' b (insP t).2 → (∀ x B, x ≠ b → M x = some B → M' x = some B) → R (.agg (insP t).1.c) M') :
    PC Try.prog F_pack_taker_ins [.mp b 0] R M := by
  refine pc_pack_taker_ins (by simp) ?_
  simp only [S_pack_taker_ins, R_pack_taker_ins, MU_pack_taker_ins, SW, wpD, evDL, evDM, evD, bldLD, List.contains_cons, List.contains_nil, Nat.reduceBEq, beq_self_eq_true, Nat.reduceMul, Nat.reduceSub, wpSp, Option.bind_some, Option.some.injEq, exists_eq_left', exists_eq_left, reduceIte, if_false, if_true, Nat.reduceEqDiff, Nat.reduceAdd, Nat.reduceLeDiff, Int.reduceEq, Int.reduceLT, Int.reduceLE, Int.reduceToNat, decide_true, decide_false, DV.bool.injEq, DV.int.injEq, DV.mp.injEq, DV.msl.injEq, DV.tup.injEq, DV.agg.injEq, DV.fn.injEq, true_implies, forall_const, reduceCtorEq, implies_true, ne_eq, DMem.mt]
  intro p M1 hp hM1
  have hbp : b ≠ p := by rintro rfl; obtain ⟨_, h1, _⟩ := h; rw [hp] at h1; cases h1
  have h1 : TkAt M1 b t := h.other fun B hB => by rw [hM1, DMem.ins_ne _ _ hbp]; exact hB
  refine next_pc h1 _ fun M2 h2 hk2 => ?_
  have hp2 : M2 p = some ⟨43, 2, [.int .i64 0, .int .i64 0]⟩ := by rw [hk2 p (Ne.symm hbp), hM1, DMem.ins_same]
  simp only [S5_pack_taker_ins, MU_pack_taker_ins, SW, wpD, evDL, evDM, evD, bldLD, List.contains_cons, List.contains_nil, Nat.reduceBEq, beq_self_eq_true, Nat.reduceMul, Nat.reduceSub, wpSp, Option.bind_some, Option.some.injEq, exists_eq_left', exists_eq_left, reduceIte, if_false, if_true, Nat.reduceEqDiff, Nat.reduceAdd, Nat.reduceLeDiff, Int.reduceEq, Int.reduceLT, Int.reduceLE, Int.reduceToNat, decide_true, decide_false, DV.bool.injEq, DV.int.injEq, DV.mp.injEq, DV.msl.injEq, DV.tup.injEq, DV.agg.injEq, DV.fn.injEq, true_implies, forall_const, reduceCtorEq, implies_true, ne_eq, DMem.mt]
  intro q M3 hq hM3
  have hqp : q ≠ p := by rintro rfl; rw [hp2] at hq; cases hq
  have hbq : b ≠ q := by rintro rfl; obtain ⟨_, g, _⟩ := h2; rw [hq] at g; cases g
  have hq3 : M3 q = some ⟨43, 2, [.int .i64 (nextP t).1, .int .i64 0]⟩ := by rw [hM3, DMem.ins_same]
  have hp3 : M3 p = some ⟨43, 2, [.int .i64 0, .int .i64 0]⟩ := by rw [hM3, DMem.ins_ne _ _ (Ne.symm hqp)]; exact hp2
  have h3 : TkAt M3 b (nextP t).2 := h2.other fun B hB => by rw [hM3, DMem.ins_ne _ _ hbq]; exact hB
  have hk3 : ∀ x B, x ≠ b → M x = some B → M3 x = some B ∧ x ≠ p ∧ x ≠ q := fun x B hx hB => by
    have e1 : x ≠ p := by rintro rfl; rw [hp] at hB; cases hB
    have e2 : M2 x = some B := by rw [hk2 x hx, hM1, DMem.ins_ne _ _ e1]; exact hB
    have e3 : x ≠ q := by rintro rfl; rw [hq] at e2; cases e2
    exact ⟨by rw [hM3, DMem.ins_ne _ _ e3]; exact e2, e1, e3⟩
  clear hk2 hM3 hM1 h1 h2 hp2 hq
  /- the end -/
  have fin : ∀ (M4 : DMem) (a : Int) (t' : Tk), M4 q = some ⟨43, 2, [.int .i64 (nextP t).1, .int .i64 a]⟩ → M4 p = some ⟨43, 2, [.int .i64 0, .int .i64 0]⟩ → TkAt M4 b t' → (∀ x, x ≠ b → x ≠ q → M4 x = M3 x) → insP t = (⟨(nextP t).1, a⟩, t') →
      StoreD M4 2 (.mp p 0) (.agg [.int .i64 (nextP t).1, .int .i64 a]) fun v M' => ∃ d, ldnD M' 2 (.mp p 0) = some d ∧ R d M' := by
    intro M4 a t' g1 g2 g3 g4 g5
    refine stD g2 rfl rfl (by simp) (by simp) rfl fun M5 hM5 => ?_
    have g6 : M5 p = some ⟨43, 2, [.int .i64 (nextP t).1, .int .i64 a]⟩ := by rw [hM5, DMem.ins_same]; rfl
    refine ⟨_, by simp only [ldnM, g6, SW, wpD, evDL, evDM, evD, bldLD, List.contains_cons, List.contains_nil, Nat.reduceBEq, beq_self_eq_true, Nat.reduceMul, Nat.reduceSub, wpSp, Option.bind_some, Option.some.injEq, exists_eq_left', exists_eq_left, reduceIte, if_false, if_true, Nat.reduceEqDiff, Nat.reduceAdd, Nat.reduceLeDiff, Int.reduceEq, Int.reduceLT, Int.reduceLE, Int.reduceToNat, decide_true, decide_false, DV.bool.injEq, DV.int.injEq, DV.mp.injEq, DV.msl.injEq, DV.tup.injEq, DV.agg.injEq, DV.fn.injEq, true_implies, forall_const, reduceCtorEq, implies_true, ne_eq, DMem.mt]; rfl, ?_⟩
    have := hR M5 (by rw [g5]; exact g3.other fun B hB => by rw [hM5, DMem.ins_ne _ _ hbp]; exact hB) fun x B hx hB => by
      obtain ⟨f1, f2, f3⟩ := hk3 x B hx hB
      rw [hM5, DMem.ins_ne _ _ f2, g4 x hx f3]; exact f1
    rw [g5] at this
    exact this
  simp only [hq3, SW, wpD, evDL, evDM, evD, bldLD, List.contains_cons, List.contains_nil, Nat.reduceBEq, beq_self_eq_true, Nat.reduceMul, Nat.reduceSub, wpSp, Option.bind_some, Option.some.injEq, exists_eq_left', exists_eq_left, reduceIte, if_false, if_true, Nat.reduceEqDiff, Nat.reduceAdd, Nat.reduceLeDiff, Int.reduceEq, Int.reduceLT, Int.reduceLE, Int.reduceToNat, decide_true, decide_false, DV.bool.injEq, DV.int.injEq, DV.mp.injEq, DV.msl.injEq, DV.tup.injEq, DV.agg.injEq, DV.fn.injEq, true_implies, forall_const, reduceCtorEq, implies_true, ne_eq, DMem.mt, decide_eq_true_eq, decide_eq_false_iff_not]
  refine ⟨fun hk => ?_, fun hk => ?_⟩
  · refine ⟨fun f δ M' => ∃ j, j ≤ 4 ∧ f = 4 - j ∧ δ 0 = .mp b 0 ∧ δ 2 = .mp p 0 ∧ δ 3 = .mp q 0 ∧ δ 4 = .int .i64 (8 * j : Nat) ∧ M' q = some ⟨43, 2, [.int .i64 (nextP t).1, .int .i64 (numS j (nextP t).2).1]⟩ ∧ M' p = some ⟨43, 2, [.int .i64 0, .int .i64 0]⟩ ∧ TkAt M' b (numS j (nextP t).2).2 ∧ ∀ x, x ≠ b → x ≠ q → M' x = M3 x, 4,
      ⟨0, by decide, rfl, rfl, rfl, rfl, rfl, hq3, hp3, h3, fun _ _ _ => rfl⟩, ?_⟩
    rintro f δ M' ⟨j, hj, rfl, h0, h2, h3', h4, hq4, hp4, ht4, hk4⟩
    have hj4 : j = 4 ∨ j = 0 ∨ j = 1 ∨ j = 2 ∨ j = 3 := by omega
    rcases hj4 with rfl | hj4
    · replace h4 : δ 4 = .int .i64 32 := h4
      simp only [S1_pack_taker_ins, S2_pack_taker_ins, S4_pack_taker_ins, MU_pack_taker_ins, h0, h2, h3', h4, hq4, wrapWrap_pf, SW, wpD, evDL, evDM, evD, bldLD, List.contains_cons, List.contains_nil, Nat.reduceBEq, beq_self_eq_true, Nat.reduceMul, Nat.reduceSub, wpSp, Option.bind_some, Option.some.injEq, exists_eq_left', exists_eq_left, reduceIte, if_false, if_true, Nat.reduceEqDiff, Nat.reduceAdd, Nat.reduceLeDiff, Int.reduceEq, Int.reduceLT, Int.reduceLE, Int.reduceToNat, decide_true, decide_false, DV.bool.injEq, DV.int.injEq, DV.mp.injEq, DV.msl.injEq, DV.tup.injEq, DV.agg.injEq, DV.fn.injEq, true_implies, forall_const, reduceCtorEq, implies_true, ne_eq, DMem.mt]
      refine stD hq4 rfl rfl (by simp) (by simp) rfl fun M5 hM5 => ?_
      have hq5 : M5 q = some ⟨43, 2, [.int .i64 (nextP t).1, .int .i64 (wrap32 (numS 4 (nextP t).2).1)]⟩ := by rw [hM5, DMem.ins_same]; rfl
      simp only [h0, h2, h3', ldnM, hq5, SW, wpD, evDL, evDM, evD, bldLD, List.contains_cons, List.contains_nil, Nat.reduceBEq, beq_self_eq_true, Nat.reduceMul, Nat.reduceSub, wpSp, Option.bind_some, Option.some.injEq, exists_eq_left', exists_eq_left, reduceIte, if_false, if_true, Nat.reduceEqDiff, Nat.reduceAdd, Nat.reduceLeDiff, Int.reduceEq, Int.reduceLT, Int.reduceLE, Int.reduceToNat, decide_true, decide_false, DV.bool.injEq, DV.int.injEq, DV.mp.injEq, DV.msl.injEq, DV.tup.injEq, DV.agg.injEq, DV.fn.injEq, true_implies, forall_const, reduceCtorEq, implies_true, ne_eq, DMem.mt]
      refine fin M5 _ (numS 4 (nextP t).2).2 hq5 (by rw [hM5, DMem.ins_ne _ _ (Ne.symm hqp)]; exact hp4) (ht4.other fun B hB => by rw [hM5, DMem.ins_ne _ _ hbq]; exact hB) (fun x hx hx2 => by rw [hM5, DMem.ins_ne _ _ hx2, hk4 x hx hx2]) ?_
      unfold insP
      simp only [hk, if_true, numS, num4]
      congr 3
      omega
    · have hlt : ((8 * j : Nat) : Int) < 32 := by omega
      have hn0 : ¬ ((8 * j : Nat) : Int) < 0 := by omega
      have hin := nextP_in (numS j (nextP t).2).2
      have hns := numS_in j (nextP t).2
      have e1 := wr_shl hin.1 hin.2 (n := 8 * j) (by omega)
      have e2 := or_num (n := 8 * j) (by omega) hns.1 (by rw [pow8]; exact hns.2) hin.1 hin.2
      have e3 : wr64 (((8 * j : Nat) : Int) + 8) = ((8 * (j + 1) : Nat) : Int) := by rw [w64 (by omega)]; omega
      simp only [S1_pack_taker_ins, raw0_pack_taker_ins, P0_pack_taker_ins, MU_pack_taker_ins, h0, h2, h3', h4, hlt, hq4, SW, wpD, evDL, evDM, evD, bldLD, List.contains_cons, List.contains_nil, Nat.reduceBEq, beq_self_eq_true, Nat.reduceMul, Nat.reduceSub, wpSp, Option.bind_some, Option.some.injEq, exists_eq_left', exists_eq_left, reduceIte, if_false, if_true, Nat.reduceEqDiff, Nat.reduceAdd, Nat.reduceLeDiff, Int.reduceEq, Int.reduceLT, Int.reduceLE, Int.reduceToNat, decide_true, decide_false, DV.bool.injEq, DV.int.injEq, DV.mp.injEq, DV.msl.injEq, DV.tup.injEq, DV.agg.injEq, DV.fn.injEq, true_implies, forall_const, reduceCtorEq, implies_true, ne_eq, DMem.mt]
      refine next_pc ht4 _ fun M5 h5 hk5 => ?_
      have hq5 : M5 q = some ⟨43, 2, [.int .i64 (nextP t).1, .int .i64 (numS j (nextP t).2).1]⟩ := by rw [hk5 q (Ne.symm hbq)]; exact hq4
      have hp5 : M5 p = some ⟨43, 2, [.int .i64 0, .int .i64 0]⟩ := by rw [hk5 p (Ne.symm hbp)]; exact hp4
      simp only [h0, h2, h3', h4, hq5, hn0, e1, e2, SW, wpD, evDL, evDM, evD, bldLD, List.contains_cons, List.contains_nil, Nat.reduceBEq, beq_self_eq_true, Nat.reduceMul, Nat.reduceSub, wpSp, Option.bind_some, Option.some.injEq, exists_eq_left', exists_eq_left, reduceIte, if_false, if_true, Nat.reduceEqDiff, Nat.reduceAdd, Nat.reduceLeDiff, Int.reduceEq, Int.reduceLT, Int.reduceLE, Int.reduceToNat, decide_true, decide_false, DV.bool.injEq, DV.int.injEq, DV.mp.injEq, DV.msl.injEq, DV.tup.injEq, DV.agg.injEq, DV.fn.injEq, true_implies, forall_const, reduceCtorEq, implies_true, ne_eq, DMem.mt]
      refine stD hq5 rfl rfl (by simp) (by simp) rfl fun M6 hM6 => ?_
      refine ⟨4 - (j + 1), M6, by omega, SubD.refl _, j + 1, by omega, rfl, e3, ?_, by rw [hM6, DMem.ins_ne _ _ (Ne.symm hqp)]; exact hp5, h5.other fun B hB => by rw [hM6, DMem.ins_ne _ _ hbq]; exact hB, fun x hx hx2 => by rw [hM6, DMem.ins_ne _ _ hx2, hk5 x hx]; exact hk4 x hx hx2⟩
      rw [hM6, DMem.ins_same, pow8]; rfl
  · have hk0 : ¬ (nextP t).1 = 0 := hk
    simp only [has_pf, SW, wpD, evDL, evDM, evD, bldLD, List.contains_cons, List.contains_nil, Nat.reduceBEq, beq_self_eq_true, Nat.reduceMul, Nat.reduceSub, wpSp, Option.bind_some, Option.some.injEq, exists_eq_left', exists_eq_left, reduceIte, if_false, if_true, Nat.reduceEqDiff, Nat.reduceAdd, Nat.reduceLeDiff, Int.reduceEq, Int.reduceLT, Int.reduceLE, Int.reduceToNat, decide_true, decide_false, DV.bool.injEq, DV.int.injEq, DV.mp.injEq, DV.msl.injEq, DV.tup.injEq, DV.agg.injEq, DV.fn.injEq, true_implies, forall_const, reduceCtorEq, implies_true, ne_eq, DMem.mt]
    refine ⟨fun hh => ?_, fun hh => ?_⟩
    · refine next_pc h3 _ fun M4 h4 hk4 => ?_
      have hq4 : M4 q = some ⟨43, 2, [.int .i64 (nextP t).1, .int .i64 0]⟩ := by rw [hk4 q (Ne.symm hbq)]; exact hq3
      have hp4 : M4 p = some ⟨43, 2, [.int .i64 0, .int .i64 0]⟩ := by rw [hk4 p (Ne.symm hbp)]; exact hp3
      simp only [S3_pack_taker_ins, MU_pack_taker_ins, SW, wpD, evDL, evDM, evD, bldLD, List.contains_cons, List.contains_nil, Nat.reduceBEq, beq_self_eq_true, Nat.reduceMul, Nat.reduceSub, wpSp, Option.bind_some, Option.some.injEq, exists_eq_left', exists_eq_left, reduceIte, if_false, if_true, Nat.reduceEqDiff, Nat.reduceAdd, Nat.reduceLeDiff, Int.reduceEq, Int.reduceLT, Int.reduceLE, Int.reduceToNat, decide_true, decide_false, DV.bool.injEq, DV.int.injEq, DV.mp.injEq, DV.msl.injEq, DV.tup.injEq, DV.agg.injEq, DV.fn.injEq, true_implies, forall_const, reduceCtorEq, implies_true, ne_eq, DMem.mt]
      refine stD hq4 rfl rfl (by simp) (by simp) rfl fun M5 hM5 => ?_
      have hq5 : M5 q = some ⟨43, 2, [.int .i64 (nextP t).1, .int .i64 (nextP (nextP t).2).1]⟩ := by rw [hM5, DMem.ins_same]; rfl
      simp only [S4_pack_taker_ins, MU_pack_taker_ins, ldnM, hq5, SW, wpD, evDL, evDM, evD, bldLD, List.contains_cons, List.contains_nil, Nat.reduceBEq, beq_self_eq_true, Nat.reduceMul, Nat.reduceSub, wpSp, Option.bind_some, Option.some.injEq, exists_eq_left', exists_eq_left, reduceIte, if_false, if_true, Nat.reduceEqDiff, Nat.reduceAdd, Nat.reduceLeDiff, Int.reduceEq, Int.reduceLT, Int.reduceLE, Int.reduceToNat, decide_true, decide_false, DV.bool.injEq, DV.int.injEq, DV.mp.injEq, DV.msl.injEq, DV.tup.injEq, DV.agg.injEq, DV.fn.injEq, true_implies, forall_const, reduceCtorEq, implies_true, ne_eq, DMem.mt]
      refine fin M5 _ (nextP (nextP t).2).2 hq5 (by rw [hM5, DMem.ins_ne _ _ (Ne.symm hqp)]; exact hp4) (h4.other fun B hB => by rw [hM5, DMem.ins_ne _ _ hbq]; exact hB) (fun x hx hx2 => by rw [hM5, DMem.ins_ne _ _ hx2, hk4 x hx]) ?_
      unfold insP; simp only [hk0, if_false, hh, if_true]
    · simp only [S4_pack_taker_ins, MU_pack_taker_ins, ldnM, hq3, SW, wpD, evDL, evDM, evD, bldLD, List.contains_cons, List.contains_nil, Nat.reduceBEq, beq_self_eq_true, Nat.reduceMul, Nat.reduceSub, wpSp, Option.bind_some, Option.some.injEq, exists_eq_left', exists_eq_left, reduceIte, if_false, if_true, Nat.reduceEqDiff, Nat.reduceAdd, Nat.reduceLeDiff, Int.reduceEq, Int.reduceLT, Int.reduceLE, Int.reduceToNat, decide_true, decide_false, DV.bool.injEq, DV.int.injEq, DV.mp.injEq, DV.msl.injEq, DV.tup.injEq, DV.agg.injEq, DV.fn.injEq, true_implies, forall_const, reduceCtorEq, implies_true, ne_eq, DMem.mt]
      refine fin M3 0 (nextP t).2 hq3 hp3 h3 (fun _ _ _ => rfl) ?_
      unfold insP; simp only [hk0, if_false, hh, Bool.false_eq_true]
end Go.Proofs.Ytaifmmeghninhaa.Pf
