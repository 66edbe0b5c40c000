/- PackBack, PackNumbers, PackSizes: the laws at every input. No condition. -/
import Derived.Test.YtaifmmeghninhaaKn
namespace Go.Proofs.Ytaifmmeghninhaa.Pf
open Go Go.RowKit Go.Proofs Go.Proofs.Ytaifmmeghninhaa.Mw Go.Proofs.Ytaifmmeghninhaa.Sx
set_option linter.unusedVariables false
set_option linter.unusedSimpArgs false
set_option maxRecDepth 4000
theorem froz_prg (p : List Fnc) : Froz (.ip [slD Fnc.c p]) := Froz.ip (FrozL.nil.cons (Froz.slD Fnc.froz p))
theorem putR_cases (p : List Fnc) : (packB p = true ∧ putR p = (putB p, 0)) ∨ (packB p = false ∧ putR p = ([], 300)) := by
  unfold putR
  cases h : packB p <;> simp
theorem PackBack_pc (p : List Fnc) (s : List UInt8) (cut : Int) (hp : SizeP p) : PC Try.prog F_swagelaw3_PackBack [.agg [slD Fnc.c p], .str (bstr s), .int .i64 cut] (fun d _ => d = .bool true) DMem.mt := by
  refine pc_swagelaw3_PackBack (by simp) ?_
  simp only [S_swagelaw3_PackBack, R_swagelaw3_PackBack, MU_swagelaw3_PackBack, ldnI1, awake_pf, SW, wpD, evDL, evDM, evD, bldLD, List.contains_cons, List.contains_nil, Nat.reduceBEq, beq_self_eq_true, Nat.reduceMul, Nat.reduceSub, wpSp, Option.bind_some, Option.some.injEq, exists_eq_left', exists_eq_left, reduceIte, if_false, if_true, Nat.reduceEqDiff, Nat.reduceAdd, Nat.reduceLeDiff, Int.reduceEq, Int.reduceLT, Int.reduceLE, Int.reduceToNat, decide_true, decide_false, DV.bool.injEq, DV.int.injEq, DV.mp.injEq, DV.msl.injEq, DV.tup.injEq, DV.agg.injEq, DV.fn.injEq, true_implies, forall_const, reduceCtorEq, implies_true, ne_eq, DMem.mt]
  refine PC.of_pf (by simp only [List.map_cons, List.map_nil, fz_agg, fz_prg]; exact Put_pf p) ?_
  have tail : ∀ (δ : DEnv) (M : DMem) (KK : DEnv → DMem → Prop) (XX : Nat → DEnv → DMem → Prop), δ 1 = .str (bstr s) → wpD Try.prog MU_swagelaw3_PackBack (fun f => roL.contains f) (fun t => G_swagelaw3_PackBack.contains t) 92 S5_swagelaw3_PackBack KK XX (fun δ M' => δ 6 = .bool true) δ M := by
    intro δ M KK XX h1
    simp only [S5_swagelaw3_PackBack, MU_swagelaw3_PackBack, h1, SW, wpD, evDL, evDM, evD, bldLD, List.contains_cons, List.contains_nil, Nat.reduceBEq, beq_self_eq_true, Nat.reduceMul, Nat.reduceSub, wpSp, Option.bind_some, Option.some.injEq, exists_eq_left', exists_eq_left, reduceIte, if_false, if_true, Nat.reduceEqDiff, Nat.reduceAdd, Nat.reduceLeDiff, Int.reduceEq, Int.reduceLT, Int.reduceLE, Int.reduceToNat, decide_true, decide_false, DV.bool.injEq, DV.int.injEq, DV.mp.injEq, DV.msl.injEq, DV.tup.injEq, DV.agg.injEq, DV.fn.injEq, true_implies, forall_const, reduceCtorEq, implies_true, ne_eq, DMem.mt]
    refine Get_pc s fun d2 M2 S2 h2 n2 f2 k2 => ?_
    simp only [S4_swagelaw3_PackBack, MU_swagelaw3_PackBack, h1, h2.cell, h2.plain, h2.lenD, NumF_pf, ldnI1, SW, wpD, evDL, evDM, evD, bldLD, List.contains_cons, List.contains_nil, Nat.reduceBEq, beq_self_eq_true, Nat.reduceMul, Nat.reduceSub, wpSp, Option.bind_some, Option.some.injEq, exists_eq_left', exists_eq_left, reduceIte, if_false, if_true, Nat.reduceEqDiff, Nat.reduceAdd, Nat.reduceLeDiff, Int.reduceEq, Int.reduceLT, Int.reduceLE, Int.reduceToNat, decide_true, decide_false, DV.bool.injEq, DV.int.injEq, DV.mp.injEq, DV.msl.injEq, DV.tup.injEq, DV.agg.injEq, DV.fn.injEq, true_implies, forall_const, reduceCtorEq, implies_true, ne_eq, DMem.mt, decide_eq_true_eq, decide_eq_false_iff_not]
    refine ⟨fun hne => ?_, fun he => ?_⟩
    · rw [getR_no hne]; rfl
    · have he' : (getR s).2 = 0 := by simpa using he
      obtain ⟨a, b⟩ := getR_ok he'
      have hput : putR (getR s).1 = (s, 0) := by unfold putR; rw [if_pos a, b]
      refine PC.of_pf (by simp only [List.map_cons, List.map_nil, fz_agg, sl_fz4 h2]; exact Put_pf _) ?_
      rw [hput]
      simp only [S3_swagelaw3_PackBack, MU_swagelaw3_PackBack, h1, NumF_pf, bstr_list, beq_dec, SW, wpD, evDL, evDM, evD, bldLD, List.contains_cons, List.contains_nil, Nat.reduceBEq, beq_self_eq_true, Nat.reduceMul, Nat.reduceSub, wpSp, Option.bind_some, Option.some.injEq, exists_eq_left', exists_eq_left, reduceIte, if_false, if_true, Nat.reduceEqDiff, Nat.reduceAdd, Nat.reduceLeDiff, Int.reduceEq, Int.reduceLT, Int.reduceLE, Int.reduceToNat, decide_true, decide_false, DV.bool.injEq, DV.int.injEq, DV.mp.injEq, DV.msl.injEq, DV.tup.injEq, DV.agg.injEq, DV.fn.injEq, true_implies, forall_const, reduceCtorEq, implies_true, ne_eq, DMem.mt]
  obtain ⟨hpk, he⟩ | ⟨hpk, he⟩ := putR_cases p
  · rw [he]
    have hlen := putB_len hpk
    simp only [S6_swagelaw3_PackBack, MU_swagelaw3_PackBack, NumF_pf, SW, wpD, evDL, evDM, evD, bldLD, List.contains_cons, List.contains_nil, Nat.reduceBEq, beq_self_eq_true, Nat.reduceMul, Nat.reduceSub, wpSp, Option.bind_some, Option.some.injEq, exists_eq_left', exists_eq_left, reduceIte, if_false, if_true, Nat.reduceEqDiff, Nat.reduceAdd, Nat.reduceLeDiff, Int.reduceEq, Int.reduceLT, Int.reduceLE, Int.reduceToNat, decide_true, decide_false, DV.bool.injEq, DV.int.injEq, DV.mp.injEq, DV.msl.injEq, DV.tup.injEq, DV.agg.injEq, DV.fn.injEq, true_implies, forall_const, reduceCtorEq, implies_true, ne_eq, DMem.mt]
    refine Get_pc (putB p) fun d1 M1 S1 h1 n1 f1 k1 => ?_
    rw [getR_put hpk] at h1 ⊢
    have e1 : wr64 (((putB p).length : Int) + 1) = (((putB p).length + 1 : Nat) : Int) := by rw [w64 (by omega)]; omega
    have e2 : ((((putB p).length + 1 : Nat) : Int) % 18446744073709551616) = (((putB p).length + 1 : Nat) : Int) := Int.emod_eq_of_lt (by omega) (by omega)
    have e3 : ¬ ((((putB p).length + 1 : Nat) : Int) = 0) := by omega
    have hb := tmod_bnd cut ((putB p).length + 1) (by omega)
    have hk : ∃ k : Nat, (cut % 18446744073709551616).tmod (((putB p).length + 1 : Nat) : Int) = (k : Int) ∧ k ≤ (putB p).length := by
      obtain ⟨k, hk⟩ := Int.eq_ofNat_of_zero_le hb.1
      exact ⟨k, hk, by have := hb.2; omega⟩
    obtain ⟨k, hk, hkl⟩ := hk
    have hslc : sslcD (.str (bstr (putB p))) (.tup []) (.tup [.int .i64 (k : Int)]) = some (.str (bstr ((putB p).take k))) := bstr_hi hkl
    have e4 : wr64 (k : Int) = k := w64 (by omega)
    simp only [S2_swagelaw3_PackBack, MU_swagelaw3_PackBack, h1.cell, h1.plain, bstr_slen, e1, e2, e3, hk, e4, hslc, SW, wpD, evDL, evDM, evD, bldLD, List.contains_cons, List.contains_nil, Nat.reduceBEq, beq_self_eq_true, Nat.reduceMul, Nat.reduceSub, wpSp, Option.bind_some, Option.some.injEq, exists_eq_left', exists_eq_left, reduceIte, if_false, if_true, Nat.reduceEqDiff, Nat.reduceAdd, Nat.reduceLeDiff, Int.reduceEq, Int.reduceLT, Int.reduceLE, Int.reduceToNat, decide_true, decide_false, DV.bool.injEq, DV.int.injEq, DV.mp.injEq, DV.msl.injEq, DV.tup.injEq, DV.agg.injEq, DV.fn.injEq, true_implies, forall_const, reduceCtorEq, implies_true, ne_eq, DMem.mt]
    refine Get_pc ((putB p).take k) fun d2 M2 S2 h2 n2 f2 k2 => ?_
    have h12 : SlAt fncE M2 d1 p S1 := SlAt.sub fncE_ok h1 k2
    have hsame := SameProgram_pf p p hp.len.1 hp.len.2
    rw [decide_eq_true rfl] at hsame
    have hiff := getR_take hpk hkl
    simp only [S1_swagelaw3_PackBack, MU_swagelaw3_PackBack, h2.cell, h2.plain, ldnI1, sl_fz4 h12, fz_prg, NumF_pf, hsame, bstr_slen, SW, wpD, evDL, evDM, evD, bldLD, List.contains_cons, List.contains_nil, Nat.reduceBEq, beq_self_eq_true, Nat.reduceMul, Nat.reduceSub, wpSp, Option.bind_some, Option.some.injEq, exists_eq_left', exists_eq_left, reduceIte, if_false, if_true, Nat.reduceEqDiff, Nat.reduceAdd, Nat.reduceLeDiff, Int.reduceEq, Int.reduceLT, Int.reduceLE, Int.reduceToNat, decide_true, decide_false, DV.bool.injEq, DV.int.injEq, DV.mp.injEq, DV.msl.injEq, DV.tup.injEq, DV.agg.injEq, DV.fn.injEq, true_implies, forall_const, reduceCtorEq, implies_true, ne_eq, DMem.mt]
    have hcond : (!decide ((getR (List.take k (putB p))).2 = 0) == decide ((k : Int) = ((putB p).length : Nat))) = false := by
      by_cases hh : k = (putB p).length
      · rw [decide_eq_true (hiff.2 hh), decide_eq_true (by omega)]; rfl
      · rw [decide_eq_false (fun e => hh (hiff.1 e)), decide_eq_false (by omega)]; rfl
    refine ⟨fun h => (by rw [hcond] at h; cases h), fun _ => ?_⟩
    exact tail _ _ (fun δ M' => δ 6 = .bool true) (fun _ _ _ => False) rfl
  · rw [he]
    simp only [S6_swagelaw3_PackBack, MU_swagelaw3_PackBack, NumF_pf, SW, wpD, evDL, evDM, evD, bldLD, List.contains_cons, List.contains_nil, Nat.reduceBEq, beq_self_eq_true, Nat.reduceMul, Nat.reduceSub, wpSp, Option.bind_some, Option.some.injEq, exists_eq_left', exists_eq_left, reduceIte, if_false, if_true, Nat.reduceEqDiff, Nat.reduceAdd, Nat.reduceLeDiff, Int.reduceEq, Int.reduceLT, Int.reduceLE, Int.reduceToNat, decide_true, decide_false, DV.bool.injEq, DV.int.injEq, DV.mp.injEq, DV.msl.injEq, DV.tup.injEq, DV.agg.injEq, DV.fn.injEq, true_implies, forall_const, reduceCtorEq, implies_true, ne_eq, DMem.mt]
    exact tail _ _ (fun δ M' => δ 6 = .bool true) (fun _ _ _ => False) rfl
/-! ### Numbers -/
def pN (v : Int) : List Fnc := [⟨0, 0, [⟨0, v⟩, ⟨16, 0⟩]⟩]
theorem pN_ok {v : Int} (h : -2147483648 ≤ v ∧ v ≤ 2147483647) : packB (pN v) = true := by
  have hi : isB v = true := by unfold isB; simp [h.1, h.2]
  simp [packB, pN, fnB, fmayB, mayB, hi, belowF]
theorem pN_put (v : Int) : putB (pN v) = [84, 105, 107, 1, 0, 0, 2, 0, u8 (v % 4294967296), u8 (v % 4294967296 / 256), u8 (v % 4294967296 / 65536), u8 (v % 4294967296 / 16777216), 16] := by
  simp [putB, pN, fncB, insB, hasB]
  decide
theorem or32 {a b : Int} {n : Nat} (hn : n ≤ 24) (h0 : 0 ≤ a) (h1 : a < 2 ^ n) (h2 : 0 ≤ b) (h3 : b < 256) : bits .or .u32 a (b * 2 ^ n) = a + b * 2 ^ n := by
  obtain ⟨x, rfl⟩ := Int.eq_ofNat_of_zero_le h0
  obtain ⟨y, rfl⟩ := Int.eq_ofNat_of_zero_le h2
  have hx : x < 2 ^ n := by exact_mod_cast h1
  have hy : y < 256 := by omega
  have hp : (2 : Nat) ^ n ≤ 2 ^ 24 := Nat.pow_le_pow_right (by decide) hn
  have hm : y * 2 ^ n ≤ 255 * 2 ^ n := Nat.mul_le_mul_right _ (by omega)
  have h24 : (2 : Nat) ^ 24 = 16777216 := by decide
  have h32 : (2 : Nat) ^ 32 = 4294967296 := by decide
  have h := (bits_nat .u32 32 (by decide) (fun m h0 h1 => by rw [IntKind.wrap_u32]; exact Int.emod_eq_of_lt h0 (by simpa using h1)) x (y * 2 ^ n) (by omega) (by omega)).2
  have e : x ||| (y * 2 ^ n) = x + y * 2 ^ n := by
    rw [Nat.or_comm, Nat.mul_comm, ← Nat.two_pow_add_eq_or_of_lt hx]; omega
  rw [e] at h
  rw [show ((y : Int) * 2 ^ n) = ((y * 2 ^ n : Nat) : Int) by push_cast; rfl, h]
  push_cast; rfl
theorem wr_shl32 {x : Int} (h0 : 0 ≤ x) (h1 : x < 256) {n : Nat} (hn : n ≤ 24) : IntKind.u32.wrap (x * 2 ^ min n IntKind.u32.bits) = x * 2 ^ n := by
  have e : min n IntKind.u32.bits = n := Nat.min_eq_left (Nat.le_trans hn (by decide))
  have h2 : (2 : Int) ^ n ≤ 2 ^ 24 := by
    have : (2 : Nat) ^ n ≤ 2 ^ 24 := Nat.pow_le_pow_right (by decide) hn
    exact_mod_cast this
  have h3 : (0 : Int) < 2 ^ n := by
    have : 0 < (2 : Nat) ^ n := Nat.pow_pos (by decide)
    exact_mod_cast this
  rw [e]
  have h4 : 0 ≤ x * 2 ^ n := Int.mul_nonneg h0 (by omega)
  have h5 : x * 2 ^ n ≤ 255 * 2 ^ n := Int.mul_le_mul_of_nonneg_right (by omega) (by omega)
  have h6 : (2 : Int) ^ 24 = 16777216 := by decide
  rw [IntKind.wrap_u32]
  omega
theorem PackNumbers_pc (x : Int) : PC Try.prog F_swagelaw3_PackNumbers [.int .i64 x] (fun d _ => d = .bool true) DMem.mt := by
  refine pc_swagelaw3_PackNumbers (by simp) ?_
  have hv : wr64 (wrap32 (x % 18446744073709551616 % 4294967296)) = wrap32 x := by
    have e : wrap32 (x % 18446744073709551616 % 4294967296) = wrap32 x := by unfold wrap32; omega
    rw [e, w64 (by unfold wrap32; omega)]
  simp only [S_swagelaw3_PackNumbers, R_swagelaw3_PackNumbers, MU_swagelaw3_PackNumbers, awake_pf, hv, SW, wpD, evDL, evDM, evD, bldLD, List.contains_cons, List.contains_nil, Nat.reduceBEq, beq_self_eq_true, Nat.reduceMul, Nat.reduceSub, wpSp, Option.bind_some, Option.some.injEq, exists_eq_left', exists_eq_left, reduceIte, if_false, if_true, Nat.reduceEqDiff, Nat.reduceAdd, Nat.reduceLeDiff, Int.reduceEq, Int.reduceLT, Int.reduceLE, Int.reduceToNat, decide_true, decide_false, DV.bool.injEq, DV.int.injEq, DV.mp.injEq, DV.msl.injEq, DV.tup.injEq, DV.agg.injEq, DV.fn.injEq, true_implies, forall_const, reduceCtorEq, implies_true, ne_eq, DMem.mt]
  have hvb : -2147483648 ≤ wrap32 x ∧ wrap32 x ≤ 2147483647 := by unfold wrap32; omega
  have hp : DV.isl 1 [.int .i64 0, .int .i64 0, .isl 2 [.int .i64 0, .int .i64 (wrap32 x), .int .i64 16, .int .i64 0]] = slD Fnc.c (pN (wrap32 x)) := rfl
  simp only [hp, ldnI1, SW, wpD, evDL, evDM, evD, bldLD, List.contains_cons, List.contains_nil, Nat.reduceBEq, beq_self_eq_true, Nat.reduceMul, Nat.reduceSub, wpSp, Option.bind_some, Option.some.injEq, exists_eq_left', exists_eq_left, reduceIte, if_false, if_true, Nat.reduceEqDiff, Nat.reduceAdd, Nat.reduceLeDiff, Int.reduceEq, Int.reduceLT, Int.reduceLE, Int.reduceToNat, decide_true, decide_false, DV.bool.injEq, DV.int.injEq, DV.mp.injEq, DV.msl.injEq, DV.tup.injEq, DV.agg.injEq, DV.fn.injEq, true_implies, forall_const, reduceCtorEq, implies_true, ne_eq, DMem.mt]
  refine PC.of_pf (by simp only [List.map_cons, List.map_nil, fz_agg, fz_prg]; exact Put_pf _) ?_
  have hok := pN_ok hvb
  have hput : putR (pN (wrap32 x)) = (putB (pN (wrap32 x)), 0) := by unfold putR; rw [if_pos hok]
  have hget := getR_put hok
  rw [hput]
  rw [pN_put] at hget ⊢
  have hy : wrap32 x % 4294967296 = x % 18446744073709551616 % 4294967296 := by unfold wrap32; omega
  have hy0 : 0 ≤ wrap32 x % 4294967296 ∧ wrap32 x % 4294967296 < 4294967296 := by omega
  generalize wrap32 x % 4294967296 = y at hy hy0 hget ⊢
  generalize hL : [84, 105, 107, 1, 0, 0, 2, 0, u8 y, u8 (y / 256), u8 (y / 65536), u8 (y / 16777216), 16] = L at hget ⊢
  have hl : slenD (.str (bstr L)) = some (.int .i64 13) := by rw [bstr_slen, ← hL]; rfl
  have i7 : sidxD (.str (bstr L)) (.int .i64 7) = some (.int .u8 0) := by
    have := bstr_sidx (l := L) (i := 7) (k := .i64) (by rw [← hL]; simp)
    rw [show ((7 : Nat) : Int) = 7 from rfl] at this
    rw [this]; subst hL; rfl
  have i8 : sidxD (.str (bstr L)) (.int .i64 8) = some (.int .u8 (y % 256)) := by
    have := bstr_sidx (l := L) (i := 8) (k := .i64) (by rw [← hL]; simp)
    rw [show ((8 : Nat) : Int) = 8 from rfl] at this
    rw [this, ← u8_nat]; subst hL; rfl
  have i9 : sidxD (.str (bstr L)) (.int .i64 9) = some (.int .u8 (y / 256 % 256)) := by
    have := bstr_sidx (l := L) (i := 9) (k := .i64) (by rw [← hL]; simp)
    rw [show ((9 : Nat) : Int) = 9 from rfl] at this
    rw [this, ← u8_nat]; subst hL; rfl
  have i10 : sidxD (.str (bstr L)) (.int .i64 10) = some (.int .u8 (y / 65536 % 256)) := by
    have := bstr_sidx (l := L) (i := 10) (k := .i64) (by rw [← hL]; simp)
    rw [show ((10 : Nat) : Int) = 10 from rfl] at this
    rw [this, ← u8_nat]; subst hL; rfl
  have i11 : sidxD (.str (bstr L)) (.int .i64 11) = some (.int .u8 (y / 16777216 % 256)) := by
    have := bstr_sidx (l := L) (i := 11) (k := .i64) (by rw [← hL]; simp)
    rw [show ((11 : Nat) : Int) = 11 from rfl] at this
    rw [this, ← u8_nat]; subst hL; rfl
  have i12 : sidxD (.str (bstr L)) (.int .i64 12) = some (.int .u8 16) := by
    have := bstr_sidx (l := L) (i := 12) (k := .i64) (by rw [← hL]; simp)
    rw [show ((12 : Nat) : Int) = 12 from rfl] at this
    rw [this]; subst hL; rfl
  have m8 : y % 256 % 4294967296 = y % 256 := by omega
  have m9 : y / 256 % 256 % 4294967296 = y / 256 % 256 := by omega
  have m10 : y / 65536 % 256 % 4294967296 = y / 65536 % 256 := by omega
  have m11 : y / 16777216 % 256 % 4294967296 = y / 16777216 % 256 := by omega
  have o9 : bits .or .u32 (y % 256) (IntKind.u32.wrap (y / 256 % 256 * 2 ^ min 8 IntKind.u32.bits)) = y % 65536 := by
    rw [wr_shl32 (by omega) (by omega) (by decide), or32 (by decide) (by omega) (by simp; omega) (by omega) (by omega)]
    have : (2 : Int) ^ 8 = 256 := by decide
    rw [this]; omega
  have o10 : bits .or .u32 (y % 65536) (IntKind.u32.wrap (y / 65536 % 256 * 2 ^ min 16 IntKind.u32.bits)) = y % 16777216 := by
    rw [wr_shl32 (by omega) (by omega) (by decide), or32 (by decide) (by omega) (by simp; omega) (by omega) (by omega)]
    have : (2 : Int) ^ 16 = 65536 := by decide
    rw [this]; omega
  have o11 : bits .or .u32 (y % 16777216) (IntKind.u32.wrap (y / 16777216 % 256 * 2 ^ min 24 IntKind.u32.bits)) = y := by
    rw [wr_shl32 (by omega) (by omega) (by decide), or32 (by decide) (by omega) (by simp; omega) (by omega) (by omega)]
    have : (2 : Int) ^ 24 = 16777216 := by decide
    rw [this]; omega
  simp only [S2_swagelaw3_PackNumbers, MU_swagelaw3_PackNumbers, NumF_pf, hl, i8, i9, i10, i11, m8, m9, m10, m11, o9, o10, o11, SW, wpD, evDL, evDM, evD, bldLD, List.contains_cons, List.contains_nil, Nat.reduceBEq, beq_self_eq_true, Nat.reduceMul, Nat.reduceSub, wpSp, Option.bind_some, Option.some.injEq, exists_eq_left', exists_eq_left, reduceIte, if_false, if_true, Nat.reduceEqDiff, Nat.reduceAdd, Nat.reduceLeDiff, Int.reduceEq, Int.reduceLT, Int.reduceLE, Int.reduceToNat, decide_true, decide_false, DV.bool.injEq, DV.int.injEq, DV.mp.injEq, DV.msl.injEq, DV.tup.injEq, DV.agg.injEq, DV.fn.injEq, true_implies, forall_const, reduceCtorEq, implies_true, ne_eq, DMem.mt]
  refine Get_pc L fun d1 M1 S1 h1 n1 f1 k1 => ?_
  rw [hget] at h1 ⊢
  have hsame := SameProgram_pf (pN (wrap32 x)) (pN (wrap32 x)) (by simp [pN]) (by simp [pN])
  rw [decide_eq_true rfl] at hsame
  have hyy : decide (y = x % 18446744073709551616 % 4294967296) = true := decide_eq_true hy
  simp only [S1_swagelaw3_PackNumbers, MU_swagelaw3_PackNumbers, h1.cell, h1.plain, ldnI1, sl_fz4 h1, fz_prg, NumF_pf, hsame, i7, i12, hyy, SW, wpD, evDL, evDM, evD, bldLD, List.contains_cons, List.contains_nil, Nat.reduceBEq, beq_self_eq_true, Nat.reduceMul, Nat.reduceSub, wpSp, Option.bind_some, Option.some.injEq, exists_eq_left', exists_eq_left, reduceIte, if_false, if_true, Nat.reduceEqDiff, Nat.reduceAdd, Nat.reduceLeDiff, Int.reduceEq, Int.reduceLT, Int.reduceLE, Int.reduceToNat, decide_true, decide_false, DV.bool.injEq, DV.int.injEq, DV.mp.injEq, DV.msl.injEq, DV.tup.injEq, DV.agg.injEq, DV.fn.injEq, true_implies, forall_const, reduceCtorEq, implies_true, ne_eq, DMem.mt]
end Go.Proofs.Ytaifmmeghninhaa.Pf
