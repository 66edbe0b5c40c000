/- Layer 2: what the functions on instructions answer. No condition. -/
import Derived.Test.YtmkdikbjolobdaaSx
import Derived.Test.YtmkdikbjolobdaaMl
namespace Go.Proofs.Ytmkdikbjolobdaa.Pf
open Go Go.RowKit Go.Proofs Go.Proofs.Ytmkdikbjolobdaa.Mw Go.Proofs.Ytmkdikbjolobdaa.Sx
set_option linter.unusedSimpArgs false
set_option linter.unusedVariables false

structure Ins where
  kind : Int
  a : Int
def Ins.v (x : Ins) : Value := .agg #[.int .i64 x.kind, .int .i64 x.a]
def isB (k : Int) : Bool := decide (-2147483648 ≤ k ∧ k ≤ 2147483647)
theorem isB_eq' (k : Int) : decide (wrap64 (wrap32 k) = k) = isB k := by
  unfold isB wrap64 wrap32
  rw [Bool.eq_iff_iff]; simp only [decide_eq_true_eq]; omega
theorem isB_eq (k : Int) : decide (IntKind.i64.wrap (IntKind.i32.wrap k) = k) = isB k := by
  rw [IntKind.wrap_i64, IntKind.wrap_i32]
  unfold isB
  rw [Bool.eq_iff_iff]; simp only [decide_eq_true_eq]; omega
def belowF (k : Int) : Int := if k = 1 ∨ k = 2 then 8 else if k = 12 ∨ k = 13 then 64 else if k = 14 then 8 else 1
def mayB (x : Ins) : Bool := decide (0 ≤ x.kind ∧ x.kind ≤ 16) && (if x.kind = 0 then isB x.a else decide (0 ≤ x.a ∧ x.a < belowF x.kind))
theorem ret_b {a b : Bool} (h : a = b) : Value.bool a = .bool b := by rw [h]

theorem Is_ro (k : Int) (m : Mem) : RO Try.prog F_wrap_Is [.int .i64 k] (.bool (isB k)) m := by
  refine call_wrap_Is (by simp) fun hI => ?_
  simp only [S_wrap_Is, R_wrap_Is, hI, wpS, wpE, evL, evM, ev, upds_nil, upds_cons, updO_some, updO_none, Env.upd_eq, argEnv_0, argEnv_1, argEnv_2, argEnv_3, argEnv_4, argEnv_5, of_tmp, of_const, Option.bind_some, Option.map_some, Option.isSome_some, true_and, and_true, Option.some.injEq, exists_eq_left', exists_eq_left, reduceIte, Nat.reduceEqDiff, add_i64, sub_i64, mul_i64, eql_int, neq_int, lss_int, leq_int, gtr_int, geq_int, eqb_b, neb_b, eqn_some, eqn_none, nen_some, nen_none, not_b, neg_i64, cvt_i64, cvt_u64, cvt_u8, cvt_u32, cvt_i32, rem_g, quo_i64, add_u64, mul_u64, Int.reduceEq, pick_b, ld_p, ldn_p, fa_p, nck_p, len_s, slen_s, ext_t, cs_t, fld_a, andK_bb, orK_bb, Value.bool.injEq, List.map_cons, List.map_nil, true_implies, forall_const, ne_eq, Nat.zero_ne_one, List.append_toArray, List.cons_append, List.nil_append, List.getElem?_toArray, List.getElem?_cons_zero, List.getElem?_cons_succ, Nat.add_zero, Nat.zero_add]
  simp only [isB_eq']
theorem Is_sp (k : Int) {m : Mem} (h : Inh m) : spRO Try.prog F_wrap_Is [.int .i64 k] m = some (.bool (isB k)) := spRO_eq h (Is_ro k m)
theorem below_ro (k : Int) (m : Mem) : RO Try.prog F_ins_below [.int .i64 k] (.int .i64 (belowF k)) m := by
  refine call_ins_below (by simp) fun hI => ?_
  simp only [S_ins_below, R_ins_below, hI, wpS, wpE, evL, evM, ev, upds_nil, upds_cons, updO_some, updO_none, Env.upd_eq, argEnv_0, argEnv_1, argEnv_2, argEnv_3, argEnv_4, argEnv_5, of_tmp, of_const, Option.bind_some, Option.map_some, Option.isSome_some, true_and, and_true, Option.some.injEq, exists_eq_left', exists_eq_left, reduceIte, Nat.reduceEqDiff, add_i64, sub_i64, mul_i64, eql_int, neq_int, lss_int, leq_int, gtr_int, geq_int, eqb_b, neb_b, eqn_some, eqn_none, nen_some, nen_none, not_b, neg_i64, cvt_i64, cvt_u64, cvt_u8, cvt_u32, cvt_i32, rem_g, quo_i64, add_u64, mul_u64, Int.reduceEq, pick_b, ld_p, ldn_p, fa_p, nck_p, len_s, slen_s, ext_t, cs_t, fld_a, andK_bb, orK_bb, Value.bool.injEq, List.map_cons, List.map_nil, true_implies, forall_const, ne_eq, Nat.zero_ne_one, List.append_toArray, List.cons_append, List.nil_append, List.getElem?_toArray, List.getElem?_cons_zero, List.getElem?_cons_succ, Nat.add_zero, Nat.zero_add]
  simp only [belowF]
  grind
theorem below_sp (k : Int) {m : Mem} (h : Inh m) : spRO Try.prog F_ins_below [.int .i64 k] m = some (.int .i64 (belowF k)) := spRO_eq h (below_ro k m)
theorem May_ro (x : Ins) (m : Mem) : RO Try.prog F_ins_May [x.v] (.bool (mayB x)) m := by
  refine RO.of (call_ins_May (by simp) fun hI => ?_)
  simp only [S_ins_May, R_ins_May, hI, wpS, wpE, evL, evM, ev, upds_nil, upds_cons, updO_some, updO_none, Env.upd_eq, argEnv_0, argEnv_1, argEnv_2, argEnv_3, argEnv_4, argEnv_5, of_tmp, of_const, Option.bind_some, Option.map_some, Option.isSome_some, true_and, and_true, Option.some.injEq, exists_eq_left', exists_eq_left, reduceIte, Nat.reduceEqDiff, add_i64, sub_i64, mul_i64, eql_int, neq_int, lss_int, leq_int, gtr_int, geq_int, eqb_b, neb_b, eqn_some, eqn_none, nen_some, nen_none, not_b, neg_i64, cvt_i64, cvt_u64, cvt_u8, cvt_u32, cvt_i32, rem_g, quo_i64, add_u64, mul_u64, Int.reduceEq, pick_b, ld_p, ldn_p, fa_p, nck_p, len_s, slen_s, ext_t, cs_t, fld_a, andK_bb, orK_bb, Value.bool.injEq, List.map_cons, List.map_nil, true_implies, forall_const, ne_eq, Nat.zero_ne_one, List.append_toArray, List.cons_append, List.nil_append, List.getElem?_toArray, List.getElem?_cons_zero, List.getElem?_cons_succ, Nat.add_zero, Nat.zero_add, Ins.v]
  intro b m1 hb hm hJ
  have hG := new_grows hb hm
  simp only [hJ, eq_true hG, new_get hm 0 rfl, new_get hm 1 rfl, wpS, wpE, evL, evM, ev, upds_nil, upds_cons, updO_some, updO_none, Env.upd_eq, argEnv_0, argEnv_1, argEnv_2, argEnv_3, argEnv_4, argEnv_5, of_tmp, of_const, Option.bind_some, Option.map_some, Option.isSome_some, true_and, and_true, Option.some.injEq, exists_eq_left', exists_eq_left, reduceIte, Nat.reduceEqDiff, add_i64, sub_i64, mul_i64, eql_int, neq_int, lss_int, leq_int, gtr_int, geq_int, eqb_b, neb_b, eqn_some, eqn_none, nen_some, nen_none, not_b, neg_i64, cvt_i64, cvt_u64, cvt_u8, cvt_u32, cvt_i32, rem_g, quo_i64, add_u64, mul_u64, Int.reduceEq, pick_b, ld_p, ldn_p, fa_p, nck_p, len_s, slen_s, ext_t, cs_t, fld_a, andK_bb, orK_bb, Value.bool.injEq, List.map_cons, List.map_nil, true_implies, forall_const, ne_eq, Nat.zero_ne_one, List.append_toArray, List.cons_append, List.nil_append, List.getElem?_toArray, List.getElem?_cons_zero, List.getElem?_cons_succ, Nat.add_zero, Nat.zero_add, Is_sp _ hJ, below_sp _ hJ]
  obtain ⟨k, a⟩ := x
  clear hm hI hJ
  grind [mayB, belowF]
theorem May_sp (x : Ins) {m : Mem} (h : Inh m) : spRO Try.prog F_ins_May [x.v] m = some (.bool (mayB x)) := spRO_eq h (May_ro x m)
theorem Number_ro (k : Int) (m : Mem) : RO Try.prog F_swageref1_Number [.int .i64 k] (.bool (isB k)) m := by
  refine call_swageref1_Number (by simp) fun hI => ?_
  simp only [S_swageref1_Number, R_swageref1_Number, hI, wpS, wpE, evL, evM, ev, upds_nil, upds_cons, updO_some, updO_none, Env.upd_eq, argEnv_0, argEnv_1, argEnv_2, argEnv_3, argEnv_4, argEnv_5, of_tmp, of_const, Option.bind_some, Option.map_some, Option.isSome_some, true_and, and_true, Option.some.injEq, exists_eq_left', exists_eq_left, reduceIte, Nat.reduceEqDiff, add_i64, sub_i64, mul_i64, eql_int, neq_int, lss_int, leq_int, gtr_int, geq_int, eqb_b, neb_b, eqn_some, eqn_none, nen_some, nen_none, not_b, neg_i64, cvt_i64, cvt_u64, cvt_u8, cvt_u32, cvt_i32, rem_g, quo_i64, add_u64, mul_u64, Int.reduceEq, pick_b, ld_p, ldn_p, fa_p, nck_p, len_s, slen_s, ext_t, cs_t, fld_a, andK_bb, orK_bb, Value.bool.injEq, List.map_cons, List.map_nil, true_implies, forall_const, ne_eq, Nat.zero_ne_one, List.append_toArray, List.cons_append, List.nil_append, List.getElem?_toArray, List.getElem?_cons_zero, List.getElem?_cons_succ, Nat.add_zero, Nat.zero_add]
  congr 1
  unfold isB
  rw [Bool.eq_iff_iff]; simp
theorem Number_sp (k : Int) {m : Mem} (h : Inh m) : spRO Try.prog F_swageref1_Number [.int .i64 k] m = some (.bool (isB k)) := spRO_eq h (Number_ro k m)
theorem InsMay_ro (x : Ins) (m : Mem) : RO Try.prog F_swageref1_InsMay [x.v] (.bool (mayB x)) m := by
  refine RO.of (call_swageref1_InsMay (by simp) fun hI => ?_)
  simp only [S_swageref1_InsMay, R_swageref1_InsMay, hI, wpS, wpE, evL, evM, ev, upds_nil, upds_cons, updO_some, updO_none, Env.upd_eq, argEnv_0, argEnv_1, argEnv_2, argEnv_3, argEnv_4, argEnv_5, of_tmp, of_const, Option.bind_some, Option.map_some, Option.isSome_some, true_and, and_true, Option.some.injEq, exists_eq_left', exists_eq_left, reduceIte, Nat.reduceEqDiff, add_i64, sub_i64, mul_i64, eql_int, neq_int, lss_int, leq_int, gtr_int, geq_int, eqb_b, neb_b, eqn_some, eqn_none, nen_some, nen_none, not_b, neg_i64, cvt_i64, cvt_u64, cvt_u8, cvt_u32, cvt_i32, rem_g, quo_i64, add_u64, mul_u64, Int.reduceEq, pick_b, ld_p, ldn_p, fa_p, nck_p, len_s, slen_s, ext_t, cs_t, fld_a, andK_bb, orK_bb, Value.bool.injEq, List.map_cons, List.map_nil, true_implies, forall_const, ne_eq, Nat.zero_ne_one, List.append_toArray, List.cons_append, List.nil_append, List.getElem?_toArray, List.getElem?_cons_zero, List.getElem?_cons_succ, Nat.add_zero, Nat.zero_add, Ins.v]
  intro b m1 hb hm hJ
  have hG := new_grows hb hm
  simp only [hJ, eq_true hG, new_get hm 0 rfl, new_get hm 1 rfl, wpS, wpE, evL, evM, ev, upds_nil, upds_cons, updO_some, updO_none, Env.upd_eq, argEnv_0, argEnv_1, argEnv_2, argEnv_3, argEnv_4, argEnv_5, of_tmp, of_const, Option.bind_some, Option.map_some, Option.isSome_some, true_and, and_true, Option.some.injEq, exists_eq_left', exists_eq_left, reduceIte, Nat.reduceEqDiff, add_i64, sub_i64, mul_i64, eql_int, neq_int, lss_int, leq_int, gtr_int, geq_int, eqb_b, neb_b, eqn_some, eqn_none, nen_some, nen_none, not_b, neg_i64, cvt_i64, cvt_u64, cvt_u8, cvt_u32, cvt_i32, rem_g, quo_i64, add_u64, mul_u64, Int.reduceEq, pick_b, ld_p, ldn_p, fa_p, nck_p, len_s, slen_s, ext_t, cs_t, fld_a, andK_bb, orK_bb, Value.bool.injEq, List.map_cons, List.map_nil, true_implies, forall_const, ne_eq, Nat.zero_ne_one, List.append_toArray, List.cons_append, List.nil_append, List.getElem?_toArray, List.getElem?_cons_zero, List.getElem?_cons_succ, Nat.add_zero, Nat.zero_add, Number_sp _ hJ]
  obtain ⟨k, a⟩ := x
  clear hm hI hJ hG
  simp only [mayB, belowF, isB]
  grind
theorem InsMay_sp (x : Ins) {m : Mem} (h : Inh m) : spRO Try.prog F_swageref1_InsMay [x.v] m = some (.bool (mayB x)) := spRO_eq h (InsMay_ro x m)

/-- What an instruction takes, what it puts, and the error. -/
def effF (x : Ins) (n : Int) : Int × Int × Int :=
  if mayB x = false ∨ n < 0 ∨ 4 < n then (0, 0, 200) else
  if x.kind = 0 ∨ x.kind = 1 then (0, 1, 0) else
  if x.kind = 2 ∨ x.kind = 11 ∨ x.kind = 13 ∨ x.kind = 15 ∨ x.kind = 16 then (1, 0, 0) else
  if x.kind = 10 then (1, 2, 0) else
  if x.kind = 12 then (0, 0, 0) else
  if x.kind = 14 then (n, 1, 0) else (2, 1, 0)
def tup3 (p : Int × Int × Int) : Value := .tuple #[.int .i64 p.1, .int .i64 p.2.1, .int .i64 p.2.2]
theorem Effect_ro (x : Ins) (n : Int) (m : Mem) : RO Try.prog F_ins_Effect [x.v, .int .i64 n] (tup3 (effF x n)) m := by
  refine RO.of (call_ins_Effect (by simp) fun hI => ?_)
  simp only [S_ins_Effect, R_ins_Effect, hI, wpS, wpE, evL, evM, ev, upds_nil, upds_cons, updO_some, updO_none, Env.upd_eq, argEnv_0, argEnv_1, argEnv_2, argEnv_3, argEnv_4, argEnv_5, of_tmp, of_const, Option.bind_some, Option.map_some, Option.isSome_some, true_and, and_true, Option.some.injEq, exists_eq_left', exists_eq_left, reduceIte, Nat.reduceEqDiff, add_i64, sub_i64, mul_i64, eql_int, neq_int, lss_int, leq_int, gtr_int, geq_int, eqb_b, neb_b, eqn_some, eqn_none, nen_some, nen_none, not_b, neg_i64, cvt_i64, cvt_u64, cvt_u8, cvt_u32, cvt_i32, rem_g, quo_i64, add_u64, mul_u64, Int.reduceEq, pick_b, ld_p, ldn_p, fa_p, nck_p, len_s, slen_s, ext_t, cs_t, fld_a, andK_bb, orK_bb, Value.bool.injEq, List.map_cons, List.map_nil, true_implies, forall_const, ne_eq, Nat.zero_ne_one, List.append_toArray, List.cons_append, List.nil_append, List.getElem?_toArray, List.getElem?_cons_zero, List.getElem?_cons_succ, Nat.add_zero, Nat.zero_add]
  intro b m1 hb hm hJ
  have hG := new_grows hb hm
  have hr : m1.row ⟨b, 0, none⟩ 2 = some [.int .i64 x.kind, .int .i64 x.a] := row2 (new_get hm 0 rfl) (new_get hm 1 rfl)
  have hg : m1.get ⟨b, 0, none⟩ = some (.int .i64 x.kind) := new_get hm 0 rfl
  have hM : spRO Try.prog F_ins_May [.agg #[.int .i64 x.kind, .int .i64 x.a]] m1 = some (.bool (mayB x)) := May_sp x hJ
  simp only [hJ, eq_true hG, hr, hg, hM, wpS, wpE, evL, evM, ev, upds_nil, upds_cons, updO_some, updO_none, Env.upd_eq, argEnv_0, argEnv_1, argEnv_2, argEnv_3, argEnv_4, argEnv_5, of_tmp, of_const, Option.bind_some, Option.map_some, Option.isSome_some, true_and, and_true, Option.some.injEq, exists_eq_left', exists_eq_left, reduceIte, Nat.reduceEqDiff, add_i64, sub_i64, mul_i64, eql_int, neq_int, lss_int, leq_int, gtr_int, geq_int, eqb_b, neb_b, eqn_some, eqn_none, nen_some, nen_none, not_b, neg_i64, cvt_i64, cvt_u64, cvt_u8, cvt_u32, cvt_i32, rem_g, quo_i64, add_u64, mul_u64, Int.reduceEq, pick_b, ld_p, ldn_p, fa_p, nck_p, len_s, slen_s, ext_t, cs_t, fld_a, andK_bb, orK_bb, Value.bool.injEq, List.map_cons, List.map_nil, true_implies, forall_const, ne_eq, Nat.zero_ne_one, List.append_toArray, List.cons_append, List.nil_append, List.getElem?_toArray, List.getElem?_cons_zero, List.getElem?_cons_succ, Nat.add_zero, Nat.zero_add]
  obtain ⟨k, a⟩ := x
  clear hm hI hJ hG hr hg hM
  have w1 : wrap64 (0 + 1) = 1 := w64 (by decide)
  have w2 : wrap64 (1 + 1) = 2 := w64 (by decide)
  have hb : mayB ⟨k, a⟩ = true → 0 ≤ k ∧ k ≤ 16 := by simp only [mayB]; grind
  simp only [w1, w2, effF, tup3]
  clear w1 w2
  (repeat' (first | intro _ | refine And.intro ?_ ?_)) <;> grind (splits := 40)
theorem Effect_sp (x : Ins) (n : Int) {m : Mem} (h : Inh m) : spRO Try.prog F_ins_Effect [x.v, .int .i64 n] m = some (tup3 (effF x n)) := spRO_eq h (Effect_ro x n m)
theorem EffectR_ro (x : Ins) (n : Int) (m : Mem) : RO Try.prog F_swageref1_Effect [x.v, .int .i64 n] (tup3 (effF x n)) m := by
  refine RO.of (call_swageref1_Effect (by simp) fun hI => ?_)
  simp only [S_swageref1_Effect, R_swageref1_Effect, hI, wpS, wpE, evL, evM, ev, upds_nil, upds_cons, updO_some, updO_none, Env.upd_eq, argEnv_0, argEnv_1, argEnv_2, argEnv_3, argEnv_4, argEnv_5, of_tmp, of_const, Option.bind_some, Option.map_some, Option.isSome_some, true_and, and_true, Option.some.injEq, exists_eq_left', exists_eq_left, reduceIte, Nat.reduceEqDiff, add_i64, sub_i64, mul_i64, eql_int, neq_int, lss_int, leq_int, gtr_int, geq_int, eqb_b, neb_b, eqn_some, eqn_none, nen_some, nen_none, not_b, neg_i64, cvt_i64, cvt_u64, cvt_u8, cvt_u32, cvt_i32, rem_g, quo_i64, add_u64, mul_u64, Int.reduceEq, pick_b, ld_p, ldn_p, fa_p, nck_p, len_s, slen_s, ext_t, cs_t, fld_a, andK_bb, orK_bb, Value.bool.injEq, List.map_cons, List.map_nil, true_implies, forall_const, ne_eq, Nat.zero_ne_one, List.append_toArray, List.cons_append, List.nil_append, List.getElem?_toArray, List.getElem?_cons_zero, List.getElem?_cons_succ, Nat.add_zero, Nat.zero_add]
  intro b m1 hb hm hJ
  have hG := new_grows hb hm
  have hr : m1.row ⟨b, 0, none⟩ 2 = some [.int .i64 x.kind, .int .i64 x.a] := row2 (new_get hm 0 rfl) (new_get hm 1 rfl)
  have hg : m1.get ⟨b, 0, none⟩ = some (.int .i64 x.kind) := new_get hm 0 rfl
  have hM : spRO Try.prog F_swageref1_InsMay [.agg #[.int .i64 x.kind, .int .i64 x.a]] m1 = some (.bool (mayB x)) := InsMay_sp x hJ
  simp only [hJ, eq_true hG, hr, hg, hM, wpS, wpE, evL, evM, ev, upds_nil, upds_cons, updO_some, updO_none, Env.upd_eq, argEnv_0, argEnv_1, argEnv_2, argEnv_3, argEnv_4, argEnv_5, of_tmp, of_const, Option.bind_some, Option.map_some, Option.isSome_some, true_and, and_true, Option.some.injEq, exists_eq_left', exists_eq_left, reduceIte, Nat.reduceEqDiff, add_i64, sub_i64, mul_i64, eql_int, neq_int, lss_int, leq_int, gtr_int, geq_int, eqb_b, neb_b, eqn_some, eqn_none, nen_some, nen_none, not_b, neg_i64, cvt_i64, cvt_u64, cvt_u8, cvt_u32, cvt_i32, rem_g, quo_i64, add_u64, mul_u64, Int.reduceEq, pick_b, ld_p, ldn_p, fa_p, nck_p, len_s, slen_s, ext_t, cs_t, fld_a, andK_bb, orK_bb, Value.bool.injEq, List.map_cons, List.map_nil, true_implies, forall_const, ne_eq, Nat.zero_ne_one, List.append_toArray, List.cons_append, List.nil_append, List.getElem?_toArray, List.getElem?_cons_zero, List.getElem?_cons_succ, Nat.add_zero, Nat.zero_add]
  obtain ⟨k, a⟩ := x
  clear hm hI hJ hG hr hg hM
  simp only [effF, tup3]
  (repeat' (first | intro _ | refine And.intro ?_ ?_)) <;> grind (splits := 40)
theorem EffectR_sp (x : Ins) (n : Int) {m : Mem} (h : Inh m) : spRO Try.prog F_swageref1_Effect [x.v, .int .i64 n] m = some (tup3 (effF x n)) := spRO_eq h (EffectR_ro x n m)
theorem Num_ro (n : Int) (m : Mem) : RO Try.prog F_swagelaw0_Num [.int .i64 n] (.int .i64 n) m := by
  refine call_swagelaw0_Num (by simp) fun hI => ?_
  simp only [S_swagelaw0_Num, R_swagelaw0_Num, hI, wpS, wpE, evL, evM, ev, upds_nil, upds_cons, updO_some, updO_none, Env.upd_eq, argEnv_0, argEnv_1, argEnv_2, argEnv_3, argEnv_4, argEnv_5, of_tmp, of_const, Option.bind_some, Option.map_some, Option.isSome_some, true_and, and_true, Option.some.injEq, exists_eq_left', exists_eq_left, reduceIte, Nat.reduceEqDiff, add_i64, sub_i64, mul_i64, eql_int, neq_int, lss_int, leq_int, gtr_int, geq_int, eqb_b, neb_b, eqn_some, eqn_none, nen_some, nen_none, not_b, neg_i64, cvt_i64, cvt_u64, cvt_u8, cvt_u32, cvt_i32, rem_g, quo_i64, add_u64, mul_u64, Int.reduceEq, pick_b, ld_p, ldn_p, fa_p, nck_p, len_s, slen_s, ext_t, cs_t, fld_a, andK_bb, orK_bb, Value.bool.injEq, List.map_cons, List.map_nil, true_implies, forall_const, ne_eq, Nat.zero_ne_one, List.append_toArray, List.cons_append, List.nil_append, List.getElem?_toArray, List.getElem?_cons_zero, List.getElem?_cons_succ, Nat.add_zero, Nat.zero_add]
theorem Num_sp (n : Int) {m : Mem} (h : Inh m) : spRO Try.prog F_swagelaw0_Num [.int .i64 n] m = some (.int .i64 n) := spRO_eq h (Num_ro n m)
theorem Effect_sp' (k a n : Int) {m : Mem} (h : Inh m) : spRO Try.prog F_ins_Effect [.agg #[.int .i64 k, .int .i64 a], .int .i64 n] m =
    some (.tuple #[.int .i64 (effF ⟨k, a⟩ n).1, .int .i64 (effF ⟨k, a⟩ n).2.1, .int .i64 (effF ⟨k, a⟩ n).2.2]) := Effect_sp ⟨k, a⟩ n h
theorem EffectR_sp' (k a n : Int) {m : Mem} (h : Inh m) : spRO Try.prog F_swageref1_Effect [.agg #[.int .i64 k, .int .i64 a], .int .i64 n] m =
    some (.tuple #[.int .i64 (effF ⟨k, a⟩ n).1, .int .i64 (effF ⟨k, a⟩ n).2.1, .int .i64 (effF ⟨k, a⟩ n).2.2]) := EffectR_sp ⟨k, a⟩ n h
theorem May_sp' (k a : Int) {m : Mem} (h : Inh m) : spRO Try.prog F_ins_May [.agg #[.int .i64 k, .int .i64 a]] m = some (.bool (mayB ⟨k, a⟩)) := May_sp ⟨k, a⟩ h
theorem InsMay_sp' (k a : Int) {m : Mem} (h : Inh m) : spRO Try.prog F_swageref1_InsMay [.agg #[.int .i64 k, .int .i64 a]] m = some (.bool (mayB ⟨k, a⟩)) := InsMay_sp ⟨k, a⟩ h
theorem bldIns (x y : Int) : bldV [.int .i64 0, .int .i64 0] [(0, 1), (1, 1)] (.tuple #[.int .i64 x, .int .i64 y]) = some (.agg #[.int .i64 x, .int .i64 y]) := rfl
theorem bldIns1 (x : Int) : bldV [.int .i64 0, .int .i64 0] [(0, 1)] (.tuple #[.int .i64 x]) = some (.agg #[.int .i64 x, .int .i64 0]) := rfl
theorem rem_of (k n : Int) (h0 : 0 < n) (h1 : n < 1000000) : 0 ≤ wrap64 ((k % 18446744073709551616).tmod n) ∧ wrap64 ((k % 18446744073709551616).tmod n) < n := by
  have h2 : 0 ≤ k % 18446744073709551616 := by omega
  rw [Int.tmod_eq_emod_of_nonneg h2]
  have h3 := Int.emod_nonneg (k % 18446744073709551616) (show n ≠ 0 by omega)
  have h4 := Int.emod_lt_of_pos (k % 18446744073709551616) h0
  rw [w64 ⟨by omega, by omega⟩]
  exact ⟨h3, h4⟩
theorem awake_ro (m : Mem) : RO Try.prog F_swagelaw2_awake [] (.bool true) m := by
  refine call_swagelaw2_awake (by simp) fun hI => ?_
  simp only [S_swagelaw2_awake, R_swagelaw2_awake, hI, wpS, wpE, evL, evM, ev, upds_nil, upds_cons, updO_some, updO_none, Env.upd_eq, argEnv_0, argEnv_1, argEnv_2, argEnv_3, argEnv_4, argEnv_5, of_tmp, of_const, Option.bind_some, Option.map_some, Option.isSome_some, true_and, and_true, Option.some.injEq, exists_eq_left', exists_eq_left, reduceIte, Nat.reduceEqDiff, add_i64, sub_i64, mul_i64, eql_int, neq_int, lss_int, leq_int, gtr_int, geq_int, eqb_b, neb_b, eqn_some, eqn_none, nen_some, nen_none, not_b, neg_i64, cvt_i64, cvt_u64, cvt_u8, cvt_u32, cvt_i32, rem_g, quo_i64, add_u64, mul_u64, Int.reduceEq, pick_b, ld_p, ldn_p, fa_p, nck_p, len_s, slen_s, ext_t, cs_t, fld_a, andK_bb, orK_bb, Value.bool.injEq, List.map_cons, List.map_nil, true_implies, forall_const, ne_eq, Nat.zero_ne_one, List.append_toArray, List.cons_append, List.nil_append, List.getElem?_toArray, List.getElem?_cons_zero, List.getElem?_cons_succ, Nat.add_zero, Nat.zero_add, bldIns, Effect_sp' _ _ _ hI, May_sp' _ _ hI, Num_sp _ hI]
  decide
theorem awake_sp {m : Mem} (h : Inh m) : spRO Try.prog F_swagelaw2_awake [] m = some (.bool true) := spRO_eq h (awake_ro m)
/-- The law of row 2. -/
theorem Inss_mc (x : Ins) (n : Int) (m : Mem) : MC Try.prog F_swagelaw2_Inss [x.v, .int .i64 n] (fun v _ => v = .bool true) m := by
  refine call_swagelaw2_Inss (by simp) fun hI => ?_
  simp only [S_swagelaw2_Inss, R_swagelaw2_Inss, hI, wpS, wpE, evL, evM, ev, upds_nil, upds_cons, updO_some, updO_none, Env.upd_eq, argEnv_0, argEnv_1, argEnv_2, argEnv_3, argEnv_4, argEnv_5, of_tmp, of_const, Option.bind_some, Option.map_some, Option.isSome_some, true_and, and_true, Option.some.injEq, exists_eq_left', exists_eq_left, reduceIte, Nat.reduceEqDiff, add_i64, sub_i64, mul_i64, eql_int, neq_int, lss_int, leq_int, gtr_int, geq_int, eqb_b, neb_b, eqn_some, eqn_none, nen_some, nen_none, not_b, neg_i64, cvt_i64, cvt_u64, cvt_u8, cvt_u32, cvt_i32, rem_g, quo_i64, add_u64, mul_u64, Int.reduceEq, pick_b, ld_p, ldn_p, fa_p, nck_p, len_s, slen_s, ext_t, cs_t, fld_a, andK_bb, orK_bb, Value.bool.injEq, List.map_cons, List.map_nil, true_implies, forall_const, ne_eq, Nat.zero_ne_one, List.append_toArray, List.cons_append, List.nil_append, List.getElem?_toArray, List.getElem?_cons_zero, List.getElem?_cons_succ, Nat.add_zero, Nat.zero_add]
  intro b m1 hb hm hJ _
  have hr : m1.row ⟨b, 0, none⟩ 2 = some [.int .i64 x.kind, .int .i64 x.a] := row2 (new_get hm 0 rfl) (new_get hm 1 rfl)
  simp only [hJ, hr, wpS, wpE, evL, evM, ev, upds_nil, upds_cons, updO_some, updO_none, Env.upd_eq, argEnv_0, argEnv_1, argEnv_2, argEnv_3, argEnv_4, argEnv_5, of_tmp, of_const, Option.bind_some, Option.map_some, Option.isSome_some, true_and, and_true, Option.some.injEq, exists_eq_left', exists_eq_left, reduceIte, Nat.reduceEqDiff, add_i64, sub_i64, mul_i64, eql_int, neq_int, lss_int, leq_int, gtr_int, geq_int, eqb_b, neb_b, eqn_some, eqn_none, nen_some, nen_none, not_b, neg_i64, cvt_i64, cvt_u64, cvt_u8, cvt_u32, cvt_i32, rem_g, quo_i64, add_u64, mul_u64, Int.reduceEq, pick_b, ld_p, ldn_p, fa_p, nck_p, len_s, slen_s, ext_t, cs_t, fld_a, andK_bb, orK_bb, Value.bool.injEq, List.map_cons, List.map_nil, true_implies, forall_const, ne_eq, Nat.zero_ne_one, List.append_toArray, List.cons_append, List.nil_append, List.getElem?_toArray, List.getElem?_cons_zero, List.getElem?_cons_succ, Nat.add_zero, Nat.zero_add, Effect_sp' _ _ _ hJ, EffectR_sp' _ _ _ hJ, May_sp' _ _ hJ, InsMay_sp' _ _ hJ, Num_sp _ hJ, awake_sp hJ]
  simp
theorem InsEdges_mc (k : Int) (m : Mem) : MC Try.prog F_swagelaw2_InsEdges [.int .i64 k] (fun v _ => v = .bool true) m := by
  refine call_swagelaw2_InsEdges (by simp) fun hI => ?_
  simp only [S_swagelaw2_InsEdges, R_swagelaw2_InsEdges, hI, wpS, wpE, evL, evM, ev, upds_nil, upds_cons, updO_some, updO_none, Env.upd_eq, argEnv_0, argEnv_1, argEnv_2, argEnv_3, argEnv_4, argEnv_5, of_tmp, of_const, Option.bind_some, Option.map_some, Option.isSome_some, true_and, and_true, Option.some.injEq, exists_eq_left', exists_eq_left, reduceIte, Nat.reduceEqDiff, add_i64, sub_i64, mul_i64, eql_int, neq_int, lss_int, leq_int, gtr_int, geq_int, eqb_b, neb_b, eqn_some, eqn_none, nen_some, nen_none, not_b, neg_i64, cvt_i64, cvt_u64, cvt_u8, cvt_u32, cvt_i32, rem_g, quo_i64, add_u64, mul_u64, Int.reduceEq, pick_b, ld_p, ldn_p, fa_p, nck_p, len_s, slen_s, ext_t, cs_t, fld_a, andK_bb, orK_bb, Value.bool.injEq, List.map_cons, List.map_nil, true_implies, forall_const, ne_eq, Nat.zero_ne_one, List.append_toArray, List.cons_append, List.nil_append, List.getElem?_toArray, List.getElem?_cons_zero, List.getElem?_cons_succ, Nat.add_zero, Nat.zero_add, bldIns, bldIns1, Effect_sp' _ _ _ hI, May_sp' _ _ hI, Num_sp _ hI, awake_sp hI]
  have hq := rem_of k 19 (by omega) (by omega)
  revert hq
  generalize wrap64 ((k % 18446744073709551616).tmod 19) = q
  intro hq
  clear hI
  have w1 : wrap64 (-2147483648 - 1) = -2147483649 := w64 (by decide)
  have w2 : wrap64 (2147483647 + 1) = 2147483648 := w64 (by decide)
  have w3 : wrap64 (0 - 1) = -1 := w64 (by decide)
  have w4 : wrap64 (7 + 1) = 8 := w64 (by decide)
  have w5 : wrap64 (63 + 1) = 64 := w64 (by decide)
  have w6 : wrap64 (0 + 1) = 1 := w64 (by decide)
  have w7 : wrap64 (-1 - q) = -1 - q := w64 (by omega)
  simp only [w1, w2, w3, w4, w5, w6, w7, mayB, belowF, isB]
  clear w1 w2 w3 w4 w5 w6 w7
  (repeat' (first | intro _ | refine And.intro ?_ ?_)) <;> grind (splits := 40)
theorem bld17 (a0 a1 a2 a3 a4 a5 a6 a7 a8 a9 a10 a11 a12 a13 a14 a15 a16 : Int) : bldL (List.replicate 17 (.int .i64 0))
    [(0 * 1, 1), (1 * 1, 1), (2 * 1, 1), (3 * 1, 1), (4 * 1, 1), (5 * 1, 1), (6 * 1, 1), (7 * 1, 1), (8 * 1, 1), (9 * 1, 1), (10 * 1, 1), (11 * 1, 1), (12 * 1, 1), (13 * 1, 1), (14 * 1, 1), (15 * 1, 1), (16 * 1, 1)]
    ([a0, a1, a2, a3, a4, a5, a6, a7, a8, a9, a10, a11, a12, a13, a14, a15, a16].map fun x => .int .i64 x) = some ([a0, a1, a2, a3, a4, a5, a6, a7, a8, a9, a10, a11, a12, a13, a14, a15, a16].map fun x => .int .i64 x) := by kernel_rfl
theorem InsEffects_mc (k n : Int) (m : Mem) : MC Try.prog F_swagelaw2_InsEffects [.int .i64 k, .int .i64 n] (fun v _ => v = .bool true) m := by
  refine call_swagelaw2_InsEffects (by simp) fun hI => ?_
  simp only [S_swagelaw2_InsEffects, R_swagelaw2_InsEffects, hI, wpS, wpE, evL, evM, ev, upds_nil, upds_cons, updO_some, updO_none, Env.upd_eq, argEnv_0, argEnv_1, argEnv_2, argEnv_3, argEnv_4, argEnv_5, of_tmp, of_const, Option.bind_some, Option.map_some, Option.isSome_some, true_and, and_true, Option.some.injEq, exists_eq_left', exists_eq_left, reduceIte, Nat.reduceEqDiff, add_i64, sub_i64, mul_i64, eql_int, neq_int, lss_int, leq_int, gtr_int, geq_int, eqb_b, neb_b, eqn_some, eqn_none, nen_some, nen_none, not_b, neg_i64, cvt_i64, cvt_u64, cvt_u8, cvt_u32, cvt_i32, rem_g, quo_i64, add_u64, mul_u64, Int.reduceEq, pick_b, ld_p, ldn_p, fa_p, nck_p, len_s, slen_s, ext_t, cs_t, fld_a, andK_bb, orK_bb, Value.bool.injEq, List.map_cons, List.map_nil, true_implies, forall_const, ne_eq, Nat.zero_ne_one, List.append_toArray, List.cons_append, List.nil_append, List.getElem?_toArray, List.getElem?_cons_zero, List.getElem?_cons_succ, Nat.add_zero, Nat.zero_add, bldIns, bldIns1, Effect_sp' _ _ _ hI, May_sp' _ _ hI, Num_sp _ hI, awake_sp hI]
  refine ⟨fun h => by simp at h, fun _ => ⟨_, bld17 _ _ _ _ _ _ _ _ _ _ _ _ _ _ _ _ _, fun b m1 hb hm hJ => ⟨_, bld17 _ _ _ _ _ _ _ _ _ _ _ _ _ _ _ _ _, fun b' m2 hb' hm' hJ' _ => ?_⟩⟩⟩
  have hk := rem_of k 17 (by omega) (by omega)
  have hn := rem_of n 5 (by omega) (by omega)
  revert hk hn hm
  generalize wrap64 ((k % 18446744073709551616).tmod 17) = q
  generalize wrap64 ((n % 18446744073709551616).tmod 5) = r
  intro hm hk hn
  have hbb : b ≠ b' := fun h => by subst h; rw [hm, Mem.ins_same] at hb'; cases hb'
  have e1 : ∀ (i : Nat) (v : Value), m1.get ⟨b, i, none⟩ = some v → m2.get ⟨b, i, none⟩ = some v := fun i v h => by rw [hm', get_ne _ _ hbb]; exact h
  simp only [hJ', wpS, wpE, evL, evM, ev, upds_nil, upds_cons, updO_some, updO_none, Env.upd_eq, argEnv_0, argEnv_1, argEnv_2, argEnv_3, argEnv_4, argEnv_5, of_tmp, of_const, Option.bind_some, Option.map_some, Option.isSome_some, true_and, and_true, Option.some.injEq, exists_eq_left', exists_eq_left, reduceIte, Nat.reduceEqDiff, add_i64, sub_i64, mul_i64, eql_int, neq_int, lss_int, leq_int, gtr_int, geq_int, eqb_b, neb_b, eqn_some, eqn_none, nen_some, nen_none, not_b, neg_i64, cvt_i64, cvt_u64, cvt_u8, cvt_u32, cvt_i32, rem_g, quo_i64, add_u64, mul_u64, Int.reduceEq, pick_b, ld_p, ldn_p, fa_p, nck_p, len_s, slen_s, ext_t, cs_t, fld_a, andK_bb, orK_bb, Value.bool.injEq, List.map_cons, List.map_nil, true_implies, forall_const, ne_eq, Nat.zero_ne_one, List.append_toArray, List.cons_append, List.nil_append, List.getElem?_toArray, List.getElem?_cons_zero, List.getElem?_cons_succ, Nat.add_zero, Nat.zero_add, bldIns, bldIns1, Effect_sp' _ _ _ hJ', May_sp' _ _ hJ', Num_sp _ hJ', awake_sp hJ']
  have g1 : ∀ (i : Nat) (x : Int), [0, 0, 1, 2, 2, 2, 2, 2, 2, 2, 1, 1, 0, 1, r, 1, 1][i]? = some x → m2.get ⟨b, i, none⟩ = some (.int .i64 x) := fun i x h => e1 i _ (by rw [hm, get_same, List.getElem?_map]; simp only [h, Option.map_some])
  have g2 : ∀ (i : Nat) (x : Int), [1, 1, 0, 1, 1, 1, 1, 1, 1, 1, 2, 0, 0, 0, 1, 0, 0][i]? = some x → m2.get ⟨b', i, none⟩ = some (.int .i64 x) := fun i x h => by rw [hm', get_same, List.getElem?_map]; simp only [h, Option.map_some]
  have w1 : wrap64 (5 + r) = 5 + r := w64 (by omega)
  have w2 : wrap64 (-1 - r) = -1 - r := w64 (by omega)
  have w3 : wrap64 (17 + q) = 17 + q := w64 (by omega)
  obtain ⟨x, y, h1, h2, h3, h4⟩ : ∃ x y : Int, m2.get ⟨b, q.toNat, none⟩ = some (.int .i64 x) ∧ m2.get ⟨b', q.toNat, none⟩ = some (.int .i64 y) ∧ (effF ⟨q, 0⟩ r) = (x, y, 0) ∧ (effF ⟨q, 0⟩ (5 + r)).2.2 = 200 ∧ (effF ⟨q, 0⟩ (-1 - r)).2.2 = 200 ∧ (effF ⟨17 + q, 0⟩ r).2.2 = 200 := by
    have hM : mayB ⟨q, 0⟩ = true := by simp only [mayB, belowF, isB]; grind
    have hM' : mayB ⟨17 + q, 0⟩ = false := by simp only [mayB, belowF, isB]; grind
    have h5 : (effF ⟨q, 0⟩ (5 + r)).2.2 = 200 := by simp only [effF]; rw [if_pos (by omega)]
    have h6 : (effF ⟨q, 0⟩ (-1 - r)).2.2 = 200 := by simp only [effF]; rw [if_pos (by omega)]
    have h7 : (effF ⟨17 + q, 0⟩ r).2.2 = 200 := by simp only [effF]; rw [if_pos (Or.inl hM')]
    have h8 : effF ⟨q, 0⟩ r = if q = 0 ∨ q = 1 then (0, 1, 0) else if q = 2 ∨ q = 11 ∨ q = 13 ∨ q = 15 ∨ q = 16 then (1, 0, 0) else if q = 10 then (1, 2, 0) else if q = 12 then (0, 0, 0) else if q = 14 then (r, 1, 0) else (2, 1, 0) := by
      simp only [effF]; rw [if_neg (by simp [hM]; omega)]
    have hc : q = 0 ∨ q = 1 ∨ q = 2 ∨ q = 3 ∨ q = 4 ∨ q = 5 ∨ q = 6 ∨ q = 7 ∨ q = 8 ∨ q = 9 ∨ q = 10 ∨ q = 11 ∨ q = 12 ∨ q = 13 ∨ q = 14 ∨ q = 15 ∨ q = 16 := by omega
    refine ⟨_, _, g1 q.toNat ([0, 0, 1, 2, 2, 2, 2, 2, 2, 2, 1, 1, 0, 1, r, 1, 1].getD q.toNat 0) ?_, g2 q.toNat ([1, 1, 0, 1, 1, 1, 1, 1, 1, 1, 2, 0, 0, 0, 1, 0, 0].getD q.toNat 0) ?_, ?_, h5, h6, h7⟩
    · rcases hc with rfl | rfl | rfl | rfl | rfl | rfl | rfl | rfl | rfl | rfl | rfl | rfl | rfl | rfl | rfl | rfl | rfl <;> rfl
    · rcases hc with rfl | rfl | rfl | rfl | rfl | rfl | rfl | rfl | rfl | rfl | rfl | rfl | rfl | rfl | rfl | rfl | rfl <;> rfl
    · rw [h8]
      rcases hc with rfl | rfl | rfl | rfl | rfl | rfl | rfl | rfl | rfl | rfl | rfl | rfl | rfl | rfl | rfl | rfl | rfl <;> rfl
  have i1 : ∀ b, ixV 1 (.slice (some ⟨b, 0, none⟩) 17 17) (.int .i64 q) = some (.pointer (some ⟨b, q.toNat, none⟩)) := fun b => by rw [ix_at _ _ _ _ _ _ _ (by omega) (by omega)]; simp
  simp only [i1, h1, h2, h3, h4, w1, w2, w3, wpS, wpE, evL, evM, ev, upds_nil, upds_cons, updO_some, updO_none, Env.upd_eq, argEnv_0, argEnv_1, argEnv_2, argEnv_3, argEnv_4, argEnv_5, of_tmp, of_const, Option.bind_some, Option.map_some, Option.isSome_some, true_and, and_true, Option.some.injEq, exists_eq_left', exists_eq_left, reduceIte, Nat.reduceEqDiff, add_i64, sub_i64, mul_i64, eql_int, neq_int, lss_int, leq_int, gtr_int, geq_int, eqb_b, neb_b, eqn_some, eqn_none, nen_some, nen_none, not_b, neg_i64, cvt_i64, cvt_u64, cvt_u8, cvt_u32, cvt_i32, rem_g, quo_i64, add_u64, mul_u64, Int.reduceEq, pick_b, ld_p, ldn_p, fa_p, nck_p, len_s, slen_s, ext_t, cs_t, fld_a, andK_bb, orK_bb, Value.bool.injEq, List.map_cons, List.map_nil, true_implies, forall_const, ne_eq, Nat.zero_ne_one, List.append_toArray, List.cons_append, List.nil_append, List.getElem?_toArray, List.getElem?_cons_zero, List.getElem?_cons_succ, Nat.add_zero, Nat.zero_add]
  simp
end Go.Proofs.Ytmkdikbjolobdaa.Pf
