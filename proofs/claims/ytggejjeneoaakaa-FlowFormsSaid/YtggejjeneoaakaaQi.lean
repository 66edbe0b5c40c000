/- Lists held against each other, and written over. No condition. -/
import Derived.Test.YtggejjeneoaakaaQa
import Derived.Test.YtggejjeneoaakaaDq
namespace Go.Proofs.Ytggejjeneoaakaa.Pf
open Go Go.RowKit Go.Proofs Go.Proofs.Ytggejjeneoaakaa.Mw Go.Proofs.Ytggejjeneoaakaa.Sx
set_option linter.unusedVariables false
set_option linter.unusedSimpArgs false
set_option maxRecDepth 4000
theorem same_all {α : Type} {a b : List α} (hl : a.length = b.length) (h : ∀ j (h1 : j < a.length) (h2 : j < b.length), a[j] = b[j]) : a = b := List.ext_getElem hl h
theorem SameInts_pf (a b : List Int) (ha : a.length ≤ 4611686018427387904) : pf Try.prog F_swagelaw0_SameInts [slI a, slI b] = some (.bool (decide (a = b))) := by
  refine pf_of (v := .bool _) (pc_swagelaw0_SameInts (by simp) ?_) ((FrozL.nil.cons (Froz.slI _)).cons (Froz.slI _)) rfl rfl
  simp only [S_swagelaw0_SameInts, R_swagelaw0_SameInts, MU_swagelaw0_SameInts, SW, wpD, evDL, evDM, evD, bldLD, List.contains_cons, List.contains_nil, Nat.reduceBEq, beq_self_eq_true, Nat.reduceMul, Nat.reduceSub, wpSp, Option.bind_some, Option.some.injEq, exists_eq_left', exists_eq_left, reduceIte, if_false, if_true, Nat.reduceEqDiff, Nat.reduceAdd, Nat.reduceLeDiff, Int.reduceEq, Int.reduceLT, Int.reduceLE, Int.reduceToNat, decide_true, decide_false, DV.bool.injEq, DV.int.injEq, DV.mp.injEq, DV.msl.injEq, DV.tup.injEq, DV.agg.injEq, DV.fn.injEq, true_implies, forall_const, reduceCtorEq, implies_true, ne_eq, DMem.mt, decide_eq_true_eq, decide_eq_false_iff_not]
  refine ⟨fun hne => ?_, fun hle => ?_⟩
  · exact (decide_eq_false (by rintro rfl; exact hne rfl)).symm
  · have hlen : a.length = b.length := by omega
    refine ⟨fun k δ M => ∃ i, i ≤ a.length ∧ k = a.length - i ∧ M = DMem.mt ∧ δ 0 = slI a ∧ δ 1 = slI b ∧ δ 5 = .int .i64 i ∧ (∀ j (h1 : j < a.length) (h2 : j < b.length), j < i → a[j] = b[j]),
      a.length, ⟨0, Nat.zero_le _, rfl, rfl, rfl, rfl, rfl, fun j _ _ hj => absurd hj (by omega)⟩, ?_⟩
    rintro k δ M ⟨i, hi, rfl, rfl, h0, h1, h5, hj⟩
    simp only [S1_swagelaw0_SameInts, MU_swagelaw0_SameInts, h0, h1, h5, SW, wpD, evDL, evDM, evD, bldLD, List.contains_cons, List.contains_nil, Nat.reduceBEq, beq_self_eq_true, Nat.reduceMul, Nat.reduceSub, wpSp, Option.bind_some, Option.some.injEq, exists_eq_left', exists_eq_left, reduceIte, if_false, if_true, Nat.reduceEqDiff, Nat.reduceAdd, Nat.reduceLeDiff, Int.reduceEq, Int.reduceLT, Int.reduceLE, Int.reduceToNat, decide_true, decide_false, DV.bool.injEq, DV.int.injEq, DV.mp.injEq, DV.msl.injEq, DV.tup.injEq, DV.agg.injEq, DV.fn.injEq, true_implies, forall_const, reduceCtorEq, implies_true, ne_eq, DMem.mt, decide_eq_true_eq, decide_eq_false_iff_not]
    refine ⟨fun h => ?_, fun h => ?_⟩
    · have hlt : i < a.length := by omega
      have hlt' : i < b.length := by omega
      simp only [ix_slI hlt, ix_slI hlt', h0, h1, h5, w64s (show i < 4611686018427387905 by omega), SW, wpD, evDL, evDM, evD, bldLD, List.contains_cons, List.contains_nil, Nat.reduceBEq, beq_self_eq_true, Nat.reduceMul, Nat.reduceSub, wpSp, Option.bind_some, Option.some.injEq, exists_eq_left', exists_eq_left, reduceIte, if_false, if_true, Nat.reduceEqDiff, Nat.reduceAdd, Nat.reduceLeDiff, Int.reduceEq, Int.reduceLT, Int.reduceLE, Int.reduceToNat, decide_true, decide_false, DV.bool.injEq, DV.int.injEq, DV.mp.injEq, DV.msl.injEq, DV.tup.injEq, DV.agg.injEq, DV.fn.injEq, true_implies, forall_const, reduceCtorEq, implies_true, ne_eq, DMem.mt, decide_eq_true_eq, decide_eq_false_iff_not]
      refine ⟨fun hne => (decide_eq_false (by rintro rfl; exact hne rfl)).symm, fun he => ⟨a.length - (i + 1), DMem.mt, by omega, SubD.refl _, i + 1, by omega, rfl, rfl, rfl, fun j g1 g2 hji => ?_⟩⟩
      rcases Nat.lt_or_ge j i with h2 | h2
      · exact hj j g1 g2 h2
      · have : j = i := by omega
        subst this; exact Decidable.not_not.1 he
    · exact (decide_eq_true (same_all hlen fun j g1 g2 => hj j g1 g2 (by omega))).symm
theorem SameBools_pf (a b : List Bool) (ha : a.length ≤ 4611686018427387904) : pf Try.prog F_swagelaw0_SameBools [slB a, slB b] = some (.bool (decide (a = b))) := by
  refine pf_of (v := .bool _) (pc_swagelaw0_SameBools (by simp) ?_) ((FrozL.nil.cons (Froz.slB _)).cons (Froz.slB _)) rfl rfl
  simp only [S_swagelaw0_SameBools, R_swagelaw0_SameBools, MU_swagelaw0_SameBools, SW, wpD, evDL, evDM, evD, bldLD, List.contains_cons, List.contains_nil, Nat.reduceBEq, beq_self_eq_true, Nat.reduceMul, Nat.reduceSub, wpSp, Option.bind_some, Option.some.injEq, exists_eq_left', exists_eq_left, reduceIte, if_false, if_true, Nat.reduceEqDiff, Nat.reduceAdd, Nat.reduceLeDiff, Int.reduceEq, Int.reduceLT, Int.reduceLE, Int.reduceToNat, decide_true, decide_false, DV.bool.injEq, DV.int.injEq, DV.mp.injEq, DV.msl.injEq, DV.tup.injEq, DV.agg.injEq, DV.fn.injEq, true_implies, forall_const, reduceCtorEq, implies_true, ne_eq, DMem.mt, decide_eq_true_eq, decide_eq_false_iff_not]
  refine ⟨fun hne => ?_, fun hle => ?_⟩
  · exact (decide_eq_false (by rintro rfl; exact hne rfl)).symm
  · have hlen : a.length = b.length := by omega
    refine ⟨fun k δ M => ∃ i, i ≤ a.length ∧ k = a.length - i ∧ M = DMem.mt ∧ δ 0 = slB a ∧ δ 1 = slB b ∧ δ 5 = .int .i64 i ∧ (∀ j (h1 : j < a.length) (h2 : j < b.length), j < i → a[j] = b[j]),
      a.length, ⟨0, Nat.zero_le _, rfl, rfl, rfl, rfl, rfl, fun j _ _ hj => absurd hj (by omega)⟩, ?_⟩
    rintro k δ M ⟨i, hi, rfl, rfl, h0, h1, h5, hj⟩
    simp only [S1_swagelaw0_SameBools, MU_swagelaw0_SameBools, h0, h1, h5, SW, wpD, evDL, evDM, evD, bldLD, List.contains_cons, List.contains_nil, Nat.reduceBEq, beq_self_eq_true, Nat.reduceMul, Nat.reduceSub, wpSp, Option.bind_some, Option.some.injEq, exists_eq_left', exists_eq_left, reduceIte, if_false, if_true, Nat.reduceEqDiff, Nat.reduceAdd, Nat.reduceLeDiff, Int.reduceEq, Int.reduceLT, Int.reduceLE, Int.reduceToNat, decide_true, decide_false, DV.bool.injEq, DV.int.injEq, DV.mp.injEq, DV.msl.injEq, DV.tup.injEq, DV.agg.injEq, DV.fn.injEq, true_implies, forall_const, reduceCtorEq, implies_true, ne_eq, DMem.mt, decide_eq_true_eq, decide_eq_false_iff_not]
    refine ⟨fun h => ?_, fun h => ?_⟩
    · have hlt : i < a.length := by omega
      have hlt' : i < b.length := by omega
      simp only [ix_slB hlt, ix_slB hlt', h0, h1, h5, w64s (show i < 4611686018427387905 by omega), SW, wpD, evDL, evDM, evD, bldLD, List.contains_cons, List.contains_nil, Nat.reduceBEq, beq_self_eq_true, Nat.reduceMul, Nat.reduceSub, wpSp, Option.bind_some, Option.some.injEq, exists_eq_left', exists_eq_left, reduceIte, if_false, if_true, Nat.reduceEqDiff, Nat.reduceAdd, Nat.reduceLeDiff, Int.reduceEq, Int.reduceLT, Int.reduceLE, Int.reduceToNat, decide_true, decide_false, DV.bool.injEq, DV.int.injEq, DV.mp.injEq, DV.msl.injEq, DV.tup.injEq, DV.agg.injEq, DV.fn.injEq, true_implies, forall_const, reduceCtorEq, implies_true, ne_eq, DMem.mt, decide_eq_true_eq, decide_eq_false_iff_not]
      refine ⟨fun hne => (decide_eq_false (by rintro rfl; simp at hne)).symm, fun he => ⟨a.length - (i + 1), DMem.mt, by omega, SubD.refl _, i + 1, by omega, rfl, rfl, rfl, fun j g1 g2 hji => ?_⟩⟩
      rcases Nat.lt_or_ge j i with h2 | h2
      · exact hj j g1 g2 h2
      · have : j = i := by omega
        subst this; simpa using he
    · exact (decide_eq_true (same_all hlen fun j g1 g2 => hj j g1 g2 (by omega))).symm
theorem eqs2 (ne : Bool) (k k' : IntKind) (a b c d : Int) : eqsD ne 2 (.agg [.int k a, .int k' b]) (.agg [.int k c, .int k' d]) = some (.bool (if ne then !((a == c) && ((b == d) && true)) else ((a == c) && ((b == d) && true)))) := by
  simp [eqsD, lift2, DV.v1, DV.v0, eqsV, eqRows, ofV]
  rfl
theorem SameInss_pf (a b : List Ins) (ha : a.length ≤ 4611686018427387904) : pf Try.prog F_swagelaw0_SameInss [slD Ins.c a, slD Ins.c b] = some (.bool (decide (a = b))) := by
  refine pf_of (v := .bool _) (pc_swagelaw0_SameInss (by simp) ?_) ((FrozL.nil.cons (Froz.slD Ins.froz _)).cons (Froz.slD Ins.froz _)) rfl rfl
  simp only [S_swagelaw0_SameInss, R_swagelaw0_SameInss, MU_swagelaw0_SameInss, SW, wpD, evDL, evDM, evD, bldLD, List.contains_cons, List.contains_nil, Nat.reduceBEq, beq_self_eq_true, Nat.reduceMul, Nat.reduceSub, wpSp, Option.bind_some, Option.some.injEq, exists_eq_left', exists_eq_left, reduceIte, if_false, if_true, Nat.reduceEqDiff, Nat.reduceAdd, Nat.reduceLeDiff, Int.reduceEq, Int.reduceLT, Int.reduceLE, Int.reduceToNat, decide_true, decide_false, DV.bool.injEq, DV.int.injEq, DV.mp.injEq, DV.msl.injEq, DV.tup.injEq, DV.agg.injEq, DV.fn.injEq, true_implies, forall_const, reduceCtorEq, implies_true, ne_eq, DMem.mt, decide_eq_true_eq, decide_eq_false_iff_not]
  refine ⟨fun hne => ?_, fun hle => ?_⟩
  · exact (decide_eq_false (by rintro rfl; exact hne rfl)).symm
  · have hlen : a.length = b.length := by omega
    refine ⟨fun k δ M => ∃ i, i ≤ a.length ∧ k = a.length - i ∧ M = DMem.mt ∧ δ 0 = slD Ins.c a ∧ δ 1 = slD Ins.c b ∧ δ 5 = .int .i64 i ∧ (∀ j (h1 : j < a.length) (h2 : j < b.length), j < i → a[j] = b[j]),
      a.length, ⟨0, Nat.zero_le _, rfl, rfl, rfl, rfl, rfl, fun j _ _ hj => absurd hj (by omega)⟩, ?_⟩
    rintro k δ M ⟨i, hi, rfl, rfl, h0, h1, h5, hj⟩
    simp only [S1_swagelaw0_SameInss, MU_swagelaw0_SameInss, h0, h1, h5, SW, wpD, evDL, evDM, evD, bldLD, List.contains_cons, List.contains_nil, Nat.reduceBEq, beq_self_eq_true, Nat.reduceMul, Nat.reduceSub, wpSp, Option.bind_some, Option.some.injEq, exists_eq_left', exists_eq_left, reduceIte, if_false, if_true, Nat.reduceEqDiff, Nat.reduceAdd, Nat.reduceLeDiff, Int.reduceEq, Int.reduceLT, Int.reduceLE, Int.reduceToNat, decide_true, decide_false, DV.bool.injEq, DV.int.injEq, DV.mp.injEq, DV.msl.injEq, DV.tup.injEq, DV.agg.injEq, DV.fn.injEq, true_implies, forall_const, reduceCtorEq, implies_true, ne_eq, DMem.mt, decide_eq_true_eq, decide_eq_false_iff_not]
    refine ⟨fun h => ?_, fun h => ?_⟩
    · have hlt : i < a.length := by omega
      have hlt' : i < b.length := by omega
      simp only [ix_slD Ins.len hlt, ix_slD Ins.len hlt', h0, h1, h5, w64s (show i < 4611686018427387905 by omega), SW, wpD, evDL, evDM, evD, bldLD, List.contains_cons, List.contains_nil, Nat.reduceBEq, beq_self_eq_true, Nat.reduceMul, Nat.reduceSub, wpSp, Option.bind_some, Option.some.injEq, exists_eq_left', exists_eq_left, reduceIte, if_false, if_true, Nat.reduceEqDiff, Nat.reduceAdd, Nat.reduceLeDiff, Int.reduceEq, Int.reduceLT, Int.reduceLE, Int.reduceToNat, decide_true, decide_false, DV.bool.injEq, DV.int.injEq, DV.mp.injEq, DV.msl.injEq, DV.tup.injEq, DV.agg.injEq, DV.fn.injEq, true_implies, forall_const, reduceCtorEq, implies_true, ne_eq, DMem.mt, decide_eq_true_eq, decide_eq_false_iff_not]
      simp only [eqs2, h0, h1, h5, w64s (show i < 4611686018427387905 by omega), SW, wpD, evDL, evDM, evD, bldLD, List.contains_cons, List.contains_nil, Nat.reduceBEq, beq_self_eq_true, Nat.reduceMul, Nat.reduceSub, wpSp, Option.bind_some, Option.some.injEq, exists_eq_left', exists_eq_left, reduceIte, if_false, if_true, Nat.reduceEqDiff, Nat.reduceAdd, Nat.reduceLeDiff, Int.reduceEq, Int.reduceLT, Int.reduceLE, Int.reduceToNat, decide_true, decide_false, DV.bool.injEq, DV.int.injEq, DV.mp.injEq, DV.msl.injEq, DV.tup.injEq, DV.agg.injEq, DV.fn.injEq, true_implies, forall_const, reduceCtorEq, implies_true, ne_eq, DMem.mt]
      refine ⟨fun hne => (decide_eq_false (by rintro rfl; simp at hne)).symm, fun he => ⟨a.length - (i + 1), DMem.mt, by omega, SubD.refl _, i + 1, by omega, rfl, rfl, rfl, fun j g1 g2 hji => ?_⟩⟩
      rcases Nat.lt_or_ge j i with h2 | h2
      · exact hj j g1 g2 h2
      · have : j = i := by omega
        subst this
        simp only [Bool.not_eq_eq_eq_not, Bool.not_false, Bool.and_eq_true, beq_iff_eq] at he
        cases hx : a[j]; cases hy : b[j]
        simp only [hx, hy] at he
        simp [he]
    · exact (decide_eq_true (same_all hlen fun j g1 g2 => hj j g1 g2 (by omega))).symm
theorem SpoilInts_pc {M : DMem} {p n N : Nat} {ty : TypeId} {l rest : List Int} (hM : M p = some ⟨ty, N, l.map (.int .i64) ++ rest.map (.int .i64)⟩) (hn : l.length = n) (hN : n ≤ N) (hs : n ≤ 4611686018427387904) {c : Nat} {R : DV → DMem → Prop}
    (hR : ∀ M' d, (∀ x, x ≠ p → M' x = M x) → (∃ l2 : List Int, l2.length = n ∧ M' p = some ⟨ty, N, l2.map (.int .i64) ++ rest.map (.int .i64)⟩) → R d M') : PC Try.prog F_swagelaw0_SpoilInts [.msl p 0 n c] R M := by
  refine pc_swagelaw0_SpoilInts (by simp) ?_
  simp only [S_swagelaw0_SpoilInts, R_swagelaw0_SpoilInts, MU_swagelaw0_SpoilInts, SW, wpD, evDL, evDM, evD, bldLD, List.contains_cons, List.contains_nil, Nat.reduceBEq, beq_self_eq_true, Nat.reduceMul, Nat.reduceSub, wpSp, Option.bind_some, Option.some.injEq, exists_eq_left', exists_eq_left, reduceIte, if_false, if_true, Nat.reduceEqDiff, Nat.reduceAdd, Nat.reduceLeDiff, Int.reduceEq, Int.reduceLT, Int.reduceLE, Int.reduceToNat, decide_true, decide_false, DV.bool.injEq, DV.int.injEq, DV.mp.injEq, DV.msl.injEq, DV.tup.injEq, DV.agg.injEq, DV.fn.injEq, true_implies, forall_const, reduceCtorEq, implies_true, ne_eq, DMem.mt, decide_eq_true_eq, decide_eq_false_iff_not]
  refine ⟨fun k δ M' => ∃ i, i ≤ n ∧ k = n - i ∧ (∀ x, x ≠ p → M' x = M x) ∧ (∃ l2 : List Int, l2.length = n ∧ M' p = some ⟨ty, N, l2.map (.int .i64) ++ rest.map (.int .i64)⟩) ∧ δ 0 = .msl p 0 n c ∧ δ 2 = .int .i64 i,
    n, ⟨0, Nat.zero_le _, rfl, fun _ _ => rfl, ⟨l, hn, hM⟩, rfl, rfl⟩, ?_⟩
  rintro k δ M' ⟨i, hi, rfl, hk, ⟨l2, hl2, hp⟩, h0, h2⟩
  simp only [S1_swagelaw0_SpoilInts, MU_swagelaw0_SpoilInts, h0, h2, SW, wpD, evDL, evDM, evD, bldLD, List.contains_cons, List.contains_nil, Nat.reduceBEq, beq_self_eq_true, Nat.reduceMul, Nat.reduceSub, wpSp, Option.bind_some, Option.some.injEq, exists_eq_left', exists_eq_left, reduceIte, if_false, if_true, Nat.reduceEqDiff, Nat.reduceAdd, Nat.reduceLeDiff, Int.reduceEq, Int.reduceLT, Int.reduceLE, Int.reduceToNat, decide_true, decide_false, DV.bool.injEq, DV.int.injEq, DV.mp.injEq, DV.msl.injEq, DV.tup.injEq, DV.agg.injEq, DV.fn.injEq, true_implies, forall_const, reduceCtorEq, implies_true, ne_eq, DMem.mt, decide_eq_true_eq, decide_eq_false_iff_not]
  refine ⟨fun h => ?_, fun h => ?_⟩
  · have hlt : i < n := by omega
    have hp' : M' p = some ⟨ty, N, (l2 ++ rest).map (.int .i64)⟩ := by rw [hp, List.map_append]
    have hil : i < (l2 ++ rest).length := by simp; omega
    simp only [ixM hlt, hp', get_map (.int .i64) (l2 ++ rest) hil, h0, h2, w64s (show i < 4611686018427387905 by omega), SW, wpD, evDL, evDM, evD, bldLD, List.contains_cons, List.contains_nil, Nat.reduceBEq, beq_self_eq_true, Nat.reduceMul, Nat.reduceSub, wpSp, Option.bind_some, Option.some.injEq, exists_eq_left', exists_eq_left, reduceIte, if_false, if_true, Nat.reduceEqDiff, Nat.reduceAdd, Nat.reduceLeDiff, Int.reduceEq, Int.reduceLT, Int.reduceLE, Int.reduceToNat, decide_true, decide_false, DV.bool.injEq, DV.int.injEq, DV.mp.injEq, DV.msl.injEq, DV.tup.injEq, DV.agg.injEq, DV.fn.injEq, true_implies, forall_const, reduceCtorEq, implies_true, ne_eq, DMem.mt]
    refine stD hp' rfl rfl (by rw [List.length_map]; omega) (by omega) rfl fun M2 hM2 => ?_
    rw [splD_set (.int .i64) (l2 ++ rest) hil] at hM2
    try simp only [h0, h2, w64s (show i < 4611686018427387905 by omega), SW, wpD, evDL, evDM, evD, bldLD, List.contains_cons, List.contains_nil, Nat.reduceBEq, beq_self_eq_true, Nat.reduceMul, Nat.reduceSub, wpSp, Option.bind_some, Option.some.injEq, exists_eq_left', exists_eq_left, reduceIte, if_false, if_true, Nat.reduceEqDiff, Nat.reduceAdd, Nat.reduceLeDiff, Int.reduceEq, Int.reduceLT, Int.reduceLE, Int.reduceToNat, decide_true, decide_false, DV.bool.injEq, DV.int.injEq, DV.mp.injEq, DV.msl.injEq, DV.tup.injEq, DV.agg.injEq, DV.fn.injEq, true_implies, forall_const, reduceCtorEq, implies_true, ne_eq, DMem.mt]
    refine ⟨n - (i + 1), M2, by omega, SubD.refl _, i + 1, by omega, rfl, fun x hx => by rw [hM2, DMem.ins_ne _ _ hx]; exact hk x hx, ⟨l2.set i (wr64 (-9 - (l2 ++ rest)[i])), by simp [hl2], ?_⟩, rfl⟩
    rw [hM2, DMem.ins_same, ← List.map_append, List.set_append_left _ _ (by omega)]
  · exact hR _ _ hk ⟨l2, hl2, hp⟩
theorem SpoilInts_zsl {M : DMem} {R : DV → DMem → Prop} (hR : ∀ d, R d M) : PC Try.prog F_swagelaw0_SpoilInts [.zsl] R M := by
  refine pc_swagelaw0_SpoilInts (by simp) ?_
  simp only [S_swagelaw0_SpoilInts, R_swagelaw0_SpoilInts, MU_swagelaw0_SpoilInts, SW, wpD, evDL, evDM, evD, bldLD, List.contains_cons, List.contains_nil, Nat.reduceBEq, beq_self_eq_true, Nat.reduceMul, Nat.reduceSub, wpSp, Option.bind_some, Option.some.injEq, exists_eq_left', exists_eq_left, reduceIte, if_false, if_true, Nat.reduceEqDiff, Nat.reduceAdd, Nat.reduceLeDiff, Int.reduceEq, Int.reduceLT, Int.reduceLE, Int.reduceToNat, decide_true, decide_false, DV.bool.injEq, DV.int.injEq, DV.mp.injEq, DV.msl.injEq, DV.tup.injEq, DV.agg.injEq, DV.fn.injEq, true_implies, forall_const, reduceCtorEq, implies_true, ne_eq, DMem.mt, decide_eq_true_eq, decide_eq_false_iff_not]
  refine ⟨fun k δ M' => M' = M ∧ δ 0 = .zsl ∧ δ 2 = .int .i64 0, 0, ⟨rfl, rfl, rfl⟩, ?_⟩
  rintro k δ M' ⟨rfl, h0, h2⟩
  simp only [S1_swagelaw0_SpoilInts, MU_swagelaw0_SpoilInts, h0, h2, SW, wpD, evDL, evDM, evD, bldLD, List.contains_cons, List.contains_nil, Nat.reduceBEq, beq_self_eq_true, Nat.reduceMul, Nat.reduceSub, wpSp, Option.bind_some, Option.some.injEq, exists_eq_left', exists_eq_left, reduceIte, if_false, if_true, Nat.reduceEqDiff, Nat.reduceAdd, Nat.reduceLeDiff, Int.reduceEq, Int.reduceLT, Int.reduceLE, Int.reduceToNat, decide_true, decide_false, DV.bool.injEq, DV.int.injEq, DV.mp.injEq, DV.msl.injEq, DV.tup.injEq, DV.agg.injEq, DV.fn.injEq, true_implies, forall_const, reduceCtorEq, implies_true, ne_eq, DMem.mt, decide_eq_true_eq, decide_eq_false_iff_not]
  exact hR _
theorem CopyInss_pc {M : DMem} {l : List Ins} (hl : l.length * 16 ≤ 140737488351232) {R : DV → DMem → Prop} (hR : ∀ d M', OwnD M' 2 d l.length (l.flatMap Ins.c) → GrewD M M' .zsl d → R d M') : PC Try.prog F_swagelaw0_CopyInss [slD Ins.c l] R M := by
  refine pc_swagelaw0_CopyInss (by simp) ?_
  simp only [S_swagelaw0_CopyInss, R_swagelaw0_CopyInss, MU_swagelaw0_CopyInss, SW, wpD, evDL, evDM, evD, bldLD, List.contains_cons, List.contains_nil, Nat.reduceBEq, beq_self_eq_true, Nat.reduceMul, Nat.reduceSub, wpSp, Option.bind_some, Option.some.injEq, exists_eq_left', exists_eq_left, reduceIte, if_false, if_true, Nat.reduceEqDiff, Nat.reduceAdd, Nat.reduceLeDiff, Int.reduceEq, Int.reduceLT, Int.reduceLE, Int.reduceToNat, decide_true, decide_false, DV.bool.injEq, DV.int.injEq, DV.mp.injEq, DV.msl.injEq, DV.tup.injEq, DV.agg.injEq, DV.fn.injEq, true_implies, forall_const, reduceCtorEq, implies_true, ne_eq, DMem.mt]
  refine app_isl (OwnD.zsl M 2) (by decide) (flat_len Ins.len l) (plain_flat (fun x => rfl) l) (by omega) (by omega) fun d' M' ho hg => ?_
  try simp only [SW, wpD, evDL, evDM, evD, bldLD, List.contains_cons, List.contains_nil, Nat.reduceBEq, beq_self_eq_true, Nat.reduceMul, Nat.reduceSub, wpSp, Option.bind_some, Option.some.injEq, exists_eq_left', exists_eq_left, reduceIte, if_false, if_true, Nat.reduceEqDiff, Nat.reduceAdd, Nat.reduceLeDiff, Int.reduceEq, Int.reduceLT, Int.reduceLE, Int.reduceToNat, decide_true, decide_false, DV.bool.injEq, DV.int.injEq, DV.mp.injEq, DV.msl.injEq, DV.tup.injEq, DV.agg.injEq, DV.fn.injEq, true_implies, forall_const, reduceCtorEq, implies_true, ne_eq, DMem.mt]
  exact hR _ _ (by simpa using ho) hg
abbrev mark2 : List Ins := [⟨0, 77777⟩, ⟨0, 77777⟩]
/-- Lent: with marked room behind. -/
def Lent (M : DMem) (d : DV) (l : List Ins) : Prop := ∃ b c ty, d = .msl b 0 l.length c ∧ M b = some ⟨ty, c * 2, (l ++ mark2).flatMap Ins.c⟩ ∧ l.length + 2 ≤ c
theorem LendInss_pc {M : DMem} {l : List Ins} (hl : l.length * 16 ≤ 140737488351232) {R : DV → DMem → Prop} (hR : ∀ d M', Lent M' d l → SubD M M' → R d M') : PC Try.prog F_swagelaw0_LendInss [slD Ins.c l] R M := by
  refine pc_swagelaw0_LendInss (by simp) ?_
  simp only [S_swagelaw0_LendInss, R_swagelaw0_LendInss, MU_swagelaw0_LendInss, SW, wpD, evDL, evDM, evD, bldLD, List.contains_cons, List.contains_nil, Nat.reduceBEq, beq_self_eq_true, Nat.reduceMul, Nat.reduceSub, wpSp, Option.bind_some, Option.some.injEq, exists_eq_left', exists_eq_left, reduceIte, if_false, if_true, Nat.reduceEqDiff, Nat.reduceAdd, Nat.reduceLeDiff, Int.reduceEq, Int.reduceLT, Int.reduceLE, Int.reduceToNat, decide_true, decide_false, DV.bool.injEq, DV.int.injEq, DV.mp.injEq, DV.msl.injEq, DV.tup.injEq, DV.agg.injEq, DV.fn.injEq, true_implies, forall_const, reduceCtorEq, implies_true, ne_eq, DMem.mt]
  refine CopyInss_pc hl fun d M1 ho hg => ?_
  simp only [S1_swagelaw0_LendInss, MU_swagelaw0_LendInss, SW, wpD, evDL, evDM, evD, bldLD, List.contains_cons, List.contains_nil, Nat.reduceBEq, beq_self_eq_true, Nat.reduceMul, Nat.reduceSub, wpSp, Option.bind_some, Option.some.injEq, exists_eq_left', exists_eq_left, reduceIte, if_false, if_true, Nat.reduceEqDiff, Nat.reduceAdd, Nat.reduceLeDiff, Int.reduceEq, Int.reduceLT, Int.reduceLE, Int.reduceToNat, decide_true, decide_false, DV.bool.injEq, DV.int.injEq, DV.mp.injEq, DV.msl.injEq, DV.tup.injEq, DV.agg.injEq, DV.fn.injEq, true_implies, forall_const, reduceCtorEq, implies_true, ne_eq, DMem.mt]
  refine app_isl (k := 2) ho (by decide) rfl rfl (by omega) (by omega) fun d' M2 ho2 hg2 => ?_
  obtain ⟨b, c, ty, rfl, hb, hM, hc⟩ := ho2.at (by omega)
  obtain ⟨hs, hn⟩ := hg2.sub (hg.sub (SubD.refl M) (fun p hp => by cases hp)).1 (hg.sub (SubD.refl M) (fun p hp => by cases hp)).2
  simp only [slcM_hi (show l.length ≤ c by omega) hc, show ¬ c = 0 by omega, SW, wpD, evDL, evDM, evD, bldLD, List.contains_cons, List.contains_nil, Nat.reduceBEq, beq_self_eq_true, Nat.reduceMul, Nat.reduceSub, wpSp, Option.bind_some, Option.some.injEq, exists_eq_left', exists_eq_left, reduceIte, if_false, if_true, Nat.reduceEqDiff, Nat.reduceAdd, Nat.reduceLeDiff, Int.reduceEq, Int.reduceLT, Int.reduceLE, Int.reduceToNat, decide_true, decide_false, DV.bool.injEq, DV.int.injEq, DV.mp.injEq, DV.msl.injEq, DV.tup.injEq, DV.agg.injEq, DV.fn.injEq, true_implies, forall_const, reduceCtorEq, implies_true, ne_eq, DMem.mt]
  exact hR _ _ ⟨b, c, ty, rfl, by rw [hM, List.flatMap_append]; rfl, hc⟩ hs
end Go.Proofs.Ytggejjeneoaakaa.Pf
