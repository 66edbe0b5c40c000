/- Ld Le: joined texts of this claim. No condition. -/
import Derived.Test.YtpehdlobicocpaaDoorLwjd
import Derived.Test.YtpehdlobicocpaaDoorLwji
import Derived.Test.YtpehdlobicocpaaDoorLwje
/- What the laws compare with. No condition. -/
namespace Go.Proofs.YtpehdlobicocpaaDoor.Pf
open Go Go.RowKit Go.Proofs Go.Proofs.YtpehdlobicocpaaDoor.Mw Go.Proofs.YtpehdlobicocpaaDoor.Sx
set_option linter.unusedVariables false
set_option linter.unusedSimpArgs false
set_option maxRecDepth 4000
theorem same_all {α : Type} {a b : List α} (hl : a.length = b.length) (h : ∀ j (h1 : j < a.length) (h2 : j < b.length), a[j] = b[j]) : a = b := List.ext_getElem hl h
theorem eqs2 (ne : Bool) (k k' : IntKind) (a b c d : Int) : eqsD ne 2 (.agg [.int k a, .int k' b]) (.agg [.int k c, .int k' d]) = some (.bool (if ne then !((a == c) && ((b == d) && true)) else ((a == c) && ((b == d) && true)))) := by
  simp [eqsD, lift2, DV.v1, DV.v0, eqsV, eqRows, ofV]
  rfl
theorem SameInts_pf (a b : List Int) (ha : a.length ≤ 4611686018427387904) : pf Tryd.prog F_swagelaw0_SameInts [slI a, slI b] = some (.bool (decide (a = b))) := by
  refine pf_of (v := .bool _) (pc_swagelaw0_SameInts (by simp) ?_) ((FrozL.nil.cons (Froz.slI _)).cons (Froz.slI _)) rfl rfl
  simp only [S_swagelaw0_SameInts, R_swagelaw0_SameInts, MU_swagelaw0_SameInts, SW, wpD, evDL, evDM, evD, bldLD, List.contains_cons, List.contains_nil, Nat.reduceBEq, beq_self_eq_true, Nat.reduceMul, Nat.reduceSub, wpSp, Option.bind_some, Option.some.injEq, exists_eq_left', exists_eq_left, reduceIte, if_false, if_true, Nat.reduceEqDiff, Nat.reduceAdd, Nat.reduceLeDiff, Int.reduceEq, Int.reduceLT, Int.reduceLE, Int.reduceToNat, decide_true, decide_false, DV.bool.injEq, DV.int.injEq, DV.mp.injEq, DV.msl.injEq, DV.tup.injEq, DV.agg.injEq, DV.fn.injEq, true_implies, forall_const, reduceCtorEq, implies_true, ne_eq, DMem.mt, decide_eq_true_eq, decide_eq_false_iff_not]
  refine ⟨fun hne => ?_, fun hle => ?_⟩
  · exact (decide_eq_false (by rintro rfl; exact hne rfl)).symm
  · have hlen : a.length = b.length := by omega
    refine ⟨fun k δ M => ∃ i, i ≤ a.length ∧ k = a.length - i ∧ M = DMem.mt ∧ δ 0 = slI a ∧ δ 1 = slI b ∧ δ 5 = .int .i64 i ∧ (∀ j (h1 : j < a.length) (h2 : j < b.length), j < i → a[j] = b[j]),
      a.length, ⟨0, Nat.zero_le _, rfl, rfl, rfl, rfl, rfl, fun j _ _ hj => absurd hj (by omega)⟩, ?_⟩
    rintro k δ M ⟨i, hi, rfl, rfl, h0, h1, h5, hj⟩
    simp only [S1_swagelaw0_SameInts, MU_swagelaw0_SameInts, h0, h1, h5, SW, wpD, evDL, evDM, evD, bldLD, List.contains_cons, List.contains_nil, Nat.reduceBEq, beq_self_eq_true, Nat.reduceMul, Nat.reduceSub, wpSp, Option.bind_some, Option.some.injEq, exists_eq_left', exists_eq_left, reduceIte, if_false, if_true, Nat.reduceEqDiff, Nat.reduceAdd, Nat.reduceLeDiff, Int.reduceEq, Int.reduceLT, Int.reduceLE, Int.reduceToNat, decide_true, decide_false, DV.bool.injEq, DV.int.injEq, DV.mp.injEq, DV.msl.injEq, DV.tup.injEq, DV.agg.injEq, DV.fn.injEq, true_implies, forall_const, reduceCtorEq, implies_true, ne_eq, DMem.mt, decide_eq_true_eq, decide_eq_false_iff_not]
    refine ⟨fun h => ?_, fun h => ?_⟩
    · have hlt : i < a.length := by omega
      have hlt' : i < b.length := by omega
      simp only [ix_slI hlt, ix_slI hlt', h0, h1, h5, w64s (show i < 4611686018427387905 by omega), SW, wpD, evDL, evDM, evD, bldLD, List.contains_cons, List.contains_nil, Nat.reduceBEq, beq_self_eq_true, Nat.reduceMul, Nat.reduceSub, wpSp, Option.bind_some, Option.some.injEq, exists_eq_left', exists_eq_left, reduceIte, if_false, if_true, Nat.reduceEqDiff, Nat.reduceAdd, Nat.reduceLeDiff, Int.reduceEq, Int.reduceLT, Int.reduceLE, Int.reduceToNat, decide_true, decide_false, DV.bool.injEq, DV.int.injEq, DV.mp.injEq, DV.msl.injEq, DV.tup.injEq, DV.agg.injEq, DV.fn.injEq, true_implies, forall_const, reduceCtorEq, implies_true, ne_eq, DMem.mt, decide_eq_true_eq, decide_eq_false_iff_not]
      refine ⟨fun hne => (decide_eq_false (by rintro rfl; exact hne rfl)).symm, fun he => ⟨a.length - (i + 1), DMem.mt, by omega, SubD.refl _, i + 1, by omega, rfl, rfl, rfl, fun j g1 g2 hji => ?_⟩⟩
      rcases Nat.lt_or_ge j i with h2 | h2
      · exact hj j g1 g2 h2
      · have : j = i := by omega
        subst this; exact Decidable.not_not.1 he
    · exact (decide_eq_true (same_all hlen fun j g1 g2 => hj j g1 g2 (by omega))).symm
theorem SameBools_pf (a b : List Bool) (ha : a.length ≤ 4611686018427387904) : pf Tryd.prog F_swagelaw0_SameBools [slB a, slB b] = some (.bool (decide (a = b))) := by
  refine pf_of (v := .bool _) (pc_swagelaw0_SameBools (by simp) ?_) ((FrozL.nil.cons (Froz.slB _)).cons (Froz.slB _)) rfl rfl
  simp only [S_swagelaw0_SameBools, R_swagelaw0_SameBools, MU_swagelaw0_SameBools, SW, wpD, evDL, evDM, evD, bldLD, List.contains_cons, List.contains_nil, Nat.reduceBEq, beq_self_eq_true, Nat.reduceMul, Nat.reduceSub, wpSp, Option.bind_some, Option.some.injEq, exists_eq_left', exists_eq_left, reduceIte, if_false, if_true, Nat.reduceEqDiff, Nat.reduceAdd, Nat.reduceLeDiff, Int.reduceEq, Int.reduceLT, Int.reduceLE, Int.reduceToNat, decide_true, decide_false, DV.bool.injEq, DV.int.injEq, DV.mp.injEq, DV.msl.injEq, DV.tup.injEq, DV.agg.injEq, DV.fn.injEq, true_implies, forall_const, reduceCtorEq, implies_true, ne_eq, DMem.mt, decide_eq_true_eq, decide_eq_false_iff_not]
  refine ⟨fun hne => ?_, fun hle => ?_⟩
  · exact (decide_eq_false (by rintro rfl; exact hne rfl)).symm
  · have hlen : a.length = b.length := by omega
    refine ⟨fun k δ M => ∃ i, i ≤ a.length ∧ k = a.length - i ∧ M = DMem.mt ∧ δ 0 = slB a ∧ δ 1 = slB b ∧ δ 5 = .int .i64 i ∧ (∀ j (h1 : j < a.length) (h2 : j < b.length), j < i → a[j] = b[j]),
      a.length, ⟨0, Nat.zero_le _, rfl, rfl, rfl, rfl, rfl, fun j _ _ hj => absurd hj (by omega)⟩, ?_⟩
    rintro k δ M ⟨i, hi, rfl, rfl, h0, h1, h5, hj⟩
    simp only [S1_swagelaw0_SameBools, MU_swagelaw0_SameBools, h0, h1, h5, SW, wpD, evDL, evDM, evD, bldLD, List.contains_cons, List.contains_nil, Nat.reduceBEq, beq_self_eq_true, Nat.reduceMul, Nat.reduceSub, wpSp, Option.bind_some, Option.some.injEq, exists_eq_left', exists_eq_left, reduceIte, if_false, if_true, Nat.reduceEqDiff, Nat.reduceAdd, Nat.reduceLeDiff, Int.reduceEq, Int.reduceLT, Int.reduceLE, Int.reduceToNat, decide_true, decide_false, DV.bool.injEq, DV.int.injEq, DV.mp.injEq, DV.msl.injEq, DV.tup.injEq, DV.agg.injEq, DV.fn.injEq, true_implies, forall_const, reduceCtorEq, implies_true, ne_eq, DMem.mt, decide_eq_true_eq, decide_eq_false_iff_not]
    refine ⟨fun h => ?_, fun h => ?_⟩
    · have hlt : i < a.length := by omega
      have hlt' : i < b.length := by omega
      simp only [ix_slB hlt, ix_slB hlt', h0, h1, h5, w64s (show i < 4611686018427387905 by omega), SW, wpD, evDL, evDM, evD, bldLD, List.contains_cons, List.contains_nil, Nat.reduceBEq, beq_self_eq_true, Nat.reduceMul, Nat.reduceSub, wpSp, Option.bind_some, Option.some.injEq, exists_eq_left', exists_eq_left, reduceIte, if_false, if_true, Nat.reduceEqDiff, Nat.reduceAdd, Nat.reduceLeDiff, Int.reduceEq, Int.reduceLT, Int.reduceLE, Int.reduceToNat, decide_true, decide_false, DV.bool.injEq, DV.int.injEq, DV.mp.injEq, DV.msl.injEq, DV.tup.injEq, DV.agg.injEq, DV.fn.injEq, true_implies, forall_const, reduceCtorEq, implies_true, ne_eq, DMem.mt, decide_eq_true_eq, decide_eq_false_iff_not]
      refine ⟨fun hne => (decide_eq_false (by rintro rfl; simp at hne)).symm, fun he => ⟨a.length - (i + 1), DMem.mt, by omega, SubD.refl _, i + 1, by omega, rfl, rfl, rfl, fun j g1 g2 hji => ?_⟩⟩
      rcases Nat.lt_or_ge j i with h2 | h2
      · exact hj j g1 g2 h2
      · have : j = i := by omega
        subst this; simpa using he
    · exact (decide_eq_true (same_all hlen fun j g1 g2 => hj j g1 g2 (by omega))).symm
theorem NumF_pf (n : Int) : pf Tryd.prog F_swagelaw0_Num [.int .i64 n] = some (.int .i64 n) := by
  refine pf_of (v := .int _ _) (pc_swagelaw0_Num (by simp) ?_) (FrozL.nil.cons (Froz.int _ _)) rfl rfl
  simp only [S_swagelaw0_Num, R_swagelaw0_Num, MU_swagelaw0_Num, MU_swagelaw0_Num, SW, wpD, evDL, evDM, evD, bldLD, List.contains_cons, List.contains_nil, Nat.reduceBEq, beq_self_eq_true, Nat.reduceMul, Nat.reduceSub, wpSp, Option.bind_some, Option.some.injEq, exists_eq_left', exists_eq_left, reduceIte, if_false, if_true, Nat.reduceEqDiff, Nat.reduceAdd, Nat.reduceLeDiff, Int.reduceEq, Int.reduceLT, Int.reduceLE, Int.reduceToNat, decide_true, decide_false, DV.bool.injEq, DV.int.injEq, DV.mp.injEq, DV.msl.injEq, DV.tup.injEq, DV.agg.injEq, DV.fn.injEq, true_implies, forall_const, reduceCtorEq, implies_true, ne_eq, DMem.mt]
end Go.Proofs.YtpehdlobicocpaaDoor.Pf
/- Register code held against each other. No condition. -/
namespace Go.Proofs.YtpehdlobicocpaaDoor.Pf
open Go Go.RowKit Go.Proofs Go.Proofs.YtpehdlobicocpaaDoor.Mw Go.Proofs.YtpehdlobicocpaaDoor.Sx
set_option linter.unusedVariables false
set_option linter.unusedSimpArgs false
set_option maxRecDepth 8000
theorem fz_of {d : DV} (h : Froz d) (M : DMem) (k : Nat) : fz M k d = d := by
  have e := fzmap_froz (FrozL.nil.cons h) M k
  simpa using e
theorem fz_srcs (M : DMem) (k : Nat) (l : List Src) : fz M k (slD Src.c l) = slD Src.c l := fz_of (Froz.slD Src.froz l) M k
theorem fz_parts (M : DMem) (k : Nat) (l : List Part) : fz M k (slD Part.c l) = slD Part.c l := fz_of (Froz.slD Part.froz l) M k
theorem fz_irs (M : DMem) (k : Nat) (l : List Irc) : fz M k (slD Irc.c l) = slD Irc.c l := fz_of (Froz.slD Irc.froz l) M k
theorem fz_metas (M : DMem) (k : Nat) (l : List (List Part)) : fz M k (slD metaC l) = slD metaC l := fz_of (Froz.slD metaC_froz l) M k
theorem fz_irc (M : DMem) (k : Nat) (x : Irc) : fz M k (.agg x.c) = .agg x.c := fz_of (Froz.agg (Irc.froz x)) M k
theorem fz_cod (M : DMem) (k : Nat) (x : Cod) : fz M k (.agg x.c) = .agg x.c := fz_of (Froz.agg (Cod.froz x)) M k
theorem fz_ints (M : DMem) (k : Nat) (l : List Int) : fz M k (slI l) = slI l := fz_of (Froz.slI l) M k
theorem ldn_irc (K : DMem) (x : Irc) (r : List DV) : ldnD K 9 (.ip (.int .i64 x.kind :: .int .i64 x.r :: .int .i64 x.a :: .int .i64 x.b :: .int .i64 x.k :: slI x.args :: .int .i64 x.cost :: .int .i64 x.mt :: .int .i64 x.pc :: r)) = some (.agg x.c) := by simp [ldnD]
abbrev Big : Nat := 4611686018427387904
theorem SameIr_pf (a b : Irc) (ha : a.args.length ≤ Big) : pf Tryd.prog F_swagelaw0_SameIr [.agg a.c, .agg b.c] = some (.bool (decide (a = b))) := by
  refine pf_of (v := .bool _) (pc_swagelaw0_SameIr (by simp) ?_) ((FrozL.nil.cons (Froz.agg (Irc.froz b))).cons (Froz.agg (Irc.froz a))) rfl rfl
  simp only [S_swagelaw0_SameIr, R_swagelaw0_SameIr, MU_swagelaw0_SameIr, SameInts_pf _ _ ha, fz_ints, SW, wpD, evDL, evDM, evD, bldLD, List.contains_cons, List.contains_nil, Nat.reduceBEq, beq_self_eq_true, Nat.reduceMul, Nat.reduceSub, wpSp, Option.bind_some, Option.some.injEq, exists_eq_left', exists_eq_left, reduceIte, if_false, if_true, Nat.reduceEqDiff, Nat.reduceAdd, Nat.reduceLeDiff, Int.reduceEq, Int.reduceLT, Int.reduceLE, Int.reduceToNat, decide_true, decide_false, DV.bool.injEq, DV.int.injEq, DV.mp.injEq, DV.msl.injEq, DV.tup.injEq, DV.agg.injEq, DV.fn.injEq, true_implies, forall_const, reduceCtorEq, implies_true, ne_eq, DMem.mt]
  rw [Bool.eq_iff_iff]
  simp only [Bool.and_eq_true, decide_eq_true_eq]
  constructor
  · rintro ⟨⟨⟨⟨⟨⟨⟨⟨h1, h2⟩, h3⟩, h4⟩, h5⟩, h6⟩, h7⟩, h8⟩, h9⟩
    cases a; cases b; simp_all
  · rintro rfl; simp
theorem eqsS (ne : Bool) (a b : Bool) (x y : Int) : eqsD ne 102 (.agg [.bool a, .int .i64 x]) (.agg [.bool b, .int .i64 y]) = some (.bool (if ne then !((a == b) && ((x == y) && true)) else ((a == b) && ((x == y) && true)))) := by
  simp [eqsD, lift2, DV.v1, DV.v0, eqsV, eqRows, ofV]
  rfl
theorem SameSrcs_pf (a b : List Src) (ha : a.length ≤ Big) : pf Tryd.prog F_swagelaw0_SameSrcs [slD Src.c a, slD Src.c b] = some (.bool (decide (a = b))) := by
  unfold Big at ha
  refine pf_of (v := .bool _) (pc_swagelaw0_SameSrcs (by simp) ?_) ((FrozL.nil.cons (Froz.slD Src.froz _)).cons (Froz.slD Src.froz _)) rfl rfl
  simp only [S_swagelaw0_SameSrcs, R_swagelaw0_SameSrcs, MU_swagelaw0_SameSrcs, SW, wpD, evDL, evDM, evD, bldLD, List.contains_cons, List.contains_nil, Nat.reduceBEq, beq_self_eq_true, Nat.reduceMul, Nat.reduceSub, wpSp, Option.bind_some, Option.some.injEq, exists_eq_left', exists_eq_left, reduceIte, if_false, if_true, Nat.reduceEqDiff, Nat.reduceAdd, Nat.reduceLeDiff, Int.reduceEq, Int.reduceLT, Int.reduceLE, Int.reduceToNat, decide_true, decide_false, DV.bool.injEq, DV.int.injEq, DV.mp.injEq, DV.msl.injEq, DV.tup.injEq, DV.agg.injEq, DV.fn.injEq, true_implies, forall_const, reduceCtorEq, implies_true, ne_eq, DMem.mt, decide_eq_true_eq, decide_eq_false_iff_not]
  refine ⟨fun hne => ?_, fun hle => ?_⟩
  · exact (decide_eq_false (by rintro rfl; exact hne rfl)).symm
  · have hlen : a.length = b.length := by omega
    refine ⟨fun k δ M => ∃ i, i ≤ a.length ∧ k = a.length - i ∧ M = DMem.mt ∧ δ 0 = slD Src.c a ∧ δ 1 = slD Src.c b ∧ δ 5 = .int .i64 i ∧ (∀ j (h1 : j < a.length) (h2 : j < b.length), j < i → a[j] = b[j]),
      a.length, ⟨0, Nat.zero_le _, rfl, rfl, rfl, rfl, rfl, fun j _ _ hj => absurd hj (by omega)⟩, ?_⟩
    rintro k δ M ⟨i, hi, rfl, rfl, h0, h1, h5, hj⟩
    simp only [S1_swagelaw0_SameSrcs, MU_swagelaw0_SameSrcs, h0, h1, h5, SW, wpD, evDL, evDM, evD, bldLD, List.contains_cons, List.contains_nil, Nat.reduceBEq, beq_self_eq_true, Nat.reduceMul, Nat.reduceSub, wpSp, Option.bind_some, Option.some.injEq, exists_eq_left', exists_eq_left, reduceIte, if_false, if_true, Nat.reduceEqDiff, Nat.reduceAdd, Nat.reduceLeDiff, Int.reduceEq, Int.reduceLT, Int.reduceLE, Int.reduceToNat, decide_true, decide_false, DV.bool.injEq, DV.int.injEq, DV.mp.injEq, DV.msl.injEq, DV.tup.injEq, DV.agg.injEq, DV.fn.injEq, true_implies, forall_const, reduceCtorEq, implies_true, ne_eq, DMem.mt, decide_eq_true_eq, decide_eq_false_iff_not]
    refine ⟨fun h => ?_, fun h => ?_⟩
    · have hlt : i < a.length := by omega
      have hlt' : i < b.length := by omega
      simp only [ix_slD Src.len hlt, ix_slD Src.len hlt', h0, h1, h5, w64s (show i < 4611686018427387905 by omega), SW, wpD, evDL, evDM, evD, bldLD, List.contains_cons, List.contains_nil, Nat.reduceBEq, beq_self_eq_true, Nat.reduceMul, Nat.reduceSub, wpSp, Option.bind_some, Option.some.injEq, exists_eq_left', exists_eq_left, reduceIte, if_false, if_true, Nat.reduceEqDiff, Nat.reduceAdd, Nat.reduceLeDiff, Int.reduceEq, Int.reduceLT, Int.reduceLE, Int.reduceToNat, decide_true, decide_false, DV.bool.injEq, DV.int.injEq, DV.mp.injEq, DV.msl.injEq, DV.tup.injEq, DV.agg.injEq, DV.fn.injEq, true_implies, forall_const, reduceCtorEq, implies_true, ne_eq, DMem.mt, decide_eq_true_eq, decide_eq_false_iff_not]
      simp only [eqsS, h0, h1, h5, w64s (show i < 4611686018427387905 by omega), SW, wpD, evDL, evDM, evD, bldLD, List.contains_cons, List.contains_nil, Nat.reduceBEq, beq_self_eq_true, Nat.reduceMul, Nat.reduceSub, wpSp, Option.bind_some, Option.some.injEq, exists_eq_left', exists_eq_left, reduceIte, if_false, if_true, Nat.reduceEqDiff, Nat.reduceAdd, Nat.reduceLeDiff, Int.reduceEq, Int.reduceLT, Int.reduceLE, Int.reduceToNat, decide_true, decide_false, DV.bool.injEq, DV.int.injEq, DV.mp.injEq, DV.msl.injEq, DV.tup.injEq, DV.agg.injEq, DV.fn.injEq, true_implies, forall_const, reduceCtorEq, implies_true, ne_eq, DMem.mt]
      refine ⟨fun hne => (decide_eq_false (by rintro rfl; simp at hne)).symm, fun he => ⟨a.length - (i + 1), DMem.mt, by omega, SubD.refl _, i + 1, by omega, rfl, rfl, rfl, fun j g1 g2 hji => ?_⟩⟩
      rcases Nat.lt_or_ge j i with h2 | h2
      · exact hj j g1 g2 h2
      · have : j = i := by omega
        subst this
        simp only [Bool.not_eq_eq_eq_not, Bool.not_false, Bool.and_eq_true, beq_iff_eq] at he
        cases hx : a[j]; cases hy : b[j]
        simp only [hx, hy] at he
        simp [he]
    · exact (decide_eq_true (same_all hlen fun j g1 g2 => hj j g1 g2 (by omega))).symm
def SzPart (x : Part) : Prop := x.locals.length ≤ Big ∧ x.stack.length ≤ Big
theorem sameParts_pf (a b : List Part) (ha : a.length ≤ Big) (hs : ∀ x ∈ a, SzPart x) : pf Tryd.prog F_swagelaw0_sameParts [slD Part.c a, slD Part.c b] = some (.bool (decide (a = b))) := by
  unfold Big at ha
  refine pf_of (v := .bool _) (pc_swagelaw0_sameParts (by simp) ?_) ((FrozL.nil.cons (Froz.slD Part.froz _)).cons (Froz.slD Part.froz _)) rfl rfl
  simp only [S_swagelaw0_sameParts, R_swagelaw0_sameParts, MU_swagelaw0_sameParts, SW, wpD, evDL, evDM, evD, bldLD, List.contains_cons, List.contains_nil, Nat.reduceBEq, beq_self_eq_true, Nat.reduceMul, Nat.reduceSub, wpSp, Option.bind_some, Option.some.injEq, exists_eq_left', exists_eq_left, reduceIte, if_false, if_true, Nat.reduceEqDiff, Nat.reduceAdd, Nat.reduceLeDiff, Int.reduceEq, Int.reduceLT, Int.reduceLE, Int.reduceToNat, decide_true, decide_false, DV.bool.injEq, DV.int.injEq, DV.mp.injEq, DV.msl.injEq, DV.tup.injEq, DV.agg.injEq, DV.fn.injEq, true_implies, forall_const, reduceCtorEq, implies_true, ne_eq, DMem.mt, decide_eq_true_eq, decide_eq_false_iff_not]
  refine ⟨fun hne => ?_, fun hle => ?_⟩
  · exact (decide_eq_false (by rintro rfl; exact hne rfl)).symm
  · have hlen : a.length = b.length := by omega
    refine ⟨fun k δ M => ∃ i, i ≤ a.length ∧ k = a.length - i ∧ M = DMem.mt ∧ δ 0 = slD Part.c a ∧ δ 1 = slD Part.c b ∧ δ 5 = .int .i64 i ∧ (∀ j (h1 : j < a.length) (h2 : j < b.length), j < i → a[j] = b[j]),
      a.length, ⟨0, Nat.zero_le _, rfl, rfl, rfl, rfl, rfl, fun j _ _ hj => absurd hj (by omega)⟩, ?_⟩
    rintro k δ M ⟨i, hi, rfl, rfl, h0, h1, h5, hj⟩
    simp only [S1_swagelaw0_sameParts, MU_swagelaw0_sameParts, h0, h1, h5, SW, wpD, evDL, evDM, evD, bldLD, List.contains_cons, List.contains_nil, Nat.reduceBEq, beq_self_eq_true, Nat.reduceMul, Nat.reduceSub, wpSp, Option.bind_some, Option.some.injEq, exists_eq_left', exists_eq_left, reduceIte, if_false, if_true, Nat.reduceEqDiff, Nat.reduceAdd, Nat.reduceLeDiff, Int.reduceEq, Int.reduceLT, Int.reduceLE, Int.reduceToNat, decide_true, decide_false, DV.bool.injEq, DV.int.injEq, DV.mp.injEq, DV.msl.injEq, DV.tup.injEq, DV.agg.injEq, DV.fn.injEq, true_implies, forall_const, reduceCtorEq, implies_true, ne_eq, DMem.mt, decide_eq_true_eq, decide_eq_false_iff_not]
    refine ⟨fun h => ?_, fun h => ?_⟩
    · have hlt : i < a.length := by omega
      have hlt' : i < b.length := by omega
      have hz := hs _ (List.getElem_mem hlt)
      simp only [ix_slD Part.len hlt, ix_slD Part.len hlt', h0, h1, h5, fz_srcs, SameSrcs_pf a[i].locals b[i].locals hz.1, SameSrcs_pf a[i].stack b[i].stack hz.2, w64s (show i < 4611686018427387905 by omega), SW, wpD, evDL, evDM, evD, bldLD, List.contains_cons, List.contains_nil, Nat.reduceBEq, beq_self_eq_true, Nat.reduceMul, Nat.reduceSub, wpSp, Option.bind_some, Option.some.injEq, exists_eq_left', exists_eq_left, reduceIte, if_false, if_true, Nat.reduceEqDiff, Nat.reduceAdd, Nat.reduceLeDiff, Int.reduceEq, Int.reduceLT, Int.reduceLE, Int.reduceToNat, decide_true, decide_false, DV.bool.injEq, DV.int.injEq, DV.mp.injEq, DV.msl.injEq, DV.tup.injEq, DV.agg.injEq, DV.fn.injEq, true_implies, forall_const, reduceCtorEq, implies_true, ne_eq, DMem.mt, decide_eq_true_eq, decide_eq_false_iff_not]
      refine ⟨fun hne => (decide_eq_false (by rintro rfl; simp at hne)).symm, fun he => ⟨a.length - (i + 1), DMem.mt, by omega, SubD.refl _, i + 1, by omega, rfl, rfl, rfl, fun j g1 g2 hji => ?_⟩⟩
      rcases Nat.lt_or_ge j i with h2 | h2
      · exact hj j g1 g2 h2
      · have : j = i := by omega
        subst this
        cases hx : a[j]; cases hy : b[j]
        simp only [hx, hy] at he
        simp at he
        simp [he]
    · exact (decide_eq_true (same_all hlen fun j g1 g2 => hj j g1 g2 (by omega))).symm
def SzCod (x : Cod) : Prop := x.code.length ≤ Big ∧ (∀ y ∈ x.code, y.args.length ≤ Big) ∧ x.metas.length ≤ Big ∧ ∀ m ∈ x.metas, m.length ≤ Big ∧ ∀ y ∈ m, SzPart y
theorem SameCode_pf (a b : Cod) (ha : SzCod a) : pf Tryd.prog F_swagelaw0_SameCode [.agg a.c, .agg b.c] = some (.bool (decide (a = b))) := by
  obtain ⟨z1, z2, z3, z4⟩ := ha
  unfold Big at z1 z3
  refine pf_of (v := .bool _) (pc_swagelaw0_SameCode (by simp) ?_) ((FrozL.nil.cons (Froz.agg (Cod.froz b))).cons (Froz.agg (Cod.froz a))) rfl rfl
  simp only [S_swagelaw0_SameCode, R_swagelaw0_SameCode, MU_swagelaw0_SameCode, SW, wpD, evDL, evDM, evD, bldLD, List.contains_cons, List.contains_nil, Nat.reduceBEq, beq_self_eq_true, Nat.reduceMul, Nat.reduceSub, wpSp, Option.bind_some, Option.some.injEq, exists_eq_left', exists_eq_left, reduceIte, if_false, if_true, Nat.reduceEqDiff, Nat.reduceAdd, Nat.reduceLeDiff, Int.reduceEq, Int.reduceLT, Int.reduceLE, Int.reduceToNat, decide_true, decide_false, DV.bool.injEq, DV.int.injEq, DV.mp.injEq, DV.msl.injEq, DV.tup.injEq, DV.agg.injEq, DV.fn.injEq, true_implies, forall_const, reduceCtorEq, implies_true, ne_eq, DMem.mt, decide_eq_true_eq, decide_eq_false_iff_not]
  refine ⟨fun hne => (decide_eq_false (by rintro rfl; simp at hne)).symm, fun he => ?_⟩
  obtain ⟨⟨⟨e1, e2⟩, e3⟩, e4⟩ : ((a.fn = b.fn ∧ a.regs = b.regs) ∧ a.code.length = b.code.length) ∧ a.metas.length = b.metas.length := by
    simp at he; omega
  refine ⟨fun k δ M => ∃ i, i ≤ a.code.length ∧ k = a.code.length - i ∧ M = DMem.mt ∧ δ 2 = .ip a.c ∧ δ 3 = .ip b.c ∧ δ 5 = .int .i64 i ∧ (∀ j (h1 : j < a.code.length) (h2 : j < b.code.length), j < i → a.code[j] = b.code[j]),
    a.code.length, ⟨0, Nat.zero_le _, rfl, rfl, rfl, rfl, rfl, fun j _ _ hj => absurd hj (by omega)⟩, ?_⟩
  rintro k δ M ⟨i, hi, rfl, rfl, h2, h3, h5, hj⟩
  simp only [S1_swagelaw0_SameCode, MU_swagelaw0_SameCode, h2, h3, h5, SW, wpD, evDL, evDM, evD, bldLD, List.contains_cons, List.contains_nil, Nat.reduceBEq, beq_self_eq_true, Nat.reduceMul, Nat.reduceSub, wpSp, Option.bind_some, Option.some.injEq, exists_eq_left', exists_eq_left, reduceIte, if_false, if_true, Nat.reduceEqDiff, Nat.reduceAdd, Nat.reduceLeDiff, Int.reduceEq, Int.reduceLT, Int.reduceLE, Int.reduceToNat, decide_true, decide_false, DV.bool.injEq, DV.int.injEq, DV.mp.injEq, DV.msl.injEq, DV.tup.injEq, DV.agg.injEq, DV.fn.injEq, true_implies, forall_const, reduceCtorEq, implies_true, ne_eq, DMem.mt, decide_eq_true_eq, decide_eq_false_iff_not]
  refine ⟨fun h => ?_, fun h => ?_⟩
  · have hlt : i < a.code.length := by omega
    have hlt' : i < b.code.length := by omega
    simp only [ix_slD Irc.len hlt, ix_slD Irc.len hlt', ldn_irc, fz_irc, SameIr_pf a.code[i] b.code[i] (z2 _ (List.getElem_mem hlt)), h2, h3, h5, w64s (show i < 4611686018427387905 by omega), SW, wpD, evDL, evDM, evD, bldLD, List.contains_cons, List.contains_nil, Nat.reduceBEq, beq_self_eq_true, Nat.reduceMul, Nat.reduceSub, wpSp, Option.bind_some, Option.some.injEq, exists_eq_left', exists_eq_left, reduceIte, if_false, if_true, Nat.reduceEqDiff, Nat.reduceAdd, Nat.reduceLeDiff, Int.reduceEq, Int.reduceLT, Int.reduceLE, Int.reduceToNat, decide_true, decide_false, DV.bool.injEq, DV.int.injEq, DV.mp.injEq, DV.msl.injEq, DV.tup.injEq, DV.agg.injEq, DV.fn.injEq, true_implies, forall_const, reduceCtorEq, implies_true, ne_eq, DMem.mt, decide_eq_true_eq, decide_eq_false_iff_not]
    refine ⟨fun hne => (decide_eq_false (by rintro rfl; simp at hne)).symm, fun hx => ⟨a.code.length - (i + 1), DMem.mt, by omega, SubD.refl _, i + 1, by omega, rfl, rfl, rfl, fun j g1 g2 hji => ?_⟩⟩
    rcases Nat.lt_or_ge j i with h2 | h2
    · exact hj j g1 g2 h2
    · have : j = i := by omega
      subst this
      simpa using hx
  · have ec : a.code = b.code := same_all e3 fun j g1 g2 => hj j g1 g2 (by omega)
    simp only [S3_swagelaw0_SameCode, MU_swagelaw0_SameCode, h2, h3, SW, wpD, evDL, evDM, evD, bldLD, List.contains_cons, List.contains_nil, Nat.reduceBEq, beq_self_eq_true, Nat.reduceMul, Nat.reduceSub, wpSp, Option.bind_some, Option.some.injEq, exists_eq_left', exists_eq_left, reduceIte, if_false, if_true, Nat.reduceEqDiff, Nat.reduceAdd, Nat.reduceLeDiff, Int.reduceEq, Int.reduceLT, Int.reduceLE, Int.reduceToNat, decide_true, decide_false, DV.bool.injEq, DV.int.injEq, DV.mp.injEq, DV.msl.injEq, DV.tup.injEq, DV.agg.injEq, DV.fn.injEq, true_implies, forall_const, reduceCtorEq, implies_true, ne_eq, DMem.mt]
    clear hj
    refine ⟨fun k δ M => ∃ i, i ≤ a.metas.length ∧ k = a.metas.length - i ∧ M = DMem.mt ∧ δ 2 = .ip a.c ∧ δ 3 = .ip b.c ∧ δ 6 = .int .i64 i ∧ (∀ j (h1 : j < a.metas.length) (h2 : j < b.metas.length), j < i → a.metas[j] = b.metas[j]),
      a.metas.length, ⟨0, Nat.zero_le _, rfl, rfl, h2, h3, rfl, fun j _ _ hj => absurd hj (by omega)⟩, ?_⟩
    rintro k δ M ⟨i, hi, rfl, rfl, h2, h3, h6, hj⟩
    simp only [S2_swagelaw0_SameCode, MU_swagelaw0_SameCode, h2, h3, h6, SW, wpD, evDL, evDM, evD, bldLD, List.contains_cons, List.contains_nil, Nat.reduceBEq, beq_self_eq_true, Nat.reduceMul, Nat.reduceSub, wpSp, Option.bind_some, Option.some.injEq, exists_eq_left', exists_eq_left, reduceIte, if_false, if_true, Nat.reduceEqDiff, Nat.reduceAdd, Nat.reduceLeDiff, Int.reduceEq, Int.reduceLT, Int.reduceLE, Int.reduceToNat, decide_true, decide_false, DV.bool.injEq, DV.int.injEq, DV.mp.injEq, DV.msl.injEq, DV.tup.injEq, DV.agg.injEq, DV.fn.injEq, true_implies, forall_const, reduceCtorEq, implies_true, ne_eq, DMem.mt, decide_eq_true_eq, decide_eq_false_iff_not]
    refine ⟨fun h => ?_, fun h => ?_⟩
    · have hlt : i < a.metas.length := by omega
      have hlt' : i < b.metas.length := by omega
      have hz := z4 _ (List.getElem_mem hlt)
      simp only [ix_slD metaC_len hlt, ix_slD metaC_len hlt', fz_parts, sameParts_pf a.metas[i] b.metas[i] hz.1 hz.2, h2, h3, h6, w64s (show i < 4611686018427387905 by omega), SW, wpD, evDL, evDM, evD, bldLD, List.contains_cons, List.contains_nil, Nat.reduceBEq, beq_self_eq_true, Nat.reduceMul, Nat.reduceSub, wpSp, Option.bind_some, Option.some.injEq, exists_eq_left', exists_eq_left, reduceIte, if_false, if_true, Nat.reduceEqDiff, Nat.reduceAdd, Nat.reduceLeDiff, Int.reduceEq, Int.reduceLT, Int.reduceLE, Int.reduceToNat, decide_true, decide_false, DV.bool.injEq, DV.int.injEq, DV.mp.injEq, DV.msl.injEq, DV.tup.injEq, DV.agg.injEq, DV.fn.injEq, true_implies, forall_const, reduceCtorEq, implies_true, ne_eq, DMem.mt, decide_eq_true_eq, decide_eq_false_iff_not]
      refine ⟨fun hne => (decide_eq_false (by rintro rfl; simp at hne)).symm, fun hx => ⟨a.metas.length - (i + 1), DMem.mt, by omega, SubD.refl _, i + 1, by omega, rfl, rfl, rfl, fun j g1 g2 hji => ?_⟩⟩
      rcases Nat.lt_or_ge j i with h2 | h2
      · exact hj j g1 g2 h2
      · have : j = i := by omega
        subst this
        simpa using hx
    · have em : a.metas = b.metas := same_all e4 fun j g1 g2 => hj j g1 g2 (by omega)
      refine (decide_eq_true ?_).symm
      cases a; cases b; simp_all
end Go.Proofs.YtpehdlobicocpaaDoor.Pf
