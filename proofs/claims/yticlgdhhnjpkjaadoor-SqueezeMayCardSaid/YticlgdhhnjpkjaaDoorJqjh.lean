/- Ld Le Yd Ye Yf Yg: joined texts of this claim. No condition. -/
import Derived.Test.YticlgdhhnjpkjaaDoorJqjd
import Derived.Test.YticlgdhhnjpkjaaDoorJqjg
import Derived.Test.YticlgdhhnjpkjaaDoorJqjf
namespace Go.Proofs.YticlgdhhnjpkjaaDoor.Pf
open Go Go.RowKit Go.Proofs Go.Proofs.YticlgdhhnjpkjaaDoor.Mw Go.Proofs.YticlgdhhnjpkjaaDoor.Sx
set_option linter.unusedVariables false
set_option linter.unusedSimpArgs false
set_option maxRecDepth 4000
theorem same_all {α : Type} {a b : List α} (hl : a.length = b.length) (h : ∀ j (h1 : j < a.length) (h2 : j < b.length), a[j] = b[j]) : a = b := List.ext_getElem hl h
theorem eqs2 (ne : Bool) (k k' : IntKind) (a b c d : Int) : eqsD ne 2 (.agg [.int k a, .int k' b]) (.agg [.int k c, .int k' d]) = some (.bool (if ne then !((a == c) && ((b == d) && true)) else ((a == c) && ((b == d) && true)))) := by
  simp [eqsD, lift2, DV.v1, DV.v0, eqsV, eqRows, ofV]
  rfl
theorem SameInts_pf (a b : List Int) (ha : a.length ≤ 4611686018427387904) : pf Tryd.prog F_swagelaw0_SameInts [slI a, slI b] = some (.bool (decide (a = b))) := by
  refine pf_of (v := .bool _) (pc_swagelaw0_SameInts (by simp) ?_) ((FrozL.nil.cons (Froz.slI _)).cons (Froz.slI _)) rfl rfl
  simp only [S_swagelaw0_SameInts, R_swagelaw0_SameInts, MU_swagelaw0_SameInts, SW, wpD, evDL, evDM, evD, bldLD, List.contains_cons, List.contains_nil, Nat.reduceBEq, beq_self_eq_true, Nat.reduceMul, Nat.reduceSub, wpSp, Option.bind_some, Option.some.injEq, exists_eq_left', exists_eq_left, reduceIte, if_false, if_true, Nat.reduceEqDiff, Nat.reduceAdd, Nat.reduceLeDiff, Int.reduceEq, Int.reduceLT, Int.reduceLE, Int.reduceToNat, decide_true, decide_false, DV.bool.injEq, DV.int.injEq, DV.mp.injEq, DV.msl.injEq, DV.tup.injEq, DV.agg.injEq, DV.fn.injEq, true_implies, forall_const, reduceCtorEq, implies_true, ne_eq, DMem.mt, decide_eq_true_eq, decide_eq_false_iff_not]
  refine ⟨fun hne => ?_, fun hle => ?_⟩
  · exact (decide_eq_false (by rintro rfl; exact hne rfl)).symm
  · have hlen : a.length = b.length := by omega
    refine ⟨fun k δ M => ∃ i, i ≤ a.length ∧ k = a.length - i ∧ M = DMem.mt ∧ δ 0 = slI a ∧ δ 1 = slI b ∧ δ 5 = .int .i64 i ∧ (∀ j (h1 : j < a.length) (h2 : j < b.length), j < i → a[j] = b[j]),
      a.length, ⟨0, Nat.zero_le _, rfl, rfl, rfl, rfl, rfl, fun j _ _ hj => absurd hj (by omega)⟩, ?_⟩
    rintro k δ M ⟨i, hi, rfl, rfl, h0, h1, h5, hj⟩
    simp only [S1_swagelaw0_SameInts, MU_swagelaw0_SameInts, h0, h1, h5, SW, wpD, evDL, evDM, evD, bldLD, List.contains_cons, List.contains_nil, Nat.reduceBEq, beq_self_eq_true, Nat.reduceMul, Nat.reduceSub, wpSp, Option.bind_some, Option.some.injEq, exists_eq_left', exists_eq_left, reduceIte, if_false, if_true, Nat.reduceEqDiff, Nat.reduceAdd, Nat.reduceLeDiff, Int.reduceEq, Int.reduceLT, Int.reduceLE, Int.reduceToNat, decide_true, decide_false, DV.bool.injEq, DV.int.injEq, DV.mp.injEq, DV.msl.injEq, DV.tup.injEq, DV.agg.injEq, DV.fn.injEq, true_implies, forall_const, reduceCtorEq, implies_true, ne_eq, DMem.mt, decide_eq_true_eq, decide_eq_false_iff_not]
    refine ⟨fun h => ?_, fun h => ?_⟩
    · have hlt : i < a.length := by omega
      have hlt' : i < b.length := by omega
      simp only [ix_slI hlt, ix_slI hlt', h0, h1, h5, w64s (show i < 4611686018427387905 by omega), SW, wpD, evDL, evDM, evD, bldLD, List.contains_cons, List.contains_nil, Nat.reduceBEq, beq_self_eq_true, Nat.reduceMul, Nat.reduceSub, wpSp, Option.bind_some, Option.some.injEq, exists_eq_left', exists_eq_left, reduceIte, if_false, if_true, Nat.reduceEqDiff, Nat.reduceAdd, Nat.reduceLeDiff, Int.reduceEq, Int.reduceLT, Int.reduceLE, Int.reduceToNat, decide_true, decide_false, DV.bool.injEq, DV.int.injEq, DV.mp.injEq, DV.msl.injEq, DV.tup.injEq, DV.agg.injEq, DV.fn.injEq, true_implies, forall_const, reduceCtorEq, implies_true, ne_eq, DMem.mt, decide_eq_true_eq, decide_eq_false_iff_not]
      refine ⟨fun hne => (decide_eq_false (by rintro rfl; exact hne rfl)).symm, fun he => ⟨a.length - (i + 1), DMem.mt, by omega, SubD.refl _, i + 1, by omega, rfl, rfl, rfl, fun j g1 g2 hji => ?_⟩⟩
      rcases Nat.lt_or_ge j i with h2 | h2
      · exact hj j g1 g2 h2
      · have : j = i := by omega
        subst this; exact Decidable.not_not.1 he
    · exact (decide_eq_true (same_all hlen fun j g1 g2 => hj j g1 g2 (by omega))).symm
theorem NumF_pf (n : Int) : pf Tryd.prog F_swagelaw0_Num [.int .i64 n] = some (.int .i64 n) := by
  refine pf_of (v := .int _ _) (pc_swagelaw0_Num (by simp) ?_) (FrozL.nil.cons (Froz.int _ _)) rfl rfl
  simp only [S_swagelaw0_Num, R_swagelaw0_Num, MU_swagelaw0_Num, MU_swagelaw0_Num, SW, wpD, evDL, evDM, evD, bldLD, List.contains_cons, List.contains_nil, Nat.reduceBEq, beq_self_eq_true, Nat.reduceMul, Nat.reduceSub, wpSp, Option.bind_some, Option.some.injEq, exists_eq_left', exists_eq_left, reduceIte, if_false, if_true, Nat.reduceEqDiff, Nat.reduceAdd, Nat.reduceLeDiff, Int.reduceEq, Int.reduceLT, Int.reduceLE, Int.reduceToNat, decide_true, decide_false, DV.bool.injEq, DV.int.injEq, DV.mp.injEq, DV.msl.injEq, DV.tup.injEq, DV.agg.injEq, DV.fn.injEq, true_implies, forall_const, reduceCtorEq, implies_true, ne_eq, DMem.mt]
end Go.Proofs.YticlgdhhnjpkjaaDoor.Pf
namespace Go.Proofs.YticlgdhhnjpkjaaDoor.Pf
open Go Go.RowKit Go.Proofs Go.Proofs.YticlgdhhnjpkjaaDoor.Mw Go.Proofs.YticlgdhhnjpkjaaDoor.Sx
set_option linter.unusedVariables false
set_option linter.unusedSimpArgs false
set_option maxRecDepth 8000
theorem fz_of {d : DV} (h : Froz d) (M : DMem) (k : Nat) : fz M k d = d := by
  have e := fzmap_froz (FrozL.nil.cons h) M k
  simpa using e
theorem fz_srcs (M : DMem) (k : Nat) (l : List Src) : fz M k (slD Src.c l) = slD Src.c l := fz_of (Froz.slD Src.froz l) M k
theorem fz_parts (M : DMem) (k : Nat) (l : List Part) : fz M k (slD Part.c l) = slD Part.c l := fz_of (Froz.slD Part.froz l) M k
theorem fz_irs (M : DMem) (k : Nat) (l : List Irc) : fz M k (slD Irc.c l) = slD Irc.c l := fz_of (Froz.slD Irc.froz l) M k
theorem fz_metas (M : DMem) (k : Nat) (l : List (List Part)) : fz M k (slD metaC l) = slD metaC l := fz_of (Froz.slD metaC_froz l) M k
theorem fz_irc (M : DMem) (k : Nat) (x : Irc) : fz M k (.agg x.c) = .agg x.c := fz_of (Froz.agg (Irc.froz x)) M k
theorem fz_ints (M : DMem) (k : Nat) (l : List Int) : fz M k (slI l) = slI l := fz_of (Froz.slI l) M k
theorem ldn_irc (K : DMem) (x : Irc) (r : List DV) : ldnD K 9 (.ip (.int .i64 x.kind :: .int .i64 x.r :: .int .i64 x.a :: .int .i64 x.b :: .int .i64 x.k :: slI x.args :: .int .i64 x.cost :: .int .i64 x.mt :: .int .i64 x.pc :: r)) = some (.agg x.c) := by simp [ldnD]
abbrev Big : Nat := 4611686018427387904
theorem SameIr_pf (a b : Irc) (ha : a.args.length ≤ Big) : pf Tryd.prog F_swagelaw0_SameIr [.agg a.c, .agg b.c] = some (.bool (decide (a = b))) := by
  refine pf_of (v := .bool _) (pc_swagelaw0_SameIr (by simp) ?_) ((FrozL.nil.cons (Froz.agg (Irc.froz b))).cons (Froz.agg (Irc.froz a))) rfl rfl
  simp only [S_swagelaw0_SameIr, R_swagelaw0_SameIr, MU_swagelaw0_SameIr, SameInts_pf _ _ ha, fz_ints, SW, wpD, evDL, evDM, evD, bldLD, List.contains_cons, List.contains_nil, Nat.reduceBEq, beq_self_eq_true, Nat.reduceMul, Nat.reduceSub, wpSp, Option.bind_some, Option.some.injEq, exists_eq_left', exists_eq_left, reduceIte, if_false, if_true, Nat.reduceEqDiff, Nat.reduceAdd, Nat.reduceLeDiff, Int.reduceEq, Int.reduceLT, Int.reduceLE, Int.reduceToNat, decide_true, decide_false, DV.bool.injEq, DV.int.injEq, DV.mp.injEq, DV.msl.injEq, DV.tup.injEq, DV.agg.injEq, DV.fn.injEq, true_implies, forall_const, reduceCtorEq, implies_true, ne_eq, DMem.mt]
  rw [Bool.eq_iff_iff]
  simp only [Bool.and_eq_true, decide_eq_true_eq]
  constructor
  · rintro ⟨⟨⟨⟨⟨⟨⟨⟨h1, h2⟩, h3⟩, h4⟩, h5⟩, h6⟩, h7⟩, h8⟩, h9⟩
    cases a; cases b; simp_all
  · rintro rfl; simp
theorem eqsS (ne : Bool) (a b : Bool) (x y : Int) : eqsD ne 102 (.agg [.bool a, .int .i64 x]) (.agg [.bool b, .int .i64 y]) = some (.bool (if ne then !((a == b) && ((x == y) && true)) else ((a == b) && ((x == y) && true)))) := by
  simp [eqsD, lift2, DV.v1, DV.v0, eqsV, eqRows, ofV]
  rfl
theorem SameSrcs_pf (a b : List Src) (ha : a.length ≤ Big) : pf Tryd.prog F_swagelaw0_SameSrcs [slD Src.c a, slD Src.c b] = some (.bool (decide (a = b))) := by
  unfold Big at ha
  refine pf_of (v := .bool _) (pc_swagelaw0_SameSrcs (by simp) ?_) ((FrozL.nil.cons (Froz.slD Src.froz _)).cons (Froz.slD Src.froz _)) rfl rfl
  simp only [S_swagelaw0_SameSrcs, R_swagelaw0_SameSrcs, MU_swagelaw0_SameSrcs, SW, wpD, evDL, evDM, evD, bldLD, List.contains_cons, List.contains_nil, Nat.reduceBEq, beq_self_eq_true, Nat.reduceMul, Nat.reduceSub, wpSp, Option.bind_some, Option.some.injEq, exists_eq_left', exists_eq_left, reduceIte, if_false, if_true, Nat.reduceEqDiff, Nat.reduceAdd, Nat.reduceLeDiff, Int.reduceEq, Int.reduceLT, Int.reduceLE, Int.reduceToNat, decide_true, decide_false, DV.bool.injEq, DV.int.injEq, DV.mp.injEq, DV.msl.injEq, DV.tup.injEq, DV.agg.injEq, DV.fn.injEq, true_implies, forall_const, reduceCtorEq, implies_true, ne_eq, DMem.mt, decide_eq_true_eq, decide_eq_false_iff_not]
  refine ⟨fun hne => ?_, fun hle => ?_⟩
  · exact (decide_eq_false (by rintro rfl; exact hne rfl)).symm
  · have hlen : a.length = b.length := by omega
    refine ⟨fun k δ M => ∃ i, i ≤ a.length ∧ k = a.length - i ∧ M = DMem.mt ∧ δ 0 = slD Src.c a ∧ δ 1 = slD Src.c b ∧ δ 5 = .int .i64 i ∧ (∀ j (h1 : j < a.length) (h2 : j < b.length), j < i → a[j] = b[j]),
      a.length, ⟨0, Nat.zero_le _, rfl, rfl, rfl, rfl, rfl, fun j _ _ hj => absurd hj (by omega)⟩, ?_⟩
    rintro k δ M ⟨i, hi, rfl, rfl, h0, h1, h5, hj⟩
    simp only [S1_swagelaw0_SameSrcs, MU_swagelaw0_SameSrcs, h0, h1, h5, SW, wpD, evDL, evDM, evD, bldLD, List.contains_cons, List.contains_nil, Nat.reduceBEq, beq_self_eq_true, Nat.reduceMul, Nat.reduceSub, wpSp, Option.bind_some, Option.some.injEq, exists_eq_left', exists_eq_left, reduceIte, if_false, if_true, Nat.reduceEqDiff, Nat.reduceAdd, Nat.reduceLeDiff, Int.reduceEq, Int.reduceLT, Int.reduceLE, Int.reduceToNat, decide_true, decide_false, DV.bool.injEq, DV.int.injEq, DV.mp.injEq, DV.msl.injEq, DV.tup.injEq, DV.agg.injEq, DV.fn.injEq, true_implies, forall_const, reduceCtorEq, implies_true, ne_eq, DMem.mt, decide_eq_true_eq, decide_eq_false_iff_not]
    refine ⟨fun h => ?_, fun h => ?_⟩
    · have hlt : i < a.length := by omega
      have hlt' : i < b.length := by omega
      simp only [ix_slD Src.len hlt, ix_slD Src.len hlt', h0, h1, h5, w64s (show i < 4611686018427387905 by omega), SW, wpD, evDL, evDM, evD, bldLD, List.contains_cons, List.contains_nil, Nat.reduceBEq, beq_self_eq_true, Nat.reduceMul, Nat.reduceSub, wpSp, Option.bind_some, Option.some.injEq, exists_eq_left', exists_eq_left, reduceIte, if_false, if_true, Nat.reduceEqDiff, Nat.reduceAdd, Nat.reduceLeDiff, Int.reduceEq, Int.reduceLT, Int.reduceLE, Int.reduceToNat, decide_true, decide_false, DV.bool.injEq, DV.int.injEq, DV.mp.injEq, DV.msl.injEq, DV.tup.injEq, DV.agg.injEq, DV.fn.injEq, true_implies, forall_const, reduceCtorEq, implies_true, ne_eq, DMem.mt, decide_eq_true_eq, decide_eq_false_iff_not]
      simp only [eqsS, h0, h1, h5, w64s (show i < 4611686018427387905 by omega), SW, wpD, evDL, evDM, evD, bldLD, List.contains_cons, List.contains_nil, Nat.reduceBEq, beq_self_eq_true, Nat.reduceMul, Nat.reduceSub, wpSp, Option.bind_some, Option.some.injEq, exists_eq_left', exists_eq_left, reduceIte, if_false, if_true, Nat.reduceEqDiff, Nat.reduceAdd, Nat.reduceLeDiff, Int.reduceEq, Int.reduceLT, Int.reduceLE, Int.reduceToNat, decide_true, decide_false, DV.bool.injEq, DV.int.injEq, DV.mp.injEq, DV.msl.injEq, DV.tup.injEq, DV.agg.injEq, DV.fn.injEq, true_implies, forall_const, reduceCtorEq, implies_true, ne_eq, DMem.mt]
      refine ⟨fun hne => (decide_eq_false (by rintro rfl; simp at hne)).symm, fun he => ⟨a.length - (i + 1), DMem.mt, by omega, SubD.refl _, i + 1, by omega, rfl, rfl, rfl, fun j g1 g2 hji => ?_⟩⟩
      rcases Nat.lt_or_ge j i with h2 | h2
      · exact hj j g1 g2 h2
      · have : j = i := by omega
        subst this
        simp only [Bool.not_eq_eq_eq_not, Bool.not_false, Bool.and_eq_true, beq_iff_eq] at he
        cases hx : a[j]; cases hy : b[j]
        simp only [hx, hy] at he
        simp [he]
    · exact (decide_eq_true (same_all hlen fun j g1 g2 => hj j g1 g2 (by omega))).symm
def SzPart (x : Part) : Prop := x.locals.length ≤ Big ∧ x.stack.length ≤ Big
theorem sameParts_pf (a b : List Part) (ha : a.length ≤ Big) (hs : ∀ x ∈ a, SzPart x) : pf Tryd.prog F_swagelaw0_sameParts [slD Part.c a, slD Part.c b] = some (.bool (decide (a = b))) := by
  unfold Big at ha
  refine pf_of (v := .bool _) (pc_swagelaw0_sameParts (by simp) ?_) ((FrozL.nil.cons (Froz.slD Part.froz _)).cons (Froz.slD Part.froz _)) rfl rfl
  simp only [S_swagelaw0_sameParts, R_swagelaw0_sameParts, MU_swagelaw0_sameParts, SW, wpD, evDL, evDM, evD, bldLD, List.contains_cons, List.contains_nil, Nat.reduceBEq, beq_self_eq_true, Nat.reduceMul, Nat.reduceSub, wpSp, Option.bind_some, Option.some.injEq, exists_eq_left', exists_eq_left, reduceIte, if_false, if_true, Nat.reduceEqDiff, Nat.reduceAdd, Nat.reduceLeDiff, Int.reduceEq, Int.reduceLT, Int.reduceLE, Int.reduceToNat, decide_true, decide_false, DV.bool.injEq, DV.int.injEq, DV.mp.injEq, DV.msl.injEq, DV.tup.injEq, DV.agg.injEq, DV.fn.injEq, true_implies, forall_const, reduceCtorEq, implies_true, ne_eq, DMem.mt, decide_eq_true_eq, decide_eq_false_iff_not]
  refine ⟨fun hne => ?_, fun hle => ?_⟩
  · exact (decide_eq_false (by rintro rfl; exact hne rfl)).symm
  · have hlen : a.length = b.length := by omega
    refine ⟨fun k δ M => ∃ i, i ≤ a.length ∧ k = a.length - i ∧ M = DMem.mt ∧ δ 0 = slD Part.c a ∧ δ 1 = slD Part.c b ∧ δ 5 = .int .i64 i ∧ (∀ j (h1 : j < a.length) (h2 : j < b.length), j < i → a[j] = b[j]),
      a.length, ⟨0, Nat.zero_le _, rfl, rfl, rfl, rfl, rfl, fun j _ _ hj => absurd hj (by omega)⟩, ?_⟩
    rintro k δ M ⟨i, hi, rfl, rfl, h0, h1, h5, hj⟩
    simp only [S1_swagelaw0_sameParts, MU_swagelaw0_sameParts, h0, h1, h5, SW, wpD, evDL, evDM, evD, bldLD, List.contains_cons, List.contains_nil, Nat.reduceBEq, beq_self_eq_true, Nat.reduceMul, Nat.reduceSub, wpSp, Option.bind_some, Option.some.injEq, exists_eq_left', exists_eq_left, reduceIte, if_false, if_true, Nat.reduceEqDiff, Nat.reduceAdd, Nat.reduceLeDiff, Int.reduceEq, Int.reduceLT, Int.reduceLE, Int.reduceToNat, decide_true, decide_false, DV.bool.injEq, DV.int.injEq, DV.mp.injEq, DV.msl.injEq, DV.tup.injEq, DV.agg.injEq, DV.fn.injEq, true_implies, forall_const, reduceCtorEq, implies_true, ne_eq, DMem.mt, decide_eq_true_eq, decide_eq_false_iff_not]
    refine ⟨fun h => ?_, fun h => ?_⟩
    · have hlt : i < a.length := by omega
      have hlt' : i < b.length := by omega
      have hz := hs _ (List.getElem_mem hlt)
      simp only [ix_slD Part.len hlt, ix_slD Part.len hlt', h0, h1, h5, fz_srcs, SameSrcs_pf a[i].locals b[i].locals hz.1, SameSrcs_pf a[i].stack b[i].stack hz.2, w64s (show i < 4611686018427387905 by omega), SW, wpD, evDL, evDM, evD, bldLD, List.contains_cons, List.contains_nil, Nat.reduceBEq, beq_self_eq_true, Nat.reduceMul, Nat.reduceSub, wpSp, Option.bind_some, Option.some.injEq, exists_eq_left', exists_eq_left, reduceIte, if_false, if_true, Nat.reduceEqDiff, Nat.reduceAdd, Nat.reduceLeDiff, Int.reduceEq, Int.reduceLT, Int.reduceLE, Int.reduceToNat, decide_true, decide_false, DV.bool.injEq, DV.int.injEq, DV.mp.injEq, DV.msl.injEq, DV.tup.injEq, DV.agg.injEq, DV.fn.injEq, true_implies, forall_const, reduceCtorEq, implies_true, ne_eq, DMem.mt, decide_eq_true_eq, decide_eq_false_iff_not]
      refine ⟨fun hne => (decide_eq_false (by rintro rfl; simp at hne)).symm, fun he => ⟨a.length - (i + 1), DMem.mt, by omega, SubD.refl _, i + 1, by omega, rfl, rfl, rfl, fun j g1 g2 hji => ?_⟩⟩
      rcases Nat.lt_or_ge j i with h2 | h2
      · exact hj j g1 g2 h2
      · have : j = i := by omega
        subst this
        cases hx : a[j]; cases hy : b[j]
        simp only [hx, hy] at he
        simp at he
        simp [he]
    · exact (decide_eq_true (same_all hlen fun j g1 g2 => hj j g1 g2 (by omega))).symm
def SzCod (x : Cod) : Prop := x.code.length ≤ Big ∧ (∀ y ∈ x.code, y.args.length ≤ Big) ∧ x.metas.length ≤ Big ∧ ∀ m ∈ x.metas, m.length ≤ Big ∧ ∀ y ∈ m, SzPart y
theorem SameCode_pf (a b : Cod) (ha : SzCod a) : pf Tryd.prog F_swagelaw0_SameCode [.agg a.c, .agg b.c] = some (.bool (decide (a = b))) := by
  obtain ⟨z1, z2, z3, z4⟩ := ha
  unfold Big at z1 z3
  refine pf_of (v := .bool _) (pc_swagelaw0_SameCode (by simp) ?_) ((FrozL.nil.cons (Froz.agg (Cod.froz b))).cons (Froz.agg (Cod.froz a))) rfl rfl
  simp only [S_swagelaw0_SameCode, R_swagelaw0_SameCode, MU_swagelaw0_SameCode, SW, wpD, evDL, evDM, evD, bldLD, List.contains_cons, List.contains_nil, Nat.reduceBEq, beq_self_eq_true, Nat.reduceMul, Nat.reduceSub, wpSp, Option.bind_some, Option.some.injEq, exists_eq_left', exists_eq_left, reduceIte, if_false, if_true, Nat.reduceEqDiff, Nat.reduceAdd, Nat.reduceLeDiff, Int.reduceEq, Int.reduceLT, Int.reduceLE, Int.reduceToNat, decide_true, decide_false, DV.bool.injEq, DV.int.injEq, DV.mp.injEq, DV.msl.injEq, DV.tup.injEq, DV.agg.injEq, DV.fn.injEq, true_implies, forall_const, reduceCtorEq, implies_true, ne_eq, DMem.mt, decide_eq_true_eq, decide_eq_false_iff_not]
  refine ⟨fun hne => (decide_eq_false (by rintro rfl; simp at hne)).symm, fun he => ?_⟩
  obtain ⟨⟨⟨e1, e2⟩, e3⟩, e4⟩ : ((a.fn = b.fn ∧ a.regs = b.regs) ∧ a.code.length = b.code.length) ∧ a.metas.length = b.metas.length := by
    simp at he; omega
  refine ⟨fun k δ M => ∃ i, i ≤ a.code.length ∧ k = a.code.length - i ∧ M = DMem.mt ∧ δ 2 = .ip a.c ∧ δ 3 = .ip b.c ∧ δ 5 = .int .i64 i ∧ (∀ j (h1 : j < a.code.length) (h2 : j < b.code.length), j < i → a.code[j] = b.code[j]),
    a.code.length, ⟨0, Nat.zero_le _, rfl, rfl, rfl, rfl, rfl, fun j _ _ hj => absurd hj (by omega)⟩, ?_⟩
  rintro k δ M ⟨i, hi, rfl, rfl, h2, h3, h5, hj⟩
  simp only [S1_swagelaw0_SameCode, MU_swagelaw0_SameCode, h2, h3, h5, SW, wpD, evDL, evDM, evD, bldLD, List.contains_cons, List.contains_nil, Nat.reduceBEq, beq_self_eq_true, Nat.reduceMul, Nat.reduceSub, wpSp, Option.bind_some, Option.some.injEq, exists_eq_left', exists_eq_left, reduceIte, if_false, if_true, Nat.reduceEqDiff, Nat.reduceAdd, Nat.reduceLeDiff, Int.reduceEq, Int.reduceLT, Int.reduceLE, Int.reduceToNat, decide_true, decide_false, DV.bool.injEq, DV.int.injEq, DV.mp.injEq, DV.msl.injEq, DV.tup.injEq, DV.agg.injEq, DV.fn.injEq, true_implies, forall_const, reduceCtorEq, implies_true, ne_eq, DMem.mt, decide_eq_true_eq, decide_eq_false_iff_not]
  refine ⟨fun h => ?_, fun h => ?_⟩
  · have hlt : i < a.code.length := by omega
    have hlt' : i < b.code.length := by omega
    simp only [ix_slD Irc.len hlt, ix_slD Irc.len hlt', ldn_irc, fz_irc, SameIr_pf a.code[i] b.code[i] (z2 _ (List.getElem_mem hlt)), h2, h3, h5, w64s (show i < 4611686018427387905 by omega), SW, wpD, evDL, evDM, evD, bldLD, List.contains_cons, List.contains_nil, Nat.reduceBEq, beq_self_eq_true, Nat.reduceMul, Nat.reduceSub, wpSp, Option.bind_some, Option.some.injEq, exists_eq_left', exists_eq_left, reduceIte, if_false, if_true, Nat.reduceEqDiff, Nat.reduceAdd, Nat.reduceLeDiff, Int.reduceEq, Int.reduceLT, Int.reduceLE, Int.reduceToNat, decide_true, decide_false, DV.bool.injEq, DV.int.injEq, DV.mp.injEq, DV.msl.injEq, DV.tup.injEq, DV.agg.injEq, DV.fn.injEq, true_implies, forall_const, reduceCtorEq, implies_true, ne_eq, DMem.mt, decide_eq_true_eq, decide_eq_false_iff_not]
    refine ⟨fun hne => (decide_eq_false (by rintro rfl; simp at hne)).symm, fun hx => ⟨a.code.length - (i + 1), DMem.mt, by omega, SubD.refl _, i + 1, by omega, rfl, rfl, rfl, fun j g1 g2 hji => ?_⟩⟩
    rcases Nat.lt_or_ge j i with h2 | h2
    · exact hj j g1 g2 h2
    · have : j = i := by omega
      subst this
      simpa using hx
  · have ec : a.code = b.code := same_all e3 fun j g1 g2 => hj j g1 g2 (by omega)
    simp only [S3_swagelaw0_SameCode, MU_swagelaw0_SameCode, h2, h3, SW, wpD, evDL, evDM, evD, bldLD, List.contains_cons, List.contains_nil, Nat.reduceBEq, beq_self_eq_true, Nat.reduceMul, Nat.reduceSub, wpSp, Option.bind_some, Option.some.injEq, exists_eq_left', exists_eq_left, reduceIte, if_false, if_true, Nat.reduceEqDiff, Nat.reduceAdd, Nat.reduceLeDiff, Int.reduceEq, Int.reduceLT, Int.reduceLE, Int.reduceToNat, decide_true, decide_false, DV.bool.injEq, DV.int.injEq, DV.mp.injEq, DV.msl.injEq, DV.tup.injEq, DV.agg.injEq, DV.fn.injEq, true_implies, forall_const, reduceCtorEq, implies_true, ne_eq, DMem.mt]
    clear hj
    refine ⟨fun k δ M => ∃ i, i ≤ a.metas.length ∧ k = a.metas.length - i ∧ M = DMem.mt ∧ δ 2 = .ip a.c ∧ δ 3 = .ip b.c ∧ δ 6 = .int .i64 i ∧ (∀ j (h1 : j < a.metas.length) (h2 : j < b.metas.length), j < i → a.metas[j] = b.metas[j]),
      a.metas.length, ⟨0, Nat.zero_le _, rfl, rfl, h2, h3, rfl, fun j _ _ hj => absurd hj (by omega)⟩, ?_⟩
    rintro k δ M ⟨i, hi, rfl, rfl, h2, h3, h6, hj⟩
    simp only [S2_swagelaw0_SameCode, MU_swagelaw0_SameCode, h2, h3, h6, SW, wpD, evDL, evDM, evD, bldLD, List.contains_cons, List.contains_nil, Nat.reduceBEq, beq_self_eq_true, Nat.reduceMul, Nat.reduceSub, wpSp, Option.bind_some, Option.some.injEq, exists_eq_left', exists_eq_left, reduceIte, if_false, if_true, Nat.reduceEqDiff, Nat.reduceAdd, Nat.reduceLeDiff, Int.reduceEq, Int.reduceLT, Int.reduceLE, Int.reduceToNat, decide_true, decide_false, DV.bool.injEq, DV.int.injEq, DV.mp.injEq, DV.msl.injEq, DV.tup.injEq, DV.agg.injEq, DV.fn.injEq, true_implies, forall_const, reduceCtorEq, implies_true, ne_eq, DMem.mt, decide_eq_true_eq, decide_eq_false_iff_not]
    refine ⟨fun h => ?_, fun h => ?_⟩
    · have hlt : i < a.metas.length := by omega
      have hlt' : i < b.metas.length := by omega
      have hz := z4 _ (List.getElem_mem hlt)
      simp only [ix_slD metaC_len hlt, ix_slD metaC_len hlt', fz_parts, sameParts_pf a.metas[i] b.metas[i] hz.1 hz.2, h2, h3, h6, w64s (show i < 4611686018427387905 by omega), SW, wpD, evDL, evDM, evD, bldLD, List.contains_cons, List.contains_nil, Nat.reduceBEq, beq_self_eq_true, Nat.reduceMul, Nat.reduceSub, wpSp, Option.bind_some, Option.some.injEq, exists_eq_left', exists_eq_left, reduceIte, if_false, if_true, Nat.reduceEqDiff, Nat.reduceAdd, Nat.reduceLeDiff, Int.reduceEq, Int.reduceLT, Int.reduceLE, Int.reduceToNat, decide_true, decide_false, DV.bool.injEq, DV.int.injEq, DV.mp.injEq, DV.msl.injEq, DV.tup.injEq, DV.agg.injEq, DV.fn.injEq, true_implies, forall_const, reduceCtorEq, implies_true, ne_eq, DMem.mt, decide_eq_true_eq, decide_eq_false_iff_not]
      refine ⟨fun hne => (decide_eq_false (by rintro rfl; simp at hne)).symm, fun hx => ⟨a.metas.length - (i + 1), DMem.mt, by omega, SubD.refl _, i + 1, by omega, rfl, rfl, rfl, fun j g1 g2 hji => ?_⟩⟩
      rcases Nat.lt_or_ge j i with h2 | h2
      · exact hj j g1 g2 h2
      · have : j = i := by omega
        subst this
        simpa using hx
    · have em : a.metas = b.metas := same_all e4 fun j g1 g2 => hj j g1 g2 (by omega)
      refine (decide_eq_true ?_).symm
      cases a; cases b; simp_all
end Go.Proofs.YticlgdhhnjpkjaaDoor.Pf
namespace Go.Proofs.YticlgdhhnjpkjaaDoor.Pf
open Go Go.RowKit Go.Proofs Go.Proofs.YticlgdhhnjpkjaaDoor.Mw Go.Proofs.YticlgdhhnjpkjaaDoor.Sx
set_option linter.unusedVariables false
set_option linter.unusedSimpArgs false
set_option maxRecDepth 8000
abbrev shD (p : List Fnc) (c : Cod) : DV := .ip [.ip c.c, .ip [slD Fnc.c p], rowsD (allR p).1]
theorem rows_froz (l : List (List Int)) : Froz (rowsD l) := Froz.isl (FrozL.map (fun x => Froz.slI x) l)
theorem Is_pf (x : Int) : pf Tryd.prog F_wrap_Is [.int .i64 x] = some (.bool (isB x)) := wrapIs_pf x
theorem sh_froz (p : List Fnc) (c : Cod) : Froz (shD p c) := Froz.ip (((FrozL.nil.cons (rows_froz _)).cons (Froz.ip (FrozL.nil.cons (Froz.slD Fnc.froz p)))).cons (Froz.ip (Cod.froz c)))
def leavesB (k : Int) : Bool := decide (k = 9) || decide (k = 10)
def setsB (k : Int) : Bool := decide (k = 1) || (decide (k = 2) || (decide (k = 3) || decide (k = 6)))
theorem Leaves_pf (k : Int) : pf Tryd.prog F_ir_Leaves [.int .i64 k] = some (.bool (leavesB k)) := by
  refine pf_of (v := .bool _) (pc_ir_Leaves (by simp) ?_) ((FrozL.nil).cons (Froz.int _ _)) rfl rfl
  simp only [S_ir_Leaves, R_ir_Leaves, MU_ir_Leaves, MU_ir_Leaves, SW, wpD, evDL, evDM, evD, bldLD, List.contains_cons, List.contains_nil, Nat.reduceBEq, beq_self_eq_true, Nat.reduceMul, Nat.reduceSub, wpSp, Option.bind_some, Option.some.injEq, exists_eq_left', exists_eq_left, reduceIte, if_false, if_true, Nat.reduceEqDiff, Nat.reduceAdd, Nat.reduceLeDiff, Int.reduceEq, Int.reduceLT, Int.reduceLE, Int.reduceToNat, decide_true, decide_false, DV.bool.injEq, DV.int.injEq, DV.mp.injEq, DV.msl.injEq, DV.tup.injEq, DV.agg.injEq, DV.fn.injEq, true_implies, forall_const, reduceCtorEq, implies_true, ne_eq, DMem.mt, leavesB]
theorem Sets_pf (k : Int) : pf Tryd.prog F_ir_Sets [.int .i64 k] = some (.bool (setsB k)) := by
  refine pf_of (v := .bool _) (pc_ir_Sets (by simp) ?_) ((FrozL.nil).cons (Froz.int _ _)) rfl rfl
  simp only [S_ir_Sets, R_ir_Sets, MU_ir_Sets, MU_ir_Sets, SW, wpD, evDL, evDM, evD, bldLD, List.contains_cons, List.contains_nil, Nat.reduceBEq, beq_self_eq_true, Nat.reduceMul, Nat.reduceSub, wpSp, Option.bind_some, Option.some.injEq, exists_eq_left', exists_eq_left, reduceIte, if_false, if_true, Nat.reduceEqDiff, Nat.reduceAdd, Nat.reduceLeDiff, Int.reduceEq, Int.reduceLT, Int.reduceLE, Int.reduceToNat, decide_true, decide_false, DV.bool.injEq, DV.int.injEq, DV.mp.injEq, DV.msl.injEq, DV.tup.injEq, DV.agg.injEq, DV.fn.injEq, true_implies, forall_const, reduceCtorEq, implies_true, ne_eq, DMem.mt]
  refine ⟨fun h => ?_, fun h => ?_⟩
  · exact h.symm
  · exact h.symm
theorem reg_pf (p : List Fnc) (c : Cod) (r : Int) : pf Tryd.prog F_ir_sheet_reg [shD p c, .int .i64 r] = some (.bool (regB c.regs r)) := by
  refine pf_of (v := .bool _) (pc_ir_sheet_reg (by simp) ?_) ((FrozL.nil.cons (Froz.int _ _)).cons (sh_froz p c)) rfl rfl
  simp only [S_ir_sheet_reg, R_ir_sheet_reg, MU_ir_sheet_reg, MU_ir_sheet_reg, SW, wpD, evDL, evDM, evD, bldLD, List.contains_cons, List.contains_nil, Nat.reduceBEq, beq_self_eq_true, Nat.reduceMul, Nat.reduceSub, wpSp, Option.bind_some, Option.some.injEq, exists_eq_left', exists_eq_left, reduceIte, if_false, if_true, Nat.reduceEqDiff, Nat.reduceAdd, Nat.reduceLeDiff, Int.reduceEq, Int.reduceLT, Int.reduceLE, Int.reduceToNat, decide_true, decide_false, DV.bool.injEq, DV.int.injEq, DV.mp.injEq, DV.msl.injEq, DV.tup.injEq, DV.agg.injEq, DV.fn.injEq, true_implies, forall_const, reduceCtorEq, implies_true, ne_eq, DMem.mt, regB]
def kB (p : List Fnc) (n : Nat) (x : Irc) : Bool :=
  if x.kind = 1 then isB x.k
  else if x.kind = 9 then isB x.k && (decide (x.b = 0) || decide (x.b = 1))
  else if x.kind = 3 then decide (3 ≤ x.k) && decide (x.k ≤ 9)
  else if x.kind = 4 ∨ x.kind = 5 then decide (0 ≤ x.k) && decide (x.k < n)
  else if x.kind = 6 then (decide (0 ≤ x.k) && decide (x.k < p.length)) && decide ((x.args.length : Int) = argsOf p x.k)
  else decide (x.k = 0)
theorem k_pf (p : List Fnc) (c : Cod) (x : Irc) : pf Tryd.prog F_ir_sheet_k [shD p c, .ip x.c] = some (.bool (kB p c.code.length x)) := by
  refine pf_of (v := .bool _) (pc_ir_sheet_k (by simp) ?_) ((FrozL.nil.cons (Froz.ip (Irc.froz x))).cons (sh_froz p c)) rfl rfl
  simp only [S_ir_sheet_k, R_ir_sheet_k, MU_ir_sheet_k, MU_ir_sheet_k, Is_pf, fz_int, List.map_cons, List.map_nil, SW, wpD, evDL, evDM, evD, bldLD, List.contains_cons, List.contains_nil, Nat.reduceBEq, beq_self_eq_true, Nat.reduceMul, Nat.reduceSub, wpSp, Option.bind_some, Option.some.injEq, exists_eq_left', exists_eq_left, reduceIte, if_false, if_true, Nat.reduceEqDiff, Nat.reduceAdd, Nat.reduceLeDiff, Int.reduceEq, Int.reduceLT, Int.reduceLE, Int.reduceToNat, decide_true, decide_false, DV.bool.injEq, DV.int.injEq, DV.mp.injEq, DV.msl.injEq, DV.tup.injEq, DV.agg.injEq, DV.fn.injEq, true_implies, forall_const, reduceCtorEq, implies_true, ne_eq, DMem.mt]
  refine ⟨fun h1 => ?_, fun h1 => ⟨fun h9 => ?_, fun h9 => ⟨fun h3 => ?_, fun h3 => ⟨fun h45 => ?_, fun h45 => ⟨fun h6 => ?_, fun h6 => ?_⟩⟩⟩⟩⟩
  · have e : x.kind = 1 := of_decide_eq_true h1
    simp [kB, e]
  · have e : x.kind = 9 := of_decide_eq_true h9
    cases hb : isB x.k <;> by_cases hc : x.b = 0 <;> simp [hb, hc, e, kB, grdTT, grdTF, grdFF, grdFT, grdU, SW, wpD, evDL, evDM, evD, bldLD, List.contains_cons, List.contains_nil, Nat.reduceBEq, beq_self_eq_true, Nat.reduceMul, Nat.reduceSub, wpSp, Option.bind_some, Option.some.injEq, exists_eq_left', exists_eq_left, reduceIte, if_false, if_true, Nat.reduceEqDiff, Nat.reduceAdd, Nat.reduceLeDiff, Int.reduceEq, Int.reduceLT, Int.reduceLE, Int.reduceToNat, decide_true, decide_false, DV.bool.injEq, DV.int.injEq, DV.mp.injEq, DV.msl.injEq, DV.tup.injEq, DV.agg.injEq, DV.fn.injEq, true_implies, forall_const, reduceCtorEq, implies_true, ne_eq, DMem.mt]
  · have e : x.kind = 3 := of_decide_eq_true h3
    simp [kB, e]
  · have e : x.kind = 4 ∨ x.kind = 5 := by simpa using h45
    unfold kB
    rw [if_neg (by omega), if_neg (by omega), if_neg (by omega), if_pos e]
  · have e : x.kind = 6 := of_decide_eq_true h6
    unfold kB
    rw [if_neg (by omega), if_neg (by omega), if_neg (by omega), if_neg (by omega), if_pos e]
    by_cases hr : 0 ≤ x.k ∧ x.k < p.length
    · obtain ⟨n, hn⟩ := Int.eq_ofNat_of_zero_le hr.1
      have hnl : n < p.length := by omega
      have ha : argsOf p x.k = p[n].args := by unfold argsOf; rw [hn, Int.toNat_natCast, List.getElem?_eq_getElem hnl]
      rw [ha, hn]
      simp only [ix_slD Fnc.len hnl, decide_eq_true (show (0 : Int) ≤ (n : Int) by omega), decide_eq_true (show (n : Int) < p.length by omega), SW, wpD, evDL, evDM, evD, bldLD, List.contains_cons, List.contains_nil, Nat.reduceBEq, beq_self_eq_true, Nat.reduceMul, Nat.reduceSub, wpSp, Option.bind_some, Option.some.injEq, exists_eq_left', exists_eq_left, reduceIte, if_false, if_true, Nat.reduceEqDiff, Nat.reduceAdd, Nat.reduceLeDiff, Int.reduceEq, Int.reduceLT, Int.reduceLE, Int.reduceToNat, decide_true, decide_false, DV.bool.injEq, DV.int.injEq, DV.mp.injEq, DV.msl.injEq, DV.tup.injEq, DV.agg.injEq, DV.fn.injEq, true_implies, forall_const, reduceCtorEq, implies_true, ne_eq, DMem.mt]
    · have hf : (decide (0 ≤ x.k) && decide (x.k < (p.length : Int))) = false := by
        rw [← Bool.not_eq_true]; simp only [Bool.and_eq_true, decide_eq_true_eq]; exact hr
      simp only [hf, SW, wpD, evDL, evDM, evD, bldLD, List.contains_cons, List.contains_nil, Nat.reduceBEq, beq_self_eq_true, Nat.reduceMul, Nat.reduceSub, wpSp, Option.bind_some, Option.some.injEq, exists_eq_left', exists_eq_left, reduceIte, if_false, if_true, Nat.reduceEqDiff, Nat.reduceAdd, Nat.reduceLeDiff, Int.reduceEq, Int.reduceLT, Int.reduceLE, Int.reduceToNat, decide_true, decide_false, DV.bool.injEq, DV.int.injEq, DV.mp.injEq, DV.msl.injEq, DV.tup.injEq, DV.agg.injEq, DV.fn.injEq, true_implies, forall_const, reduceCtorEq, implies_true, ne_eq, DMem.mt]
  · simp at h1 h9 h3 h45 h6
    unfold kB
    rw [if_neg h1, if_neg h9, if_neg h3, if_neg (by omega), if_neg h6]
def dearB (at' : Nat) (x : Irc) : Bool := decide (x.cost ≤ 256) && (decide (0 < x.cost) || (decide (x.cost = 0) && !((decide (x.kind = 6) || decide (x.kind = 7)) || (goesB x.kind && decide (x.k ≤ at')))))
theorem dear_pf (p : List Fnc) (c : Cod) (i : Nat) (x : Irc) : pf Tryd.prog F_ir_sheet_dear [shD p c, .int .i64 i, .ip x.c] = some (.bool (dearB i x)) := by
  refine pf_of (v := .bool _) (pc_ir_sheet_dear (by simp) ?_) (((FrozL.nil.cons (Froz.ip (Irc.froz x))).cons (Froz.int _ _)).cons (sh_froz p c)) rfl rfl
  simp only [S_ir_sheet_dear, R_ir_sheet_dear, MU_ir_sheet_dear, MU_ir_sheet_dear, Goes_pf, fz_int, List.map_cons, List.map_nil, SW, wpD, evDL, evDM, evD, bldLD, List.contains_cons, List.contains_nil, Nat.reduceBEq, beq_self_eq_true, Nat.reduceMul, Nat.reduceSub, wpSp, Option.bind_some, Option.some.injEq, exists_eq_left', exists_eq_left, reduceIte, if_false, if_true, Nat.reduceEqDiff, Nat.reduceAdd, Nat.reduceLeDiff, Int.reduceEq, Int.reduceLT, Int.reduceLE, Int.reduceToNat, decide_true, decide_false, DV.bool.injEq, DV.int.injEq, DV.mp.injEq, DV.msl.injEq, DV.tup.injEq, DV.agg.injEq, DV.fn.injEq, true_implies, forall_const, reduceCtorEq, implies_true, ne_eq, DMem.mt]
  have e7 : ((decide (x.kind = 6) || decide (x.kind = 7)) = true ∧ True) ∨ (decide (x.kind = 6) || decide (x.kind = 7)) = false := by
    cases (decide (x.kind = 6) || decide (x.kind = 7)) <;> simp
  unfold dearB
  generalize (decide (x.kind = 6) || decide (x.kind = 7)) = m
  generalize goesB x.kind = g
  generalize decide (x.k ≤ (i : Int)) = kk
  by_cases c1 : x.cost ≤ 256 <;> by_cases c2 : 0 < x.cost <;> by_cases c3 : x.cost = 0 <;> cases m <;> cases g <;> simp [c1, c2, c3, grdTT, grdTF, grdFF, grdFT, grdU, SW, wpD, evDL, evDM, evD, bldLD, List.contains_cons, List.contains_nil, Nat.reduceBEq, beq_self_eq_true, Nat.reduceMul, Nat.reduceSub, wpSp, Option.bind_some, Option.some.injEq, exists_eq_left', exists_eq_left, reduceIte, if_false, if_true, Nat.reduceEqDiff, Nat.reduceAdd, Nat.reduceLeDiff, Int.reduceEq, Int.reduceLT, Int.reduceLE, Int.reduceToNat, decide_true, decide_false, DV.bool.injEq, DV.int.injEq, DV.mp.injEq, DV.msl.injEq, DV.tup.injEq, DV.agg.injEq, DV.fn.injEq, true_implies, forall_const, reduceCtorEq, implies_true, ne_eq, DMem.mt]
theorem srcNot_pf (p : List Fnc) (c : Cod) (s : Src) : pf Tryd.prog F_ir_sheet_srcNot [shD p c, .agg s.c] = some (.bool (!srcB c.regs s)) := by
  refine pf_of (v := .bool _) (pc_ir_sheet_srcNot (by simp) ?_) ((FrozL.nil.cons (Froz.agg (Src.froz s))).cons (sh_froz p c)) rfl rfl
  simp only [S_ir_sheet_srcNot, R_ir_sheet_srcNot, MU_ir_sheet_srcNot, MU_ir_sheet_srcNot, Is_pf, reg_pf, fz_of (sh_froz p c), fz_int, List.map_cons, List.map_nil, SW, wpD, evDL, evDM, evD, bldLD, List.contains_cons, List.contains_nil, Nat.reduceBEq, beq_self_eq_true, Nat.reduceMul, Nat.reduceSub, wpSp, Option.bind_some, Option.some.injEq, exists_eq_left', exists_eq_left, reduceIte, if_false, if_true, Nat.reduceEqDiff, Nat.reduceAdd, Nat.reduceLeDiff, Int.reduceEq, Int.reduceLT, Int.reduceLE, Int.reduceToNat, decide_true, decide_false, DV.bool.injEq, DV.int.injEq, DV.mp.injEq, DV.msl.injEq, DV.tup.injEq, DV.agg.injEq, DV.fn.injEq, true_implies, forall_const, reduceCtorEq, implies_true, ne_eq, DMem.mt]
  exact ⟨fun h => by simp [srcB, h], fun h => by simp [srcB, h]⟩
end Go.Proofs.YticlgdhhnjpkjaaDoor.Pf
namespace Go.Proofs.YticlgdhhnjpkjaaDoor.Pf
open Go Go.RowKit Go.Proofs Go.Proofs.YticlgdhhnjpkjaaDoor.Mw Go.Proofs.YticlgdhhnjpkjaaDoor.Sx
set_option linter.unusedVariables false
set_option linter.unusedSimpArgs false
set_option maxRecDepth 8000
def readsV (x : Irc) : List Int :=
  if x.kind = 3 then [x.b, x.a] else if x.kind = 2 ∨ x.kind = 5 ∨ x.kind = 7 ∨ x.kind = 8 ∨ x.kind = 9 then [x.a] else if x.kind = 6 then x.args else []
def PtrsD (M : DMem) (cs : List DV) (l : List Int) : Prop := cs.length = l.length ∧ ∀ i (h : i < l.length), ∃ d, cs[i]? = some d ∧ nckD d = some d ∧ ∀ M', SubD M M' → ldD M' d = some (.int .i64 l[i])
theorem PtrsD.nil {M : DMem} : PtrsD M [] [] := ⟨rfl, fun i h => absurd h (by simp)⟩
theorem PtrsD.snoc {M : DMem} {cs : List DV} {l : List Int} (h : PtrsD M cs l) {d : DV} {v : Int} (hn : nckD d = some d) (hv : ∀ M', SubD M M' → ldD M' d = some (.int .i64 v)) : PtrsD M (cs ++ [d]) (l ++ [v]) := by
  obtain ⟨h1, h2⟩ := h
  refine ⟨by simp [h1], fun i hi => ?_⟩
  rcases Nat.lt_or_ge i l.length with h3 | h3
  · obtain ⟨d', g1, g2, g3⟩ := h2 i h3
    exact ⟨d', by rw [List.getElem?_append_left (by omega)]; exact g1, g2, fun M' hs => by rw [g3 M' hs, List.getElem_append_left h3]⟩
  · have : i = l.length := by simp at hi; omega
    subst this
    exact ⟨d, by rw [List.getElem?_append_right (by omega)]; simp [h1], hn, fun M' hs => by rw [hv M' hs]; simp⟩
theorem app_ptr {M M1 : DMem} {d x : DV} {n : Nat} {cs : List DV} {e : TypeId} {Post : DV → DMem → Prop} (ho : OwnD M1 1 d n cs) (hn : ∀ b, blkD d = some b → M b = none) (hs : SubD M M1) (hp : plainD x = true) (hle : n ≤ 17592186044000)
    (hP : ∀ d' M2, OwnD M2 1 d' (n + 1) (cs ++ [x]) → (∀ b, blkD d' = some b → M b = none) → SubD M M2 → Post d' M2) :
    ∃ k' news, RowD M1 1 (.isl 1 [x]) k' news ∧ news.all plainD = true ∧ ∃ n', (n' + k') * 8 ≤ 140737488355328 ∧ n' + k' ≤ 9223372036854775807 ∧ AppD M1 e 1 d n' k' news Post :=
  app_one ho hp (by omega) (by omega) fun d' M2 h1 hg => hP d' M2 h1 (fun b hb => by
    rcases hg.here with e | ⟨q, e, hq⟩
    · exact hn b (e ▸ hb)
    · rw [e] at hb; cases hb
      cases hM : M b with
      | none => rfl
      | some B => rw [hs b B hM] at hq; cases hq) fun b B hB => hg.keep b B (hs b B hB) fun hh => by rw [hn b hh] at hB; cases hB
theorem Reads_pc {M : DMem} {q : Nat} {x : Irc} (hq : M q = some ⟨38, 9, x.c⟩) (ha : x.args.length * 8 ≤ 140737488351232) {R : DV → DMem → Prop}
    (hR : ∀ d M' cs, OwnD M' 1 d (readsV x).length cs → PtrsD M cs (readsV x) → SubD M M' → R d M') : PC Tryd.prog F_ir_Reads [.mp q 0] R M := by
  refine pc_ir_Reads (by simp) ?_
  have p2 : ∀ M', SubD M M' → ldD M' (.mp q 2) = some (.int .i64 x.a) := fun M' hs => by rw [ldM, hs q _ hq] <;> rfl
  have p3 : ∀ M', SubD M M' → ldD M' (.mp q 3) = some (.int .i64 x.b) := fun M' hs => by rw [ldM, hs q _ hq] <;> rfl
  have hz : ∀ b, blkD .zsl = some b → M b = none := fun b hb => by cases hb
  have s2 := (PtrsD.nil (M := M)).snoc (d := .mp q 2) rfl p2
  simp only [S_ir_Reads, R_ir_Reads, MU_ir_Reads, hq, SW, wpD, evDL, evDM, evD, bldLD, List.contains_cons, List.contains_nil, Nat.reduceBEq, beq_self_eq_true, Nat.reduceMul, Nat.reduceSub, wpSp, Option.bind_some, Option.some.injEq, exists_eq_left', exists_eq_left, reduceIte, if_false, if_true, Nat.reduceEqDiff, Nat.reduceAdd, Nat.reduceLeDiff, Int.reduceEq, Int.reduceLT, Int.reduceLE, Int.reduceToNat, decide_true, decide_false, DV.bool.injEq, DV.int.injEq, DV.mp.injEq, DV.msl.injEq, DV.tup.injEq, DV.agg.injEq, DV.fn.injEq, true_implies, forall_const, reduceCtorEq, implies_true, ne_eq, DMem.mt]
  refine ⟨fun h3 => ?_, fun h3 => ⟨fun h2 => ?_, fun h2 => ⟨fun h6 => ?_, fun h6 => ?_⟩⟩⟩
  · have e : readsV x = [x.b, x.a] := by unfold readsV; rw [if_pos (of_decide_eq_true h3)]
    rw [e] at hR
    refine app_ptr (M := M) (OwnD.zsl _ _) hz (SubD.refl M) rfl (by omega) fun d1 M1 o1 n1 k1 => ?_
    refine app_ptr (M := M) o1 n1 k1 rfl (by omega) fun d2 M2 o2 n2 k2 => ?_
    exact hR d2 M2 _ o2 (((PtrsD.nil (M := M)).snoc rfl p3).snoc rfl p2) k2
  · have e : readsV x = [x.a] := by
      unfold readsV
      simp at h2 h3
      rw [if_neg h3, if_pos (by omega)]
    rw [e] at hR
    refine app_ptr (M := M) (OwnD.zsl _ _) hz (SubD.refl M) rfl (by omega) fun d1 M1 o1 n1 k1 => ?_
    exact hR d1 M1 _ o1 s2 k1
  · have e : readsV x = x.args := by
      unfold readsV
      simp at h2 h3 h6
      rw [if_neg h3, if_neg (by omega), if_pos h6]
    rw [e] at hR
    refine ⟨fun f δ M' => ∃ (i : Nat) (cs : List DV), i ≤ x.args.length ∧ f = x.args.length - i ∧ δ 0 = .mp q 0 ∧ δ 35 = .int .i64 x.args.length ∧ δ 36 = .int .i64 i ∧ OwnD M' 1 (δ 3) i cs ∧ PtrsD M cs (x.args.take i) ∧ (∀ b, blkD (δ 3) = some b → M b = none) ∧ SubD M M', x.args.length,
      ⟨0, [], Nat.zero_le _, rfl, rfl, rfl, rfl, OwnD.zsl _ _, PtrsD.nil, hz, SubD.refl M⟩, ?_⟩
    rintro f δ M' ⟨i, cs, hi, rfl, h0, h35, h36, ho, hp, hn, hs⟩
    simp only [S1_ir_Reads, MU_ir_Reads, h0, h35, h36, hs q _ hq, SW, wpD, evDL, evDM, evD, bldLD, List.contains_cons, List.contains_nil, Nat.reduceBEq, beq_self_eq_true, Nat.reduceMul, Nat.reduceSub, wpSp, Option.bind_some, Option.some.injEq, exists_eq_left', exists_eq_left, reduceIte, if_false, if_true, Nat.reduceEqDiff, Nat.reduceAdd, Nat.reduceLeDiff, Int.reduceEq, Int.reduceLT, Int.reduceLE, Int.reduceToNat, decide_true, decide_false, DV.bool.injEq, DV.int.injEq, DV.mp.injEq, DV.msl.injEq, DV.tup.injEq, DV.agg.injEq, DV.fn.injEq, true_implies, forall_const, reduceCtorEq, implies_true, ne_eq, DMem.mt, decide_eq_true_eq, decide_eq_false_iff_not]
    refine ⟨fun hlt => ?_, fun hge => ?_⟩
    · have hil : i < x.args.length := by omega
      simp only [ix_slI hil, SW, wpD, evDL, evDM, evD, bldLD, List.contains_cons, List.contains_nil, Nat.reduceBEq, beq_self_eq_true, Nat.reduceMul, Nat.reduceSub, wpSp, Option.bind_some, Option.some.injEq, exists_eq_left', exists_eq_left, reduceIte, if_false, if_true, Nat.reduceEqDiff, Nat.reduceAdd, Nat.reduceLeDiff, Int.reduceEq, Int.reduceLT, Int.reduceLE, Int.reduceToNat, decide_true, decide_false, DV.bool.injEq, DV.int.injEq, DV.mp.injEq, DV.msl.injEq, DV.tup.injEq, DV.agg.injEq, DV.fn.injEq, true_implies, forall_const, reduceCtorEq, implies_true, ne_eq, DMem.mt]
      refine app_ptr (M := M) ho hn hs rfl (by omega) fun d2 M2 o2 n2 k2 => ?_
      have ei : wr64 ((i : Int) + 1) = ((i + 1 : Nat) : Int) := w64s (by omega)
      try simp only [h0, h35, h36, ei, SW, wpD, evDL, evDM, evD, bldLD, List.contains_cons, List.contains_nil, Nat.reduceBEq, beq_self_eq_true, Nat.reduceMul, Nat.reduceSub, wpSp, Option.bind_some, Option.some.injEq, exists_eq_left', exists_eq_left, reduceIte, if_false, if_true, Nat.reduceEqDiff, Nat.reduceAdd, Nat.reduceLeDiff, Int.reduceEq, Int.reduceLT, Int.reduceLE, Int.reduceToNat, decide_true, decide_false, DV.bool.injEq, DV.int.injEq, DV.mp.injEq, DV.msl.injEq, DV.tup.injEq, DV.agg.injEq, DV.fn.injEq, true_implies, forall_const, reduceCtorEq, implies_true, ne_eq, DMem.mt]
      refine ⟨x.args.length - (i + 1), M2, by omega, SubD.refl _, i + 1, _, by omega, rfl, rfl, o2, ?_, n2, k2⟩
      rw [List.take_succ_eq_append_getElem hil]
      exact hp.snoc rfl fun M' _ => rfl
    · have : i = x.args.length := by omega
      subst this
      rw [List.take_length] at hp
      try simp only [SW, wpD, evDL, evDM, evD, bldLD, List.contains_cons, List.contains_nil, Nat.reduceBEq, beq_self_eq_true, Nat.reduceMul, Nat.reduceSub, wpSp, Option.bind_some, Option.some.injEq, exists_eq_left', exists_eq_left, reduceIte, if_false, if_true, Nat.reduceEqDiff, Nat.reduceAdd, Nat.reduceLeDiff, Int.reduceEq, Int.reduceLT, Int.reduceLE, Int.reduceToNat, decide_true, decide_false, DV.bool.injEq, DV.int.injEq, DV.mp.injEq, DV.msl.injEq, DV.tup.injEq, DV.agg.injEq, DV.fn.injEq, true_implies, forall_const, reduceCtorEq, implies_true, ne_eq, DMem.mt]
      exact hR _ M' cs ho hp hs
  · have e : readsV x = [] := by
      unfold readsV
      simp at h2 h3 h6
      rw [if_neg h3, if_neg (by omega), if_neg h6]
    rw [e] at hR
    exact hR _ M [] (OwnD.zsl _ _) PtrsD.nil (SubD.refl M)
end Go.Proofs.YticlgdhhnjpkjaaDoor.Pf
namespace Go.Proofs.YticlgdhhnjpkjaaDoor.Pf
open Go Go.RowKit Go.Proofs Go.Proofs.YticlgdhhnjpkjaaDoor.Mw Go.Proofs.YticlgdhhnjpkjaaDoor.Sx
set_option linter.unusedVariables false
set_option linter.unusedSimpArgs false
set_option maxRecDepth 8000
def restB (regs : Int) (x : Irc) : Bool :=
  (readsV x).all (regB regs) && ((!setsB x.kind || regB regs x.r) &&
    ((((decide ((if setsB x.kind = true then 0 else x.r) = 0)) && decide ((if x.kind = 3 ∨ x.kind = 9 ∨ x.kind = 2 ∨ x.kind = 5 ∨ x.kind = 7 ∨ x.kind = 8 then 0 else x.a) = 0)) && decide ((if x.kind = 3 ∨ x.kind = 9 then 0 else x.b) = 0)) && decide ((if leavesB x.kind = true then 0 else x.mt) = 0)))
set_option maxHeartbeats 2000000 in
theorem ins_S3 (p : List Fnc) (c : Cod) (x : Irc) {M : DMem} {δ : DEnv} {q : Nat} {cs : List DV} {d : DV} (h0 : δ 0 = shD p c) (h5 : δ 5 = .mp q 0) (h81 : δ 81 = d) (hq : M q = some ⟨38, 9, x.c⟩) (ho : OwnD M 1 d (readsV x).length cs)
    (hp : ∀ i (h : i < (readsV x).length), ∃ e, cs[i]? = some e ∧ nckD e = some e ∧ ldD M e = some (.int .i64 (readsV x)[i])) (hk : 0 ≤ x.kind ∧ x.kind ≤ 11) (hlen : (readsV x).length * 8 ≤ 140737488351232) {b : Bool} (hb : b = restB c.regs x) {KK : DEnv → DMem → Prop} {XX : Nat → DEnv → DMem → Prop} :
    wpD Tryd.prog MU_ir_sheet_ins (fun f => roL.contains f) (fun t => G_ir_sheet_ins.contains t) 137 S3_ir_sheet_ins KK XX (fun δ M' => δ 4 = .bool b) δ M := by
  simp only [S3_ir_sheet_ins, MU_ir_sheet_ins, h81, ho.len, SW, wpD, evDL, evDM, evD, bldLD, List.contains_cons, List.contains_nil, Nat.reduceBEq, beq_self_eq_true, Nat.reduceMul, Nat.reduceSub, wpSp, Option.bind_some, Option.some.injEq, exists_eq_left', exists_eq_left, reduceIte, if_false, if_true, Nat.reduceEqDiff, Nat.reduceAdd, Nat.reduceLeDiff, Int.reduceEq, Int.reduceLT, Int.reduceLE, Int.reduceToNat, decide_true, decide_false, DV.bool.injEq, DV.int.injEq, DV.mp.injEq, DV.msl.injEq, DV.tup.injEq, DV.agg.injEq, DV.fn.injEq, true_implies, forall_const, reduceCtorEq, implies_true, ne_eq, DMem.mt]
  refine ⟨fun k δ' M' => ∃ i : Nat, i ≤ (readsV x).length ∧ k = (readsV x).length - i ∧ M' = M ∧ δ' 0 = shD p c ∧ δ' 5 = .mp q 0 ∧ δ' 81 = d ∧ δ' 82 = .int .i64 (readsV x).length ∧ δ' 83 = .int .i64 i ∧ ∀ y ∈ (readsV x).take i, regB c.regs y = true, (readsV x).length,
    ⟨0, Nat.zero_le _, rfl, rfl, h0, h5, h81, rfl, rfl, by simp⟩, ?_⟩
  clear h0 h5 h81
  rintro k δ M' ⟨i, hi, rfl, rfl, h0, h5, h81, h82, h83, hall⟩
  simp only [S1_ir_sheet_ins, MU_ir_sheet_ins, h0, h5, h81, h82, h83, SW, wpD, evDL, evDM, evD, bldLD, List.contains_cons, List.contains_nil, Nat.reduceBEq, beq_self_eq_true, Nat.reduceMul, Nat.reduceSub, wpSp, Option.bind_some, Option.some.injEq, exists_eq_left', exists_eq_left, reduceIte, if_false, if_true, Nat.reduceEqDiff, Nat.reduceAdd, Nat.reduceLeDiff, Int.reduceEq, Int.reduceLT, Int.reduceLE, Int.reduceToNat, decide_true, decide_false, DV.bool.injEq, DV.int.injEq, DV.mp.injEq, DV.msl.injEq, DV.tup.injEq, DV.agg.injEq, DV.fn.injEq, true_implies, forall_const, reduceCtorEq, implies_true, ne_eq, DMem.mt, decide_eq_true_eq, decide_eq_false_iff_not]
  refine ⟨fun hlt => ?_, fun hge => ?_⟩
  · have hil : i < (readsV x).length := by omega
    obtain ⟨e, e1, e2, e3⟩ := hp i hil
    obtain ⟨bb, ty, cc, g1, g2, g3⟩ := ho.ix (k := .i64) hil
    have g4 : ((M' bb).bind fun B => B.cs[i]?) = some e := by rw [g2]; exact e1
    have ei : wr64 ((i : Int) + 1) = ((i + 1 : Nat) : Int) := w64s (by omega)
    simp only [g1, g4, e2, e3, h0, h5, h81, h82, h83, ei, reg_pf, fz_of (sh_froz p c), fz_irs, fz_metas, fz_prg, fz_of (rows_froz _), fz_int, List.map_cons, List.map_nil, SW, wpD, evDL, evDM, evD, bldLD, List.contains_cons, List.contains_nil, Nat.reduceBEq, beq_self_eq_true, Nat.reduceMul, Nat.reduceSub, wpSp, Option.bind_some, Option.some.injEq, exists_eq_left', exists_eq_left, reduceIte, if_false, if_true, Nat.reduceEqDiff, Nat.reduceAdd, Nat.reduceLeDiff, Int.reduceEq, Int.reduceLT, Int.reduceLE, Int.reduceToNat, decide_true, decide_false, DV.bool.injEq, DV.int.injEq, DV.mp.injEq, DV.msl.injEq, DV.tup.injEq, DV.agg.injEq, DV.fn.injEq, true_implies, forall_const, reduceCtorEq, implies_true, ne_eq, DMem.mt]
    refine ⟨fun hr => ?_, fun hr => ?_⟩
    · have hr : regB c.regs (readsV x)[i] = false := by simpa using hr
      have : b = false := by
        rw [hb]; unfold restB
        have : (readsV x).all (regB c.regs) = false := by
          rw [List.all_eq_false]; exact ⟨_, List.getElem_mem hil, by simp [hr]⟩
        rw [this] <;> rfl
      rw [this]
    · have hr : regB c.regs (readsV x)[i] = true := by simpa using hr
      refine ⟨(readsV x).length - (i + 1), M', by omega, SubD.refl _, i + 1, by omega, rfl, rfl, rfl, fun y hy => ?_⟩
      rw [List.take_succ_eq_append_getElem hil, List.mem_append] at hy
      rcases hy with hy | hy
      · exact hall y hy
      · simp at hy; rw [hy]; exact hr
  · have : i = (readsV x).length := by omega
    subst this
    rw [List.take_length] at hall
    have hall' : (readsV x).all (regB c.regs) = true := List.all_eq_true.2 hall
    unfold restB at hb
    rw [hall'] at hb
    clear hp ho hall hall' hlen hge hi
    obtain ⟨kd, xr, xa, xb, xk, xargs, xcost, xmt, xpc⟩ := x
    simp only at hk hb
    have hks : kd = 0 ∨ kd = 1 ∨ kd = 2 ∨ kd = 3 ∨ kd = 4 ∨ kd = 5 ∨ kd = 6 ∨ kd = 7 ∨ kd = 8 ∨ kd = 9 ∨ kd = 10 ∨ kd = 11 := by omega
    rcases hks with rfl | rfl | rfl | rfl | rfl | rfl | rfl | rfl | rfl | rfl | rfl | rfl
    · simp only [S2_ir_sheet_ins, MU_ir_sheet_ins, h0, h5, hq, Sets_pf, Leaves_pf, reg_pf, fz_of (sh_froz p c), fz_irs, fz_metas, fz_prg, fz_of (rows_froz _), fz_int, List.map_cons, List.map_nil, show setsB 0 = false from rfl, show leavesB 0 = false from rfl, SW, wpD, evDL, evDM, evD, bldLD, List.contains_cons, List.contains_nil, Nat.reduceBEq, beq_self_eq_true, Nat.reduceMul, Nat.reduceSub, wpSp, Option.bind_some, Option.some.injEq, exists_eq_left', exists_eq_left, reduceIte, if_false, if_true, Nat.reduceEqDiff, Nat.reduceAdd, Nat.reduceLeDiff, Int.reduceEq, Int.reduceLT, Int.reduceLE, Int.reduceToNat, decide_true, decide_false, DV.bool.injEq, DV.int.injEq, DV.mp.injEq, DV.msl.injEq, DV.tup.injEq, DV.agg.injEq, DV.fn.injEq, true_implies, forall_const, reduceCtorEq, implies_true, ne_eq, DMem.mt]
      rw [hb]; simp [setsB, leavesB, Bool.and_assoc]
    · simp only [S2_ir_sheet_ins, MU_ir_sheet_ins, h0, h5, hq, Sets_pf, Leaves_pf, reg_pf, fz_of (sh_froz p c), fz_irs, fz_metas, fz_prg, fz_of (rows_froz _), fz_int, List.map_cons, List.map_nil, show setsB 1 = true from rfl, show leavesB 1 = false from rfl, SW, wpD, evDL, evDM, evD, bldLD, List.contains_cons, List.contains_nil, Nat.reduceBEq, beq_self_eq_true, Nat.reduceMul, Nat.reduceSub, wpSp, Option.bind_some, Option.some.injEq, exists_eq_left', exists_eq_left, reduceIte, if_false, if_true, Nat.reduceEqDiff, Nat.reduceAdd, Nat.reduceLeDiff, Int.reduceEq, Int.reduceLT, Int.reduceLE, Int.reduceToNat, decide_true, decide_false, DV.bool.injEq, DV.int.injEq, DV.mp.injEq, DV.msl.injEq, DV.tup.injEq, DV.agg.injEq, DV.fn.injEq, true_implies, forall_const, reduceCtorEq, implies_true, ne_eq, DMem.mt]
      refine ⟨fun hr => ?_, fun hr => ?_⟩
      · have hr : regB c.regs xr = false := by simpa using hr
        rw [hb, hr]; simp [setsB]
      · have hr : regB c.regs xr = true := by simpa using hr
        refine st9 (i := 1) (v := 0) hq rfl (by decide) fun M1 g1 _ => ?_
        replace g1 : M1 q = some ⟨38, 9, [.int .i64 1, .int .i64 0, .int .i64 xa, .int .i64 xb, .int .i64 xk, slI xargs, .int .i64 xcost, .int .i64 xmt, .int .i64 xpc]⟩ := g1
        try simp only [h0, h5, g1, Sets_pf, Leaves_pf, reg_pf, fz_of (sh_froz p c), fz_irs, fz_metas, fz_prg, fz_of (rows_froz _), fz_int, List.map_cons, List.map_nil, show setsB 1 = true from rfl, show leavesB 1 = false from rfl, SW, wpD, evDL, evDM, evD, bldLD, List.contains_cons, List.contains_nil, Nat.reduceBEq, beq_self_eq_true, Nat.reduceMul, Nat.reduceSub, wpSp, Option.bind_some, Option.some.injEq, exists_eq_left', exists_eq_left, reduceIte, if_false, if_true, Nat.reduceEqDiff, Nat.reduceAdd, Nat.reduceLeDiff, Int.reduceEq, Int.reduceLT, Int.reduceLE, Int.reduceToNat, decide_true, decide_false, DV.bool.injEq, DV.int.injEq, DV.mp.injEq, DV.msl.injEq, DV.tup.injEq, DV.agg.injEq, DV.fn.injEq, true_implies, forall_const, reduceCtorEq, implies_true, ne_eq, DMem.mt]
        rw [hb]; rw [hr]; simp [setsB, leavesB, Bool.and_assoc]
    · simp only [S2_ir_sheet_ins, MU_ir_sheet_ins, h0, h5, hq, Sets_pf, Leaves_pf, reg_pf, fz_of (sh_froz p c), fz_irs, fz_metas, fz_prg, fz_of (rows_froz _), fz_int, List.map_cons, List.map_nil, show setsB 2 = true from rfl, show leavesB 2 = false from rfl, SW, wpD, evDL, evDM, evD, bldLD, List.contains_cons, List.contains_nil, Nat.reduceBEq, beq_self_eq_true, Nat.reduceMul, Nat.reduceSub, wpSp, Option.bind_some, Option.some.injEq, exists_eq_left', exists_eq_left, reduceIte, if_false, if_true, Nat.reduceEqDiff, Nat.reduceAdd, Nat.reduceLeDiff, Int.reduceEq, Int.reduceLT, Int.reduceLE, Int.reduceToNat, decide_true, decide_false, DV.bool.injEq, DV.int.injEq, DV.mp.injEq, DV.msl.injEq, DV.tup.injEq, DV.agg.injEq, DV.fn.injEq, true_implies, forall_const, reduceCtorEq, implies_true, ne_eq, DMem.mt]
      refine ⟨fun hr => ?_, fun hr => ?_⟩
      · have hr : regB c.regs xr = false := by simpa using hr
        rw [hb, hr]; simp [setsB]
      · have hr : regB c.regs xr = true := by simpa using hr
        refine st9 (i := 1) (v := 0) hq rfl (by decide) fun M1 g1 _ => ?_
        replace g1 : M1 q = some ⟨38, 9, [.int .i64 2, .int .i64 0, .int .i64 xa, .int .i64 xb, .int .i64 xk, slI xargs, .int .i64 xcost, .int .i64 xmt, .int .i64 xpc]⟩ := g1
        try simp only [h0, h5, g1, Sets_pf, Leaves_pf, reg_pf, fz_of (sh_froz p c), fz_irs, fz_metas, fz_prg, fz_of (rows_froz _), fz_int, List.map_cons, List.map_nil, show setsB 2 = true from rfl, show leavesB 2 = false from rfl, SW, wpD, evDL, evDM, evD, bldLD, List.contains_cons, List.contains_nil, Nat.reduceBEq, beq_self_eq_true, Nat.reduceMul, Nat.reduceSub, wpSp, Option.bind_some, Option.some.injEq, exists_eq_left', exists_eq_left, reduceIte, if_false, if_true, Nat.reduceEqDiff, Nat.reduceAdd, Nat.reduceLeDiff, Int.reduceEq, Int.reduceLT, Int.reduceLE, Int.reduceToNat, decide_true, decide_false, DV.bool.injEq, DV.int.injEq, DV.mp.injEq, DV.msl.injEq, DV.tup.injEq, DV.agg.injEq, DV.fn.injEq, true_implies, forall_const, reduceCtorEq, implies_true, ne_eq, DMem.mt]
        refine st9 (i := 2) (v := 0) g1 rfl (by decide) fun M2 g2 _ => ?_
        replace g2 : M2 q = some ⟨38, 9, [.int .i64 2, .int .i64 0, .int .i64 0, .int .i64 xb, .int .i64 xk, slI xargs, .int .i64 xcost, .int .i64 xmt, .int .i64 xpc]⟩ := g2
        try simp only [h0, h5, g2, Sets_pf, Leaves_pf, reg_pf, fz_of (sh_froz p c), fz_irs, fz_metas, fz_prg, fz_of (rows_froz _), fz_int, List.map_cons, List.map_nil, show setsB 2 = true from rfl, show leavesB 2 = false from rfl, SW, wpD, evDL, evDM, evD, bldLD, List.contains_cons, List.contains_nil, Nat.reduceBEq, beq_self_eq_true, Nat.reduceMul, Nat.reduceSub, wpSp, Option.bind_some, Option.some.injEq, exists_eq_left', exists_eq_left, reduceIte, if_false, if_true, Nat.reduceEqDiff, Nat.reduceAdd, Nat.reduceLeDiff, Int.reduceEq, Int.reduceLT, Int.reduceLE, Int.reduceToNat, decide_true, decide_false, DV.bool.injEq, DV.int.injEq, DV.mp.injEq, DV.msl.injEq, DV.tup.injEq, DV.agg.injEq, DV.fn.injEq, true_implies, forall_const, reduceCtorEq, implies_true, ne_eq, DMem.mt]
        rw [hb]; rw [hr]; simp [setsB, leavesB, Bool.and_assoc]
    · simp only [S2_ir_sheet_ins, MU_ir_sheet_ins, h0, h5, hq, Sets_pf, Leaves_pf, reg_pf, fz_of (sh_froz p c), fz_irs, fz_metas, fz_prg, fz_of (rows_froz _), fz_int, List.map_cons, List.map_nil, show setsB 3 = true from rfl, show leavesB 3 = false from rfl, SW, wpD, evDL, evDM, evD, bldLD, List.contains_cons, List.contains_nil, Nat.reduceBEq, beq_self_eq_true, Nat.reduceMul, Nat.reduceSub, wpSp, Option.bind_some, Option.some.injEq, exists_eq_left', exists_eq_left, reduceIte, if_false, if_true, Nat.reduceEqDiff, Nat.reduceAdd, Nat.reduceLeDiff, Int.reduceEq, Int.reduceLT, Int.reduceLE, Int.reduceToNat, decide_true, decide_false, DV.bool.injEq, DV.int.injEq, DV.mp.injEq, DV.msl.injEq, DV.tup.injEq, DV.agg.injEq, DV.fn.injEq, true_implies, forall_const, reduceCtorEq, implies_true, ne_eq, DMem.mt]
      refine ⟨fun hr => ?_, fun hr => ?_⟩
      · have hr : regB c.regs xr = false := by simpa using hr
        rw [hb, hr]; simp [setsB]
      · have hr : regB c.regs xr = true := by simpa using hr
        refine st9 (i := 1) (v := 0) hq rfl (by decide) fun M1 g1 _ => ?_
        replace g1 : M1 q = some ⟨38, 9, [.int .i64 3, .int .i64 0, .int .i64 xa, .int .i64 xb, .int .i64 xk, slI xargs, .int .i64 xcost, .int .i64 xmt, .int .i64 xpc]⟩ := g1
        try simp only [h0, h5, g1, Sets_pf, Leaves_pf, reg_pf, fz_of (sh_froz p c), fz_irs, fz_metas, fz_prg, fz_of (rows_froz _), fz_int, List.map_cons, List.map_nil, show setsB 3 = true from rfl, show leavesB 3 = false from rfl, SW, wpD, evDL, evDM, evD, bldLD, List.contains_cons, List.contains_nil, Nat.reduceBEq, beq_self_eq_true, Nat.reduceMul, Nat.reduceSub, wpSp, Option.bind_some, Option.some.injEq, exists_eq_left', exists_eq_left, reduceIte, if_false, if_true, Nat.reduceEqDiff, Nat.reduceAdd, Nat.reduceLeDiff, Int.reduceEq, Int.reduceLT, Int.reduceLE, Int.reduceToNat, decide_true, decide_false, DV.bool.injEq, DV.int.injEq, DV.mp.injEq, DV.msl.injEq, DV.tup.injEq, DV.agg.injEq, DV.fn.injEq, true_implies, forall_const, reduceCtorEq, implies_true, ne_eq, DMem.mt]
        refine st9 (i := 3) (v := 0) g1 rfl (by decide) fun M2 g2 _ => ?_
        replace g2 : M2 q = some ⟨38, 9, [.int .i64 3, .int .i64 0, .int .i64 xa, .int .i64 0, .int .i64 xk, slI xargs, .int .i64 xcost, .int .i64 xmt, .int .i64 xpc]⟩ := g2
        try simp only [h0, h5, g2, Sets_pf, Leaves_pf, reg_pf, fz_of (sh_froz p c), fz_irs, fz_metas, fz_prg, fz_of (rows_froz _), fz_int, List.map_cons, List.map_nil, show setsB 3 = true from rfl, show leavesB 3 = false from rfl, SW, wpD, evDL, evDM, evD, bldLD, List.contains_cons, List.contains_nil, Nat.reduceBEq, beq_self_eq_true, Nat.reduceMul, Nat.reduceSub, wpSp, Option.bind_some, Option.some.injEq, exists_eq_left', exists_eq_left, reduceIte, if_false, if_true, Nat.reduceEqDiff, Nat.reduceAdd, Nat.reduceLeDiff, Int.reduceEq, Int.reduceLT, Int.reduceLE, Int.reduceToNat, decide_true, decide_false, DV.bool.injEq, DV.int.injEq, DV.mp.injEq, DV.msl.injEq, DV.tup.injEq, DV.agg.injEq, DV.fn.injEq, true_implies, forall_const, reduceCtorEq, implies_true, ne_eq, DMem.mt]
        refine st9 (i := 2) (v := 0) g2 rfl (by decide) fun M3 g3 _ => ?_
        replace g3 : M3 q = some ⟨38, 9, [.int .i64 3, .int .i64 0, .int .i64 0, .int .i64 0, .int .i64 xk, slI xargs, .int .i64 xcost, .int .i64 xmt, .int .i64 xpc]⟩ := g3
        try simp only [h0, h5, g3, Sets_pf, Leaves_pf, reg_pf, fz_of (sh_froz p c), fz_irs, fz_metas, fz_prg, fz_of (rows_froz _), fz_int, List.map_cons, List.map_nil, show setsB 3 = true from rfl, show leavesB 3 = false from rfl, SW, wpD, evDL, evDM, evD, bldLD, List.contains_cons, List.contains_nil, Nat.reduceBEq, beq_self_eq_true, Nat.reduceMul, Nat.reduceSub, wpSp, Option.bind_some, Option.some.injEq, exists_eq_left', exists_eq_left, reduceIte, if_false, if_true, Nat.reduceEqDiff, Nat.reduceAdd, Nat.reduceLeDiff, Int.reduceEq, Int.reduceLT, Int.reduceLE, Int.reduceToNat, decide_true, decide_false, DV.bool.injEq, DV.int.injEq, DV.mp.injEq, DV.msl.injEq, DV.tup.injEq, DV.agg.injEq, DV.fn.injEq, true_implies, forall_const, reduceCtorEq, implies_true, ne_eq, DMem.mt]
        rw [hb]; rw [hr]; simp [setsB, leavesB, Bool.and_assoc]
    · simp only [S2_ir_sheet_ins, MU_ir_sheet_ins, h0, h5, hq, Sets_pf, Leaves_pf, reg_pf, fz_of (sh_froz p c), fz_irs, fz_metas, fz_prg, fz_of (rows_froz _), fz_int, List.map_cons, List.map_nil, show setsB 4 = false from rfl, show leavesB 4 = false from rfl, SW, wpD, evDL, evDM, evD, bldLD, List.contains_cons, List.contains_nil, Nat.reduceBEq, beq_self_eq_true, Nat.reduceMul, Nat.reduceSub, wpSp, Option.bind_some, Option.some.injEq, exists_eq_left', exists_eq_left, reduceIte, if_false, if_true, Nat.reduceEqDiff, Nat.reduceAdd, Nat.reduceLeDiff, Int.reduceEq, Int.reduceLT, Int.reduceLE, Int.reduceToNat, decide_true, decide_false, DV.bool.injEq, DV.int.injEq, DV.mp.injEq, DV.msl.injEq, DV.tup.injEq, DV.agg.injEq, DV.fn.injEq, true_implies, forall_const, reduceCtorEq, implies_true, ne_eq, DMem.mt]
      rw [hb]; simp [setsB, leavesB, Bool.and_assoc]
    · simp only [S2_ir_sheet_ins, MU_ir_sheet_ins, h0, h5, hq, Sets_pf, Leaves_pf, reg_pf, fz_of (sh_froz p c), fz_irs, fz_metas, fz_prg, fz_of (rows_froz _), fz_int, List.map_cons, List.map_nil, show setsB 5 = false from rfl, show leavesB 5 = false from rfl, SW, wpD, evDL, evDM, evD, bldLD, List.contains_cons, List.contains_nil, Nat.reduceBEq, beq_self_eq_true, Nat.reduceMul, Nat.reduceSub, wpSp, Option.bind_some, Option.some.injEq, exists_eq_left', exists_eq_left, reduceIte, if_false, if_true, Nat.reduceEqDiff, Nat.reduceAdd, Nat.reduceLeDiff, Int.reduceEq, Int.reduceLT, Int.reduceLE, Int.reduceToNat, decide_true, decide_false, DV.bool.injEq, DV.int.injEq, DV.mp.injEq, DV.msl.injEq, DV.tup.injEq, DV.agg.injEq, DV.fn.injEq, true_implies, forall_const, reduceCtorEq, implies_true, ne_eq, DMem.mt]
      refine st9 (i := 2) (v := 0) hq rfl (by decide) fun M1 g1 _ => ?_
      replace g1 : M1 q = some ⟨38, 9, [.int .i64 5, .int .i64 xr, .int .i64 0, .int .i64 xb, .int .i64 xk, slI xargs, .int .i64 xcost, .int .i64 xmt, .int .i64 xpc]⟩ := g1
      try simp only [h0, h5, g1, Sets_pf, Leaves_pf, reg_pf, fz_of (sh_froz p c), fz_irs, fz_metas, fz_prg, fz_of (rows_froz _), fz_int, List.map_cons, List.map_nil, show setsB 5 = false from rfl, show leavesB 5 = false from rfl, SW, wpD, evDL, evDM, evD, bldLD, List.contains_cons, List.contains_nil, Nat.reduceBEq, beq_self_eq_true, Nat.reduceMul, Nat.reduceSub, wpSp, Option.bind_some, Option.some.injEq, exists_eq_left', exists_eq_left, reduceIte, if_false, if_true, Nat.reduceEqDiff, Nat.reduceAdd, Nat.reduceLeDiff, Int.reduceEq, Int.reduceLT, Int.reduceLE, Int.reduceToNat, decide_true, decide_false, DV.bool.injEq, DV.int.injEq, DV.mp.injEq, DV.msl.injEq, DV.tup.injEq, DV.agg.injEq, DV.fn.injEq, true_implies, forall_const, reduceCtorEq, implies_true, ne_eq, DMem.mt]
      rw [hb]; simp [setsB, leavesB, Bool.and_assoc]
    · simp only [S2_ir_sheet_ins, MU_ir_sheet_ins, h0, h5, hq, Sets_pf, Leaves_pf, reg_pf, fz_of (sh_froz p c), fz_irs, fz_metas, fz_prg, fz_of (rows_froz _), fz_int, List.map_cons, List.map_nil, show setsB 6 = true from rfl, show leavesB 6 = false from rfl, SW, wpD, evDL, evDM, evD, bldLD, List.contains_cons, List.contains_nil, Nat.reduceBEq, beq_self_eq_true, Nat.reduceMul, Nat.reduceSub, wpSp, Option.bind_some, Option.some.injEq, exists_eq_left', exists_eq_left, reduceIte, if_false, if_true, Nat.reduceEqDiff, Nat.reduceAdd, Nat.reduceLeDiff, Int.reduceEq, Int.reduceLT, Int.reduceLE, Int.reduceToNat, decide_true, decide_false, DV.bool.injEq, DV.int.injEq, DV.mp.injEq, DV.msl.injEq, DV.tup.injEq, DV.agg.injEq, DV.fn.injEq, true_implies, forall_const, reduceCtorEq, implies_true, ne_eq, DMem.mt]
      refine ⟨fun hr => ?_, fun hr => ?_⟩
      · have hr : regB c.regs xr = false := by simpa using hr
        rw [hb, hr]; simp [setsB]
      · have hr : regB c.regs xr = true := by simpa using hr
        refine st9 (i := 1) (v := 0) hq rfl (by decide) fun M1 g1 _ => ?_
        replace g1 : M1 q = some ⟨38, 9, [.int .i64 6, .int .i64 0, .int .i64 xa, .int .i64 xb, .int .i64 xk, slI xargs, .int .i64 xcost, .int .i64 xmt, .int .i64 xpc]⟩ := g1
        try simp only [h0, h5, g1, Sets_pf, Leaves_pf, reg_pf, fz_of (sh_froz p c), fz_irs, fz_metas, fz_prg, fz_of (rows_froz _), fz_int, List.map_cons, List.map_nil, show setsB 6 = true from rfl, show leavesB 6 = false from rfl, SW, wpD, evDL, evDM, evD, bldLD, List.contains_cons, List.contains_nil, Nat.reduceBEq, beq_self_eq_true, Nat.reduceMul, Nat.reduceSub, wpSp, Option.bind_some, Option.some.injEq, exists_eq_left', exists_eq_left, reduceIte, if_false, if_true, Nat.reduceEqDiff, Nat.reduceAdd, Nat.reduceLeDiff, Int.reduceEq, Int.reduceLT, Int.reduceLE, Int.reduceToNat, decide_true, decide_false, DV.bool.injEq, DV.int.injEq, DV.mp.injEq, DV.msl.injEq, DV.tup.injEq, DV.agg.injEq, DV.fn.injEq, true_implies, forall_const, reduceCtorEq, implies_true, ne_eq, DMem.mt]
        rw [hb]; rw [hr]; simp [setsB, leavesB, Bool.and_assoc]
    · simp only [S2_ir_sheet_ins, MU_ir_sheet_ins, h0, h5, hq, Sets_pf, Leaves_pf, reg_pf, fz_of (sh_froz p c), fz_irs, fz_metas, fz_prg, fz_of (rows_froz _), fz_int, List.map_cons, List.map_nil, show setsB 7 = false from rfl, show leavesB 7 = false from rfl, SW, wpD, evDL, evDM, evD, bldLD, List.contains_cons, List.contains_nil, Nat.reduceBEq, beq_self_eq_true, Nat.reduceMul, Nat.reduceSub, wpSp, Option.bind_some, Option.some.injEq, exists_eq_left', exists_eq_left, reduceIte, if_false, if_true, Nat.reduceEqDiff, Nat.reduceAdd, Nat.reduceLeDiff, Int.reduceEq, Int.reduceLT, Int.reduceLE, Int.reduceToNat, decide_true, decide_false, DV.bool.injEq, DV.int.injEq, DV.mp.injEq, DV.msl.injEq, DV.tup.injEq, DV.agg.injEq, DV.fn.injEq, true_implies, forall_const, reduceCtorEq, implies_true, ne_eq, DMem.mt]
      refine st9 (i := 2) (v := 0) hq rfl (by decide) fun M1 g1 _ => ?_
      replace g1 : M1 q = some ⟨38, 9, [.int .i64 7, .int .i64 xr, .int .i64 0, .int .i64 xb, .int .i64 xk, slI xargs, .int .i64 xcost, .int .i64 xmt, .int .i64 xpc]⟩ := g1
      try simp only [h0, h5, g1, Sets_pf, Leaves_pf, reg_pf, fz_of (sh_froz p c), fz_irs, fz_metas, fz_prg, fz_of (rows_froz _), fz_int, List.map_cons, List.map_nil, show setsB 7 = false from rfl, show leavesB 7 = false from rfl, SW, wpD, evDL, evDM, evD, bldLD, List.contains_cons, List.contains_nil, Nat.reduceBEq, beq_self_eq_true, Nat.reduceMul, Nat.reduceSub, wpSp, Option.bind_some, Option.some.injEq, exists_eq_left', exists_eq_left, reduceIte, if_false, if_true, Nat.reduceEqDiff, Nat.reduceAdd, Nat.reduceLeDiff, Int.reduceEq, Int.reduceLT, Int.reduceLE, Int.reduceToNat, decide_true, decide_false, DV.bool.injEq, DV.int.injEq, DV.mp.injEq, DV.msl.injEq, DV.tup.injEq, DV.agg.injEq, DV.fn.injEq, true_implies, forall_const, reduceCtorEq, implies_true, ne_eq, DMem.mt]
      rw [hb]; simp [setsB, leavesB, Bool.and_assoc]
    · simp only [S2_ir_sheet_ins, MU_ir_sheet_ins, h0, h5, hq, Sets_pf, Leaves_pf, reg_pf, fz_of (sh_froz p c), fz_irs, fz_metas, fz_prg, fz_of (rows_froz _), fz_int, List.map_cons, List.map_nil, show setsB 8 = false from rfl, show leavesB 8 = false from rfl, SW, wpD, evDL, evDM, evD, bldLD, List.contains_cons, List.contains_nil, Nat.reduceBEq, beq_self_eq_true, Nat.reduceMul, Nat.reduceSub, wpSp, Option.bind_some, Option.some.injEq, exists_eq_left', exists_eq_left, reduceIte, if_false, if_true, Nat.reduceEqDiff, Nat.reduceAdd, Nat.reduceLeDiff, Int.reduceEq, Int.reduceLT, Int.reduceLE, Int.reduceToNat, decide_true, decide_false, DV.bool.injEq, DV.int.injEq, DV.mp.injEq, DV.msl.injEq, DV.tup.injEq, DV.agg.injEq, DV.fn.injEq, true_implies, forall_const, reduceCtorEq, implies_true, ne_eq, DMem.mt]
      refine st9 (i := 2) (v := 0) hq rfl (by decide) fun M1 g1 _ => ?_
      replace g1 : M1 q = some ⟨38, 9, [.int .i64 8, .int .i64 xr, .int .i64 0, .int .i64 xb, .int .i64 xk, slI xargs, .int .i64 xcost, .int .i64 xmt, .int .i64 xpc]⟩ := g1
      try simp only [h0, h5, g1, Sets_pf, Leaves_pf, reg_pf, fz_of (sh_froz p c), fz_irs, fz_metas, fz_prg, fz_of (rows_froz _), fz_int, List.map_cons, List.map_nil, show setsB 8 = false from rfl, show leavesB 8 = false from rfl, SW, wpD, evDL, evDM, evD, bldLD, List.contains_cons, List.contains_nil, Nat.reduceBEq, beq_self_eq_true, Nat.reduceMul, Nat.reduceSub, wpSp, Option.bind_some, Option.some.injEq, exists_eq_left', exists_eq_left, reduceIte, if_false, if_true, Nat.reduceEqDiff, Nat.reduceAdd, Nat.reduceLeDiff, Int.reduceEq, Int.reduceLT, Int.reduceLE, Int.reduceToNat, decide_true, decide_false, DV.bool.injEq, DV.int.injEq, DV.mp.injEq, DV.msl.injEq, DV.tup.injEq, DV.agg.injEq, DV.fn.injEq, true_implies, forall_const, reduceCtorEq, implies_true, ne_eq, DMem.mt]
      rw [hb]; simp [setsB, leavesB, Bool.and_assoc]
    · simp only [S2_ir_sheet_ins, MU_ir_sheet_ins, h0, h5, hq, Sets_pf, Leaves_pf, reg_pf, fz_of (sh_froz p c), fz_irs, fz_metas, fz_prg, fz_of (rows_froz _), fz_int, List.map_cons, List.map_nil, show setsB 9 = false from rfl, show leavesB 9 = true from rfl, SW, wpD, evDL, evDM, evD, bldLD, List.contains_cons, List.contains_nil, Nat.reduceBEq, beq_self_eq_true, Nat.reduceMul, Nat.reduceSub, wpSp, Option.bind_some, Option.some.injEq, exists_eq_left', exists_eq_left, reduceIte, if_false, if_true, Nat.reduceEqDiff, Nat.reduceAdd, Nat.reduceLeDiff, Int.reduceEq, Int.reduceLT, Int.reduceLE, Int.reduceToNat, decide_true, decide_false, DV.bool.injEq, DV.int.injEq, DV.mp.injEq, DV.msl.injEq, DV.tup.injEq, DV.agg.injEq, DV.fn.injEq, true_implies, forall_const, reduceCtorEq, implies_true, ne_eq, DMem.mt]
      refine st9 (i := 7) (v := 0) hq rfl (by decide) fun M1 g1 _ => ?_
      replace g1 : M1 q = some ⟨38, 9, [.int .i64 9, .int .i64 xr, .int .i64 xa, .int .i64 xb, .int .i64 xk, slI xargs, .int .i64 xcost, .int .i64 0, .int .i64 xpc]⟩ := g1
      try simp only [h0, h5, g1, Sets_pf, Leaves_pf, reg_pf, fz_of (sh_froz p c), fz_irs, fz_metas, fz_prg, fz_of (rows_froz _), fz_int, List.map_cons, List.map_nil, show setsB 9 = false from rfl, show leavesB 9 = true from rfl, SW, wpD, evDL, evDM, evD, bldLD, List.contains_cons, List.contains_nil, Nat.reduceBEq, beq_self_eq_true, Nat.reduceMul, Nat.reduceSub, wpSp, Option.bind_some, Option.some.injEq, exists_eq_left', exists_eq_left, reduceIte, if_false, if_true, Nat.reduceEqDiff, Nat.reduceAdd, Nat.reduceLeDiff, Int.reduceEq, Int.reduceLT, Int.reduceLE, Int.reduceToNat, decide_true, decide_false, DV.bool.injEq, DV.int.injEq, DV.mp.injEq, DV.msl.injEq, DV.tup.injEq, DV.agg.injEq, DV.fn.injEq, true_implies, forall_const, reduceCtorEq, implies_true, ne_eq, DMem.mt]
      refine st9 (i := 3) (v := 0) g1 rfl (by decide) fun M2 g2 _ => ?_
      replace g2 : M2 q = some ⟨38, 9, [.int .i64 9, .int .i64 xr, .int .i64 xa, .int .i64 0, .int .i64 xk, slI xargs, .int .i64 xcost, .int .i64 0, .int .i64 xpc]⟩ := g2
      try simp only [h0, h5, g2, Sets_pf, Leaves_pf, reg_pf, fz_of (sh_froz p c), fz_irs, fz_metas, fz_prg, fz_of (rows_froz _), fz_int, List.map_cons, List.map_nil, show setsB 9 = false from rfl, show leavesB 9 = true from rfl, SW, wpD, evDL, evDM, evD, bldLD, List.contains_cons, List.contains_nil, Nat.reduceBEq, beq_self_eq_true, Nat.reduceMul, Nat.reduceSub, wpSp, Option.bind_some, Option.some.injEq, exists_eq_left', exists_eq_left, reduceIte, if_false, if_true, Nat.reduceEqDiff, Nat.reduceAdd, Nat.reduceLeDiff, Int.reduceEq, Int.reduceLT, Int.reduceLE, Int.reduceToNat, decide_true, decide_false, DV.bool.injEq, DV.int.injEq, DV.mp.injEq, DV.msl.injEq, DV.tup.injEq, DV.agg.injEq, DV.fn.injEq, true_implies, forall_const, reduceCtorEq, implies_true, ne_eq, DMem.mt]
      refine st9 (i := 2) (v := 0) g2 rfl (by decide) fun M3 g3 _ => ?_
      replace g3 : M3 q = some ⟨38, 9, [.int .i64 9, .int .i64 xr, .int .i64 0, .int .i64 0, .int .i64 xk, slI xargs, .int .i64 xcost, .int .i64 0, .int .i64 xpc]⟩ := g3
      try simp only [h0, h5, g3, Sets_pf, Leaves_pf, reg_pf, fz_of (sh_froz p c), fz_irs, fz_metas, fz_prg, fz_of (rows_froz _), fz_int, List.map_cons, List.map_nil, show setsB 9 = false from rfl, show leavesB 9 = true from rfl, SW, wpD, evDL, evDM, evD, bldLD, List.contains_cons, List.contains_nil, Nat.reduceBEq, beq_self_eq_true, Nat.reduceMul, Nat.reduceSub, wpSp, Option.bind_some, Option.some.injEq, exists_eq_left', exists_eq_left, reduceIte, if_false, if_true, Nat.reduceEqDiff, Nat.reduceAdd, Nat.reduceLeDiff, Int.reduceEq, Int.reduceLT, Int.reduceLE, Int.reduceToNat, decide_true, decide_false, DV.bool.injEq, DV.int.injEq, DV.mp.injEq, DV.msl.injEq, DV.tup.injEq, DV.agg.injEq, DV.fn.injEq, true_implies, forall_const, reduceCtorEq, implies_true, ne_eq, DMem.mt]
      rw [hb]; simp [setsB, leavesB, Bool.and_assoc]
    · simp only [S2_ir_sheet_ins, MU_ir_sheet_ins, h0, h5, hq, Sets_pf, Leaves_pf, reg_pf, fz_of (sh_froz p c), fz_irs, fz_metas, fz_prg, fz_of (rows_froz _), fz_int, List.map_cons, List.map_nil, show setsB 10 = false from rfl, show leavesB 10 = true from rfl, SW, wpD, evDL, evDM, evD, bldLD, List.contains_cons, List.contains_nil, Nat.reduceBEq, beq_self_eq_true, Nat.reduceMul, Nat.reduceSub, wpSp, Option.bind_some, Option.some.injEq, exists_eq_left', exists_eq_left, reduceIte, if_false, if_true, Nat.reduceEqDiff, Nat.reduceAdd, Nat.reduceLeDiff, Int.reduceEq, Int.reduceLT, Int.reduceLE, Int.reduceToNat, decide_true, decide_false, DV.bool.injEq, DV.int.injEq, DV.mp.injEq, DV.msl.injEq, DV.tup.injEq, DV.agg.injEq, DV.fn.injEq, true_implies, forall_const, reduceCtorEq, implies_true, ne_eq, DMem.mt]
      refine st9 (i := 7) (v := 0) hq rfl (by decide) fun M1 g1 _ => ?_
      replace g1 : M1 q = some ⟨38, 9, [.int .i64 10, .int .i64 xr, .int .i64 xa, .int .i64 xb, .int .i64 xk, slI xargs, .int .i64 xcost, .int .i64 0, .int .i64 xpc]⟩ := g1
      try simp only [h0, h5, g1, Sets_pf, Leaves_pf, reg_pf, fz_of (sh_froz p c), fz_irs, fz_metas, fz_prg, fz_of (rows_froz _), fz_int, List.map_cons, List.map_nil, show setsB 10 = false from rfl, show leavesB 10 = true from rfl, SW, wpD, evDL, evDM, evD, bldLD, List.contains_cons, List.contains_nil, Nat.reduceBEq, beq_self_eq_true, Nat.reduceMul, Nat.reduceSub, wpSp, Option.bind_some, Option.some.injEq, exists_eq_left', exists_eq_left, reduceIte, if_false, if_true, Nat.reduceEqDiff, Nat.reduceAdd, Nat.reduceLeDiff, Int.reduceEq, Int.reduceLT, Int.reduceLE, Int.reduceToNat, decide_true, decide_false, DV.bool.injEq, DV.int.injEq, DV.mp.injEq, DV.msl.injEq, DV.tup.injEq, DV.agg.injEq, DV.fn.injEq, true_implies, forall_const, reduceCtorEq, implies_true, ne_eq, DMem.mt]
      rw [hb]; simp [setsB, leavesB, Bool.and_assoc]
    · simp only [S2_ir_sheet_ins, MU_ir_sheet_ins, h0, h5, hq, Sets_pf, Leaves_pf, reg_pf, fz_of (sh_froz p c), fz_irs, fz_metas, fz_prg, fz_of (rows_froz _), fz_int, List.map_cons, List.map_nil, show setsB 11 = false from rfl, show leavesB 11 = false from rfl, SW, wpD, evDL, evDM, evD, bldLD, List.contains_cons, List.contains_nil, Nat.reduceBEq, beq_self_eq_true, Nat.reduceMul, Nat.reduceSub, wpSp, Option.bind_some, Option.some.injEq, exists_eq_left', exists_eq_left, reduceIte, if_false, if_true, Nat.reduceEqDiff, Nat.reduceAdd, Nat.reduceLeDiff, Int.reduceEq, Int.reduceLT, Int.reduceLE, Int.reduceToNat, decide_true, decide_false, DV.bool.injEq, DV.int.injEq, DV.mp.injEq, DV.msl.injEq, DV.tup.injEq, DV.agg.injEq, DV.fn.injEq, true_implies, forall_const, reduceCtorEq, implies_true, ne_eq, DMem.mt]
      rw [hb]; simp [setsB, leavesB, Bool.and_assoc]
theorem may_eq (p : List Fnc) (regs : Int) (n mm i : Nat) (x : Irc) : irMayB p regs n mm i x = ((((((decide (0 ≤ x.kind ∧ x.kind ≤ 11) && kB p n x) && dearB i x) && decide (0 ≤ x.pc ∧ x.pc < 64)) && (!leavesB x.kind || decide (0 ≤ x.mt ∧ x.mt < mm))) && (decide (x.kind = 6) || decide (x.args = []))) && restB regs x) := by
  obtain ⟨kd, xr, xa, xb, xk, xargs, xcost, xmt, xpc⟩ := x
  by_cases hk : 0 ≤ kd ∧ kd ≤ 11
  · have hks : kd = 0 ∨ kd = 1 ∨ kd = 2 ∨ kd = 3 ∨ kd = 4 ∨ kd = 5 ∨ kd = 6 ∨ kd = 7 ∨ kd = 8 ∨ kd = 9 ∨ kd = 10 ∨ kd = 11 := by omega
    clear hk
    rcases hks with rfl | rfl | rfl | rfl | rfl | rfl | rfl | rfl | rfl | rfl | rfl | rfl
    all_goals
      rw [Bool.eq_iff_iff]
      simp [irMayB, kB, dearB, restB, readsV, setsB, leavesB, goesB]
    all_goals grind
  · have h0 : irMayB p regs n mm i ⟨kd, xr, xa, xb, xk, xargs, xcost, xmt, xpc⟩ = false := by
      unfold irMayB
      simp only
      rw [if_neg (by omega), if_neg (by omega), if_neg (by omega), if_neg (by omega), if_neg (by omega), if_neg (by omega), if_neg (by omega), if_neg (by omega), if_neg (by omega), if_neg (by omega), if_neg (by omega), Bool.and_false]
    rw [h0]
    simp only [decide_eq_false hk, Bool.false_and]
theorem may_no (p : List Fnc) (regs : Int) (n mm i : Nat) (x : Irc) (h : (((((decide (x.kind < 0) || decide (11 < x.kind)) || !kB p n x) || !dearB i x) || decide (x.pc < 0)) || decide (64 ≤ x.pc)) = true) : irMayB p regs n mm i x = false := by
  rw [may_eq]
  simp only [Bool.or_eq_true, decide_eq_true_eq, Bool.not_eq_true'] at h
  rcases h with ((((h | h) | h) | h) | h) | h
  · rw [decide_eq_false (show ¬ (0 ≤ x.kind ∧ x.kind ≤ 11) by omega)] <;> rfl
  · rw [decide_eq_false (show ¬ (0 ≤ x.kind ∧ x.kind ≤ 11) by omega)] <;> rfl
  · rw [h]; simp
  · rw [h]; simp
  · rw [decide_eq_false (show ¬ (0 ≤ x.pc ∧ x.pc < 64) by omega)]; simp
  · rw [decide_eq_false (show ¬ (0 ≤ x.pc ∧ x.pc < 64) by omega)]; simp
theorem may_lv (p : List Fnc) (regs : Int) (n mm i : Nat) (x : Irc) (h : leavesB x.kind = true) (h2 : (decide (x.mt < 0) || decide ((mm : Int) ≤ x.mt)) = true) : irMayB p regs n mm i x = false := by
  simp only [Bool.or_eq_true, decide_eq_true_eq] at h2
  rw [may_eq, h, decide_eq_false (show ¬ (0 ≤ x.mt ∧ x.mt < mm) by omega)]; simp
theorem may_ar (p : List Fnc) (regs : Int) (n mm i : Nat) (x : Irc) (h : decide (¬x.kind = 6) = true) (h2 : decide (0 < (x.args.length : Int)) = true) : irMayB p regs n mm i x = false := by
  have h : ¬ x.kind = 6 := of_decide_eq_true h
  have h2 : x.args ≠ [] := by
    have := of_decide_eq_true h2
    intro e; rw [e] at this; simp at this
  rw [may_eq, decide_eq_false h, decide_eq_false h2]; simp
theorem may_yes (p : List Fnc) (regs : Int) (n mm i : Nat) (x : Irc) (h : (((((decide (x.kind < 0) || decide (11 < x.kind)) || !kB p n x) || !dearB i x) || decide (x.pc < 0)) || decide (64 ≤ x.pc)) = false) (h2 : (leavesB x.kind && (decide (x.mt < 0) || decide ((mm : Int) ≤ x.mt))) = false) (h3 : (decide (¬x.kind = 6) && decide (0 < (x.args.length : Int))) = false) : irMayB p regs n mm i x = restB regs x := by
  simp only [Bool.or_eq_false_iff, decide_eq_false_iff_not, Bool.not_eq_false'] at h
  obtain ⟨⟨⟨⟨⟨a1, a2⟩, a3⟩, a4⟩, a5⟩, a6⟩ := h
  have e2 : (!leavesB x.kind || decide (0 ≤ x.mt ∧ x.mt < mm)) = true := by
    cases hl : leavesB x.kind with
    | false => rfl
    | true =>
      rw [hl] at h2
      simp only [Bool.true_and, Bool.or_eq_false_iff, decide_eq_false_iff_not] at h2
      rw [decide_eq_true (show 0 ≤ x.mt ∧ x.mt < mm by omega)] <;> rfl
  have e3 : (decide (x.kind = 6) || decide (x.args = [])) = true := by
    by_cases h6 : x.kind = 6
    · simp [h6]
    · have : x.args = [] := by
        simp [h6] at h3
        exact h3
      simp [this]
  rw [may_eq, decide_eq_true (show 0 ≤ x.kind ∧ x.kind ≤ 11 by omega), a3, a4, decide_eq_true (show 0 ≤ x.pc ∧ x.pc < 64 by omega), e2, e3] <;> rfl
theorem ins_pf (p : List Fnc) (c : Cod) (i : Nat) (hi : i < c.code.length) (ha : c.code[i].args.length * 8 ≤ 140737488351232) : pf Tryd.prog F_ir_sheet_ins [shD p c, .int .i64 i] = some (.bool (irMayB p c.regs c.code.length c.metas.length i c.code[i])) := by
  refine pf_of (v := .bool _) (pc_ir_sheet_ins (by simp) ?_) ((FrozL.nil.cons (Froz.int _ _)).cons (sh_froz p c)) rfl rfl
  simp only [S_ir_sheet_ins, R_ir_sheet_ins, MU_ir_sheet_ins, ix_slD Irc.len hi, ldn_irc, SW, wpD, evDL, evDM, evD, bldLD, List.contains_cons, List.contains_nil, Nat.reduceBEq, beq_self_eq_true, Nat.reduceMul, Nat.reduceSub, wpSp, Option.bind_some, Option.some.injEq, exists_eq_left', exists_eq_left, reduceIte, if_false, if_true, Nat.reduceEqDiff, Nat.reduceAdd, Nat.reduceLeDiff, Int.reduceEq, Int.reduceLT, Int.reduceLE, Int.reduceToNat, decide_true, decide_false, DV.bool.injEq, DV.int.injEq, DV.mp.injEq, DV.msl.injEq, DV.tup.injEq, DV.agg.injEq, DV.fn.injEq, true_implies, forall_const, reduceCtorEq, implies_true, ne_eq, DMem.mt]
  generalize c.code[i] = x at *
  intro q M1 hM1
  have hq : M1 q = some ⟨38, 9, x.c⟩ := by rw [hM1, DMem.ins_same]
  clear hM1
  have hz : fz M1 4 (.mp q 0) = .ip x.c := by
    rw [fz_mp hq]
    simp only [List.map_cons, List.map_nil, fz_int, fz_ints, List.drop_zero]
  simp only [hq, hz, k_pf, dear_pf, Leaves_pf, fz_of (sh_froz p c), fz_irs, fz_metas, fz_prg, fz_of (rows_froz _), fz_int, List.map_cons, List.map_nil, SW, wpD, evDL, evDM, evD, bldLD, List.contains_cons, List.contains_nil, Nat.reduceBEq, beq_self_eq_true, Nat.reduceMul, Nat.reduceSub, wpSp, Option.bind_some, Option.some.injEq, exists_eq_left', exists_eq_left, reduceIte, if_false, if_true, Nat.reduceEqDiff, Nat.reduceAdd, Nat.reduceLeDiff, Int.reduceEq, Int.reduceLT, Int.reduceLE, Int.reduceToNat, decide_true, decide_false, DV.bool.injEq, DV.int.injEq, DV.mp.injEq, DV.msl.injEq, DV.tup.injEq, DV.agg.injEq, DV.fn.injEq, true_implies, forall_const, reduceCtorEq, implies_true, ne_eq, DMem.mt]
  have hno : (((((decide (x.kind < 0) || decide (11 < x.kind)) || !kB p c.code.length x) || !dearB i x) || decide (x.pc < 0)) || decide (64 ≤ x.pc)) = true → irMayB p c.regs c.code.length c.metas.length i x = false := may_no p c.regs c.code.length c.metas.length i x
  have hlv : leavesB x.kind = true → (decide (x.mt < 0) || decide ((c.metas.length : Int) ≤ x.mt)) = true → irMayB p c.regs c.code.length c.metas.length i x = false := may_lv p c.regs c.code.length c.metas.length i x
  have har : decide (¬x.kind = 6) = true → decide (0 < (x.args.length : Int)) = true → irMayB p c.regs c.code.length c.metas.length i x = false := may_ar p c.regs c.code.length c.metas.length i x
  have hyes := may_yes p c.regs c.code.length c.metas.length i x
  have fin : (((((decide (x.kind < 0) || decide (11 < x.kind)) || !kB p c.code.length x) || !dearB i x) || decide (x.pc < 0)) || decide (64 ≤ x.pc)) = false → (leavesB x.kind && (decide (x.mt < 0) || decide ((c.metas.length : Int) ≤ x.mt))) = false → (decide (¬x.kind = 6) && decide (0 < (x.args.length : Int))) = false → ∀ {δ : DEnv}, δ 0 = shD p c → δ 5 = .mp q 0 →
      PC Tryd.prog F_ir_Reads [.mp q 0] (fun v M' => wpD Tryd.prog MU_ir_sheet_ins (fun f => roL.contains f) (fun t => G_ir_sheet_ins.contains t) 137 S3_ir_sheet_ins (fun δ M' => δ 4 = .bool (irMayB p c.regs c.code.length c.metas.length i x)) (fun x x_1 x_2 => False) (fun δ M' => δ 4 = .bool (irMayB p c.regs c.code.length c.metas.length i x)) (δ.upd 81 v) M') M1 := by
    intro e1 e2 e3 δ d0 d5
    have hk : 0 ≤ x.kind ∧ x.kind ≤ 11 := by
      simp at e1; omega
    refine Reads_pc hq ha fun d M2 cs ho hp hs => ?_
    refine ins_S3 p c x (d := d) (q := q) (by exact d0) (by exact d5) rfl (hs q _ hq) ho (fun j hj => ?_) hk (by unfold readsV; (repeat' split) <;> (try simp only [List.length_cons, List.length_nil]) <;> omega) (hyes e1 e2 e3)
    obtain ⟨e, g1, g2, g3⟩ := hp.2 j hj
    exact ⟨e, g1, g2, g3 M2 hs⟩
  generalize hA : (((((decide (x.kind < 0) || decide (11 < x.kind)) || !kB p c.code.length x) || !dearB i x) || decide (x.pc < 0)) || decide (64 ≤ x.pc)) = A at *
  generalize hL : leavesB x.kind = L at *
  generalize hm0 : decide (x.mt < 0) = m0 at *
  generalize hm1 : decide ((c.metas.length : Int) ≤ x.mt) = m1 at *
  generalize h6 : decide (¬x.kind = 6) = k6 at *
  generalize hr : decide (0 < (x.args.length : Int)) = ar at *
  generalize irMayB p c.regs c.code.length c.metas.length i x = B at *
  cases A <;> cases L <;> cases m0 <;> cases k6 <;> cases m1 <;> cases ar <;> simp only [grdTT, grdTF, grdFF, grdFT, grdU, SW, wpD, evDL, evDM, evD, bldLD, List.contains_cons, List.contains_nil, Nat.reduceBEq, beq_self_eq_true, Nat.reduceMul, Nat.reduceSub, wpSp, Option.bind_some, Option.some.injEq, exists_eq_left', exists_eq_left, reduceIte, if_false, if_true, Nat.reduceEqDiff, Nat.reduceAdd, Nat.reduceLeDiff, Int.reduceEq, Int.reduceLT, Int.reduceLE, Int.reduceToNat, decide_true, decide_false, DV.bool.injEq, DV.int.injEq, DV.mp.injEq, DV.msl.injEq, DV.tup.injEq, DV.agg.injEq, DV.fn.injEq, true_implies, forall_const, reduceCtorEq, implies_true, ne_eq, DMem.mt]
  all_goals first | exact fin rfl rfl rfl rfl rfl | exact (hno rfl).symm | exact (hlv rfl rfl).symm | exact (har rfl rfl).symm
end Go.Proofs.YticlgdhhnjpkjaaDoor.Pf
namespace Go.Proofs.YticlgdhhnjpkjaaDoor.Pf
open Go Go.RowKit Go.Proofs Go.Proofs.YticlgdhhnjpkjaaDoor.Mw Go.Proofs.YticlgdhhnjpkjaaDoor.Sx
set_option linter.unusedVariables false
set_option linter.unusedSimpArgs false
set_option maxRecDepth 8000
theorem IndexFunc_src (g : Nat) (a b : List DV) (ha : FrozL a) (hb : FrozL b) (p : Src → Bool) (l : List Src) (hl : l.length ≤ 4611686018427387904)
    (hp : ∀ i (h : i < l.length), pf Tryd.prog g (a ++ .agg (Src.c l[i]) :: b) = some (.bool (p l[i]))) :
    pf Tryd.prog F_slices_IndexFunc_api_Src_api_Src [slD Src.c l, .fn (.func g) a b] = some (.int .i64 (idxF p l)) := by
  refine pf_of (v := .int _ _) (pc_slices_IndexFunc_api_Src_api_Src (by simp) ?_) ((FrozL.nil.cons (Froz.fn ha hb)).cons (Froz.slD Src.froz _)) rfl rfl
  simp only [S_slices_IndexFunc_api_Src_api_Src, R_slices_IndexFunc_api_Src_api_Src, MU_slices_IndexFunc_api_Src_api_Src, MU_slices_IndexFunc_api_Src_api_Src, S1_slices_IndexFunc_api_Src_api_Src, SW, wpD, evDL, evDM, evD, bldLD, List.contains_cons, List.contains_nil, Nat.reduceBEq, beq_self_eq_true, Nat.reduceMul, Nat.reduceSub, wpSp, Option.bind_some, Option.some.injEq, exists_eq_left', exists_eq_left, reduceIte, if_false, if_true, Nat.reduceEqDiff, Nat.reduceAdd, Nat.reduceLeDiff, Int.reduceEq, Int.reduceLT, Int.reduceLE, Int.reduceToNat, decide_true, decide_false, DV.bool.injEq, DV.int.injEq, DV.mp.injEq, DV.msl.injEq, DV.tup.injEq, DV.agg.injEq, DV.fn.injEq, true_implies, forall_const, reduceCtorEq, implies_true, ne_eq, DMem.mt]
  refine ⟨fun k δ M => ∃ i, i ≤ l.length ∧ k = l.length - i ∧ M = DMem.mt ∧ δ 0 = slD Src.c l ∧ δ 1 = .fn (.func g) a b ∧ δ 7 = .int .i64 l.length ∧ δ 8 = .int .i64 i ∧ (∀ j (h : j < l.length), j < i → p l[j] = false),
    l.length, ⟨0, Nat.zero_le _, rfl, rfl, rfl, rfl, rfl, rfl, fun j h hj => absurd hj (by omega)⟩, ?_⟩
  rintro k δ M ⟨i, hi, rfl, rfl, h0, h1, h7, h8, hj⟩
  simp only [h0, h1, h7, h8, SW, wpD, evDL, evDM, evD, bldLD, List.contains_cons, List.contains_nil, Nat.reduceBEq, beq_self_eq_true, Nat.reduceMul, Nat.reduceSub, wpSp, Option.bind_some, Option.some.injEq, exists_eq_left', exists_eq_left, reduceIte, if_false, if_true, Nat.reduceEqDiff, Nat.reduceAdd, Nat.reduceLeDiff, Int.reduceEq, Int.reduceLT, Int.reduceLE, Int.reduceToNat, decide_true, decide_false, DV.bool.injEq, DV.int.injEq, DV.mp.injEq, DV.msl.injEq, DV.tup.injEq, DV.agg.injEq, DV.fn.injEq, true_implies, forall_const, reduceCtorEq, implies_true, ne_eq, DMem.mt, decide_eq_true_eq, decide_eq_false_iff_not]
  refine ⟨fun h => ?_, fun h => ?_⟩
  · have hlt : i < l.length := by omega
    simp only [ix_slD Src.len hlt, h0, h1, h7, h8, SW, wpD, evDL, evDM, evD, bldLD, List.contains_cons, List.contains_nil, Nat.reduceBEq, beq_self_eq_true, Nat.reduceMul, Nat.reduceSub, wpSp, Option.bind_some, Option.some.injEq, exists_eq_left', exists_eq_left, reduceIte, if_false, if_true, Nat.reduceEqDiff, Nat.reduceAdd, Nat.reduceLeDiff, Int.reduceEq, Int.reduceLT, Int.reduceLE, Int.reduceToNat, decide_true, decide_false, DV.bool.injEq, DV.int.injEq, DV.mp.injEq, DV.msl.injEq, DV.tup.injEq, DV.agg.injEq, DV.fn.injEq, true_implies, forall_const, reduceCtorEq, implies_true, ne_eq, DMem.mt, w64s (show i < 4611686018427387905 by omega)]
    refine ⟨g, a, b, rfl, rfl, rfl, PC.of_pf (d := .bool (p l[i])) ?_ ?_⟩
    · rw [fzmap_froz (by simpa using ha.append (hb.cons (Froz.agg (Src.froz l[i]))))]; simpa using hp i hlt
    · simp only [SW, wpD, evDL, evDM, evD, bldLD, List.contains_cons, List.contains_nil, Nat.reduceBEq, beq_self_eq_true, Nat.reduceMul, Nat.reduceSub, wpSp, Option.bind_some, Option.some.injEq, exists_eq_left', exists_eq_left, reduceIte, if_false, if_true, Nat.reduceEqDiff, Nat.reduceAdd, Nat.reduceLeDiff, Int.reduceEq, Int.reduceLT, Int.reduceLE, Int.reduceToNat, decide_true, decide_false, DV.bool.injEq, DV.int.injEq, DV.mp.injEq, DV.msl.injEq, DV.tup.injEq, DV.agg.injEq, DV.fn.injEq, true_implies, forall_const, reduceCtorEq, implies_true, ne_eq, DMem.mt]
      refine ⟨fun hpi => ?_, fun hpi => ⟨l.length - (i + 1), DMem.mt, by omega, SubD.refl _, i + 1, by omega, rfl, rfl, rfl, fun j h' hji => ?_⟩⟩
      · rw [idxF_hit i hlt hpi hj]
      · rcases Nat.lt_or_ge j i with h2 | h2
        · exact hj j h' h2
        · have : j = i := by omega
          subst this; exact hpi
  · rw [idxF_miss fun j h' => hj j h' (by omega)]
theorem Contains_src (g : Nat) (a b : List DV) (ha : FrozL a) (hb : FrozL b) (p : Src → Bool) (l : List Src) (hl : l.length ≤ 4611686018427387904) (hp : ∀ i (h : i < l.length), pf Tryd.prog g (a ++ .agg (Src.c l[i]) :: b) = some (.bool (p l[i]))) :
    pf Tryd.prog F_slices_ContainsFunc_api_Src_api_Src [slD Src.c l, .fn (.func g) a b] = some (.bool (l.any p)) := by
  refine pf_of (v := .bool _) (pc_slices_ContainsFunc_api_Src_api_Src (by simp) ?_) ((FrozL.nil.cons (Froz.fn ha hb)).cons (Froz.slD Src.froz _)) rfl rfl
  have hf : ∀ M k, fz M k (.fn (.func g) a b) = .fn (.func g) a b := fun M k => fz_of (Froz.fn ha hb) M k
  simp only [S_slices_ContainsFunc_api_Src_api_Src, R_slices_ContainsFunc_api_Src_api_Src, MU_slices_ContainsFunc_api_Src_api_Src, MU_slices_ContainsFunc_api_Src_api_Src, fz_srcs, hf, List.map_cons, List.map_nil, SW, wpD, evDL, evDM, evD, bldLD, List.contains_cons, List.contains_nil, Nat.reduceBEq, beq_self_eq_true, Nat.reduceMul, Nat.reduceSub, wpSp, Option.bind_some, Option.some.injEq, exists_eq_left', exists_eq_left, reduceIte, if_false, if_true, Nat.reduceEqDiff, Nat.reduceAdd, Nat.reduceLeDiff, Int.reduceEq, Int.reduceLT, Int.reduceLE, Int.reduceToNat, decide_true, decide_false, DV.bool.injEq, DV.int.injEq, DV.mp.injEq, DV.msl.injEq, DV.tup.injEq, DV.agg.injEq, DV.fn.injEq, true_implies, forall_const, reduceCtorEq, implies_true, ne_eq, DMem.mt, IndexFunc_src g a b ha hb p l hl hp, idxF_any]
theorem IndexFunc_meta1 (g : Nat) (a b : List DV) (ha : FrozL a) (hb : FrozL b) (p : List Part → Bool) (l : List (List Part)) (hl : l.length ≤ 4611686018427387904)
    (hp : ∀ i (h : i < l.length), pf Tryd.prog g (a ++ .agg (metaC l[i]) :: b) = some (.bool (p l[i]))) :
    pf Tryd.prog F_slices_IndexFunc_api_Meta_api_Meta [slD metaC l, .fn (.func g) a b] = some (.int .i64 (idxF p l)) := by
  refine pf_of (v := .int _ _) (pc_slices_IndexFunc_api_Meta_api_Meta (by simp) ?_) ((FrozL.nil.cons (Froz.fn ha hb)).cons (Froz.slD metaC_froz _)) rfl rfl
  simp only [S_slices_IndexFunc_api_Meta_api_Meta, R_slices_IndexFunc_api_Meta_api_Meta, MU_slices_IndexFunc_api_Meta_api_Meta, MU_slices_IndexFunc_api_Meta_api_Meta, S1_slices_IndexFunc_api_Meta_api_Meta, SW, wpD, evDL, evDM, evD, bldLD, List.contains_cons, List.contains_nil, Nat.reduceBEq, beq_self_eq_true, Nat.reduceMul, Nat.reduceSub, wpSp, Option.bind_some, Option.some.injEq, exists_eq_left', exists_eq_left, reduceIte, if_false, if_true, Nat.reduceEqDiff, Nat.reduceAdd, Nat.reduceLeDiff, Int.reduceEq, Int.reduceLT, Int.reduceLE, Int.reduceToNat, decide_true, decide_false, DV.bool.injEq, DV.int.injEq, DV.mp.injEq, DV.msl.injEq, DV.tup.injEq, DV.agg.injEq, DV.fn.injEq, true_implies, forall_const, reduceCtorEq, implies_true, ne_eq, DMem.mt]
  refine ⟨fun k δ M => ∃ i, i ≤ l.length ∧ k = l.length - i ∧ M = DMem.mt ∧ δ 0 = slD metaC l ∧ δ 1 = .fn (.func g) a b ∧ δ 7 = .int .i64 l.length ∧ δ 8 = .int .i64 i ∧ (∀ j (h : j < l.length), j < i → p l[j] = false),
    l.length, ⟨0, Nat.zero_le _, rfl, rfl, rfl, rfl, rfl, rfl, fun j h hj => absurd hj (by omega)⟩, ?_⟩
  rintro k δ M ⟨i, hi, rfl, rfl, h0, h1, h7, h8, hj⟩
  simp only [h0, h1, h7, h8, SW, wpD, evDL, evDM, evD, bldLD, List.contains_cons, List.contains_nil, Nat.reduceBEq, beq_self_eq_true, Nat.reduceMul, Nat.reduceSub, wpSp, Option.bind_some, Option.some.injEq, exists_eq_left', exists_eq_left, reduceIte, if_false, if_true, Nat.reduceEqDiff, Nat.reduceAdd, Nat.reduceLeDiff, Int.reduceEq, Int.reduceLT, Int.reduceLE, Int.reduceToNat, decide_true, decide_false, DV.bool.injEq, DV.int.injEq, DV.mp.injEq, DV.msl.injEq, DV.tup.injEq, DV.agg.injEq, DV.fn.injEq, true_implies, forall_const, reduceCtorEq, implies_true, ne_eq, DMem.mt, decide_eq_true_eq, decide_eq_false_iff_not]
  refine ⟨fun h => ?_, fun h => ?_⟩
  · have hlt : i < l.length := by omega
    simp only [ix_slD metaC_len hlt, ldnI1, h0, h1, h7, h8, SW, wpD, evDL, evDM, evD, bldLD, List.contains_cons, List.contains_nil, Nat.reduceBEq, beq_self_eq_true, Nat.reduceMul, Nat.reduceSub, wpSp, Option.bind_some, Option.some.injEq, exists_eq_left', exists_eq_left, reduceIte, if_false, if_true, Nat.reduceEqDiff, Nat.reduceAdd, Nat.reduceLeDiff, Int.reduceEq, Int.reduceLT, Int.reduceLE, Int.reduceToNat, decide_true, decide_false, DV.bool.injEq, DV.int.injEq, DV.mp.injEq, DV.msl.injEq, DV.tup.injEq, DV.agg.injEq, DV.fn.injEq, true_implies, forall_const, reduceCtorEq, implies_true, ne_eq, DMem.mt, w64s (show i < 4611686018427387905 by omega)]
    refine ⟨g, a, b, rfl, rfl, rfl, PC.of_pf (d := .bool (p l[i])) ?_ ?_⟩
    · rw [fzmap_froz (by simpa using ha.append (hb.cons (Froz.agg (metaC_froz l[i]))))]; simpa using hp i hlt
    · simp only [SW, wpD, evDL, evDM, evD, bldLD, List.contains_cons, List.contains_nil, Nat.reduceBEq, beq_self_eq_true, Nat.reduceMul, Nat.reduceSub, wpSp, Option.bind_some, Option.some.injEq, exists_eq_left', exists_eq_left, reduceIte, if_false, if_true, Nat.reduceEqDiff, Nat.reduceAdd, Nat.reduceLeDiff, Int.reduceEq, Int.reduceLT, Int.reduceLE, Int.reduceToNat, decide_true, decide_false, DV.bool.injEq, DV.int.injEq, DV.mp.injEq, DV.msl.injEq, DV.tup.injEq, DV.agg.injEq, DV.fn.injEq, true_implies, forall_const, reduceCtorEq, implies_true, ne_eq, DMem.mt]
      refine ⟨fun hpi => ?_, fun hpi => ⟨l.length - (i + 1), DMem.mt, by omega, SubD.refl _, i + 1, by omega, rfl, rfl, rfl, fun j h' hji => ?_⟩⟩
      · rw [idxF_hit i hlt hpi hj]
      · rcases Nat.lt_or_ge j i with h2 | h2
        · exact hj j h' h2
        · have : j = i := by omega
          subst this; exact hpi
  · rw [idxF_miss fun j h' => hj j h' (by omega)]
theorem Contains_meta1 (g : Nat) (a b : List DV) (ha : FrozL a) (hb : FrozL b) (p : List Part → Bool) (l : List (List Part)) (hl : l.length ≤ 4611686018427387904) (hp : ∀ i (h : i < l.length), pf Tryd.prog g (a ++ .agg (metaC l[i]) :: b) = some (.bool (p l[i]))) :
    pf Tryd.prog F_slices_ContainsFunc_api_Meta_api_Meta [slD metaC l, .fn (.func g) a b] = some (.bool (l.any p)) := by
  refine pf_of (v := .bool _) (pc_slices_ContainsFunc_api_Meta_api_Meta (by simp) ?_) ((FrozL.nil.cons (Froz.fn ha hb)).cons (Froz.slD metaC_froz _)) rfl rfl
  have hf : ∀ M k, fz M k (.fn (.func g) a b) = .fn (.func g) a b := fun M k => fz_of (Froz.fn ha hb) M k
  simp only [S_slices_ContainsFunc_api_Meta_api_Meta, R_slices_ContainsFunc_api_Meta_api_Meta, MU_slices_ContainsFunc_api_Meta_api_Meta, MU_slices_ContainsFunc_api_Meta_api_Meta, fz_metas, hf, List.map_cons, List.map_nil, SW, wpD, evDL, evDM, evD, bldLD, List.contains_cons, List.contains_nil, Nat.reduceBEq, beq_self_eq_true, Nat.reduceMul, Nat.reduceSub, wpSp, Option.bind_some, Option.some.injEq, exists_eq_left', exists_eq_left, reduceIte, if_false, if_true, Nat.reduceEqDiff, Nat.reduceAdd, Nat.reduceLeDiff, Int.reduceEq, Int.reduceLT, Int.reduceLE, Int.reduceToNat, decide_true, decide_false, DV.bool.injEq, DV.int.injEq, DV.mp.injEq, DV.msl.injEq, DV.tup.injEq, DV.agg.injEq, DV.fn.injEq, true_implies, forall_const, reduceCtorEq, implies_true, ne_eq, DMem.mt, IndexFunc_meta1 g a b ha hb p l hl hp, idxF_any]
theorem heights_len {p : List Fnc} (hv : verifyE p = 0) {n : Nat} (hn : n < p.length) : (heightsR p (n : Int)).1.length = p[n].code.length := by
  obtain ⟨hpk, hall⟩ := verify_ok hv
  exact (heights_hf hpk hn (hall n hn)).hi.len
theorem height_all {p : List Fnc} (hv : verifyE p = 0) {n : Nat} (hn : n < p.length) {i : Nat} (hi : i < (heightsR p (n : Int)).1.length) : (heightsR p (n : Int)).1[i] = heightF p n i :=
  (height_at ((verify_ok hv).2 n hn) (List.getElem?_eq_getElem hi)).symm
theorem height_ge {p : List Fnc} (hv : verifyE p = 0) {n : Nat} (hn : n < p.length) (i : Int) : heightF p n i = -1 ∨ (0 ≤ heightF p n i ∧ heightF p n i ≤ 8 ∧ 0 ≤ i ∧ i < p[n].code.length) := by
  obtain ⟨hpk, hall⟩ := verify_ok hv
  have hH := heights_hf hpk hn (hall n hn)
  unfold heightF
  split
  · rename_i h
    obtain ⟨h1, h2, h3⟩ := h
    have hlt : i.toNat < (heightsR p (n : Int)).1.length := by omega
    rw [List.getD_eq_getElem?_getD, List.getElem?_eq_getElem hlt]
    simp only [Option.getD_some]
    by_cases hne : (heightsR p (n : Int)).1[i.toNat] = -1
    · exact .inl hne
    · have := hH.hi.val i.toNat _ (List.getElem?_eq_getElem hlt) hne
      have hl := hH.hi.len
      exact .inr ⟨this.1, this.2.1, h2, by omega⟩
  · exact .inl rfl
theorem ix_rows {p : List Fnc} (hv : verifyE p = 0) {n : Nat} (hn : n < p.length) : ixD 1 (rowsD (allR p).1) (.int .i64 (n : Int)) = some (.ip (slI (heightsR p (n : Int)).1 :: (((List.range p.length).map (fun i : Nat => (heightsR p (i : Int)).1)).drop (n + 1)).map slI)) := by
  rw [verify_rows hv]
  unfold rowsD
  simp only [ixD, List.length_map, List.length_range]
  rw [if_pos ⟨by omega, by omega⟩, Int.toNat_natCast, Nat.mul_one, List.drop_eq_getElem_cons (by simpa using hn), ← List.map_drop]
  simp only [List.getElem_map, List.getElem_range]
theorem part_pf (p : List Fnc) (c : Cod) (hv : verifyE p = 0) (x : Part) (r : List DV) (hr : FrozL r) (less : Int) (hl : 0 ≤ less ∧ less ≤ 1) (hz : x.locals.length ≤ 4611686018427387904 ∧ x.stack.length ≤ 4611686018427387904) : pf Tryd.prog F_ir_sheet_part [shD p c, .ip (x.c ++ r), .int .i64 less] = some (.bool (partB p c.regs less x)) := by
  refine pf_of (v := .bool _) (pc_ir_sheet_part (by simp) ?_) (((FrozL.nil.cons (Froz.int _ _)).cons (Froz.ip ((Part.froz x).append hr))).cons (sh_froz p c)) rfl rfl
  have hS : ∀ (l : List Src), l.length ≤ 4611686018427387904 → pf Tryd.prog F_slices_ContainsFunc_api_Src_api_Src [slD Src.c l, .fn (.func 74) [shD p c] []] = some (.bool (l.any fun s => !srcB c.regs s)) := fun l hl => Contains_src _ [shD p c] [] (FrozL.nil.cons (sh_froz p c)) FrozL.nil (fun s => !srcB c.regs s) l hl (fun i h => srcNot_pf p c l[i])
  by_cases hf : 0 ≤ x.fn ∧ x.fn < p.length
  · obtain ⟨n, hn⟩ := Int.eq_ofNat_of_zero_le hf.1
    have hnl : n < p.length := by omega
    have hlo : localsOf p x.fn = p[n].locals := by unfold localsOf; rw [hn, Int.toNat_natCast, List.getElem?_eq_getElem hnl]
    simp only [S_ir_sheet_part, R_ir_sheet_part, MU_ir_sheet_part, List.cons_append, hn, ix_slD Fnc.len hnl, SW, wpD, evDL, evDM, evD, bldLD, List.contains_cons, List.contains_nil, Nat.reduceBEq, beq_self_eq_true, Nat.reduceMul, Nat.reduceSub, wpSp, Option.bind_some, Option.some.injEq, exists_eq_left', exists_eq_left, reduceIte, if_false, if_true, Nat.reduceEqDiff, Nat.reduceAdd, Nat.reduceLeDiff, Int.reduceEq, Int.reduceLT, Int.reduceLE, Int.reduceToNat, decide_true, decide_false, DV.bool.injEq, DV.int.injEq, DV.mp.injEq, DV.msl.injEq, DV.tup.injEq, DV.agg.injEq, DV.fn.injEq, true_implies, forall_const, reduceCtorEq, implies_true, ne_eq, DMem.mt]
    refine ⟨fun h => ?_, fun h => ?_⟩
    · simp at h
      have : heightF p n x.pc = -1 := by
        rcases height_ge hv hnl x.pc with h1 | h1
        · exact h1
        · omega
      unfold partB
      rw [hn, this]
      simp
    · simp at h
      obtain ⟨m, hm⟩ := Int.eq_ofNat_of_zero_le (show 0 ≤ x.pc by omega)
      have hml : m < p[n].code.length := by omega
      have hmh : m < (heightsR p (n : Int)).1.length := by rw [heights_len hv hnl]; exact hml
      have hle : heightF p n m = -1 ∨ (0 ≤ heightF p n m ∧ heightF p n m ≤ 8) := by
        rcases height_ge hv hnl m with h1 | h1
        · exact .inl h1
        · exact .inr ⟨h1.1, h1.2.1⟩
      have ew : wr64 (heightF p n m - less) = heightF p n m - less := w64 (by omega)
      simp only [hm, ix_rows hv hnl, ix_slI hmh, height_all hv hnl hmh, ix_slD Fnc.len hnl, ew, hS x.locals hz.1, hS x.stack hz.2, SW, wpD, evDL, evDM, evD, bldLD, List.contains_cons, List.contains_nil, Nat.reduceBEq, beq_self_eq_true, Nat.reduceMul, Nat.reduceSub, wpSp, Option.bind_some, Option.some.injEq, exists_eq_left', exists_eq_left, reduceIte, if_false, if_true, Nat.reduceEqDiff, Nat.reduceAdd, Nat.reduceLeDiff, Int.reduceEq, Int.reduceLT, Int.reduceLE, Int.reduceToNat, decide_true, decide_false, DV.bool.injEq, DV.int.injEq, DV.mp.injEq, DV.msl.injEq, DV.tup.injEq, DV.agg.injEq, DV.fn.injEq, true_implies, forall_const, reduceCtorEq, implies_true, ne_eq, DMem.mt]
      have hfn : ∀ M k, fz M k (.fn (.func 74) [shD p c] []) = .fn (.func 74) [shD p c] [] := fun M k => fz_of (Froz.fn (FrozL.nil.cons (sh_froz p c)) FrozL.nil) M k
      have hnn : decide (0 ≤ heightF p n m) = decide (¬ heightF p n m = -1) := decide_eq_decide.2 (by omega)
      have han : ∀ l : List Src, (!l.any fun s => !srcB c.regs s) = l.all (srcB c.regs) := fun l => by simp [List.not_any_eq_all_not]
      rw [hn] at hlo
      unfold partB
      rw [hn, hm, hlo, hnn]
      generalize hC : (decide (¬heightF p n m = -1) && decide ((x.locals.length : Int) = p[n].locals) && decide ((x.stack.length : Int) = heightF p n m - less)) = C at *
      cases C with
      | false =>
        simp only [grdTF, SW, wpD, evDL, evDM, evD, bldLD, List.contains_cons, List.contains_nil, Nat.reduceBEq, beq_self_eq_true, Nat.reduceMul, Nat.reduceSub, wpSp, Option.bind_some, Option.some.injEq, exists_eq_left', exists_eq_left, reduceIte, if_false, if_true, Nat.reduceEqDiff, Nat.reduceAdd, Nat.reduceLeDiff, Int.reduceEq, Int.reduceLT, Int.reduceLE, Int.reduceToNat, decide_true, decide_false, DV.bool.injEq, DV.int.injEq, DV.mp.injEq, DV.msl.injEq, DV.tup.injEq, DV.agg.injEq, DV.fn.injEq, true_implies, forall_const, reduceCtorEq, implies_true, ne_eq, DMem.mt]
        try rfl
      | true =>
        simp only [grdTT, hfn, fz_srcs, List.map_cons, List.map_nil, hS x.locals hz.1, hS x.stack hz.2, han, SW, wpD, evDL, evDM, evD, bldLD, List.contains_cons, List.contains_nil, Nat.reduceBEq, beq_self_eq_true, Nat.reduceMul, Nat.reduceSub, wpSp, Option.bind_some, Option.some.injEq, exists_eq_left', exists_eq_left, reduceIte, if_false, if_true, Nat.reduceEqDiff, Nat.reduceAdd, Nat.reduceLeDiff, Int.reduceEq, Int.reduceLT, Int.reduceLE, Int.reduceToNat, decide_true, decide_false, DV.bool.injEq, DV.int.injEq, DV.mp.injEq, DV.msl.injEq, DV.tup.injEq, DV.agg.injEq, DV.fn.injEq, true_implies, forall_const, reduceCtorEq, implies_true, ne_eq, DMem.mt]
        cases x.locals.all (srcB c.regs) <;> simp only [grdTT, grdTF, hfn, fz_srcs, List.map_cons, List.map_nil, hS x.stack hz.2, han, SW, wpD, evDL, evDM, evD, bldLD, List.contains_cons, List.contains_nil, Nat.reduceBEq, beq_self_eq_true, Nat.reduceMul, Nat.reduceSub, wpSp, Option.bind_some, Option.some.injEq, exists_eq_left', exists_eq_left, reduceIte, if_false, if_true, Nat.reduceEqDiff, Nat.reduceAdd, Nat.reduceLeDiff, Int.reduceEq, Int.reduceLT, Int.reduceLE, Int.reduceToNat, decide_true, decide_false, DV.bool.injEq, DV.int.injEq, DV.mp.injEq, DV.msl.injEq, DV.tup.injEq, DV.agg.injEq, DV.fn.injEq, true_implies, forall_const, reduceCtorEq, implies_true, ne_eq, DMem.mt]
  · have hb : partB p c.regs less x = false := by
      have : heightF p x.fn x.pc = -1 := by
        unfold heightF
        rw [if_neg]
        rintro ⟨h1, h2, h3⟩
        unfold heightsR at h1
        rw [if_neg (fun hh => hf hh.2)] at h1
        exact absurd h1 (by decide)
      unfold partB
      rw [this]; simp
    rw [hb]
    have hor : (decide (x.fn < 0) || decide ((p.length : Int) ≤ x.fn)) = true := by
      simp only [Bool.or_eq_true, decide_eq_true_eq]; omega
    simp only [S_ir_sheet_part, R_ir_sheet_part, MU_ir_sheet_part, List.cons_append, hor, SW, wpD, evDL, evDM, evD, bldLD, List.contains_cons, List.contains_nil, Nat.reduceBEq, beq_self_eq_true, Nat.reduceMul, Nat.reduceSub, wpSp, Option.bind_some, Option.some.injEq, exists_eq_left', exists_eq_left, reduceIte, if_false, if_true, Nat.reduceEqDiff, Nat.reduceAdd, Nat.reduceLeDiff, Int.reduceEq, Int.reduceLT, Int.reduceLE, Int.reduceToNat, decide_true, decide_false, DV.bool.injEq, DV.int.injEq, DV.mp.injEq, DV.msl.injEq, DV.tup.injEq, DV.agg.injEq, DV.fn.injEq, true_implies, forall_const, reduceCtorEq, implies_true, ne_eq, DMem.mt]
theorem After_pf (p : List Fnc) (hv : verifyE p = 0) (fn pc called : Int) (hf : 0 ≤ fn ∧ fn < p.length) : pf Tryd.prog F_frame_After [.ip [slD Fnc.c p], rowsD (allR p).1, .int .i64 fn, .int .i64 pc, .int .i64 called] = some (.bool (behindB p fn pc called)) := by
  refine pf_of (v := .bool _) (pc_frame_After (by simp) ?_) (((((FrozL.nil.cons (Froz.int _ _)).cons (Froz.int _ _)).cons (Froz.int _ _)).cons (rows_froz _)).cons (Froz.ip (FrozL.nil.cons (Froz.slD Fnc.froz p)))) rfl rfl
  obtain ⟨n, rfl⟩ := Int.eq_ofNat_of_zero_le hf.1
  have hnl : n < p.length := by omega
  simp only [S_frame_After, R_frame_After, MU_frame_After, ix_slD Fnc.len hnl, ix_rows hv hnl, SW, wpD, evDL, evDM, evD, bldLD, List.contains_cons, List.contains_nil, Nat.reduceBEq, beq_self_eq_true, Nat.reduceMul, Nat.reduceSub, wpSp, Option.bind_some, Option.some.injEq, exists_eq_left', exists_eq_left, reduceIte, if_false, if_true, Nat.reduceEqDiff, Nat.reduceAdd, Nat.reduceLeDiff, Int.reduceEq, Int.reduceLT, Int.reduceLE, Int.reduceToNat, decide_true, decide_false, DV.bool.injEq, DV.int.injEq, DV.mp.injEq, DV.msl.injEq, DV.tup.injEq, DV.agg.injEq, DV.fn.injEq, true_implies, forall_const, reduceCtorEq, implies_true, ne_eq, DMem.mt]
  by_cases hpc : 0 < pc ∧ pc ≤ p[n].code.length
  · obtain ⟨m, hm⟩ := Int.eq_ofNat_of_zero_le (show 0 ≤ pc - 1 by omega)
    have hml : m < p[n].code.length := by omega
    have hmh : m < (heightsR p (n : Int)).1.length := by rw [heights_len hv hnl]; exact hml
    obtain ⟨hpk, hall⟩ := verify_ok hv
    have hl64 := (fmay_le (fn_may (heights_hf hpk hnl (hall n hnl)).fn)).2
    have ew : wr64 (pc - 1) = (m : Int) := by rw [w64 (by omega)]; exact hm
    have hle := height_ge hv hnl (m : Int)
    have hc : codeAt p n m = p[n].code[m] := by unfold codeAt; rw [Int.toNat_natCast, List.getElem?_eq_getElem hnl]; simp only [Int.toNat_natCast, List.getD_eq_getElem?_getD, List.getElem?_eq_getElem hml, Option.getD_some]
    have hl2 : ∀ K : DMem, ∀ r : List DV, ldnD K 2 (.ip (.int .i64 p[n].code[m].kind :: .int .i64 p[n].code[m].a :: r)) = some (.agg p[n].code[m].c) := fun K r => by simp [ldnD]
    have hb : behindB p n pc called = (decide (¬ heightF p n m = -1) && ((p[n].code[m].kind == 14) && ((p[n].code[m].a == called) && true))) := by
      unfold behindB
      rw [hm, hc]
      have e1 : decide (0 ≤ heightF p n m) = decide (¬ heightF p n m = -1) := decide_eq_decide.2 (by omega)
      rw [e1]
      congr 1
      rw [Bool.eq_iff_iff]
      cases p[n].code[m]; simp
    rw [hb]
    simp only [decide_eq_true hpc.1, decide_eq_true hpc.2, ew, ix_slI hmh, height_all hv hnl hmh, ix_slD Ins.len hml, hl2, eqs2, SW, wpD, evDL, evDM, evD, bldLD, List.contains_cons, List.contains_nil, Nat.reduceBEq, beq_self_eq_true, Nat.reduceMul, Nat.reduceSub, wpSp, Option.bind_some, Option.some.injEq, exists_eq_left', exists_eq_left, reduceIte, if_false, if_true, Nat.reduceEqDiff, Nat.reduceAdd, Nat.reduceLeDiff, Int.reduceEq, Int.reduceLT, Int.reduceLE, Int.reduceToNat, decide_true, decide_false, DV.bool.injEq, DV.int.injEq, DV.mp.injEq, DV.msl.injEq, DV.tup.injEq, DV.agg.injEq, DV.fn.injEq, true_implies, forall_const, reduceCtorEq, implies_true, ne_eq, DMem.mt]
  · have h0 : (decide (0 < pc) && decide (pc ≤ (p[n].code.length : Int))) = false := by
      rw [← Bool.not_eq_true]; simp only [Bool.and_eq_true, decide_eq_true_eq]; exact hpc
    have hb : behindB p n pc called = false := by
      unfold behindB
      have : heightF p n (pc - 1) = -1 := by
        rcases height_ge hv hnl (pc - 1) with h1 | h1
        · exact h1
        · omega
      rw [this]; simp
    rw [hb]
    simp only [h0, SW, wpD, evDL, evDM, evD, bldLD, List.contains_cons, List.contains_nil, Nat.reduceBEq, beq_self_eq_true, Nat.reduceMul, Nat.reduceSub, wpSp, Option.bind_some, Option.some.injEq, exists_eq_left', exists_eq_left, reduceIte, if_false, if_true, Nat.reduceEqDiff, Nat.reduceAdd, Nat.reduceLeDiff, Int.reduceEq, Int.reduceLT, Int.reduceLE, Int.reduceToNat, decide_true, decide_false, DV.bool.injEq, DV.int.injEq, DV.mp.injEq, DV.msl.injEq, DV.tup.injEq, DV.agg.injEq, DV.fn.injEq, true_implies, forall_const, reduceCtorEq, implies_true, ne_eq, DMem.mt]
theorem part_fn {p : List Fnc} {regs less : Int} {x : Part} (h : partB p regs less x = true) : 0 ≤ x.fn ∧ x.fn < p.length := by
  unfold partB at h
  simp only [Bool.and_eq_true, decide_eq_true_eq] at h
  have h1 := h.1.1.1.1
  refine Decidable.byContradiction fun hf => ?_
  have : heightF p x.fn x.pc = -1 := by
    unfold heightF
    rw [if_neg]
    rintro ⟨h1, h2, h3⟩
    unfold heightsR at h1
    rw [if_neg (fun hh => hf hh.2)] at h1
    exact absurd h1 (by decide)
  omega
def SzM (m : List Part) : Prop := ∀ x ∈ m, x.locals.length ≤ 4611686018427387904 ∧ x.stack.length ≤ 4611686018427387904
theorem metaNot_pf (p : List Fnc) (c : Cod) (hv : verifyE p = 0) (m : List Part) (hz : SzM m) : pf Tryd.prog F_ir_sheet_metaNot [shD p c, .agg (metaC m)] = some (.bool (!metaB p c.fn c.regs m)) := by
  refine pf_of (v := .bool _) (pc_ir_sheet_metaNot (by simp) ?_) ((FrozL.nil.cons (Froz.agg (metaC_froz m))).cons (sh_froz p c)) rfl rfl
  have fsh : ∀ M k, fz M k (shD p c) = shD p c := fun M k => fz_of (sh_froz p c) M k
  have fp : ∀ M k, fz M k (.ip [slD Fnc.c p]) = .ip [slD Fnc.c p] := fun M k => fz_of (Froz.ip (FrozL.nil.cons (Froz.slD Fnc.froz p))) M k
  have fr : ∀ M k, fz M k (rowsD (allR p).1) = rowsD (allR p).1 := fun M k => fz_of (rows_froz _) M k
  match m, hz with
  | [], _ =>
    have e1 : decide (((0 : Nat) : Int) = 1) = false := by decide
    have e2 : decide (((0 : Nat) : Int) = 2) = false := by decide
    simp only [S_ir_sheet_metaNot, R_ir_sheet_metaNot, MU_ir_sheet_metaNot, ldnI1, List.length_nil, e1, e2, SW, wpD, evDL, evDM, evD, bldLD, List.contains_cons, List.contains_nil, Nat.reduceBEq, beq_self_eq_true, Nat.reduceMul, Nat.reduceSub, wpSp, Option.bind_some, Option.some.injEq, exists_eq_left', exists_eq_left, reduceIte, if_false, if_true, Nat.reduceEqDiff, Nat.reduceAdd, Nat.reduceLeDiff, Int.reduceEq, Int.reduceLT, Int.reduceLE, Int.reduceToNat, decide_true, decide_false, DV.bool.injEq, DV.int.injEq, DV.mp.injEq, DV.msl.injEq, DV.tup.injEq, DV.agg.injEq, DV.fn.injEq, true_implies, forall_const, reduceCtorEq, implies_true, ne_eq, DMem.mt] <;> rfl
  | [a], hz =>
    have x0 : ixD 4 (slD Part.c [a]) (.int .i64 0) = some (.ip (a.c ++ [])) := rfl
    have p0 := part_pf p c hv a [] FrozL.nil 0 (by decide) (hz a (by simp))
    have f0 : ∀ M k, fz M k (.ip (a.c ++ [])) = .ip (a.c ++ []) := fun M k => fz_of (Froz.ip ((Part.froz a).append FrozL.nil)) M k
    have e1 : decide (((1 : Nat) : Int) = 1) = true := by decide
    simp only [List.append_nil] at x0 p0 f0
    simp only [S_ir_sheet_metaNot, R_ir_sheet_metaNot, MU_ir_sheet_metaNot, ldnI1, List.length_cons, List.length_nil, e1, x0, p0, f0, fsh, fz_int, List.map_cons, List.map_nil, SW, wpD, evDL, evDM, evD, bldLD, List.contains_cons, List.contains_nil, Nat.reduceBEq, beq_self_eq_true, Nat.reduceMul, Nat.reduceSub, wpSp, Option.bind_some, Option.some.injEq, exists_eq_left', exists_eq_left, reduceIte, if_false, if_true, Nat.reduceEqDiff, Nat.reduceAdd, Nat.reduceLeDiff, Int.reduceEq, Int.reduceLT, Int.reduceLE, Int.reduceToNat, decide_true, decide_false, DV.bool.injEq, DV.int.injEq, DV.mp.injEq, DV.msl.injEq, DV.tup.injEq, DV.agg.injEq, DV.fn.injEq, true_implies, forall_const, reduceCtorEq, implies_true, ne_eq, DMem.mt]
    unfold metaB
    by_cases h : a.fn = c.fn <;> simp [h]
  | [a, b], hz =>
    have x0 : ixD 4 (slD Part.c [a, b]) (.int .i64 0) = some (.ip (a.c ++ b.c)) := by simp [slD, ixD]
    have x1 : ixD 4 (slD Part.c [a, b]) (.int .i64 1) = some (.ip (b.c ++ [])) := by simp [slD, ixD]
    have p0 := part_pf p c hv a b.c (Part.froz b) 1 (by decide) (hz a (by simp))
    have p1 := part_pf p c hv b [] FrozL.nil 0 (by decide) (hz b (by simp))
    have f0 : ∀ M k, fz M k (.ip (a.c ++ b.c)) = .ip (a.c ++ b.c) := fun M k => fz_of (Froz.ip ((Part.froz a).append (Part.froz b))) M k
    have f1 : ∀ M k, fz M k (.ip (b.c ++ [])) = .ip (b.c ++ []) := fun M k => fz_of (Froz.ip ((Part.froz b).append FrozL.nil)) M k
    have e1 : decide (((2 : Nat) : Int) = 1) = false := by decide
    have e2 : decide (((2 : Nat) : Int) = 2) = true := by decide
    simp only [List.append_nil] at x1 p1 f1
    simp only [List.cons_append, List.nil_append] at x0 p0 f0
    simp only [S_ir_sheet_metaNot, R_ir_sheet_metaNot, MU_ir_sheet_metaNot, ldnI1, List.length_cons, List.length_nil, e1, e2, x0, x1, p0, p1, f0, f1, fsh, fp, fr, fz_int, List.map_cons, List.map_nil, SW, wpD, evDL, evDM, evD, bldLD, List.contains_cons, List.contains_nil, Nat.reduceBEq, beq_self_eq_true, Nat.reduceMul, Nat.reduceSub, wpSp, Option.bind_some, Option.some.injEq, exists_eq_left', exists_eq_left, reduceIte, if_false, if_true, Nat.reduceEqDiff, Nat.reduceAdd, Nat.reduceLeDiff, Int.reduceEq, Int.reduceLT, Int.reduceLE, Int.reduceToNat, decide_true, decide_false, DV.bool.injEq, DV.int.injEq, DV.mp.injEq, DV.msl.injEq, DV.tup.injEq, DV.agg.injEq, DV.fn.injEq, true_implies, forall_const, reduceCtorEq, implies_true, ne_eq, DMem.mt]
    have hm : metaB p c.fn c.regs [a, b] = (!((decide (¬a.fn = c.fn) || !partB p c.regs 1 a) || !partB p c.regs 0 b) && behindB p a.fn a.pc b.fn) := by
      unfold metaB
      by_cases h : a.fn = c.fn <;> simp [h]
    rw [hm]
    cases hC : ((decide (¬a.fn = c.fn) || !partB p c.regs 1 a) || !partB p c.regs 0 b) with
    | true => simp only [SW, wpD, evDL, evDM, evD, bldLD, List.contains_cons, List.contains_nil, Nat.reduceBEq, beq_self_eq_true, Nat.reduceMul, Nat.reduceSub, wpSp, Option.bind_some, Option.some.injEq, exists_eq_left', exists_eq_left, reduceIte, if_false, if_true, Nat.reduceEqDiff, Nat.reduceAdd, Nat.reduceLeDiff, Int.reduceEq, Int.reduceLT, Int.reduceLE, Int.reduceToNat, decide_true, decide_false, DV.bool.injEq, DV.int.injEq, DV.mp.injEq, DV.msl.injEq, DV.tup.injEq, DV.agg.injEq, DV.fn.injEq, true_implies, forall_const, reduceCtorEq, implies_true, ne_eq, DMem.mt]
    | false =>
      have hpa : partB p c.regs 1 a = true := by
        simp only [Bool.or_eq_false_iff, Bool.not_eq_false'] at hC; exact hC.1.2
      have hf := part_fn hpa
      simp only [After_pf p hv a.fn a.pc b.fn hf, SW, wpD, evDL, evDM, evD, bldLD, List.contains_cons, List.contains_nil, Nat.reduceBEq, beq_self_eq_true, Nat.reduceMul, Nat.reduceSub, wpSp, Option.bind_some, Option.some.injEq, exists_eq_left', exists_eq_left, reduceIte, if_false, if_true, Nat.reduceEqDiff, Nat.reduceAdd, Nat.reduceLeDiff, Int.reduceEq, Int.reduceLT, Int.reduceLE, Int.reduceToNat, decide_true, decide_false, DV.bool.injEq, DV.int.injEq, DV.mp.injEq, DV.msl.injEq, DV.tup.injEq, DV.agg.injEq, DV.fn.injEq, true_implies, forall_const, reduceCtorEq, implies_true, ne_eq, DMem.mt]
  | a :: b :: e :: r, hz =>
    have e1 : decide (((r.length + 1 + 1 + 1 : Nat) : Int) = 1) = false := decide_eq_false (by omega)
    have e2 : decide (((r.length + 1 + 1 + 1 : Nat) : Int) = 2) = false := decide_eq_false (by omega)
    simp only [S_ir_sheet_metaNot, R_ir_sheet_metaNot, MU_ir_sheet_metaNot, ldnI1, List.length_cons, e1, e2, SW, wpD, evDL, evDM, evD, bldLD, List.contains_cons, List.contains_nil, Nat.reduceBEq, beq_self_eq_true, Nat.reduceMul, Nat.reduceSub, wpSp, Option.bind_some, Option.some.injEq, exists_eq_left', exists_eq_left, reduceIte, if_false, if_true, Nat.reduceEqDiff, Nat.reduceAdd, Nat.reduceLeDiff, Int.reduceEq, Int.reduceLT, Int.reduceLE, Int.reduceToNat, decide_true, decide_false, DV.bool.injEq, DV.int.injEq, DV.mp.injEq, DV.msl.injEq, DV.tup.injEq, DV.agg.injEq, DV.fn.injEq, true_implies, forall_const, reduceCtorEq, implies_true, ne_eq, DMem.mt] <;> rfl
structure SzC (c : Cod) : Prop where
  n : c.code.length * 88 ≤ 140737488351232
  a : ∀ x ∈ c.code, x.args.length * 8 ≤ 140737488351232
  m : c.metas.length * 24 ≤ 140737488351232
  s : ∀ m ∈ c.metas, SzM m
theorem irMay_pf (p : List Fnc) (c : Cod) (hz : SzC c) : pf Tryd.prog F_ir_May [.agg [slD Fnc.c p], .agg c.c] = some (.bool (codeMayB p c)) := by
  refine pf_of (v := .bool _) (pc_ir_May (by simp) ?_) ((FrozL.nil.cons (Froz.agg (Cod.froz c))).cons (Froz.agg (FrozL.nil.cons (Froz.slD Fnc.froz p)))) rfl rfl
  simp only [S_ir_May, R_ir_May, MU_ir_May, SW, wpD, evDL, evDM, evD, bldLD, List.contains_cons, List.contains_nil, Nat.reduceBEq, beq_self_eq_true, Nat.reduceMul, Nat.reduceSub, wpSp, Option.bind_some, Option.some.injEq, exists_eq_left', exists_eq_left, reduceIte, if_false, if_true, Nat.reduceEqDiff, Nat.reduceAdd, Nat.reduceLeDiff, Int.reduceEq, Int.reduceLT, Int.reduceLE, Int.reduceToNat, decide_true, decide_false, DV.bool.injEq, DV.int.injEq, DV.mp.injEq, DV.msl.injEq, DV.tup.injEq, DV.agg.injEq, DV.fn.injEq, true_implies, forall_const, reduceCtorEq, implies_true, ne_eq, DMem.mt]
  refine Pu.pc (All_pu p) ?_
  by_cases hA : verifyE p = 0 ∧ 0 ≤ c.fn ∧ c.fn < p.length
  · have eA : ((decide (¬(allR p).2 = 0) || decide (c.fn < 0)) || decide ((p.length : Int) ≤ c.fn)) = false := by
      have : (allR p).2 = 0 := hA.1
      simp only [Bool.or_eq_false_iff, decide_eq_false_iff_not]; omega
    obtain ⟨hv, hf0, hfl⟩ := hA
    obtain ⟨n, hn⟩ := Int.eq_ofNat_of_zero_le hf0
    have hnl : n < p.length := by omega
    have hlo : localsOf p c.fn = p[n].locals := by unfold localsOf; rw [hn, Int.toNat_natCast, List.getElem?_eq_getElem hnl]
    rw [hn] at eA
    have hix : ixD 3 (slD Fnc.c p) (.int .i64 c.fn) = some (.ip (p[n].c ++ (p.drop (n + 1)).flatMap Fnc.c)) := by rw [hn]; exact ix_slD Fnc.len hnl
    rw [← hn] at eA
    have hmx : (if decide (1 < p[n].locals) = true then DV.int .i64 p[n].locals else .int .i64 1) = .int .i64 (if 1 < p[n].locals then p[n].locals else 1) := by
      by_cases h : 1 < p[n].locals <;> simp [h]
    have hcr : cellsD (rowsD (allR p).1) = some [rowsD (allR p).1] := rfl
    simp only [S3_ir_May, MU_ir_May, hix, eA, hmx, hcr, grdFF, grdFT, pickB, SW, wpD, evDL, evDM, evD, bldLD, List.contains_cons, List.contains_nil, Nat.reduceBEq, beq_self_eq_true, Nat.reduceMul, Nat.reduceSub, wpSp, Option.bind_some, Option.some.injEq, exists_eq_left', exists_eq_left, reduceIte, if_false, if_true, Nat.reduceEqDiff, Nat.reduceAdd, Nat.reduceLeDiff, Int.reduceEq, Int.reduceLT, Int.reduceLE, Int.reduceToNat, decide_true, decide_false, DV.bool.injEq, DV.int.injEq, DV.mp.injEq, DV.msl.injEq, DV.tup.injEq, DV.agg.injEq, DV.fn.injEq, true_implies, forall_const, reduceCtorEq, implies_true, ne_eq, DMem.mt]
    refine ⟨fun h => ?_, fun h => ?_⟩
    · have : headB p c = false := by
        unfold headB
        refine decide_eq_false ?_
        rintro ⟨g1, g2, g3, g4, g5, g6, g7, g8, g9⟩
        simp only [Bool.or_eq_true, decide_eq_true_eq] at h
        rw [hlo] at g5
        split at h <;> omega
      unfold codeMayB
      rw [this] <;> rfl
    · have hh : headB p c = true := by
        unfold headB
        refine decide_eq_true ?_
        simp only [Bool.or_eq_false_iff, decide_eq_false_iff_not] at h
        rw [hlo]
        split at h <;> exact ⟨hv, by omega, by omega, by omega, by omega, by omega, by omega, by omega, by omega⟩
      refine ⟨fun k δ M' => ∃ i : Nat, i ≤ c.code.length ∧ k = c.code.length - i ∧ M' = DMem.mt ∧ δ 3 = .ip c.c ∧ δ 7 = .int .i64 c.code.length ∧ δ 8 = shD p c ∧ δ 70 = .int .i64 c.code.length ∧ δ 71 = .int .i64 i ∧ (∀ j (hj : j < c.code.length), j < i → irMayB p c.regs c.code.length c.metas.length j c.code[j] = true), c.code.length,
        ⟨0, Nat.zero_le _, rfl, rfl, rfl, rfl, rfl, rfl, rfl, fun j _ hj => absurd hj (by omega)⟩, ?_⟩
      rintro k δ M' ⟨i, hi, rfl, rfl, h3, h7, h8, h70, h71, hall⟩
      have hzn := hz.n
      simp only [S1_ir_May, MU_ir_May, h3, h7, h8, h70, h71, SW, wpD, evDL, evDM, evD, bldLD, List.contains_cons, List.contains_nil, Nat.reduceBEq, beq_self_eq_true, Nat.reduceMul, Nat.reduceSub, wpSp, Option.bind_some, Option.some.injEq, exists_eq_left', exists_eq_left, reduceIte, if_false, if_true, Nat.reduceEqDiff, Nat.reduceAdd, Nat.reduceLeDiff, Int.reduceEq, Int.reduceLT, Int.reduceLE, Int.reduceToNat, decide_true, decide_false, DV.bool.injEq, DV.int.injEq, DV.mp.injEq, DV.msl.injEq, DV.tup.injEq, DV.agg.injEq, DV.fn.injEq, true_implies, forall_const, reduceCtorEq, implies_true, ne_eq, DMem.mt, decide_eq_true_eq, decide_eq_false_iff_not]
      refine ⟨fun hlt => ?_, fun hge => ?_⟩
      · have hil : i < c.code.length := by omega
        have ei : wr64 ((i : Int) + 1) = ((i + 1 : Nat) : Int) := w64s (by omega)
        simp only [h3, h7, h8, h70, h71, ei, ins_pf p c i hil (hz.a _ (List.getElem_mem hil)), fz_of (sh_froz p c), fz_irs, fz_metas, fz_prg, fz_of (rows_froz _), fz_int, List.map_cons, List.map_nil, SW, wpD, evDL, evDM, evD, bldLD, List.contains_cons, List.contains_nil, Nat.reduceBEq, beq_self_eq_true, Nat.reduceMul, Nat.reduceSub, wpSp, Option.bind_some, Option.some.injEq, exists_eq_left', exists_eq_left, reduceIte, if_false, if_true, Nat.reduceEqDiff, Nat.reduceAdd, Nat.reduceLeDiff, Int.reduceEq, Int.reduceLT, Int.reduceLE, Int.reduceToNat, decide_true, decide_false, DV.bool.injEq, DV.int.injEq, DV.mp.injEq, DV.msl.injEq, DV.tup.injEq, DV.agg.injEq, DV.fn.injEq, true_implies, forall_const, reduceCtorEq, implies_true, ne_eq, DMem.mt]
        refine ⟨fun hb => ?_, fun hb => ⟨c.code.length - (i + 1), DMem.mt, by omega, SubD.refl _, i + 1, by omega, rfl, rfl, rfl, fun j g1 g2 => ?_⟩⟩
        · have hb : irMayB p c.regs c.code.length c.metas.length i c.code[i] = false := by simpa using hb
          have : irsB p c = false := by
            unfold irsB
            rw [List.all_eq_false]
            exact ⟨i, List.mem_range.2 hil, by simp only [List.getElem?_eq_getElem hil]; simp [hb]⟩
          unfold codeMayB
          rw [this]; simp
        · have hb : irMayB p c.regs c.code.length c.metas.length i c.code[i] = true := by simpa using hb
          rcases Nat.lt_or_ge j i with g3 | g3
          · exact hall j g1 g3
          · have : j = i := by omega
            subst this; exact hb
      · have hei : i = c.code.length := by omega
        subst hei
        have hirs : irsB p c = true := by
          unfold irsB
          rw [List.all_eq_true]
          intro j hj
          have hj := List.mem_range.1 hj
          simp only [List.getElem?_eq_getElem hj]
          exact hall j hj hj
        have hpos : 1 ≤ c.code.length := by
          have := of_decide_eq_true hh
          exact this.2.2.2.2.2.2.1
        have hlt : c.code.length - 1 < c.code.length := by omega
        have ew : wr64 ((c.code.length : Int) - 1) = ((c.code.length - 1 : Nat) : Int) := by rw [w64 (by omega)]; omega
        have hfn : ∀ M k, fz M k (.fn (.func 34) [shD p c] []) = .fn (.func 34) [shD p c] [] := fun M k => fz_of (Froz.fn (FrozL.nil.cons (sh_froz p c)) FrozL.nil) M k
        have hC : pf Tryd.prog F_slices_ContainsFunc_api_Meta_api_Meta [slD metaC c.metas, .fn (.func 34) [shD p c] []] = some (.bool (c.metas.any fun m => !metaB p c.fn c.regs m)) := Contains_meta1 _ [shD p c] [] (FrozL.nil.cons (sh_froz p c)) FrozL.nil (fun m => !metaB p c.fn c.regs m) c.metas (by have := hz.m; omega) (fun i h => metaNot_pf p c hv _ (hz.s _ (List.getElem_mem h)))
        have han : (!c.metas.any fun m => !metaB p c.fn c.regs m) = c.metas.all (metaB p c.fn c.regs) := by simp [List.not_any_eq_all_not]
        have hb : codeMayB p c = (c.metas.all (metaB p c.fn c.regs) && (decide (c.code[c.code.length - 1].kind = 4) || decide (c.code[c.code.length - 1].kind = 8))) := by
          unfold codeMayB lastB
          rw [hh, hirs, List.getLast?_eq_getElem?, List.getElem?_eq_getElem hlt]
          simp
        rw [hb]
        simp only [S2_ir_May, MU_ir_May, h3, h7, h8, ew, ix_slD Irc.len hlt, SW, wpD, evDL, evDM, evD, bldLD, List.contains_cons, List.contains_nil, Nat.reduceBEq, beq_self_eq_true, Nat.reduceMul, Nat.reduceSub, wpSp, Option.bind_some, Option.some.injEq, exists_eq_left', exists_eq_left, reduceIte, if_false, if_true, Nat.reduceEqDiff, Nat.reduceAdd, Nat.reduceLeDiff, Int.reduceEq, Int.reduceLT, Int.reduceLE, Int.reduceToNat, decide_true, decide_false, DV.bool.injEq, DV.int.injEq, DV.mp.injEq, DV.msl.injEq, DV.tup.injEq, DV.agg.injEq, DV.fn.injEq, true_implies, forall_const, reduceCtorEq, implies_true, ne_eq, DMem.mt]
        cases (decide (c.code[c.code.length - 1].kind = 4) || decide (c.code[c.code.length - 1].kind = 8)) with
        | false => simp only [grdTF, Bool.and_false, SW, wpD, evDL, evDM, evD, bldLD, List.contains_cons, List.contains_nil, Nat.reduceBEq, beq_self_eq_true, Nat.reduceMul, Nat.reduceSub, wpSp, Option.bind_some, Option.some.injEq, exists_eq_left', exists_eq_left, reduceIte, if_false, if_true, Nat.reduceEqDiff, Nat.reduceAdd, Nat.reduceLeDiff, Int.reduceEq, Int.reduceLT, Int.reduceLE, Int.reduceToNat, decide_true, decide_false, DV.bool.injEq, DV.int.injEq, DV.mp.injEq, DV.msl.injEq, DV.tup.injEq, DV.agg.injEq, DV.fn.injEq, true_implies, forall_const, reduceCtorEq, implies_true, ne_eq, DMem.mt]
        | true => simp only [grdTT, Bool.and_true, h8, hC, hfn, han, fz_metas, List.map_cons, List.map_nil, SW, wpD, evDL, evDM, evD, bldLD, List.contains_cons, List.contains_nil, Nat.reduceBEq, beq_self_eq_true, Nat.reduceMul, Nat.reduceSub, wpSp, Option.bind_some, Option.some.injEq, exists_eq_left', exists_eq_left, reduceIte, if_false, if_true, Nat.reduceEqDiff, Nat.reduceAdd, Nat.reduceLeDiff, Int.reduceEq, Int.reduceLT, Int.reduceLE, Int.reduceToNat, decide_true, decide_false, DV.bool.injEq, DV.int.injEq, DV.mp.injEq, DV.msl.injEq, DV.tup.injEq, DV.agg.injEq, DV.fn.injEq, true_implies, forall_const, reduceCtorEq, implies_true, ne_eq, DMem.mt]
  · have eA : ((decide (¬(allR p).2 = 0) || decide (c.fn < 0)) || decide ((p.length : Int) ≤ c.fn)) = true := by
      have : verifyE p = (allR p).2 := rfl
      simp only [Bool.or_eq_true, decide_eq_true_eq]; omega
    have hb : codeMayB p c = false := by
      unfold codeMayB headB
      rw [decide_eq_false (by rintro ⟨h1, h2, h3, _⟩; exact hA ⟨h1, h2, h3⟩)] <;> rfl
    rw [hb]
    simp only [S3_ir_May, MU_ir_May, eA, grdFF, grdFT, SW, wpD, evDL, evDM, evD, bldLD, List.contains_cons, List.contains_nil, Nat.reduceBEq, beq_self_eq_true, Nat.reduceMul, Nat.reduceSub, wpSp, Option.bind_some, Option.some.injEq, exists_eq_left', exists_eq_left, reduceIte, if_false, if_true, Nat.reduceEqDiff, Nat.reduceAdd, Nat.reduceLeDiff, Int.reduceEq, Int.reduceLT, Int.reduceLE, Int.reduceToNat, decide_true, decide_false, DV.bool.injEq, DV.int.injEq, DV.mp.injEq, DV.msl.injEq, DV.tup.injEq, DV.agg.injEq, DV.fn.injEq, true_implies, forall_const, reduceCtorEq, implies_true, ne_eq, DMem.mt]
end Go.Proofs.YticlgdhhnjpkjaaDoor.Pf
