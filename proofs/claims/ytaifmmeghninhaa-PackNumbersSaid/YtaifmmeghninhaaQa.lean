/- Instructions and functions: what the program and the document say of them is one and the same. No condition. -/
import Derived.Test.YtaifmmeghninhaaSx
import Derived.Test.YtaifmmeghninhaaDw
namespace Go.Proofs.Ytaifmmeghninhaa.Pf
open Go Go.RowKit Go.Proofs Go.Proofs.Ytaifmmeghninhaa.Mw Go.Proofs.Ytaifmmeghninhaa.Sx
set_option linter.unusedVariables false
set_option linter.unusedSimpArgs false
set_option maxRecDepth 4000
structure Ins where
  kind : Int
  a : Int
deriving DecidableEq
abbrev Ins.c (x : Ins) : List DV := [.int .i64 x.kind, .int .i64 x.a]
structure Fnc where
  args : Int
  locals : Int
  code : List Ins
abbrev Fnc.c (f : Fnc) : List DV := [.int .i64 f.args, .int .i64 f.locals, slD Ins.c f.code]
theorem Ins.len (x : Ins) : x.c.length = 2 := rfl
theorem Ins.froz (x : Ins) : FrozL x.c := (FrozL.nil.cons (Froz.int _ _)).cons (Froz.int _ _)
theorem Fnc.froz (f : Fnc) : FrozL f.c := ((FrozL.nil.cons (Froz.slD Ins.froz _)).cons (Froz.int _ _)).cons (Froz.int _ _)
theorem fz_ins (M : DMem) (k : Nat) (l : List Ins) : fz M k (slD Ins.c l) = slD Ins.c l := (Froz.slD Ins.froz l).fz M k

theorem Number_pf (x : Int) : pf Try.prog F_swageref1_Number [.int .i64 x] = some (.bool (decide (-2147483648 ≤ x) && decide (x ≤ 2147483647))) := by
  refine pf_of (v := .bool _) (pc_swageref1_Number (by simp) ?_) (FrozL.nil.cons (Froz.int _ _)) rfl rfl
  simp only [S_swageref1_Number, R_swageref1_Number, MU_swageref1_Number, MU_swageref1_Number, SW, wpD, evDL, evDM, evD, bldLD, List.contains_cons, List.contains_nil, Nat.reduceBEq, beq_self_eq_true, Nat.reduceMul, Nat.reduceSub, wpSp, Option.bind_some, Option.some.injEq, exists_eq_left', exists_eq_left, reduceIte, if_false, if_true, Nat.reduceEqDiff, Nat.reduceAdd, Nat.reduceLeDiff, Int.reduceEq, Int.reduceLT, Int.reduceLE, Int.reduceToNat, decide_true, decide_false, DV.bool.injEq, DV.int.injEq, DV.mp.injEq, DV.msl.injEq, DV.tup.injEq, DV.agg.injEq, DV.fn.injEq, true_implies, forall_const, reduceCtorEq, implies_true, ne_eq, DMem.mt]
theorem wrapIs_pf (x : Int) : pf Try.prog F_wrap_Is [.int .i64 x] = some (.bool (decide (-2147483648 ≤ x) && decide (x ≤ 2147483647))) := by
  refine pf_of (v := .bool _) (pc_wrap_Is (by simp) ?_) (FrozL.nil.cons (Froz.int _ _)) rfl rfl
  simp only [S_wrap_Is, R_wrap_Is, MU_wrap_Is, MU_wrap_Is, SW, wpD, evDL, evDM, evD, bldLD, List.contains_cons, List.contains_nil, Nat.reduceBEq, beq_self_eq_true, Nat.reduceMul, Nat.reduceSub, wpSp, Option.bind_some, Option.some.injEq, exists_eq_left', exists_eq_left, reduceIte, if_false, if_true, Nat.reduceEqDiff, Nat.reduceAdd, Nat.reduceLeDiff, Int.reduceEq, Int.reduceLT, Int.reduceLE, Int.reduceToNat, decide_true, decide_false, DV.bool.injEq, DV.int.injEq, DV.mp.injEq, DV.msl.injEq, DV.tup.injEq, DV.agg.injEq, DV.fn.injEq, true_implies, forall_const, reduceCtorEq, implies_true, ne_eq, DMem.mt]
  simp only [wr64_eq]; unfold wrap32 wrap64
  rw [Bool.eq_iff_iff]
  simp only [Bool.and_eq_true, decide_eq_true_eq]
  omega
def isB (x : Int) : Bool := decide (-2147483648 ≤ x) && decide (x ≤ 2147483647)
def belowF (k : Int) : Int := if k = 1 ∨ k = 2 then 8 else if k = 12 ∨ k = 13 then 64 else if k = 14 then 8 else 1
def mayB (x : Ins) : Bool := if x.kind < 0 ∨ 16 < x.kind then false else if x.kind = 0 then isB x.a else decide (0 ≤ x.a) && decide (x.a < belowF x.kind)
theorem below_pf (k : Int) : pf Try.prog F_ins_below [.int .i64 k] = some (.int .i64 (belowF k)) := by
  refine pf_of (v := .int _ _) (pc_ins_below (by simp) ?_) (FrozL.nil.cons (Froz.int _ _)) rfl rfl
  simp only [S_ins_below, R_ins_below, MU_ins_below, MU_ins_below, SW, wpD, evDL, evDM, evD, bldLD, List.contains_cons, List.contains_nil, Nat.reduceBEq, beq_self_eq_true, Nat.reduceMul, Nat.reduceSub, wpSp, Option.bind_some, Option.some.injEq, exists_eq_left', exists_eq_left, reduceIte, if_false, if_true, Nat.reduceEqDiff, Nat.reduceAdd, Nat.reduceLeDiff, Int.reduceEq, Int.reduceLT, Int.reduceLE, Int.reduceToNat, decide_true, decide_false, DV.bool.injEq, DV.int.injEq, DV.mp.injEq, DV.msl.injEq, DV.tup.injEq, DV.agg.injEq, DV.fn.injEq, true_implies, forall_const, reduceCtorEq, implies_true, ne_eq, DMem.mt, belowF]
  grind
theorem May_pf (x : Ins) : pf Try.prog F_ins_May [.agg x.c] = some (.bool (mayB x)) := by
  refine pf_of (v := .bool _) (pc_ins_May (by simp) ?_) (FrozL.nil.cons (Froz.agg x.froz)) rfl rfl
  simp only [S_ins_May, R_ins_May, MU_ins_May, MU_ins_May, SW, wpD, evDL, evDM, evD, bldLD, List.contains_cons, List.contains_nil, Nat.reduceBEq, beq_self_eq_true, Nat.reduceMul, Nat.reduceSub, wpSp, Option.bind_some, Option.some.injEq, exists_eq_left', exists_eq_left, reduceIte, if_false, if_true, Nat.reduceEqDiff, Nat.reduceAdd, Nat.reduceLeDiff, Int.reduceEq, Int.reduceLT, Int.reduceLE, Int.reduceToNat, decide_true, decide_false, DV.bool.injEq, DV.int.injEq, DV.mp.injEq, DV.msl.injEq, DV.tup.injEq, DV.agg.injEq, DV.fn.injEq, true_implies, forall_const, reduceCtorEq, implies_true, ne_eq, DMem.mt, wrapIs_pf, below_pf]
  simp only [mayB, isB]
  grind
theorem InsMay_pf (x : Ins) : pf Try.prog F_swageref1_InsMay [.agg x.c] = some (.bool (mayB x)) := by
  refine pf_of (v := .bool _) (pc_swageref1_InsMay (by simp) ?_) (FrozL.nil.cons (Froz.agg x.froz)) rfl rfl
  simp only [S_swageref1_InsMay, R_swageref1_InsMay, MU_swageref1_InsMay, MU_swageref1_InsMay, SW, wpD, evDL, evDM, evD, bldLD, List.contains_cons, List.contains_nil, Nat.reduceBEq, beq_self_eq_true, Nat.reduceMul, Nat.reduceSub, wpSp, Option.bind_some, Option.some.injEq, exists_eq_left', exists_eq_left, reduceIte, if_false, if_true, Nat.reduceEqDiff, Nat.reduceAdd, Nat.reduceLeDiff, Int.reduceEq, Int.reduceLT, Int.reduceLE, Int.reduceToNat, decide_true, decide_false, DV.bool.injEq, DV.int.injEq, DV.mp.injEq, DV.msl.injEq, DV.tup.injEq, DV.agg.injEq, DV.fn.injEq, true_implies, forall_const, reduceCtorEq, implies_true, ne_eq, DMem.mt, Number_pf]
  simp only [mayB, isB, belowF]
  grind
def idxF {α : Type} (p : α → Bool) (l : List α) : Int := match l.findIdx? p with | some i => i | none => -1
theorem idxF_hit {α : Type} {p : α → Bool} {l : List α} (i : Nat) (h : i < l.length) (hp : p l[i] = true) (hj : ∀ j (h : j < l.length), j < i → p l[j] = false) : idxF p l = i := by
  have : l.findIdx? p = some i := by
    rw [List.findIdx?_eq_some_iff_getElem]
    exact ⟨h, hp, fun j hji => by simp [hj j (by omega) hji]⟩
  simp only [idxF, this]
theorem idxF_miss {α : Type} {p : α → Bool} {l : List α} (hj : ∀ j (h : j < l.length), p l[j] = false) : idxF p l = -1 := by
  have : l.findIdx? p = none := by
    rw [List.findIdx?_eq_none_iff]
    intro x hx
    obtain ⟨j, h, rfl⟩ := List.getElem_of_mem hx
    exact hj j h
  simp only [idxF, this]
theorem idxF_any {α : Type} (p : α → Bool) (l : List α) : decide (0 ≤ idxF p l) = l.any p := by
  unfold idxF
  cases h : l.findIdx? p with
  | none =>
    rw [List.findIdx?_eq_none_iff] at h
    have : l.any p = false := List.any_eq_false.2 fun x hx => by simp [h x hx]
    rw [this]; rfl
  | some i =>
    rw [List.findIdx?_eq_some_iff_getElem] at h
    obtain ⟨h1, h2, _⟩ := h
    have : l.any p = true := List.any_eq_true.2 ⟨l[i], List.getElem_mem h1, h2⟩
    rw [this]; simp
theorem IndexFunc_ins (g : Nat) (a b : List DV) (ha : FrozL a) (hb : FrozL b) (p : Ins → Bool) (l : List Ins) (hl : l.length ≤ 4611686018427387904)
    (hp : ∀ i (h : i < l.length), pf Try.prog g (a ++ .agg l[i].c :: b) = some (.bool (p l[i]))) :
    pf Try.prog F_slices_IndexFunc_api_Ins_api_Ins [slD Ins.c l, .fn (.func g) a b] = some (.int .i64 (idxF p l)) := by
  refine pf_of (v := .int _ _) (pc_slices_IndexFunc_api_Ins_api_Ins (by simp) ?_) ((FrozL.nil.cons (Froz.fn ha hb)).cons (Froz.slD Ins.froz _)) rfl rfl
  simp only [S_slices_IndexFunc_api_Ins_api_Ins, R_slices_IndexFunc_api_Ins_api_Ins, MU_slices_IndexFunc_api_Ins_api_Ins, MU_slices_IndexFunc_api_Ins_api_Ins, S1_slices_IndexFunc_api_Ins_api_Ins, SW, wpD, evDL, evDM, evD, bldLD, List.contains_cons, List.contains_nil, Nat.reduceBEq, beq_self_eq_true, Nat.reduceMul, Nat.reduceSub, wpSp, Option.bind_some, Option.some.injEq, exists_eq_left', exists_eq_left, reduceIte, if_false, if_true, Nat.reduceEqDiff, Nat.reduceAdd, Nat.reduceLeDiff, Int.reduceEq, Int.reduceLT, Int.reduceLE, Int.reduceToNat, decide_true, decide_false, DV.bool.injEq, DV.int.injEq, DV.mp.injEq, DV.msl.injEq, DV.tup.injEq, DV.agg.injEq, DV.fn.injEq, true_implies, forall_const, reduceCtorEq, implies_true, ne_eq, DMem.mt]
  refine ⟨fun k δ M => ∃ i, i ≤ l.length ∧ k = l.length - i ∧ M = DMem.mt ∧ δ 0 = slD Ins.c l ∧ δ 1 = .fn (.func g) a b ∧ δ 7 = .int .i64 l.length ∧ δ 8 = .int .i64 i ∧ (∀ j (h : j < l.length), j < i → p l[j] = false),
    l.length, ⟨0, Nat.zero_le _, rfl, rfl, rfl, rfl, rfl, rfl, fun j h hj => absurd hj (by omega)⟩, ?_⟩
  rintro k δ M ⟨i, hi, rfl, rfl, h0, h1, h7, h8, hj⟩
  simp only [h0, h1, h7, h8, SW, wpD, evDL, evDM, evD, bldLD, List.contains_cons, List.contains_nil, Nat.reduceBEq, beq_self_eq_true, Nat.reduceMul, Nat.reduceSub, wpSp, Option.bind_some, Option.some.injEq, exists_eq_left', exists_eq_left, reduceIte, if_false, if_true, Nat.reduceEqDiff, Nat.reduceAdd, Nat.reduceLeDiff, Int.reduceEq, Int.reduceLT, Int.reduceLE, Int.reduceToNat, decide_true, decide_false, DV.bool.injEq, DV.int.injEq, DV.mp.injEq, DV.msl.injEq, DV.tup.injEq, DV.agg.injEq, DV.fn.injEq, true_implies, forall_const, reduceCtorEq, implies_true, ne_eq, DMem.mt, decide_eq_true_eq, decide_eq_false_iff_not]
  refine ⟨fun h => ?_, fun h => ?_⟩
  · have hlt : i < l.length := by omega
    simp only [ix_slD Ins.len hlt, h0, h1, h7, h8, SW, wpD, evDL, evDM, evD, bldLD, List.contains_cons, List.contains_nil, Nat.reduceBEq, beq_self_eq_true, Nat.reduceMul, Nat.reduceSub, wpSp, Option.bind_some, Option.some.injEq, exists_eq_left', exists_eq_left, reduceIte, if_false, if_true, Nat.reduceEqDiff, Nat.reduceAdd, Nat.reduceLeDiff, Int.reduceEq, Int.reduceLT, Int.reduceLE, Int.reduceToNat, decide_true, decide_false, DV.bool.injEq, DV.int.injEq, DV.mp.injEq, DV.msl.injEq, DV.tup.injEq, DV.agg.injEq, DV.fn.injEq, true_implies, forall_const, reduceCtorEq, implies_true, ne_eq, DMem.mt, w64s (show i < 4611686018427387905 by omega)]
    refine ⟨g, a, b, rfl, rfl, rfl, PC.of_pf (d := .bool (p l[i])) ?_ ?_⟩
    · rw [fzmap_froz (by simpa using ha.append (hb.cons (Froz.agg l[i].froz)))]; simpa using hp i hlt
    · simp only [SW, wpD, evDL, evDM, evD, bldLD, List.contains_cons, List.contains_nil, Nat.reduceBEq, beq_self_eq_true, Nat.reduceMul, Nat.reduceSub, wpSp, Option.bind_some, Option.some.injEq, exists_eq_left', exists_eq_left, reduceIte, if_false, if_true, Nat.reduceEqDiff, Nat.reduceAdd, Nat.reduceLeDiff, Int.reduceEq, Int.reduceLT, Int.reduceLE, Int.reduceToNat, decide_true, decide_false, DV.bool.injEq, DV.int.injEq, DV.mp.injEq, DV.msl.injEq, DV.tup.injEq, DV.agg.injEq, DV.fn.injEq, true_implies, forall_const, reduceCtorEq, implies_true, ne_eq, DMem.mt]
      refine ⟨fun hpi => ?_, fun hpi => ⟨l.length - (i + 1), DMem.mt, by omega, SubD.refl _, i + 1, by omega, rfl, rfl, rfl, fun j h' hji => ?_⟩⟩
      · rw [idxF_hit i hlt hpi hj]
      · rcases Nat.lt_or_ge j i with h2 | h2
        · exact hj j h' h2
        · have : j = i := by omega
          subst this; exact hpi
  · rw [idxF_miss fun j h' => hj j h' (by omega)]
theorem Contains_ins (g : Nat) (p : Ins → Bool) (l : List Ins) (hl : l.length ≤ 4611686018427387904) (hp : ∀ i (h : i < l.length), pf Try.prog g [.agg l[i].c] = some (.bool (p l[i]))) :
    pf Try.prog F_slices_ContainsFunc_api_Ins_api_Ins [slD Ins.c l, .fn (.func g) [] []] = some (.bool (l.any p)) := by
  refine pf_of (v := .bool _) (pc_slices_ContainsFunc_api_Ins_api_Ins (by simp) ?_) ((FrozL.nil.cons (Froz.fn FrozL.nil FrozL.nil)).cons (Froz.slD Ins.froz _)) rfl rfl
  simp only [S_slices_ContainsFunc_api_Ins_api_Ins, R_slices_ContainsFunc_api_Ins_api_Ins, MU_slices_ContainsFunc_api_Ins_api_Ins, MU_slices_ContainsFunc_api_Ins_api_Ins, fz_ins, SW, wpD, evDL, evDM, evD, bldLD, List.contains_cons, List.contains_nil, Nat.reduceBEq, beq_self_eq_true, Nat.reduceMul, Nat.reduceSub, wpSp, Option.bind_some, Option.some.injEq, exists_eq_left', exists_eq_left, reduceIte, if_false, if_true, Nat.reduceEqDiff, Nat.reduceAdd, Nat.reduceLeDiff, Int.reduceEq, Int.reduceLT, Int.reduceLE, Int.reduceToNat, decide_true, decide_false, DV.bool.injEq, DV.int.injEq, DV.mp.injEq, DV.msl.injEq, DV.tup.injEq, DV.agg.injEq, DV.fn.injEq, true_implies, forall_const, reduceCtorEq, implies_true, ne_eq, DMem.mt, IndexFunc_ins g [] [] FrozL.nil FrozL.nil p l hl (by simpa using hp), idxF_any]
def fmayB (l : List Ins) : Bool := decide (1 ≤ l.length) && decide (l.length ≤ 64) && l.all mayB
theorem not_mayB (l : List Ins) : (!(l.any fun x => !mayB x)) = l.all mayB := by
  induction l with
  | nil => rfl
  | cons x l ih => simp only [List.any_cons, List.all_cons, ← ih, Bool.not_or, Bool.not_not]
theorem FuncMay_pf (f : Fnc) : pf Try.prog F_swageref1_FuncMay [.agg f.c] = some (.bool (fmayB f.code)) := by
  refine pf_of (v := .bool _) (pc_swageref1_FuncMay (by simp) ?_) (FrozL.nil.cons (Froz.agg f.froz)) rfl rfl
  simp only [S_swageref1_FuncMay, R_swageref1_FuncMay, MU_swageref1_FuncMay, SW, wpD, evDL, evDM, evD, bldLD, List.contains_cons, List.contains_nil, Nat.reduceBEq, beq_self_eq_true, Nat.reduceMul, Nat.reduceSub, wpSp, Option.bind_some, Option.some.injEq, exists_eq_left', exists_eq_left, reduceIte, if_false, if_true, Nat.reduceEqDiff, Nat.reduceAdd, Nat.reduceLeDiff, Int.reduceEq, Int.reduceLT, Int.reduceLE, Int.reduceToNat, decide_true, decide_false, DV.bool.injEq, DV.int.injEq, DV.mp.injEq, DV.msl.injEq, DV.tup.injEq, DV.agg.injEq, DV.fn.injEq, true_implies, forall_const, reduceCtorEq, implies_true, ne_eq, DMem.mt]
  refine ⟨fun hr => ?_, fun hr => ?_⟩
  · simp only [Bool.or_eq_true, decide_eq_true_eq] at hr
    have : (decide (1 ≤ f.code.length) && decide (f.code.length ≤ 64)) = false := by
      rw [Bool.and_eq_false_iff, decide_eq_false_iff_not, decide_eq_false_iff_not]; omega
    simp only [fmayB, this, Bool.false_and]
  · simp only [Bool.or_eq_false_iff, decide_eq_false_iff_not] at hr
    have e : fmayB f.code = f.code.all mayB := by
      simp only [fmayB]
      rw [decide_eq_true (show 1 ≤ f.code.length by omega), decide_eq_true (show f.code.length ≤ 64 by omega)]; rfl
    rw [e]
    refine ⟨fun k δ M => ∃ i, i ≤ f.code.length ∧ k = f.code.length - i ∧ M = DMem.mt ∧ δ 1 = .ip f.c ∧ δ 3 = .int .i64 i ∧ (∀ j (h : j < f.code.length), j < i → mayB f.code[j] = true),
      f.code.length, ⟨0, Nat.zero_le _, rfl, rfl, rfl, rfl, fun j h hj => absurd hj (by omega)⟩, ?_⟩
    rintro k δ M ⟨i, hi, rfl, rfl, h1, h3, hj⟩
    simp only [S1_swageref1_FuncMay, h1, h3, SW, wpD, evDL, evDM, evD, bldLD, List.contains_cons, List.contains_nil, Nat.reduceBEq, beq_self_eq_true, Nat.reduceMul, Nat.reduceSub, wpSp, Option.bind_some, Option.some.injEq, exists_eq_left', exists_eq_left, reduceIte, if_false, if_true, Nat.reduceEqDiff, Nat.reduceAdd, Nat.reduceLeDiff, Int.reduceEq, Int.reduceLT, Int.reduceLE, Int.reduceToNat, decide_true, decide_false, DV.bool.injEq, DV.int.injEq, DV.mp.injEq, DV.msl.injEq, DV.tup.injEq, DV.agg.injEq, DV.fn.injEq, true_implies, forall_const, reduceCtorEq, implies_true, ne_eq, DMem.mt, decide_eq_true_eq, decide_eq_false_iff_not]
    refine ⟨fun h => ?_, fun h => ?_⟩
    · have hlt : i < f.code.length := by omega
      simp only [ix_slD Ins.len hlt, h1, h3, SW, wpD, evDL, evDM, evD, bldLD, List.contains_cons, List.contains_nil, Nat.reduceBEq, beq_self_eq_true, Nat.reduceMul, Nat.reduceSub, wpSp, Option.bind_some, Option.some.injEq, exists_eq_left', exists_eq_left, reduceIte, if_false, if_true, Nat.reduceEqDiff, Nat.reduceAdd, Nat.reduceLeDiff, Int.reduceEq, Int.reduceLT, Int.reduceLE, Int.reduceToNat, decide_true, decide_false, DV.bool.injEq, DV.int.injEq, DV.mp.injEq, DV.msl.injEq, DV.tup.injEq, DV.agg.injEq, DV.fn.injEq, true_implies, forall_const, reduceCtorEq, implies_true, ne_eq, DMem.mt, InsMay_pf, w64s (show i < 4611686018427387905 by omega)]
      refine ⟨fun hm => ?_, fun hm => ⟨f.code.length - (i + 1), DMem.mt, by omega, SubD.refl _, i + 1, by omega, rfl, rfl, rfl, fun j h' hji => ?_⟩⟩
      · have : f.code.all mayB = false := List.all_eq_false.2 ⟨_, List.getElem_mem hlt, by simpa using hm⟩
        exact this.symm
      · rcases Nat.lt_or_ge j i with h2 | h2
        · exact hj j h' h2
        · have : j = i := by omega
          subst this; simpa using hm
    · exact (List.all_eq_true.2 fun x hx => by obtain ⟨j, h', rfl⟩ := List.getElem_of_mem hx; exact hj j h' (by omega)).symm
theorem fz_fncp (M : DMem) (k : Nat) (f : Fnc) : fz M k (.ip f.c) = .ip f.c := (Froz.ip f.froz).fz M k
theorem fz_fnca (M : DMem) (k : Nat) (f : Fnc) : fz M k (.agg f.c) = .agg f.c := (Froz.agg f.froz).fz M k
theorem fmay_le {l : List Ins} (h : fmayB l = true) : 1 ≤ l.length ∧ l.length ≤ 64 := by
  simp only [fmayB, Bool.and_eq_true, decide_eq_true_eq] at h
  exact h.1
theorem fmay_ins {l : List Ins} (h : fmayB l = true) {k : Nat} (hk : k < l.length) : mayB l[k] = true := by
  simp only [fmayB, Bool.and_eq_true, List.all_eq_true] at h
  exact h.2 _ (List.getElem_mem hk)
theorem may_jump {x : Ins} (h : mayB x = true) (hk : x.kind = 12 ∨ x.kind = 13) : 0 ≤ x.a ∧ x.a < 64 := by
  unfold mayB belowF at h
  rcases hk with hk | hk <;> simp only [hk] at h <;> simp at h <;> omega
theorem ldnI1 (M : DMem) (a : DV) (cs : List DV) : ldnD M 1 (.ip (a :: cs)) = some (.agg [a]) := by simp [ldnD]
end Go.Proofs.Ytaifmmeghninhaa.Pf
