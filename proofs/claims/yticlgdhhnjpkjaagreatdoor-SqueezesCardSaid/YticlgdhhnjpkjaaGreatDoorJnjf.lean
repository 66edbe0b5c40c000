/- Ld Vs Vb Qb Qc Qo Qf Dr Dq Qg Va Vc Vd Qh Vx Ve Vf Vg Vh Ds Wa Le: joined texts of this claim. No condition. -/
import Derived.Test.YticlgdhhnjpkjaaGreatDoorJnjd
import Derived.Test.YticlgdhhnjpkjaaGreatDoorJnje
namespace Go.Proofs.YticlgdhhnjpkjaaGreatDoor.Pf
open Go Go.RowKit Go.Proofs Go.Proofs.YticlgdhhnjpkjaaGreatDoor.Mw Go.Proofs.YticlgdhhnjpkjaaGreatDoor.Sx
set_option linter.unusedVariables false
set_option linter.unusedSimpArgs false
set_option maxRecDepth 4000
theorem same_all {α : Type} {a b : List α} (hl : a.length = b.length) (h : ∀ j (h1 : j < a.length) (h2 : j < b.length), a[j] = b[j]) : a = b := List.ext_getElem hl h
theorem eqs2 (ne : Bool) (k k' : IntKind) (a b c d : Int) : eqsD ne 2 (.agg [.int k a, .int k' b]) (.agg [.int k c, .int k' d]) = some (.bool (if ne then !((a == c) && ((b == d) && true)) else ((a == c) && ((b == d) && true)))) := by
  simp [eqsD, lift2, DV.v1, DV.v0, eqsV, eqRows, ofV]
  rfl
theorem SameInts_pf (a b : List Int) (ha : a.length ≤ 4611686018427387904) : pf Tryz.prog F_swagelaw0_SameInts [slI a, slI b] = some (.bool (decide (a = b))) := by
  refine pf_of (v := .bool _) (pc_swagelaw0_SameInts (by simp) ?_) ((FrozL.nil.cons (Froz.slI _)).cons (Froz.slI _)) rfl rfl
  simp only [S_swagelaw0_SameInts, R_swagelaw0_SameInts, MU_swagelaw0_SameInts, SW, SV, wpD, evDL, evDM, evD, bldLD, wpSp, DMem.mt, beq_self_eq_true, seval, decide_eq_true_eq, decide_eq_false_iff_not]
  refine ⟨fun hne => ?_, fun hle => ?_⟩
  · exact (decide_eq_false (by rintro rfl; exact hne rfl)).symm
  · have hlen : a.length = b.length := by omega
    refine ⟨fun k δ M => ∃ i, i ≤ a.length ∧ k = a.length - i ∧ M = DMem.mt ∧ δ 0 = slI a ∧ δ 1 = slI b ∧ δ 5 = .int .i64 i ∧ (∀ j (h1 : j < a.length) (h2 : j < b.length), j < i → a[j] = b[j]),
      a.length, ⟨0, Nat.zero_le _, rfl, rfl, rfl, rfl, rfl, fun j _ _ hj => absurd hj (by omega)⟩, ?_⟩
    rintro k δ M ⟨i, hi, rfl, rfl, h0, h1, h5, hj⟩
    simp only [S1_swagelaw0_SameInts, MU_swagelaw0_SameInts, h0, h1, h5, SW, SV, wpD, evDL, evDM, evD, bldLD, wpSp, DMem.mt, beq_self_eq_true, seval, decide_eq_true_eq, decide_eq_false_iff_not]
    refine ⟨fun h => ?_, fun h => ?_⟩
    · have hlt : i < a.length := by omega
      have hlt' : i < b.length := by omega
      simp only [ix_slI hlt, ix_slI hlt', h0, h1, h5, w64s (show i < 4611686018427387905 by omega), SW, SV, wpD, evDL, evDM, evD, bldLD, wpSp, DMem.mt, beq_self_eq_true, seval, decide_eq_true_eq, decide_eq_false_iff_not]
      refine ⟨fun hne => (decide_eq_false (by rintro rfl; exact hne rfl)).symm, fun he => ⟨a.length - (i + 1), DMem.mt, by omega, SubD.refl _, i + 1, by omega, rfl, rfl, rfl, fun j g1 g2 hji => ?_⟩⟩
      rcases Nat.lt_or_ge j i with h2 | h2
      · exact hj j g1 g2 h2
      · have : j = i := by omega
        subst this; exact Decidable.not_not.1 he
    · exact (decide_eq_true (same_all hlen fun j g1 g2 => hj j g1 g2 (by omega))).symm
theorem NumF_pf (n : Int) : pf Tryz.prog F_swagelaw0_Num [.int .i64 n] = some (.int .i64 n) := by
  refine pf_of (v := .int _ _) (pc_swagelaw0_Num (by simp) ?_) (FrozL.nil.cons (Froz.int _ _)) rfl rfl
  simp only [S_swagelaw0_Num, R_swagelaw0_Num, MU_swagelaw0_Num, MU_swagelaw0_Num, SW, SV, wpD, evDL, evDM, evD, bldLD, wpSp, DMem.mt, beq_self_eq_true, seval]
end Go.Proofs.YticlgdhhnjpkjaaGreatDoor.Pf
namespace Go.Proofs.YticlgdhhnjpkjaaGreatDoor.Pf
open Go Go.RowKit Go.Proofs Go.Proofs.YticlgdhhnjpkjaaGreatDoor.Mw Go.Proofs.YticlgdhhnjpkjaaGreatDoor.Sx
def fnB (f : Fnc) : Bool := decide (0 ≤ f.args) && decide (f.args ≤ 4) && decide (f.args ≤ f.locals) && decide (f.locals ≤ 8) && fmayB f.code
def packB (p : List Fnc) : Bool := decide (1 ≤ p.length) && decide (p.length ≤ 8) && p.all fnB
end Go.Proofs.YticlgdhhnjpkjaaGreatDoor.Pf
namespace Go.Proofs.YticlgdhhnjpkjaaGreatDoor.Pf
open Go Go.RowKit Go.Proofs Go.Proofs.YticlgdhhnjpkjaaGreatDoor.Mw Go.Proofs.YticlgdhhnjpkjaaGreatDoor.Sx
set_option linter.unusedVariables false
set_option linter.unusedSimpArgs false
set_option maxRecDepth 4000
theorem Fnc.len (f : Fnc) : f.c.length = 3 := rfl
theorem fz_prg (M : DMem) (k : Nat) (l : List Fnc) : fz M k (slD Fnc.c l) = slD Fnc.c l := (Froz.slD Fnc.froz l).fz M k
theorem IndexFunc_fnc (g : Nat) (a b : List DV) (ha : FrozL a) (hb : FrozL b) (p : Fnc → Bool) (l : List Fnc) (hl : l.length ≤ 4611686018427387904)
    (hp : ∀ i (h : i < l.length), pf Tryz.prog g (a ++ .agg l[i].c :: b) = some (.bool (p l[i]))) :
    pf Tryz.prog F_slices_IndexFunc_api_Func_api_Func [slD Fnc.c l, .fn (.func g) a b] = some (.int .i64 (idxF p l)) := by
  refine pf_of (v := .int _ _) (pc_slices_IndexFunc_api_Func_api_Func (by simp) ?_) ((FrozL.nil.cons (Froz.fn ha hb)).cons (Froz.slD Fnc.froz _)) rfl rfl
  simp only [S_slices_IndexFunc_api_Func_api_Func, R_slices_IndexFunc_api_Func_api_Func, MU_slices_IndexFunc_api_Func_api_Func, MU_slices_IndexFunc_api_Func_api_Func, S1_slices_IndexFunc_api_Func_api_Func, SW, SV, wpD, evDL, evDM, evD, bldLD, wpSp, DMem.mt, beq_self_eq_true, seval]
  refine ⟨fun k δ M => ∃ i, i ≤ l.length ∧ k = l.length - i ∧ M = DMem.mt ∧ δ 0 = slD Fnc.c l ∧ δ 1 = .fn (.func g) a b ∧ δ 7 = .int .i64 l.length ∧ δ 8 = .int .i64 i ∧ (∀ j (h : j < l.length), j < i → p l[j] = false),
    l.length, ⟨0, Nat.zero_le _, rfl, rfl, rfl, rfl, rfl, rfl, fun j h hj => absurd hj (by omega)⟩, ?_⟩
  rintro k δ M ⟨i, hi, rfl, rfl, h0, h1, h7, h8, hj⟩
  simp only [h0, h1, h7, h8, SW, SV, wpD, evDL, evDM, evD, bldLD, wpSp, DMem.mt, beq_self_eq_true, seval, decide_eq_true_eq, decide_eq_false_iff_not]
  refine ⟨fun h => ?_, fun h => ?_⟩
  · have hlt : i < l.length := by omega
    simp only [ix_slD Fnc.len hlt, h0, h1, h7, h8, SW, SV, wpD, evDL, evDM, evD, bldLD, wpSp, DMem.mt, beq_self_eq_true, seval, w64s (show i < 4611686018427387905 by omega)]
    refine ⟨g, a, b, rfl, rfl, rfl, PC.of_pf (d := .bool (p l[i])) ?_ ?_⟩
    · rw [fzmap_froz (by simpa using ha.append (hb.cons (Froz.agg l[i].froz)))]; simpa using hp i hlt
    · simp only [SW, SV, wpD, evDL, evDM, evD, bldLD, wpSp, DMem.mt, beq_self_eq_true, seval]
      refine ⟨fun hpi => ?_, fun hpi => ⟨l.length - (i + 1), DMem.mt, by omega, SubD.refl _, i + 1, by omega, rfl, rfl, rfl, fun j h' hji => ?_⟩⟩
      · rw [idxF_hit i hlt hpi hj]
      · rcases Nat.lt_or_ge j i with h2 | h2
        · exact hj j h' h2
        · have : j = i := by omega
          subst this; exact hpi
  · rw [idxF_miss fun j h' => hj j h' (by omega)]
theorem Contains_fnc (g : Nat) (p : Fnc → Bool) (l : List Fnc) (hl : l.length ≤ 4611686018427387904) (hp : ∀ i (h : i < l.length), pf Tryz.prog g [.agg l[i].c] = some (.bool (p l[i]))) :
    pf Tryz.prog F_slices_ContainsFunc_api_Func_api_Func [slD Fnc.c l, .fn (.func g) [] []] = some (.bool (l.any p)) := by
  refine pf_of (v := .bool _) (pc_slices_ContainsFunc_api_Func_api_Func (by simp) ?_) ((FrozL.nil.cons (Froz.fn FrozL.nil FrozL.nil)).cons (Froz.slD Fnc.froz _)) rfl rfl
  simp only [S_slices_ContainsFunc_api_Func_api_Func, R_slices_ContainsFunc_api_Func_api_Func, MU_slices_ContainsFunc_api_Func_api_Func, MU_slices_ContainsFunc_api_Func_api_Func, fz_prg, SW, SV, wpD, evDL, evDM, evD, bldLD, wpSp, DMem.mt, beq_self_eq_true, seval, IndexFunc_fnc g [] [] FrozL.nil FrozL.nil p l hl (by simpa using hp), idxF_any]
theorem not1_pf (x : Ins) : pf Tryz.prog F_pack_not_1 [.agg x.c] = some (.bool (!mayB x)) := by
  refine pf_of (v := .bool _) (pc_pack_not_1 (by simp) ?_) (FrozL.nil.cons (Froz.agg x.froz)) rfl rfl
  simp only [S_pack_not_1, R_pack_not_1, MU_pack_not_1, MU_pack_not_1, SW, SV, wpD, evDL, evDM, evD, bldLD, wpSp, DMem.mt, beq_self_eq_true, seval, May_pf]
theorem not_fnB (f : Fnc) (h : 1 ≤ f.code.length ∧ f.code.length ≤ 64) : (((((decide (f.args < 0) || decide (4 < f.args)) || decide (f.locals < f.args)) || decide (8 < f.locals)) || f.code.any fun x => !mayB x)) = !fnB f := by
  have e : f.code.any (fun x => !mayB x) = !f.code.all mayB := by rw [← not_mayB, Bool.not_not]
  rw [e]
  unfold fnB fmayB
  rw [decide_eq_true h.1, decide_eq_true h.2]
  simp only [Bool.true_and]
  cases f.code.all mayB <;> simp <;> grind
theorem not_pf (f : Fnc) : pf Tryz.prog F_pack_not [.agg f.c] = some (.bool (!fnB f)) := by
  refine pf_of (v := .bool _) (pc_pack_not (by simp) ?_) (FrozL.nil.cons (Froz.agg f.froz)) rfl rfl
  by_cases h : 1 ≤ f.code.length ∧ f.code.length ≤ 64
  · have c1 : ¬ ((f.code.length : Int) < 1) := by omega
    have c2 : ¬ ((64 : Int) < f.code.length) := by omega
    simp only [S_pack_not, R_pack_not, MU_pack_not, MU_pack_not, fz_ins, c1, c2, Contains_ins F_pack_not_1 (fun x => !mayB x) f.code (by omega) (fun i h => not1_pf _), SW, SV, wpD, evDL, evDM, evD, bldLD, wpSp, DMem.mt, beq_self_eq_true, seval]
    exact not_fnB f h
  · have e : fnB f = false := by
      unfold fnB fmayB
      have : (decide (1 ≤ f.code.length) && decide (f.code.length ≤ 64)) = false := by
        rw [Bool.and_eq_false_iff, decide_eq_false_iff_not, decide_eq_false_iff_not]; omega
      rw [this]; simp
    have c3 : (decide ((f.code.length : Int) < 1) || decide ((64 : Int) < f.code.length)) = true := by
      rw [Bool.or_eq_true, decide_eq_true_eq, decide_eq_true_eq]; omega
    rw [e]
    have hc : (((((decide (f.args < 0) || decide (4 < f.args)) || decide (f.locals < f.args)) || decide (8 < f.locals)) || decide ((f.code.length : Int) < 1)) || decide ((64 : Int) < f.code.length)) = true := by
      rw [Bool.or_assoc, c3, Bool.or_true]
    simp only [S_pack_not, R_pack_not, MU_pack_not, MU_pack_not, fz_ins, hc, SW, SV, wpD, evDL, evDM, evD, bldLD, wpSp, DMem.mt, beq_self_eq_true, seval]
theorem all_not (l : List Fnc) : (!(l.any fun x => !fnB x)) = l.all fnB := by
  induction l with
  | nil => rfl
  | cons x l ih => simp only [List.any_cons, List.all_cons, ← ih, Bool.not_or, Bool.not_not]
theorem PackMay_pf (p : List Fnc) : pf Tryz.prog F_pack_May [.ip [slD Fnc.c p]] = some (.bool (packB p)) := by
  refine pf_of (v := .bool _) (pc_pack_May (by simp) ?_) (FrozL.nil.cons (Froz.ip (FrozL.nil.cons (Froz.slD Fnc.froz p)))) rfl rfl
  by_cases h : 1 ≤ p.length ∧ p.length ≤ 8
  · have c1 : (1 : Int) ≤ p.length := by omega
    have c2 : (p.length : Int) ≤ 8 := by omega
    simp only [S_pack_May, R_pack_May, MU_pack_May, MU_pack_May, fz_prg, c1, c2, Contains_fnc F_pack_not (fun x => !fnB x) p (by omega) (fun i h => not_pf _), SW, SV, wpD, evDL, evDM, evD, bldLD, wpSp, DMem.mt, beq_self_eq_true, seval]
    unfold packB
    rw [decide_eq_true h.1, decide_eq_true h.2]
    simp only [Bool.true_and]
    exact all_not p
  · have e : packB p = false := by
      unfold packB
      have : (decide (1 ≤ p.length) && decide (p.length ≤ 8)) = false := by
        rw [Bool.and_eq_false_iff, decide_eq_false_iff_not, decide_eq_false_iff_not]; omega
      rw [this]; simp
    rw [e]
    have hc : (decide ((1 : Int) ≤ p.length) && decide ((p.length : Int) ≤ 8)) = false := by
      rw [Bool.and_eq_false_iff, decide_eq_false_iff_not, decide_eq_false_iff_not]; omega
    simp only [S_pack_May, R_pack_May, MU_pack_May, MU_pack_May, fz_prg, hc, SW, SV, wpD, evDL, evDM, evD, bldLD, wpSp, DMem.mt, beq_self_eq_true, seval]
theorem Packs_pf (p : List Fnc) : pf Tryz.prog F_swageref1_Packs [.agg [slD Fnc.c p]] = some (.bool (packB p)) := by
  refine pf_of (v := .bool _) (pc_swageref1_Packs (by simp) ?_) (FrozL.nil.cons (Froz.agg (FrozL.nil.cons (Froz.slD Fnc.froz p)))) rfl rfl
  simp only [S_swageref1_Packs, R_swageref1_Packs, MU_swageref1_Packs, SW, SV, wpD, evDL, evDM, evD, bldLD, wpSp, DMem.mt, beq_self_eq_true, seval]
  refine ⟨fun hr => ?_, fun hr => ?_⟩
  · have : (decide (1 ≤ p.length) && decide (p.length ≤ 8)) = false := by
      simp only [Bool.or_eq_true, decide_eq_true_eq] at hr
      rw [Bool.and_eq_false_iff, decide_eq_false_iff_not, decide_eq_false_iff_not]; omega
    simp only [packB, this, Bool.false_and]
  · simp only [Bool.or_eq_false_iff, decide_eq_false_iff_not] at hr
    have e : packB p = p.all fnB := by
      simp only [packB]
      rw [decide_eq_true (show 1 ≤ p.length by omega), decide_eq_true (show p.length ≤ 8 by omega)] <;> rfl
    rw [e]
    refine ⟨fun k δ M => ∃ i, i ≤ p.length ∧ k = p.length - i ∧ M = DMem.mt ∧ δ 1 = .ip [slD Fnc.c p] ∧ δ 3 = .int .i64 i ∧ (∀ j (h : j < p.length), j < i → fnB p[j] = true),
      p.length, ⟨0, Nat.zero_le _, rfl, rfl, rfl, rfl, fun j h hj => absurd hj (by omega)⟩, ?_⟩
    rintro k δ M ⟨i, hi, rfl, rfl, h1, h3, hj⟩
    simp only [S1_swageref1_Packs, MU_swageref1_Packs, h1, h3, SW, SV, wpD, evDL, evDM, evD, bldLD, wpSp, DMem.mt, beq_self_eq_true, seval, decide_eq_true_eq, decide_eq_false_iff_not]
    refine ⟨fun h => ?_, fun h => ?_⟩
    · have hlt : i < p.length := by omega
      have e2 : ((((decide (p[i].args < 0) || decide (4 < p[i].args)) || decide (p[i].locals < p[i].args)) || decide (8 < p[i].locals)) || !fmayB p[i].code) = !fnB p[i] := by
        unfold fnB
        cases fmayB p[i].code <;> simp <;> grind
      simp only [ix_slD Fnc.len hlt, h1, h3, fz_fnca, fz_ins, FuncMay_pf, e2, w64s (show i < 4611686018427387905 by omega), SW, SV, wpD, evDL, evDM, evD, bldLD, wpSp, DMem.mt, beq_self_eq_true, seval]
      refine ⟨fun hm => ?_, fun hm => ⟨p.length - (i + 1), DMem.mt, by omega, SubD.refl _, i + 1, by omega, rfl, rfl, rfl, fun j h' hji => ?_⟩⟩
      · have : p.all fnB = false := List.all_eq_false.2 ⟨_, List.getElem_mem hlt, by simpa using hm⟩
        exact this.symm
      · rcases Nat.lt_or_ge j i with h2 | h2
        · exact hj j h' h2
        · have : j = i := by omega
          subst this; simpa using hm
    · exact (List.all_eq_true.2 fun x hx => by obtain ⟨j, h', rfl⟩ := List.getElem_of_mem hx; exact hj j h' (by omega)).symm
end Go.Proofs.YticlgdhhnjpkjaaGreatDoor.Pf
namespace Go.Proofs.YticlgdhhnjpkjaaGreatDoor.Pf
open Go Go.RowKit Go.Proofs Go.Proofs.YticlgdhhnjpkjaaGreatDoor.Mw Go.Proofs.YticlgdhhnjpkjaaGreatDoor.Sx
set_option linter.unusedVariables false
set_option linter.unusedSimpArgs false
set_option maxRecDepth 4000
theorem IndexFunc_int (g : Nat) (a b : List DV) (ha : FrozL a) (hb : FrozL b) (p : Int → Bool) (l : List Int) (hl : l.length ≤ 4611686018427387904)
    (hp : ∀ i (h : i < l.length), pf Tryz.prog g (a ++ .int .i64 l[i] :: b) = some (.bool (p l[i]))) :
    pf Tryz.prog F_slices_IndexFunc_int_int [slI l, .fn (.func g) a b] = some (.int .i64 (idxF p l)) := by
  refine pf_of (v := .int _ _) (pc_slices_IndexFunc_int_int (by simp) ?_) ((FrozL.nil.cons (Froz.fn ha hb)).cons (Froz.slI _)) rfl rfl
  simp only [S_slices_IndexFunc_int_int, R_slices_IndexFunc_int_int, MU_slices_IndexFunc_int_int, MU_slices_IndexFunc_int_int, S1_slices_IndexFunc_int_int, SW, SV, wpD, evDL, evDM, evD, bldLD, wpSp, DMem.mt, beq_self_eq_true, seval]
  refine ⟨fun k δ M => ∃ i, i ≤ l.length ∧ k = l.length - i ∧ M = DMem.mt ∧ δ 0 = slI l ∧ δ 1 = .fn (.func g) a b ∧ δ 7 = .int .i64 l.length ∧ δ 8 = .int .i64 i ∧ (∀ j (h : j < l.length), j < i → p l[j] = false),
    l.length, ⟨0, Nat.zero_le _, rfl, rfl, rfl, rfl, rfl, rfl, fun j h hj => absurd hj (by omega)⟩, ?_⟩
  rintro k δ M ⟨i, hi, rfl, rfl, h0, h1, h7, h8, hj⟩
  simp only [h0, h1, h7, h8, SW, SV, wpD, evDL, evDM, evD, bldLD, wpSp, DMem.mt, beq_self_eq_true, seval, decide_eq_true_eq, decide_eq_false_iff_not]
  refine ⟨fun h => ?_, fun h => ?_⟩
  · have hlt : i < l.length := by omega
    simp only [ix_slI hlt, h0, h1, h7, h8, SW, SV, wpD, evDL, evDM, evD, bldLD, wpSp, DMem.mt, beq_self_eq_true, seval, w64s (show i < 4611686018427387905 by omega)]
    refine ⟨g, a, b, rfl, rfl, rfl, PC.of_pf (d := .bool (p l[i])) ?_ ?_⟩
    · rw [fzmap_froz (by simpa using ha.append (hb.cons (Froz.int .i64 l[i])))]; simpa using hp i hlt
    · simp only [SW, SV, wpD, evDL, evDM, evD, bldLD, wpSp, DMem.mt, beq_self_eq_true, seval]
      refine ⟨fun hpi => ?_, fun hpi => ⟨l.length - (i + 1), DMem.mt, by omega, SubD.refl _, i + 1, by omega, rfl, rfl, rfl, fun j h' hji => ?_⟩⟩
      · rw [idxF_hit i hlt hpi hj]
      · rcases Nat.lt_or_ge j i with h2 | h2
        · exact hj j h' h2
        · have : j = i := by omega
          subst this; exact hpi
  · rw [idxF_miss fun j h' => hj j h' (by omega)]
theorem next1_pf (f : Fnc) (x : Int) : pf Tryz.prog F_flow_next_1 [.int .i64 x, .ip [.ip f.c]] = some (.bool (decide ((f.code.length : Int) ≤ x))) := by
  refine pf_of (v := .bool _) (pc_flow_next_1 (by simp) ?_) ((FrozL.nil.cons (Froz.ip (FrozL.nil.cons (Froz.ip f.froz)))).cons (Froz.int _ _)) rfl rfl
  simp only [S_flow_next_1, R_flow_next_1, MU_flow_next_1, MU_flow_next_1, SW, SV, wpD, evDL, evDM, evD, bldLD, wpSp, DMem.mt, beq_self_eq_true, seval]
theorem idxF_neg {α : Type} {p : α → Bool} {l : List α} (h : idxF p l = -1) : l.filter (fun x => !p x) = l := by
  unfold idxF at h
  split at h
  · omega
  · rename_i e
    rw [List.findIdx?_eq_none_iff] at e
    exact List.filter_eq_self.2 fun x hx => by simp [e x hx]
theorem idxF_pos {α : Type} {p : α → Bool} {l : List α} (h : ¬ idxF p l = -1) : ∃ i, ∃ h : i < l.length, idxF p l = i ∧ p l[i] = true ∧ (l.take i).filter (fun x => !p x) = l.take i := by
  unfold idxF at h ⊢
  split at h
  · rename_i i e
    have e' := e
    rw [List.findIdx?_eq_some_iff_getElem] at e
    obtain ⟨h1, h2, h3⟩ := e
    refine ⟨i, h1, rfl, h2, List.filter_eq_self.2 fun x hx => ?_⟩
    obtain ⟨j, hj, rfl⟩ := List.getElem_of_mem hx
    have hj' : j < i := by simp at hj; omega
    rw [List.getElem_take]
    have := h3 j hj'
    simpa using this
  · exact absurd rfl h
theorem splD_mid {A B C : List DV} {x y : DV} : splD (A ++ (x :: B) ++ C) A.length [y] = A ++ (y :: B) ++ C := by
  unfold splD
  simp
theorem Delete_pc {M : DMem} {p n : Nat} {l : List Int} (hM : M p = some ⟨3, n, l.map (.int .i64)⟩) (hn : l.length = n) (hs : n ≤ 1000) (g : Nat) (b : List DV) (hb : FrozL b) (pr : Int → Bool)
    (hp : ∀ x, pf Tryz.prog g (.int .i64 x :: b) = some (.bool (pr x))) {R : DV → DMem → Prop}
    (hR : ∀ M' (rest : List Int), M' p = some ⟨3, n, (l.filter fun x => !pr x).map (.int .i64) ++ rest.map (.int .i64)⟩ → (∀ x, x ≠ p → M' x = M x) → R (.msl p 0 (l.filter fun x => !pr x).length n) M') :
    PC Tryz.prog F_slices_DeleteFunc_int_int [.msl p 0 n n, .fn (.func g) [] b] R M := by
  refine pc_slices_DeleteFunc_int_int (by simp) ?_
  have hfz : fz M 4 (.msl p 0 n n) = slI l := by
    rw [fz_msl hM 3 0 n n (Nat.le_refl _)]
    simp only [List.drop_zero, List.map_map]
    subst hn; rfl
  have hidx := IndexFunc_int g [] b FrozL.nil hb pr l (by omega) (fun i h => by simpa using hp l[i])
  simp only [S_slices_DeleteFunc_int_int, R_slices_DeleteFunc_int_int, MU_slices_DeleteFunc_int_int, hfz, fzmap_froz hb, hidx, SW, SV, wpD, evDL, evDM, evD, bldLD, wpSp, DMem.mt, beq_self_eq_true, seval, decide_eq_true_eq, decide_eq_false_iff_not]
  refine ⟨fun h => ?_, fun h => ?_⟩
  · have e := idxF_neg h
    rw [e] at hR
    have := hR M [] (by simpa using hM) (fun _ _ => rfl)
    rwa [hn] at this
  obtain ⟨i0, hi0, e0, hpi, hfl⟩ := idxF_pos h
  rw [e0, w64s (show i0 < 4611686018427387905 by omega)]
  have hlt : (l.take i0).length = i0 := by simp; omega
  refine ⟨fun k δ M' => ∃ (j : Nat) (F : List Int) (Z : List DV), j ≤ n ∧ k = n - j ∧ F = (l.take j).filter (fun x => !pr x) ∧ F.length + Z.length = j ∧ 0 < Z.length ∧ δ 0 = .msl p 0 n n ∧ δ 1 = .fn (.func g) [] b ∧ δ 5 = .int .i64 F.length ∧ δ 6 = .int .i64 j ∧
      M' p = some ⟨3, n, F.map (.int .i64) ++ Z ++ (l.drop j).map (.int .i64)⟩ ∧ (∀ x, x ≠ p → M' x = M x), n - (i0 + 1),
    ⟨i0 + 1, l.take i0, [.int .i64 l[i0]], by omega, rfl, ?_, by simp; omega, by simp, rfl, rfl, by rw [hlt] <;> rfl, rfl, ?_, fun _ _ => rfl⟩, ?_⟩
  · rw [List.take_succ_eq_append_getElem hi0, List.filter_append, hfl]; simp [hpi]
  · rw [hM]
    congr 2
    have e : l = l.take i0 ++ [l[i0]] ++ l.drop (i0 + 1) := by rw [← List.take_succ_eq_append_getElem hi0, List.take_append_drop]
    exact (congrArg (List.map (DV.int .i64)) e).trans (by simp only [List.map_append, List.map_cons, List.map_nil])
  rintro k δ M' ⟨j, F, Z, hj, rfl, hF, hFZ, hZ, h0, h1, h5, h6, hMp, hMx⟩
  simp only [S2_slices_DeleteFunc_int_int, MU_slices_DeleteFunc_int_int, h0, h1, h5, h6, hMp, SW, SV, wpD, evDL, evDM, evD, bldLD, wpSp, DMem.mt, beq_self_eq_true, seval, decide_eq_true_eq, decide_eq_false_iff_not]
  refine ⟨fun h => ?_, fun h => ?_⟩
  · have hjn : j < n := by omega
    have hjl : j < l.length := by omega
    have hget : (F.map (DV.int .i64) ++ Z ++ (l.drop j).map (.int .i64))[j]? = some (.int .i64 l[j]) := by
      rw [List.getElem?_append_right (by simp; omega)]
      simp [hFZ, hjl]
    simp only [ixM hjn, hMp, hget, h0, h1, h5, h6, SW, SV, wpD, evDL, evDM, evD, bldLD, wpSp, DMem.mt, beq_self_eq_true, seval]
    refine ⟨g, [], b, rfl, rfl, rfl, PC.of_pf (d := .bool (pr l[j])) ?_ ?_⟩
    · rw [fzmap_froz (by simpa using (hb.cons (Froz.int .i64 l[j])))]; simpa using hp l[j]
    · have hdrop : l.drop j = l[j] :: l.drop (j + 1) := (List.getElem_cons_drop hjl).symm
      simp only [S1_slices_DeleteFunc_int_int, h0, h1, h5, h6, hMp, SW, SV, wpD, evDL, evDM, evD, bldLD, wpSp, DMem.mt, beq_self_eq_true, seval]
      refine ⟨fun hm => ?_, fun hm => ?_⟩
      · obtain ⟨z, Z', rfl⟩ : ∃ z Z', Z = z :: Z' := by cases Z with | nil => simp at hZ | cons z Z' => exact ⟨z, Z', rfl⟩
        have hFn : F.length < n := by simp at hFZ; omega
        have hs := @splD_mid (F.map (DV.int .i64)) Z' ((l.drop j).map (.int .i64)) z (.int .i64 l[j])
        rw [List.length_map] at hs
        simp only [ixM hFn, h0, h1, h5, h6, hMp, StoreD, SW, SV, wpD, evDL, evDM, evD, bldLD, wpSp, DMem.mt, beq_self_eq_true, seval]
        refine ⟨by simp, by omega, fun M2 hM2 => ?_⟩
        simp only [h0, h1, h5, h6, SW, SV, wpD, evDL, evDM, evD, bldLD, wpSp, DMem.mt, beq_self_eq_true, seval, w64s (show F.length < 4611686018427387905 by omega), w64s (show j < 4611686018427387905 by omega)]
        refine ⟨n - (j + 1), M2, by omega, SubD.refl _, j + 1, F ++ [l[j]], Z' ++ [.int .i64 l[j]], by omega, rfl, ?_, by simp at hFZ ⊢; omega, by simp, by simp, rfl, ?_, fun x hx => by rw [hM2, DMem.ins_ne _ _ hx]; exact hMx x hx⟩
        · rw [List.take_succ_eq_append_getElem hjl, List.filter_append, ← hF]; simp at hm; simp [hm]
        · rw [hM2, DMem.ins_same, hs, hdrop]; simp only [List.map_cons, List.map_append, List.map_nil, List.append_assoc, List.cons_append, List.nil_append]
      · refine ⟨n - (j + 1), M', by omega, SubD.refl _, j + 1, F, Z ++ [.int .i64 l[j]], by omega, rfl, ?_, by simp; omega, by simp, ?_⟩
        · rw [List.take_succ_eq_append_getElem hjl, List.filter_append, ← hF]; simp at hm; simp [hm]
        · refine ⟨rfl, w64s (by omega), ?_, hMx⟩
          rw [hMp, hdrop]; simp only [List.map_cons, List.map_append, List.map_nil, List.append_assoc, List.cons_append, List.nil_append]
  · have : j = n := by omega
    subst this
    have hdr : l.drop j = [] := List.drop_eq_nil_of_le (by omega)
    have htk : l.take j = l := List.take_of_length_le (by omega)
    rw [hdr] at hMp
    rw [htk] at hF
    have hFn : F.length ≤ j := by omega
    have c1 : ¬ j = F.length := by omega
    have c2 : ¬ j = 0 := by omega
    simp only [S3_slices_DeleteFunc_int_int, h0, h1, h5, h6, hMp, slcM_lo (k := .i64) hFn (Nat.le_refl j), slcM_hi (k := .i64) hFn (Nat.le_refl j), c1, c2, SW, SV, wpD, evDL, evDM, evD, bldLD, wpSp, DMem.mt, beq_self_eq_true, seval]
    refine ⟨by simp, by omega, by rw [List.all_eq_true]; intro x hx; rw [(List.mem_replicate.1 hx).2] <;> rfl, fun M2 hM2 => ?_⟩
    have hs' : splD (F.map (DV.int .i64) ++ Z) F.length (List.replicate (j - F.length) (.int .i64 0)) = F.map (.int .i64) ++ List.replicate (j - F.length) (.int .i64 0) := by
      unfold splD
      rw [List.take_append_of_le_length (by simp), List.take_of_length_le (by simp), List.drop_eq_nil_of_le (by simp; omega), List.append_nil]
    rw [hs'] at hM2
    have := hR M2 (List.replicate (j - F.length) 0) (by rw [← hF, hM2, DMem.ins_same, List.map_replicate]) fun x hx => by rw [hM2, DMem.ins_ne _ _ hx]; exact hMx x hx
    rw [← hF] at this
    exact this
def compF : List Int → List Int
  | [x, y] => if x = y then [x] else [x, y]
  | l => l
theorem Compact_pc {M : DMem} {p n : Nat} {l rest : List Int} (hM : M p = some ⟨3, n, l.map (.int .i64) ++ rest.map (.int .i64)⟩) (hl : l.length ≤ 2) (hn : l.length ≤ n) {R : DV → DMem → Prop}
    (hR : ∀ M' (rest : List Int), M' p = some ⟨3, n, (compF l).map (.int .i64) ++ rest.map (.int .i64)⟩ → (∀ x, x ≠ p → M' x = M x) → R (.msl p 0 (compF l).length n) M') :
    PC Tryz.prog F_slices_Compact_int_int [.msl p 0 l.length n] R M := by
  refine pc_slices_Compact_int_int (by simp) ?_
  simp only [S_slices_Compact_int_int, R_slices_Compact_int_int, MU_slices_Compact_int_int, SW, wpD, evDL, evDM, evD, bldLD, List.contains_cons, List.contains_nil, Nat.reduceBEq, beq_self_eq_true, Nat.reduceMul, Nat.reduceSub, wpSp, Option.bind_some, Option.some.injEq, exists_eq_left', exists_eq_left, reduceIte, if_false, if_true, Nat.reduceEqDiff, Nat.reduceAdd, Nat.reduceLeDiff, Int.reduceEq, Int.reduceLT, Int.reduceLE, Int.reduceToNat, decide_true, decide_false, DV.bool.injEq, DV.int.injEq, DV.mp.injEq, DV.msl.injEq, DV.tup.injEq, DV.agg.injEq, DV.fn.injEq, true_implies, forall_const, reduceCtorEq, implies_true, ne_eq, DMem.mt, decide_eq_true_eq, decide_eq_false_iff_not]
  refine ⟨fun h => ?_, fun h => ?_⟩
  · have e : compF l = l := by
      match l, hl, h with
      | [], _, _ => rfl
      | [x], _, _ => rfl
      | [x, y], _, h => simp at h
    rw [e] at hR
    exact hR M rest hM fun _ _ => rfl
  · obtain ⟨x, y, rfl⟩ : ∃ x y, l = [x, y] := by
      match l, hl, h with
      | [], _, h => simp at h
      | [x], _, h => simp at h
      | [x, y], _, _ => exact ⟨x, y, rfl⟩
    refine ⟨fun k δ M' => M' = M ∧ δ 0 = .msl p 0 2 n ∧ ∃ i : Nat, 1 ≤ i ∧ i ≤ 2 ∧ k = 2 - i ∧ δ 3 = .int .i64 i ∧ (i = 2 → ¬ x = y), 1, ⟨rfl, rfl, 1, by omega, by omega, rfl, rfl, fun h => absurd h (by decide)⟩, ?_⟩
    rintro k δ M' ⟨rfl, h0, i, hi1, hi2, rfl, h3, hxy⟩
    have hi : i = 1 ∨ i = 2 := by omega
    rcases hi with rfl | rfl
    · have e0 : wr64 (((1 : Nat) : Int) - 1) = ((0 : Nat) : Int) := w64 (by decide)
      have e1 : (decide (((1 : Nat) : Int) < ((2 : Nat) : Int))) = true := by decide
      have hMp : M' p = some ⟨3, n, .int .i64 x :: .int .i64 y :: rest.map (.int .i64)⟩ := by simpa using hM
      have hn' : 2 ≤ n := by simpa using hn
      simp only [S3_slices_Compact_int_int, MU_slices_Compact_int_int, h0, h3, e0, e1, ixM (show (1 : Nat) < 2 by decide), ixM (show (0 : Nat) < 2 by decide), hMp, SW, wpD, evDL, evDM, evD, bldLD, List.contains_cons, List.contains_nil, Nat.reduceBEq, beq_self_eq_true, Nat.reduceMul, Nat.reduceSub, wpSp, Option.bind_some, Option.some.injEq, exists_eq_left', exists_eq_left, reduceIte, if_false, if_true, Nat.reduceEqDiff, Nat.reduceAdd, Nat.reduceLeDiff, Int.reduceEq, Int.reduceLT, Int.reduceLE, Int.reduceToNat, decide_true, decide_false, DV.bool.injEq, DV.int.injEq, DV.mp.injEq, DV.msl.injEq, DV.tup.injEq, DV.agg.injEq, DV.fn.injEq, true_implies, forall_const, reduceCtorEq, implies_true, ne_eq, DMem.mt]
      refine ⟨fun he => ?_, fun he => ⟨0, M', by omega, SubD.refl _, rfl, 2, by omega, by omega, rfl, w64s (by omega), fun _ hx => (of_decide_eq_false he) hx.symm⟩⟩
      have he' : y = x := of_decide_eq_true he
      subst he'
      have ec : compF [y, y] = [y] := by simp [compF]
      rw [ec] at hR
      have c1 : ¬ n = 1 := by omega
      have c2 : ¬ n = 0 := by omega
      simp only [slcM_lo (sz := 1) (b := p) (o := 0) (k := .i64) (show (1 : Nat) ≤ 2 by decide) hn', c1, SW, wpD, evDL, evDM, evD, bldLD, List.contains_cons, List.contains_nil, Nat.reduceBEq, beq_self_eq_true, Nat.reduceMul, Nat.reduceSub, wpSp, Option.bind_some, Option.some.injEq, exists_eq_left', exists_eq_left, reduceIte, if_false, if_true, Nat.reduceEqDiff, Nat.reduceAdd, Nat.reduceLeDiff, Int.reduceEq, Int.reduceLT, Int.reduceLE, Int.reduceToNat, decide_true, decide_false, DV.bool.injEq, DV.int.injEq, DV.mp.injEq, DV.msl.injEq, DV.tup.injEq, DV.agg.injEq, DV.fn.injEq, true_implies, forall_const, reduceCtorEq, implies_true, ne_eq, DMem.mt]
      refine ⟨fun k δ M1 => M1 = M' ∧ δ 0 = .msl p 0 2 n ∧ δ 3 = .int .i64 ((1 : Nat) : Int) ∧ δ 4 = .msl p 1 1 (n - 1) ∧ δ 5 = .int .i64 1, 0, ⟨rfl, h0, h3, rfl, rfl⟩, ?_⟩
      rintro k δ M1 ⟨rfl, h0, h3, h4, h5⟩
      have e2 : decide ((1 : Int) < ((1 : Nat) : Int)) = false := by decide
      simp only [S1_slices_Compact_int_int, S2_slices_Compact_int_int, MU_slices_Compact_int_int, h0, h3, h4, h5, e2, hMp, slcM_lo (sz := 1) (b := p) (o := 0) (k := .i64) (show (1 : Nat) ≤ 2 by decide) hn', slcM_hi (sz := 1) (b := p) (o := 0) (k := .i64) (show (1 : Nat) ≤ n by omega) hn', c1, c2, SW, wpD, evDL, evDM, evD, bldLD, List.contains_cons, List.contains_nil, Nat.reduceBEq, beq_self_eq_true, Nat.reduceMul, Nat.reduceSub, wpSp, Option.bind_some, Option.some.injEq, exists_eq_left', exists_eq_left, reduceIte, if_false, if_true, Nat.reduceEqDiff, Nat.reduceAdd, Nat.reduceLeDiff, Int.reduceEq, Int.reduceLT, Int.reduceLE, Int.reduceToNat, decide_true, decide_false, DV.bool.injEq, DV.int.injEq, DV.mp.injEq, DV.msl.injEq, DV.tup.injEq, DV.agg.injEq, DV.fn.injEq, true_implies, forall_const, reduceCtorEq, implies_true, ne_eq, DMem.mt]
      refine ⟨by omega, by rw [List.all_eq_true]; intro x hx; rw [(List.mem_replicate.1 hx).2] <;> rfl, fun M2 hM2 => ?_⟩
      exact hR M2 (0 :: rest) (by rw [hM2, DMem.ins_same] <;> rfl) fun x hx => by rw [hM2, DMem.ins_ne _ _ hx]
    · have e : compF [x, y] = [x, y] := by simp [compF, hxy rfl]
      rw [e] at hR
      simp only [S3_slices_Compact_int_int, h0, h3, SW, wpD, evDL, evDM, evD, bldLD, List.contains_cons, List.contains_nil, Nat.reduceBEq, beq_self_eq_true, Nat.reduceMul, Nat.reduceSub, wpSp, Option.bind_some, Option.some.injEq, exists_eq_left', exists_eq_left, reduceIte, if_false, if_true, Nat.reduceEqDiff, Nat.reduceAdd, Nat.reduceLeDiff, Int.reduceEq, Int.reduceLT, Int.reduceLE, Int.reduceToNat, decide_true, decide_false, DV.bool.injEq, DV.int.injEq, DV.mp.injEq, DV.msl.injEq, DV.tup.injEq, DV.agg.injEq, DV.fn.injEq, true_implies, forall_const, reduceCtorEq, implies_true, ne_eq, DMem.mt]
      exact ⟨fun h => absurd h (by decide), fun _ => hR M' rest hM fun _ _ => rfl⟩
def rawNext (f : Fnc) (i : Nat) (x : Ins) : List Int := if x.kind = 16 then [] else if x.kind = 12 then [x.a] else if x.kind = 13 then [(i : Int) + 1, x.a] else [(i : Int) + 1]
def nextF (f : Fnc) (i : Nat) : List Int := match f.code[i]? with
  | none => []
  | some x => compF ((rawNext f i x).filter fun y => !decide ((f.code.length : Int) ≤ y))
theorem Delete_zsl {M : DMem} (g : Nat) (b : List DV) (hb : FrozL b) {R : DV → DMem → Prop} (hR : R .zsl M) : PC Tryz.prog F_slices_DeleteFunc_int_int [.zsl, .fn (.func g) [] b] R M := by
  refine pc_slices_DeleteFunc_int_int (by simp) ?_
  have hidx := IndexFunc_int g [] b FrozL.nil hb (fun _ => false) [] (by simp) (fun i h => absurd h (by simp))
  have hfz : fz M 4 .zsl = slI [] := fz_zsl _ _
  have hi : idxF (fun _ => false) ([] : List Int) = -1 := rfl
  simp only [S_slices_DeleteFunc_int_int, R_slices_DeleteFunc_int_int, MU_slices_DeleteFunc_int_int, hfz, fzmap_froz hb, hidx, hi, SW, SV, wpD, evDL, evDM, evD, bldLD, wpSp, DMem.mt, beq_self_eq_true, seval]
  exact hR
theorem Compact_zsl {M : DMem} {R : DV → DMem → Prop} (hR : R .zsl M) : PC Tryz.prog F_slices_Compact_int_int [.zsl] R M := by
  refine pc_slices_Compact_int_int (by simp) ?_
  simp only [S_slices_Compact_int_int, R_slices_Compact_int_int, MU_slices_Compact_int_int, SW, SV, wpD, evDL, evDM, evD, bldLD, wpSp, DMem.mt, beq_self_eq_true, seval]
  exact hR
def NewI (M : DMem) (d : DV) (l : List Int) : Prop := (d = .zsl ∧ l = [] ∧ M = DMem.mt) ∨ ∃ b n, ∃ rest : List Int, d = .msl b 0 l.length n ∧ l.length ≤ n ∧ M = DMem.mt.ins b ⟨3, n, l.map (.int .i64) ++ rest.map (.int .i64)⟩
theorem NewI.shows {M : DMem} {d : DV} {l : List Int} (h : NewI M d l) : ∀ m v, Rep m (fz M 4 d) v → Rep m (slI l) v := by
  obtain ⟨rfl, rfl, rfl⟩ | ⟨b, n, rest, rfl, hl, rfl⟩ := h
  · intro m v hv; exact hv
  · intro m v hv
    rw [fz_msl (DMem.ins_same _ _ _) 3 0 _ _ hl] at hv
    simp only [List.drop_zero, List.map_append, List.map_map] at hv
    exact rep_isl hv
theorem thawedL_append : ∀ (a b : List DV), thawedL (a ++ b) = (thawedL a && thawedL b)
  | [], b => by simp [thawedL]
  | d :: a, b => by simp only [List.cons_append, thawedL, thawedL_append a b, Bool.and_assoc]
theorem next_tail {M : DMem} {p n : Nat} {l : List Int} {δ : DEnv} {R : DV → DMem → Prop} {XX : Nat → DEnv → DMem → Prop} (f : Fnc) (hM : M = DMem.mt.ins p ⟨3, n, l.map (.int .i64)⟩) (hn : l.length = n) (h2 : n ≤ 2)
    (hR : ∀ d M', NewI M' d (compF (l.filter fun y => !decide ((f.code.length : Int) ≤ y))) → R d M') :
    PC Tryz.prog F_slices_DeleteFunc_int_int [.msl p 0 n n, .fn (.func F_flow_next_1) [] [.ip [.ip f.c]]] (fun v M' => wpD Tryz.prog MU_flow_next (fun f => roL.contains f) (fun t => G_flow_next.contains t) 39 S1_flow_next (fun δ M' => R (δ 4) M') XX (fun δ M' => R (δ 4) M') (δ.upd 37 v) M') M := by
  have hMp : M p = some ⟨3, n, l.map (.int .i64)⟩ := by rw [hM, DMem.ins_same]
  refine Delete_pc hMp hn (by omega) F_flow_next_1 [.ip [.ip f.c]] (FrozL.nil.cons (Froz.ip (FrozL.nil.cons (Froz.ip f.froz)))) (fun y => decide ((f.code.length : Int) ≤ y)) (fun x => next1_pf f x) fun M2 rest e2 k2 => ?_
  have hle := List.length_filter_le (fun y => !decide ((f.code.length : Int) ≤ y)) l
  simp only [S1_flow_next, MU_flow_next, SW, SV, wpD, evDL, evDM, evD, bldLD, wpSp, DMem.mt, beq_self_eq_true, seval]
  refine Compact_pc e2 (by omega) (by omega) fun M3 rest3 e3 k3 => ?_
  have hcl : ∀ l : List Int, (compF l).length ≤ l.length := fun l => by
    unfold compF; split
    · split <;> simp
    · exact Nat.le_refl _
  have hc1 := hcl (l.filter fun y => !decide ((f.code.length : Int) ≤ y))
  refine hR _ _ (.inr ⟨p, n, rest3, rfl, by omega, ?_⟩)
  funext x
  by_cases hx : x = p
  · subst hx; rw [DMem.ins_same, e3]
  · rw [DMem.ins_ne _ _ hx, k3 x hx, k2 x hx, hM, DMem.ins_ne _ _ hx]
theorem next_pc (f : Fnc) (i : Nat) (hi : i < f.code.length) (hl : f.code.length ≤ 64) {R : DV → DMem → Prop} (hR : ∀ d M', NewI M' d (nextF f i) → R d M') : PC Tryz.prog F_flow_next [.ip f.c, .int .i64 i] R DMem.mt := by
  refine pc_flow_next (by simp) ?_
  have e : nextF f i = compF ((rawNext f i f.code[i]).filter fun y => !decide ((f.code.length : Int) ≤ y)) := by
    simp only [nextF, List.getElem?_eq_getElem hi]
  rw [e] at hR
  have ew : wr64 ((i : Int) + 1) = i + 1 := w64 (by omega)
  simp only [S_flow_next, R_flow_next, MU_flow_next, ix_slD Ins.len hi, ew, SW, SV, wpD, evDL, evDM, evD, bldLD, wpSp, DMem.mt, beq_self_eq_true, seval, decide_eq_true_eq, decide_eq_false_iff_not]
  refine ⟨fun h => ?_, fun h => ⟨fun h' b M' hM' => ?_, fun h' => ⟨fun h'' b M' hM' => ?_, fun h'' b M' hM' => ?_⟩⟩⟩
  · refine Delete_zsl F_flow_next_1 _ (FrozL.nil.cons (Froz.ip (FrozL.nil.cons (Froz.ip f.froz)))) ?_
    simp only [S1_flow_next, MU_flow_next, SW, SV, wpD, evDL, evDM, evD, bldLD, wpSp, DMem.mt, beq_self_eq_true, seval]
    refine Compact_zsl ?_
    exact hR _ _ (.inl ⟨rfl, by simp only [rawNext, h, if_true] <;> rfl, rfl⟩)
  · have er : rawNext f i f.code[i] = [f.code[i].a] := by simp only [rawNext, if_neg h, if_pos h']
    rw [er] at hR
    exact next_tail (l := [f.code[i].a]) f (by rw [hM'] <;> rfl) rfl (by simp) hR
  · have er : rawNext f i f.code[i] = [(i : Int) + 1, f.code[i].a] := by simp only [rawNext, if_neg h, if_neg h', if_pos h'']
    rw [er] at hR
    exact next_tail (l := [(i : Int) + 1, f.code[i].a]) f (by rw [hM'] <;> rfl) rfl (by simp) hR
  · have er : rawNext f i f.code[i] = [(i : Int) + 1] := by simp only [rawNext, if_neg h, if_neg h', if_neg h'']
    rw [er] at hR
    exact next_tail (l := [(i : Int) + 1]) f (by rw [hM'] <;> rfl) rfl (by simp) hR
theorem next_pu (f : Fnc) (i : Nat) (hi : i < f.code.length) (hl : f.code.length ≤ 64) : Pu Tryz.prog F_flow_next [.ip f.c, .int .i64 i] (slI (nextF f i)) :=
  Pu.of_le (next_pc f i hi hl fun d M' h => h.shows)
end Go.Proofs.YticlgdhhnjpkjaaGreatDoor.Pf
namespace Go.Proofs.YticlgdhhnjpkjaaGreatDoor.Pf
open Go Go.RowKit Go.Proofs Go.Proofs.YticlgdhhnjpkjaaGreatDoor.Mw Go.Proofs.YticlgdhhnjpkjaaGreatDoor.Sx
set_option linter.unusedVariables false
set_option linter.unusedSimpArgs false
set_option maxRecDepth 4000
theorem grd_t (x : Option DV) : grdD true (.bool true) x = x := rfl
theorem grd_f (x : Option DV) : grdD false (.bool false) x = x := rfl
theorem grd_tf (x : Option DV) : grdD true (.bool false) x = some (.raw undef) := rfl
theorem grd_ft (x : Option DV) : grdD false (.bool true) x = some (.raw undef) := rfl
theorem grd_u (w : Bool) (x : Option DV) : grdD w (.raw undef) x = some (.raw undef) := rfl
def okNext (f : Fnc) (i : Int) : Bool := !((!fmayB f.code || decide (i < 0)) || decide ((f.code.length : Int) ≤ i))
def nextR (f : Fnc) (i : Int) : List Int × Int := if okNext f i = true then (nextF f i.toNat, 0) else ([], 400)
theorem Next_pu (f : Fnc) (i : Int) : Pu Tryz.prog F_flow_Next [.agg f.c, .int .i64 i] (.tup [slI (nextR f i).1, .int .i64 (nextR f i).2]) := by
  refine Pu.of (pc_flow_Next (by simp) ?_)
  simp only [S_flow_Next, R_flow_Next, MU_flow_Next, fz_ins, fmay_pf, SW, SV, wpD, evDL, evDM, evD, bldLD, wpSp, DMem.mt, beq_self_eq_true, seval]
  refine ⟨fun h => ?_, fun h => ?_⟩
  · have e : nextR f i = ([], 400) := by simp only [nextR, okNext, h] <;> rfl
    rw [e] <;> rfl
  · have e : nextR f i = (nextF f i.toNat, 0) := by simp only [nextR, okNext, h] <;> rfl
    rw [e]
    simp only [Bool.or_eq_false_iff, decide_eq_false_iff_not, Bool.not_eq_false'] at h
    obtain ⟨n, rfl⟩ := Int.eq_ofNat_of_zero_le (show 0 ≤ i by omega)
    refine Pu.pc (next_pu f n (by omega) (fmay_le h.1.1).2) ?_
    simp only [S1_flow_Next, MU_flow_Next, SW, SV, wpD, evDL, evDM, evD, bldLD, wpSp, DMem.mt, beq_self_eq_true, seval]
theorem NextR_pu (f : Fnc) (i : Int) : Pu Tryz.prog F_swageref1_Next [.agg f.c, .int .i64 i] (.tup [slI (nextR f i).1, .int .i64 (nextR f i).2]) := by
  refine Pu.of (pc_swageref1_Next (by simp) ?_)
  simp only [S_swageref1_Next, R_swageref1_Next, MU_swageref1_Next, fz_ins, FuncMay_pf, SW, SV, wpD, evDL, evDM, evD, bldLD, wpSp, DMem.mt, beq_self_eq_true, seval]
  refine ⟨fun h => ?_, fun h => ?_⟩
  · have e : nextR f i = ([], 400) := by simp only [nextR, okNext, h] <;> rfl
    rw [e] <;> rfl
  · have e : nextR f i = (nextF f i.toNat, 0) := by simp only [nextR, okNext, h] <;> rfl
    rw [e]
    simp only [Bool.or_eq_false_iff, decide_eq_false_iff_not, Bool.not_eq_false'] at h
    obtain ⟨n, rfl⟩ := Int.eq_ofNat_of_zero_le (show 0 ≤ i by omega)
    have hn : n < f.code.length := by omega
    have ew : wr64 ((n : Int) + 1) = n + 1 := w64 (by have := (fmay_le h.1.1).2; omega)
    have hl64 := (fmay_le h.1.1).2
    have enx : nextF f ((n : Int)).toNat = compF ((rawNext f n f.code[n]).filter fun y => !decide ((f.code.length : Int) ≤ y)) := by
      simp only [Int.toNat_natCast, nextF, List.getElem?_eq_getElem hn]
    rw [enx]
    by_cases k16 : f.code[n].kind = 16
    · have er : rawNext f n f.code[n] = [] := by simp only [rawNext, if_pos k16]
      rw [er]
      simp only [ix_slD Ins.len hn, ew, k16, grd_t, grd_f, grd_tf, grd_ft, grd_u, SW, SV, wpD, evDL, evDM, evD, bldLD, wpSp, DMem.mt, beq_self_eq_true, seval] <;> rfl
    have o0 : OwnD DMem.mt 1 .zsl 0 [] := OwnD.zsl _ _
    by_cases k12 : f.code[n].kind = 12
    · have er : rawNext f n f.code[n] = [f.code[n].a] := by simp only [rawNext, if_neg k16, if_pos k12]
      rw [er]
      by_cases h2 : f.code[n].a < f.code.length
      · have h2' : ¬ (f.code.length : Int) ≤ f.code[n].a := by omega
        simp only [ix_slD Ins.len hn, ew, k12, h2, grd_t, grd_f, grd_tf, grd_ft, grd_u, SW, SV, wpD, evDL, evDM, evD, bldLD, wpSp, DMem.mt, beq_self_eq_true, seval]
        refine app_one o0 rfl (by omega) (by omega) fun d' M' ho hg => ?_
        simp only [ho.fz 3, h2', List.filter_cons, List.filter_nil, SW, SV, wpD, evDL, evDM, evD, bldLD, wpSp, DMem.mt, beq_self_eq_true, seval] <;> rfl
      · have h2' : (f.code.length : Int) ≤ f.code[n].a := by omega
        simp only [ix_slD Ins.len hn, ew, k12, h2, grd_t, grd_f, grd_tf, grd_ft, grd_u, SW, SV, wpD, evDL, evDM, evD, bldLD, wpSp, DMem.mt, beq_self_eq_true, seval]
        simp only [h2', List.filter_cons, List.filter_nil, SW, SV, wpD, evDL, evDM, evD, bldLD, wpSp, DMem.mt, beq_self_eq_true, seval] <;> rfl
    by_cases k13 : f.code[n].kind = 13
    · have er : rawNext f n f.code[n] = [(n : Int) + 1, f.code[n].a] := by simp only [rawNext, if_neg k16, if_neg k12, if_pos k13]
      rw [er]
      by_cases h1 : (n : Int) + 1 < f.code.length
      · have h1' : ¬ (f.code.length : Int) ≤ n + 1 := by omega
        simp only [ix_slD Ins.len hn, ew, k13, h1, grd_t, grd_f, grd_tf, grd_ft, grd_u, SW, SV, wpD, evDL, evDM, evD, bldLD, wpSp, DMem.mt, beq_self_eq_true, seval]
        refine app_one o0 rfl (by omega) (by omega) fun d' M' ho hg => ?_
        obtain ⟨b, ty, c, hb, hM, _⟩ := ho.ix0 (k := .i64) (by decide)
        by_cases h2 : f.code[n].a < f.code.length
        · have h2' : ¬ (f.code.length : Int) ≤ f.code[n].a := by omega
          simp only [ix_slD Ins.len hn, ew, k13, h2, grd_t, grd_f, grd_tf, grd_ft, grd_u, ho.len, hb, hM, cast1, SW, SV, wpD, evDL, evDM, evD, bldLD, wpSp, DMem.mt, beq_self_eq_true, seval]
          refine ⟨fun h3 => ?_, fun h3 => ?_⟩
          · refine app_one ho rfl (by omega) (by omega) fun d2 M2 ho2 hg2 => ?_
            have h3' : ¬ (n : Int) + 1 = f.code[n].a := by simpa using h3
            simp only [ho2.fz 3, h1', h2', List.filter_cons, List.filter_nil, compF, h3', SW, SV, wpD, evDL, evDM, evD, bldLD, wpSp, DMem.mt, beq_self_eq_true, seval] <;> rfl
          · have h3' : (n : Int) + 1 = f.code[n].a := by simpa using h3
            simp only [ho.fz 3, h1', h2', List.filter_cons, List.filter_nil, compF, h3', SW, SV, wpD, evDL, evDM, evD, bldLD, wpSp, DMem.mt, beq_self_eq_true, seval] <;> rfl
        · have h2' : (f.code.length : Int) ≤ f.code[n].a := by omega
          simp only [ix_slD Ins.len hn, ew, k13, h2, grd_t, grd_f, grd_tf, grd_ft, grd_u, ho.len, hb, hM, cast1, SW, SV, wpD, evDL, evDM, evD, bldLD, wpSp, DMem.mt, beq_self_eq_true, seval]
          simp only [ho.fz 3, h1', h2', List.filter_cons, List.filter_nil, compF, SW, SV, wpD, evDL, evDM, evD, bldLD, wpSp, DMem.mt, beq_self_eq_true, seval] <;> rfl
      · have h1' : (f.code.length : Int) ≤ n + 1 := by omega
        by_cases h2 : f.code[n].a < f.code.length
        · have h2' : ¬ (f.code.length : Int) ≤ f.code[n].a := by omega
          simp only [ix_slD Ins.len hn, ew, k13, h1, h2, grd_t, grd_f, grd_tf, grd_ft, grd_u, SW, SV, wpD, evDL, evDM, evD, bldLD, wpSp, DMem.mt, beq_self_eq_true, seval]
          refine app_one o0 rfl (by omega) (by omega) fun d' M' ho hg => ?_
          simp only [ho.fz 3, h1', h2', List.filter_cons, List.filter_nil, compF, SW, SV, wpD, evDL, evDM, evD, bldLD, wpSp, DMem.mt, beq_self_eq_true, seval] <;> rfl
        · have h2' : (f.code.length : Int) ≤ f.code[n].a := by omega
          simp only [ix_slD Ins.len hn, ew, k13, h1, h2, grd_t, grd_f, grd_tf, grd_ft, grd_u, SW, SV, wpD, evDL, evDM, evD, bldLD, wpSp, DMem.mt, beq_self_eq_true, seval]
          simp only [h1', h2', List.filter_cons, List.filter_nil, compF, SW, SV, wpD, evDL, evDM, evD, bldLD, wpSp, DMem.mt, beq_self_eq_true, seval] <;> rfl
    · have er : rawNext f n f.code[n] = [(n : Int) + 1] := by simp only [rawNext, if_neg k16, if_neg k12, if_neg k13]
      rw [er]
      by_cases h1 : (n : Int) + 1 < f.code.length
      · have h1' : ¬ (f.code.length : Int) ≤ n + 1 := by omega
        simp only [ix_slD Ins.len hn, ew, k12, k13, k16, h1, grd_t, grd_f, grd_tf, grd_ft, grd_u, SW, SV, wpD, evDL, evDM, evD, bldLD, wpSp, DMem.mt, beq_self_eq_true, seval]
        refine app_one o0 rfl (by omega) (by omega) fun d' M' ho hg => ?_
        simp only [ix_slD Ins.len hn, ew, k12, k13, k16, grd_t, grd_f, grd_tf, grd_ft, grd_u, ho.len, ho.fz 3, h1', List.filter_cons, List.filter_nil, compF, SW, SV, wpD, evDL, evDM, evD, bldLD, wpSp, DMem.mt, beq_self_eq_true, seval] <;> rfl
      · have h1' : (f.code.length : Int) ≤ n + 1 := by omega
        simp only [ix_slD Ins.len hn, ew, k12, k13, k16, h1, grd_t, grd_f, grd_tf, grd_ft, grd_u, SW, SV, wpD, evDL, evDM, evD, bldLD, wpSp, DMem.mt, beq_self_eq_true, seval]
        simp only [h1', List.filter_cons, List.filter_nil, compF, SW, SV, wpD, evDL, evDM, evD, bldLD, wpSp, DMem.mt, beq_self_eq_true, seval] <;> rfl
end Go.Proofs.YticlgdhhnjpkjaaGreatDoor.Pf
namespace Go.Proofs.YticlgdhhnjpkjaaGreatDoor.Pf
open Go Go.RowKit Go.Proofs Go.Proofs.YticlgdhhnjpkjaaGreatDoor.Mw Go.Proofs.YticlgdhhnjpkjaaGreatDoor.Sx
set_option linter.unusedVariables false
set_option linter.unusedSimpArgs false
theorem slcM_him {sz b o n c j : Nat} {k k' : IntKind} (hj : j ≤ c) (hn : n ≤ c) (h0 : j ≤ n) : slcD sz (.msl b o n c) (.tup []) (.tup [.int k (j : Int)]) (.tup [.int k' (j : Int)]) = some (if j = 0 then .zsl else .msl b o j j) := by
  have e : slcB n c none (some (j : Int)) (some (j : Int)) = some (0, j, j) := by
    simp only [slcB, Option.isSome_some, if_true]
    rw [if_pos ⟨by omega, by omega⟩]
    simp
  simp only [slcD, bnd0, bnd1, Option.bind_some, hn, if_true, e, Option.map_some, Nat.zero_mul, Nat.add_zero, Nat.sub_zero]
end Go.Proofs.YticlgdhhnjpkjaaGreatDoor.Pf
namespace Go.Proofs.YticlgdhhnjpkjaaGreatDoor.Pf
open Go Go.RowKit Go.Proofs Go.Proofs.YticlgdhhnjpkjaaGreatDoor.Mw Go.Proofs.YticlgdhhnjpkjaaGreatDoor.Sx
set_option linter.unusedVariables false
set_option linter.unusedSimpArgs false
def LeB : List Bool → List Bool → Prop
  | [], [] => True
  | a :: l, b :: m => (a = true → b = true) ∧ LeB l m
  | _, _ => False
theorem LeB.refl : ∀ l, LeB l l
  | [] => trivial
  | a :: l => ⟨id, LeB.refl l⟩
theorem LeB.trans : ∀ {a b c : List Bool}, LeB a b → LeB b c → LeB a c
  | [], [], [], _, _ => trivial
  | x :: a, y :: b, z :: c, h, k => ⟨fun e => k.1 (h.1 e), LeB.trans h.2 k.2⟩
theorem LeB.len : ∀ {a b : List Bool}, LeB a b → a.length = b.length
  | [], [], _ => rfl
  | x :: a, y :: b, h => by simp [LeB.len h.2]
theorem LeB.count : ∀ {a b : List Bool}, LeB a b → a.count true ≤ b.count true
  | [], [], _ => Nat.le_refl _
  | x :: a, y :: b, h => by
    have := LeB.count h.2
    have h1 := h.1
    cases x <;> cases y <;> simp_all <;> omega
theorem LeB.eq : ∀ {a b : List Bool}, LeB a b → b.count true ≤ a.count true → a = b
  | [], [], _, _ => rfl
  | x :: a, y :: b, h, hc => by
    have h1 := h.1
    have h2 := LeB.count h.2
    cases x <;> cases y <;> simp at h1 hc
    · rw [LeB.eq h.2 hc]
    · omega
    · rw [LeB.eq h.2 hc]
theorem LeB.set : ∀ (l : List Bool) (i : Nat), LeB l (l.set i true)
  | [], _ => trivial
  | a :: l, 0 => ⟨fun _ => rfl, LeB.refl l⟩
  | a :: l, i + 1 => ⟨id, LeB.set l i⟩
theorem LeB.get : ∀ {a b : List Bool} {i : Nat}, LeB a b → a[i]? = some true → b[i]? = some true
  | [], [], i, _, h => by simp at h
  | x :: a, y :: b, 0, h, e => by simp at e; simp [h.1 e]
  | x :: a, y :: b, i + 1, h, e => by simp at e ⊢; exact LeB.get h.2 e
variable (nx : Nat → List Nat)
def mark (o : List Bool) (l : List Nat) : List Bool := l.foldl (fun o y => o.set y true) o
theorem mark_le (o : List Bool) (l : List Nat) : LeB o (mark o l) := by
  induction l generalizing o with
  | nil => exact LeB.refl o
  | cons y l ih => exact (LeB.set o y).trans (ih _)
theorem mark_get {o : List Bool} {l : List Nat} {y : Nat} (hy : y ∈ l) (hl : y < o.length) : (mark o l)[y]? = some true := by
  induction l generalizing o with
  | nil => simp at hy
  | cons z l ih =>
    rcases List.mem_cons.1 hy with rfl | hy
    · exact (mark_le (o.set y true) l).get (by simp [hl])
    · exact ih (o := o.set z true) hy (by simpa using hl)
theorem mark_sound {o : List Bool} {l : List Nat} {y : Nat} (h : (mark o l)[y]? = some true) : o[y]? = some true ∨ y ∈ l := by
  induction l generalizing o with
  | nil => exact .inl h
  | cons z l ih =>
    rcases ih (o := o.set z true) h with h | h
    · rw [List.getElem?_set] at h
      split at h
      · rename_i e; exact .inr (by simp [e])
      · exact .inl h
    · exact .inr (by simp [h])
def sweep1 (o : List Bool) (i : Nat) : List Bool := if o[i]? = some true then mark o (nx i) else o
theorem sweep1_le (o : List Bool) (i : Nat) : LeB o (sweep1 nx o i) := by
  unfold sweep1; split
  · exact mark_le o _
  · exact LeB.refl o
def sweep (o : List Bool) : List Bool := (List.range o.length).foldl (sweep1 nx) o
theorem sweeps_le (l : List Nat) (o : List Bool) : LeB o (l.foldl (sweep1 nx) o) := by
  induction l generalizing o with
  | nil => exact LeB.refl o
  | cons i l ih => exact (sweep1_le nx o i).trans (ih _)
theorem sweeps_get {l : List Nat} {o : List Bool} {i y : Nat} (hi : i ∈ l) (ho : o[i]? = some true) (hy : y ∈ nx i) (hl : y < o.length) : (l.foldl (sweep1 nx) o)[y]? = some true := by
  induction l generalizing o with
  | nil => simp at hi
  | cons j l ih =>
    by_cases hij : i = j
    · subst hij
      refine (sweeps_le nx l (sweep1 nx o i)).get ?_
      unfold sweep1
      rw [if_pos ho]
      exact mark_get hy hl
    · rcases List.mem_cons.1 hi with h | hi
      · exact absurd h hij
      · exact ih (o := sweep1 nx o j) hi ((sweep1_le nx o j).get ho) (by rw [← (sweep1_le nx o j).len]; exact hl)
def ClosedB (o : List Bool) : Prop := ∀ i y, o[i]? = some true → y ∈ nx i → y < o.length → o[y]? = some true
theorem closed_of_fix {o : List Bool} (h : sweep nx o = o) : ClosedB nx o := fun i y hi hy hl => by
  have hlt : i < o.length := by
    rcases Nat.lt_or_ge i o.length with h | h
    · exact h
    · rw [List.getElem?_eq_none h] at hi; cases hi
  have := sweeps_get nx (l := List.range o.length) (List.mem_range.2 hlt) hi hy hl
  unfold sweep at h
  rwa [h] at this
def sweepN : Nat → List Bool → List Bool
  | 0, o => o
  | k + 1, o => sweepN k (sweep nx o)
theorem sweepN_fix : ∀ (k : Nat) (o : List Bool), o.length ≤ k + o.count true → sweep nx (sweepN nx k o) = sweepN nx k o
  | 0, o, h => by
    have hle : LeB o (sweep nx o) := sweeps_le nx _ o
    refine (LeB.eq hle ?_).symm
    have := List.count_le_length (a := true) (l := sweep nx o)
    have := hle.len
    omega
  | k + 1, o, h => by
    have hle : LeB o (sweep nx o) := sweeps_le nx _ o
    by_cases e : sweep nx o = o
    · have : ∀ k, sweepN nx k o = o := fun k => by
        induction k with
        | zero => rfl
        | succ k ih => show sweepN nx k (sweep nx o) = o; rw [e]; exact ih
      rw [this]; exact e
    · have hc := hle.count
      have : o.count true ≠ (sweep nx o).count true := fun hh => e (LeB.eq hle (by omega)).symm
      have hl := hle.len
      exact sweepN_fix k (sweep nx o) (by omega)
theorem sweepN_le : ∀ (k : Nat) (o : List Bool), LeB o (sweepN nx k o)
  | 0, o => LeB.refl o
  | k + 1, o => LeB.trans (sweeps_le nx _ o) (sweepN_le k (sweep nx o))
inductive Rch : Nat → Prop
  | zero : Rch 0
  | step {i y : Nat} : Rch i → y ∈ nx i → Rch y
def SoundB (o : List Bool) : Prop := ∀ i, o[i]? = some true → Rch nx i
theorem SoundB.mark {o : List Bool} (h : SoundB nx o) {i : Nat} (hi : Rch nx i) : SoundB nx (mark o (nx i)) := fun y hy => by
  rcases mark_sound hy with h' | h'
  · exact h y h'
  · exact .step hi h'
theorem SoundB.sweeps {l : List Nat} {o : List Bool} (h : SoundB nx o) : SoundB nx (l.foldl (sweep1 nx) o) := by
  induction l generalizing o with
  | nil => exact h
  | cons i l ih =>
    refine ih (o := sweep1 nx o i) ?_
    unfold sweep1; split
    · rename_i hi; exact h.mark nx (h i hi)
    · exact h
theorem SoundB.sweepN : ∀ {k : Nat} {o : List Bool}, SoundB nx o → SoundB nx (sweepN nx k o)
  | 0, o, h => h
  | k + 1, o, h => SoundB.sweepN (k := k) (o := sweep nx o) (SoundB.sweeps nx h)
def startB (n : Nat) : List Bool := (List.replicate n false).set 0 true
def reachB (n : Nat) : List Bool := sweepN nx n (startB n)
theorem startB_sound (n : Nat) : SoundB nx (startB n) := fun i hi => by
  unfold startB at hi
  rw [List.getElem?_set] at hi
  split at hi
  · rename_i e; subst e; exact .zero
  · rw [List.getElem?_replicate] at hi; split at hi <;> cases hi
theorem reachB_len (n : Nat) : (reachB nx n).length = n := by
  rw [reachB, ← (sweepN_le nx n (startB n)).len]; simp [startB]
theorem reachB_eq {n : Nat} {o : List Bool} (hn : 0 < n) (hnx : ∀ i y, y ∈ nx i → y < n) (hl : o.length = n) (h0 : o[0]? = some true) (hs : SoundB nx o) (hc : ClosedB nx o) : o = reachB nx n := by
  have all : ∀ {o : List Bool}, o.length = n → o[0]? = some true → ClosedB nx o → ∀ i, Rch nx i → o[i]? = some true := fun hl h0 hc i hi => by
    induction hi with
    | zero => exact h0
    | step _ hy ih => exact hc _ _ ih hy (by rw [hl]; exact hnx _ _ hy)
  have hs' : SoundB nx (reachB nx n) := SoundB.sweepN nx (startB_sound nx n)
  have h0' : (reachB nx n)[0]? = some true := (sweepN_le nx n (startB n)).get (by simp [startB, hn])
  have hc' : ClosedB nx (reachB nx n) := closed_of_fix nx (sweepN_fix nx n (startB n) (by simp [startB]))
  have hl' := reachB_len nx n
  apply List.ext_getElem?
  intro i
  rcases Nat.lt_or_ge i n with hi | hi
  · rw [List.getElem?_eq_getElem (by omega), List.getElem?_eq_getElem (by omega)]
    congr 1
    rw [Bool.eq_iff_iff]
    refine ⟨fun h => ?_, fun h => ?_⟩
    · have := all hl' h0' hc' i (hs i (by rw [List.getElem?_eq_getElem (by omega), h]))
      rw [List.getElem?_eq_getElem (by omega)] at this
      simpa using this
    · have := all hl h0 hc i (hs' i (by rw [List.getElem?_eq_getElem (by omega), h]))
      rw [List.getElem?_eq_getElem (by omega)] at this
      simpa using this
  · rw [List.getElem?_eq_none (by omega), List.getElem?_eq_none (by omega)]
end Go.Proofs.YticlgdhhnjpkjaaGreatDoor.Pf
namespace Go.Proofs.YticlgdhhnjpkjaaGreatDoor.Mw
open Go Go.RowKit
set_option linter.unusedVariables false
set_option linter.unusedSimpArgs false
def ImpL (ds es : List DV) : Prop := ∀ m vs, RepL m ds vs → RepL m es vs
def Imp (d e : DV) : Prop := ∀ m v, Rep m d v → Rep m e v
theorem Imp.refl (d : DV) : Imp d d := fun _ _ h => h
theorem ImpL.refl (ds : List DV) : ImpL ds ds := fun _ _ h => h
theorem ImpL.cons {d e : DV} {ds es : List DV} (h : Imp d e) (k : ImpL ds es) : ImpL (d :: ds) (e :: es) := fun m vs r => by
  cases vs with
  | nil => have := r.2; simp at this
  | cons v vs =>
    have r1 := r.1
    simp only [RepP] at r1
    exact (k m vs ⟨r1.2, by simpa using r.2⟩).cons (h m v r1.1)
theorem Imp.agg {ds es : List DV} (h : ImpL ds es) : Imp (.agg ds) (.agg es) := fun m v r => by
  simp only [Rep] at r ⊢
  obtain ⟨vs, h1, h2, h3⟩ := r
  obtain ⟨g1, g2⟩ := h m vs ⟨h2, h3⟩
  exact ⟨vs, h1, g1, g2⟩
theorem Imp.tup {ds es : List DV} (h : ImpL ds es) : Imp (.tup ds) (.tup es) := fun m v r => by
  simp only [Rep] at r ⊢
  obtain ⟨vs, h1, h2, h3⟩ := r
  obtain ⟨g1, g2⟩ := h m vs ⟨h2, h3⟩
  exact ⟨vs, h1, g1, g2⟩
theorem Imp.isl {n : Nat} {cs rest : List DV} : Imp (.isl n (cs ++ rest)) (.isl n cs) := fun m v h => rep_isl h
theorem Pf.weak {P : Program} {f : FuncId} {ds es : List DV} {v : Value} (h : Pf P f es v) (hi : ImpL ds es) : Pf P f ds v := fun m vals g r => h m vals g (hi m vals r)
theorem PC.weak {P : Program} {f : FuncId} {ds es : List DV} {R : DV → DMem → Prop} {M : DMem} (h : PC P f es R M) (hi : ImpL ds es) : PC P f ds R M :=
  fun F m vals h1 h2 h3 h4 => h F m vals h1 (hi m vals h2) h3 h4
theorem Pu.weak {P : Program} {f : FuncId} {ds es : List DV} {d : DV} (h : Pu P f es d) (hi : ImpL ds es) : Pu P f ds d := fun m vals g r => h m vals g (hi m vals r)
theorem Pt.weak {P : Program} {f : FuncId} {ds es : List DV} {d : DV} (h : Pt P f es d) (hi : ImpL ds es) : Pt P f ds d := PC.weak h hi
end Go.Proofs.YticlgdhhnjpkjaaGreatDoor.Mw
namespace Go.Proofs.YticlgdhhnjpkjaaGreatDoor.Mw
open Go Go.RowKit
set_option linter.unusedVariables false
set_option linter.unusedSimpArgs false
def QueD (M : DMem) (d : DV) (q : List Int) : Prop :=
  (d = .zsl ∧ q = []) ∨ ∃ b o c N ty, ∃ pre : List DV, d = .msl b o q.length c ∧ M b = some ⟨ty, N, pre ++ q.map (.int .i64)⟩ ∧ pre.length = o ∧ o + c ≤ N ∧ q.length ≤ c ∧ 0 < c
theorem QueD.len {M : DMem} {d : DV} {q : List Int} (h : QueD M d q) : lenD d = some (.int .i64 q.length) := by
  obtain ⟨rfl, rfl⟩ | ⟨b, o, c, N, ty, pre, rfl, _⟩ := h <;> rfl
theorem QueD.plain {M : DMem} {d : DV} {q : List Int} (h : QueD M d q) : plainD d = true := by
  obtain ⟨rfl, rfl⟩ | ⟨b, o, c, N, ty, pre, rfl, _⟩ := h <;> rfl
theorem QueD.keep {M M' : DMem} {d : DV} {q : List Int} (h : QueD M d q) (hk : ∀ b, blkD d = some b → M' b = M b) : QueD M' d q := by
  obtain ⟨rfl, rfl⟩ | ⟨b, o, c, N, ty, pre, rfl, h1, h2, h3, h4, h5⟩ := h
  · exact .inl ⟨rfl, rfl⟩
  · exact .inr ⟨b, o, c, N, ty, pre, rfl, by rw [hk b (by simp only [blkD]; rw [if_neg (by omega)])]; exact h1, h2, h3, h4, h5⟩
theorem QueD.ins {M : DMem} {d : DV} {q : List Int} {b : Nat} (h : QueD M d q) (hb : blkD d ≠ some b) (B : DBlk) : QueD (M.ins b B) d q :=
  h.keep fun x hx => DMem.ins_ne _ _ (by rintro rfl; exact hb hx)
theorem QueD.head {M : DMem} {d : DV} {x : Int} {q : List Int} (h : QueD M d (x :: q)) (k : IntKind) : (ixD 1 d (.int k 0)).bind (ldD M) = some (.int .i64 x) := by
  obtain ⟨_, h⟩ | ⟨b, o, c, N, ty, pre, rfl, h1, h2, h3, h4, h5⟩ := h
  · cases h
  · rw [ixM0 (by simp)]
    simp only [Option.bind_some, ldM, h1]
    subst h2
    simp
theorem QueD.tail {M : DMem} {d : DV} {x : Int} {q : List Int} (h : QueD M d (x :: q)) (k : IntKind) : ∃ d', slcD 1 d (.tup [.int k 1]) (.tup []) (.tup []) = some d' ∧ QueD M d' q ∧ (∀ p, blkD d ≠ some p → blkD d' ≠ some p) := by
  obtain ⟨_, h⟩ | ⟨b, o, c, N, ty, pre, rfl, h1, h2, h3, h4, h5⟩ := h
  · cases h
  · have e := @slcM_lo 1 b o (x :: q).length c 1 k (by simp) h4
    refine ⟨_, e, ?_, fun p hp => ?_⟩
    · by_cases hc : c = 1
      · rw [if_pos hc]
        refine .inl ⟨rfl, ?_⟩
        simp only [List.length_cons] at h4
        exact List.eq_nil_of_length_eq_zero (by omega)
      · rw [if_neg hc]
        simp only [List.length_cons] at h4
        exact .inr ⟨b, o + 1, c - 1, N, ty, pre ++ [.int .i64 x], rfl, by rw [h1]; simp, by simp [h2], by omega, by omega, by omega⟩
    · by_cases hc : c = 1
      · rw [if_pos hc]; simp [blkD]
      · rw [if_neg hc]
        simp only [blkD, Nat.one_ne_zero] at hp ⊢
        rw [if_neg (by omega)] at hp ⊢
        exact hp
theorem QueD.app {M : DMem} {d : DV} {q : List Int} {e : TypeId} {bytes : Nat} {ys : List Int} {Post : DV → DMem → Prop} (h : QueD M d q) (hb : (q.length + ys.length) * bytes ≤ 140737488355328) (hn : q.length + ys.length ≤ 9223372036854775807)
    (hP : ∀ d' M', QueD M' d' (q ++ ys) → GrewD M M' d d' → Post d' M') :
    ∃ k' news, RowD M 1 (slI ys) k' news ∧ news.all plainD = true ∧ ∃ n', (n' + k') * bytes ≤ 140737488355328 ∧ n' + k' ≤ 9223372036854775807 ∧ AppD M e 1 d n' k' news Post := by
  refine ⟨ys.length, ys.map (.int .i64), ⟨rfl, by decide, by simp, by rw [List.take_of_length_le (by simp)]⟩, by simp [plainD], q.length, hb, hn, ?_⟩
  obtain ⟨rfl, rfl⟩ | ⟨b, o, c, N, ty, pre, rfl, h1, h2, h3, h4, h5⟩ := h
  · refine ⟨rfl, fun hk => ?_, fun hk b c M' hM hc hM' => ?_⟩
    · have : ys = [] := List.eq_nil_of_length_eq_zero hk
      subst this
      exact hP _ _ (.inl ⟨rfl, rfl⟩) ⟨fun _ _ h _ => h, .inl rfl, fun _ h => .inl h⟩
    · subst hM'
      have hbk : blkD (.msl b 0 ys.length c) = some b := by simp only [blkD]; rw [if_neg (by omega)]
      refine hP _ _ (.inr ⟨b, 0, c, c * 1, e, [], by simp, by simp, rfl, by omega, by simpa using hc, by omega⟩) ⟨fun x B hx _ => (SubD.ins _ hM) x B hx, .inr ⟨b, hbk, hM⟩, fun x hx => ?_⟩
      by_cases hxb : x = b
      · subst hxb; exact .inr hbk
      · rw [DMem.ins_ne _ _ hxb] at hx; exact .inl hx
  · refine ⟨rfl, _, h1, by simp; omega, by simp only; omega, h4, fun hk M' hM' => ?_, fun hk b' c' M' hM hc hM' => ?_⟩
    · subst hM'
      have hs : splD (pre ++ q.map (DV.int .i64)) (o + q.length * 1) (ys.map (.int .i64)) = pre ++ (q ++ ys).map (.int .i64) := by
        unfold splD
        rw [List.take_of_length_le (by simp; omega), List.drop_eq_nil_of_le (by simp; omega), List.append_nil, List.map_append, List.append_assoc]
      simp only [hs]
      have hbk : ∀ n, blkD (.msl b o n c) = some b := fun n => by simp only [blkD]; rw [if_neg (by omega)]
      refine hP _ _ (.inr ⟨b, o, c, N, ty, pre, by simp, by rw [DMem.ins_same], h2, h3, by simpa using hk, h5⟩) ⟨fun x B hx hne => ?_, .inl (by rw [hbk, hbk]), fun x hx => ?_⟩
      · rw [DMem.ins_ne]; exact hx
        rintro rfl; exact hne (hbk _)
      · by_cases hxb : x = b
        · subst hxb; exact .inr (hbk _)
        · rw [DMem.ins_ne _ _ hxb] at hx; exact .inl hx
    · subst hM'
      have hs : ((pre ++ q.map (DV.int .i64)).drop o).take (q.length * 1) ++ ys.map (.int .i64) = (q ++ ys).map (.int .i64) := by
        rw [← h2, List.drop_left, List.take_of_length_le (by simp), List.map_append]
      simp only [hs]
      have hbk : blkD (.msl b' 0 (q.length + ys.length) c') = some b' := by simp only [blkD]; rw [if_neg (by omega)]
      refine hP _ _ (.inr ⟨b', 0, c', c' * 1, e, [], by simp, by simp, rfl, by omega, by simpa using hc, by omega⟩) ⟨fun x B hx _ => (SubD.ins _ hM) x B hx, .inr ⟨b', hbk, hM⟩, fun x hx => ?_⟩
      by_cases hxb : x = b'
      · subst hxb; exact .inr hbk
      · rw [DMem.ins_ne _ _ hxb] at hx; exact .inl hx
theorem isl_one (x : Int) : DV.isl 1 [.int .i64 x] = slI [x] := rfl
end Go.Proofs.YticlgdhhnjpkjaaGreatDoor.Mw
namespace Go.Proofs.YticlgdhhnjpkjaaGreatDoor.Pf
open Go Go.RowKit Go.Proofs Go.Proofs.YticlgdhhnjpkjaaGreatDoor.Mw Go.Proofs.YticlgdhhnjpkjaaGreatDoor.Sx
set_option linter.unusedVariables false
set_option linter.unusedSimpArgs false
set_option maxRecDepth 4000
def nxF (f : Fnc) (i : Nat) : List Nat := (nextF f i).map Int.toNat
theorem compF_mem {l : List Int} {y : Int} (h : y ∈ compF l) : y ∈ l := by
  unfold compF at h
  split at h
  · split at h
    · rename_i e; subst e; simp_all
    · exact h
  · exact h
theorem nextF_mem {f : Fnc} (hf : fmayB f.code = true) {i : Nat} {y : Int} (h : y ∈ nextF f i) : 0 ≤ y ∧ y < f.code.length := by
  unfold nextF at h
  split at h
  · simp at h
  · rename_i x hx
    obtain ⟨hi, rfl⟩ := List.getElem?_eq_some_iff.1 hx
    have h1 := compF_mem h
    rw [List.mem_filter] at h1
    obtain ⟨h1, h2⟩ := h1
    simp only [Bool.not_eq_true', decide_eq_false_iff_not] at h2
    refine ⟨?_, by omega⟩
    have hm := fmay_ins hf hi
    unfold rawNext at h1
    split at h1
    · simp at h1
    split at h1
    · rename_i hk; have := may_jump hm (.inl hk); simp at h1; omega
    split at h1
    · rename_i hk; have := may_jump hm (.inr hk); simp at h1; omega
    · simp at h1; omega
theorem compF_len (l : List Int) : (compF l).length ≤ l.length := by
  unfold compF; split
  · split <;> simp
  · exact Nat.le_refl _
theorem nextF_len (f : Fnc) (i : Nat) : (nextF f i).length ≤ 2 := by
  unfold nextF; split
  · simp
  · rename_i x _
    refine Nat.le_trans (compF_len _) (Nat.le_trans (List.length_filter_le _ _) ?_)
    unfold rawNext; split
    · simp
    · split
      · simp
      · split <;> simp
theorem nxF_lt {f : Fnc} (hf : fmayB f.code = true) {i y : Nat} (h : y ∈ nxF f i) : y < f.code.length := by
  simp only [nxF, List.mem_map] at h
  obtain ⟨z, hz, rfl⟩ := h
  have := nextF_mem hf hz
  omega
def reachF (f : Fnc) : List Bool := reachB (nxF f) f.code.length
def reachR (f : Fnc) : List Bool × Int := if fmayB f.code = true then (reachF f, 0) else ([], 400)
def unm (L : List Bool) : Nat := L.count false
theorem unm_set {L : List Bool} {i : Nat} (h : i < L.length) (hf : L[i] = false) : unm (L.set i true) + 1 = unm L := by
  unfold unm
  rw [List.count_set h, hf]
  have : 0 < L.count false := List.count_pos_iff.2 (by rw [← hf]; exact List.getElem_mem h)
  simp; omega
theorem startB_zero {n : Nat} (h : 1 ≤ n) : (startB n)[0]? = some true := by
  unfold startB
  rw [List.getElem?_set_self (by simp; omega)]
structure RchI (f : Fnc) (p : Nat) (L : List Bool) (q : List Int) (M : DMem) (d : DV) : Prop where
  len : L.length = f.code.length
  out : M p = some ⟨4, f.code.length, L.map .bool⟩
  que : QueD M d q
  ne : blkD d ≠ some p
  inq : ∀ x ∈ q, ∃ i : Nat, x = i ∧ L[i]? = some true
  snd : SoundB (nxF f) L
  z : L[0]? = some true
  small : 2 * unm L + q.length ≤ 200
theorem RchI.more {f : Fnc} {p : Nat} {L : List Bool} {q : List Int} {M M1 M2 : DMem} {d d' : DV} {y : Nat} (h : RchI f p L q M d) (hy : y < L.length) (hf : L[y] = false) (hr : Rch (nxF f) y)
    (h1 : M1 = M.ins p ⟨4, f.code.length, (L.set y true).map .bool⟩) (hq : QueD M2 d' (q ++ [(y : Int)])) (hg : GrewD M1 M2 d d') : RchI f p (L.set y true) (q ++ [(y : Int)]) M2 d' ∧ 2 * unm (L.set y true) + (q ++ [(y : Int)]).length < 2 * unm L + q.length := by
  have hu := unm_set hy hf
  obtain ⟨g1, g2⟩ := hg.blk (show M1 p = some ⟨4, f.code.length, (L.set y true).map .bool⟩ by rw [h1, DMem.ins_same]) h.ne
  have get : ∀ i : Nat, L[i]? = some true → (L.set y true)[i]? = some true := fun i hi => (LeB.set L y).get hi
  have hm : 2 * unm (L.set y true) + (q ++ [(y : Int)]).length < 2 * unm L + q.length := by simp only [List.length_append, List.length_singleton]; omega
  refine ⟨⟨by simp [h.len], g1, hq, g2, fun x hx => ?_, fun i hi => ?_, get 0 h.z, by have := h.small; omega⟩, hm⟩
  · rcases List.mem_append.1 hx with hx | hx
    · obtain ⟨i, rfl, hi⟩ := h.inq x hx
      exact ⟨i, rfl, get i hi⟩
    · simp at hx; subst hx
      exact ⟨y, rfl, by rw [List.getElem?_set_self hy]⟩
  · rw [List.getElem?_set] at hi
    split at hi
    · rename_i e; subst e; exact hr
    · exact h.snd i hi
theorem Reached_pt (f : Fnc) : Pt Tryz.prog F_flow_Reached [.agg f.c] (.tup [slB (reachR f).1, .int .i64 (reachR f).2]) := by
  refine Pt.of (pc_flow_Reached (by simp) ?_)
  simp only [S_flow_Reached, R_flow_Reached, MU_flow_Reached, fz_ins, fmay_pf, SW, SV, wpD, evDL, evDM, evD, bldLD, wpSp, DMem.mt, beq_self_eq_true, seval]
  refine ⟨fun h => ?_, fun h => ?_⟩
  · have e : reachR f = ([], 400) := by simp only [Bool.not_eq_true'] at h; simp only [reachR, h] <;> rfl
    rw [e]
    exact ⟨DMem.mt, SubD.refl _, ⟨rfl, fun b B hb => by cases hb⟩, fun m v hv => hv⟩
  · simp only [Bool.not_eq_false'] at h
    have e : reachR f = (reachF f, 0) := by simp only [reachR, h] <;> rfl
    obtain ⟨hl1, hl2⟩ := fmay_le h
    rw [e]
    refine mkB (by omega) fun p M' _ hM => ?_
    have hMp : M' p = some ⟨4, f.code.length, (List.replicate f.code.length false).map .bool⟩ := by rw [hM, DMem.ins_same]
    simp only [ixM0 (show 0 < f.code.length by omega), SW, SV, wpD, evDL, evDM, evD, bldLD, wpSp, DMem.mt, beq_self_eq_true, seval]
    refine stB hMp (by simp; omega) (by simp) fun M1 hM1 => ?_
    try simp only [SW, SV, wpD, evDL, evDM, evD, bldLD, wpSp, DMem.mt, beq_self_eq_true, seval]
    refine fun b M2 hb hM2 => ?_
    have hbp : p ≠ b := by rintro rfl; rw [hM1, DMem.ins_same] at hb; cases hb
    refine ⟨fun k δ M => ∃ L q, RchI f p L q M (δ 5) ∧ k = 2 * unm L + q.length ∧ (∀ i y : Nat, L[i]? = some true → (i : Int) ∉ q → y ∈ nxF f i → L[y]? = some true) ∧ δ 1 = .ip f.c ∧ δ 4 = .msl p 0 f.code.length f.code.length,
      _, ⟨startB f.code.length, [0], ⟨by simp [startB], by rw [hM2, DMem.ins_ne _ _ hbp, hM1, DMem.ins_same] <;> rfl, ?_, ?_, ?_, startB_sound _ _, startB_zero hl1, by have := List.count_le_length (a := false) (l := startB f.code.length); unfold unm; simp [startB] at this ⊢; omega⟩, rfl, ?_, rfl, rfl⟩, ?_⟩
    · exact .inr ⟨b, 0, 1, 1, 3, [], rfl, by rw [hM2, DMem.ins_same] <;> rfl, rfl, by omega, by simp, by omega⟩
    · simp [blkD, DEnv.upd]; exact hbp.symm
    · intro x hx; simp at hx; exact ⟨0, by simp [hx], startB_zero hl1⟩
    · intro i y hi hn hy
      unfold startB at hi
      rw [List.getElem?_set] at hi
      split at hi
      · rename_i e; subst e; simp at hn
      · rw [List.getElem?_replicate] at hi; split at hi <;> cases hi
    rintro k δ M ⟨L, q, hI, rfl, hcl, h1, h4⟩
    simp only [S4_flow_Reached, MU_flow_Reached, h1, h4, hI.que.len, SW, SV, wpD, evDL, evDM, evD, bldLD, wpSp, DMem.mt, beq_self_eq_true, seval, decide_eq_true_eq, decide_eq_false_iff_not]
    refine ⟨fun hpos => ?_, fun hend => ?_⟩
    · obtain ⟨x, q, rfl⟩ : ∃ x q', q = x :: q' := by cases q with | nil => simp at hpos | cons x q' => exact ⟨x, q', rfl⟩
      obtain ⟨n, rfl, hn⟩ := hI.inq x (by simp)
      have hnl : n < f.code.length := by
        rcases Nat.lt_or_ge n f.code.length with h | h
        · exact h
        · rw [List.getElem?_eq_none (by rw [hI.len]; exact h)] at hn; cases hn
      simp only [h1, h4, hI.que.head, SW, SV, wpD, evDL, evDM, evD, bldLD, wpSp, DMem.mt, beq_self_eq_true, seval]
      refine Pu.pc (next_pu f n hnl hl2) ?_
      simp only [S2_flow_Reached, MU_flow_Reached, h1, h4, SW, SV, wpD, evDL, evDM, evD, bldLD, wpSp, DMem.mt, beq_self_eq_true, seval]
      refine ⟨fun k δ M => ∃ (j : Nat) (L2 : List Bool) (q2 : List Int), j ≤ (nextF f n).length ∧ k = (nextF f n).length - j ∧ RchI f p L2 ((n : Int) :: q2) M (δ 5) ∧ 2 * unm L2 + q2.length ≤ 2 * unm L + q.length ∧
          (∀ i y : Nat, L2[i]? = some true → (i : Int) ∉ ((n : Int) :: q2) → y ∈ nxF f i → L2[y]? = some true) ∧ (∀ y ∈ (nextF f n).take j, L2[y.toNat]? = some true) ∧
          δ 1 = .ip f.c ∧ δ 4 = .msl p 0 f.code.length f.code.length ∧ δ 25 = slI (nextF f n) ∧ δ 26 = .int .i64 (nextF f n).length ∧ δ 27 = .int .i64 j,
        (nextF f n).length, ⟨0, L, q, Nat.zero_le _, rfl, hI, Nat.le_refl _, hcl, fun y hy => by simp at hy, h1, h4, rfl, rfl, rfl⟩, ?_⟩
      rintro k δ M ⟨j, L2, q2, hj, rfl, hI2, hm2, hcl2, hdone, h1, h4, h25, h26, h27⟩
      have hnl2 := nextF_len f n
      have hj62 : j < 4611686018427387905 := by omega
      simp only [S1_flow_Reached, S3_flow_Reached, MU_flow_Reached, h1, h4, h25, h26, h27, SW, SV, wpD, evDL, evDM, evD, bldLD, wpSp, DMem.mt, beq_self_eq_true, seval, decide_eq_true_eq, decide_eq_false_iff_not]
      refine ⟨fun hlt => ?_, fun hge => ?_⟩
      · have hlt' : j < (nextF f n).length := by omega
        have hmem : (nextF f n)[j] ∈ nextF f n := List.getElem_mem hlt'
        obtain ⟨hy0, hy1⟩ := nextF_mem h hmem
        obtain ⟨y, hy⟩ := Int.eq_ofNat_of_zero_le hy0
        rw [hy] at hy1 hmem
        have hyl : y < f.code.length := by omega
        have hyL : y < L2.length := by rw [hI2.len]; exact hyl
        have hyn : y ∈ nxF f n := by simp only [nxF, List.mem_map]; exact ⟨_, hmem, by simp⟩
        have htake : ∀ L3 : List Bool, (∀ z ∈ (nextF f n).take j, L3[z.toNat]? = some true) → L3[y]? = some true → ∀ z ∈ (nextF f n).take (j + 1), L3[z.toNat]? = some true := fun L3 a b z hz => by
          rw [List.take_succ_eq_append_getElem hlt', List.mem_append] at hz
          rcases hz with hz | hz
          · exact a z hz
          · simp at hz; rw [hz, hy]; simpa using b
        simp only [ix_slI hlt', h1, h4, h25, h26, h27, hy, ixM hyl, hI2.out, get_map .bool L2 hyL, SW, SV, wpD, evDL, evDM, evD, bldLD, wpSp, DMem.mt, beq_self_eq_true, seval]
        refine ⟨fun hfal => ?_, fun htr => ?_⟩
        · have hfal' : L2[y] = false := by simpa using hfal
          refine stB hI2.out hyL (by rw [hI2.len]; exact Nat.le_refl _) fun M3 hM3 => ?_
          simp only [h1, h4, h25, h26, h27, isl_one, SW, SV, wpD, evDL, evDM, evD, bldLD, wpSp, DMem.mt, beq_self_eq_true, seval]
          have hq3 : QueD M3 (δ 5) ((n : Int) :: q2) := by rw [hM3]; exact hI2.que.ins hI2.ne _
          have hsm := hI2.small
          simp only [List.length_cons] at hsm
          refine hq3.app (by simp only [List.length_cons, List.length_nil]; omega) (by simp only [List.length_cons, List.length_nil]; omega) fun d' M4 hq4 hg4 => ?_
          obtain ⟨hI4, hm4⟩ := hI2.more hyL hfal' (.step (hI2.snd n (by obtain ⟨i, e, hi⟩ := hI2.inq _ (List.mem_cons_self ..); have : i = n := by omega
                                                                        rw [← this]; exact hi)) hyn) hM3 hq4 hg4
          simp only [h1, h4, h25, h26, h27, w64s hj62, SW, SV, wpD, evDL, evDM, evD, bldLD, wpSp, DMem.mt, beq_self_eq_true, seval]
          simp only [List.cons_append, List.length_cons] at hI4 hm4
          refine ⟨(nextF f n).length - (j + 1), M4, by omega, SubD.refl _, j + 1, L2.set y true, q2 ++ [(y : Int)], by omega, rfl, hI4, by omega, fun i z hi hni hz => ?_, htake _ (fun z hz => (LeB.set L2 y).get (hdone z hz)) (by rw [List.getElem?_set_self hyL]), rfl⟩
          rw [List.getElem?_set] at hi
          split at hi
          · rename_i e; subst e; simp at hni
          · exact (LeB.set L2 y).get (hcl2 i z hi (fun hh => hni (by rw [← List.cons_append]; exact List.mem_append_left _ hh)) hz)
        · have htr' : L2[y] = true := by simpa using htr
          try simp only [h1, h4, h25, h26, h27, w64s hj62, SW, SV, wpD, evDL, evDM, evD, bldLD, wpSp, DMem.mt, beq_self_eq_true, seval]
          exact ⟨(nextF f n).length - (j + 1), M, by omega, SubD.refl _, j + 1, L2, q2, by omega, rfl, hI2, hm2, hcl2, htake _ hdone (by rw [List.getElem?_eq_getElem hyL, htr']), rfl⟩
      · have : j = (nextF f n).length := by omega
        subst this
        obtain ⟨d', ht, hq', hne⟩ := hI2.que.tail .i64
        simp only [ht, h1, h4, h25, h26, h27, SW, SV, wpD, evDL, evDM, evD, bldLD, wpSp, DMem.mt, beq_self_eq_true, seval]
        have hsm := hI2.small
        simp only [List.length_cons] at hsm
        refine ⟨_, M, ?_, SubD.refl _, L2, q2, ⟨hI2.len, hI2.out, hq', hne p hI2.ne, fun x hx => hI2.inq x (List.mem_cons_of_mem _ hx), hI2.snd, hI2.z, by omega⟩, rfl, fun i y hi hni hy => ?_⟩
        · omega
        · by_cases e : i = n
          · subst e
            simp only [nxF, List.mem_map] at hy
            obtain ⟨z, hz, rfl⟩ := hy
            exact hdone z (by rwa [List.take_of_length_le (Nat.le_refl _)])
          · exact hcl2 i y hi (by simp only [List.mem_cons, not_or]; exact ⟨by omega, hni⟩) hy
    · have hq0 : q = [] := List.eq_nil_of_length_eq_zero (by omega)
      subst hq0
      simp only [S5_flow_Reached, MU_flow_Reached, h1, h4, SW, SV, wpD, evDL, evDM, evD, bldLD, wpSp, DMem.mt, beq_self_eq_true, seval]
      have hL : L = reachF f := reachB_eq (nxF f) (by omega) (fun i y hy => nxF_lt h hy) hI.len hI.z hI.snd fun i y hi hy _ => hcl i y hi (by simp) hy
      have ho := hI.out
      rw [hL] at ho
      refine ⟨DMem.mt.ins p ⟨4, f.code.length, (reachF f).map .bool⟩, SubD.one ho, Thaw.one rfl (thawedL_map (fun _ => rfl) _), ?_⟩
      rw [fz_msl (DMem.ins_same _ _ _) 3 0 _ _ (Nat.le_refl _)]
      have hlen : (reachF f).length = f.code.length := reachB_len _ _
      simp only [List.drop_zero, List.map_map, slB, hlen]
      exact fun m v hv => hv
end Go.Proofs.YticlgdhhnjpkjaaGreatDoor.Pf
namespace Go.Proofs.YticlgdhhnjpkjaaGreatDoor.Pf
open Go Go.RowKit Go.Proofs Go.Proofs.YticlgdhhnjpkjaaGreatDoor.Mw Go.Proofs.YticlgdhhnjpkjaaGreatDoor.Sx
set_option linter.unusedVariables false
set_option linter.unusedSimpArgs false
def outB (p : List Fnc) (f : Fnc) (x : Ins) : Bool :=
  if x.kind = 1 ∨ x.kind = 2 then decide (f.locals ≤ x.a) else if x.kind = 12 ∨ x.kind = 13 then decide ((f.code.length : Int) ≤ x.a) else if x.kind = 14 then decide ((p.length : Int) ≤ x.a) else false
def plainE (p : List Fnc) (f : Fnc) (r : List Bool) : Option (Int × Int) :=
  match (List.range f.code.length).find? fun i => r.getD i false && outB p f (f.code.getD i ⟨0, 0⟩) with
  | some i => some ((i : Int), 501)
  | none =>
    let last := f.code.length - 1
    let k := (f.code.getD last ⟨0, 0⟩).kind
    if r.getD last false && !(decide (k = 12)) && !(decide (k = 16)) then some ((last : Int), 503) else none
def argsF (p : List Fnc) (x : Ins) : Int := if x.kind = 14 then (match p[x.a.toNat]? with | some f => f.args | none => 0) else 0
def takesF (x : Ins) (args : Int) : Int :=
  if x.kind = 0 ∨ x.kind = 1 ∨ x.kind = 12 then 0 else if x.kind = 14 then args else if x.kind = 2 ∨ x.kind = 10 ∨ x.kind = 11 ∨ x.kind = 13 ∨ x.kind = 15 ∨ x.kind = 16 then 1 else 2
def putsF (x : Ins) : Int :=
  if x.kind = 2 ∨ x.kind = 11 ∨ x.kind = 12 ∨ x.kind = 13 ∨ x.kind = 15 ∨ x.kind = 16 then 0 else if x.kind = 10 then 2 else 1
def hOne (h : Int) : List Int → List Int → List Int → Option (List Int × List Int)
  | [], out, q => some (out, q)
  | to :: r, out, q => if out[to.toNat]? = some (-1) then hOne h r (out.set to.toNat h) (q ++ [to]) else if out[to.toNat]? = some h then hOne h r out q else none
def hRun (p : List Fnc) (f : Fnc) : Nat → List Int → List Int → Except Int (List Int)
  | 0, out, _ => .ok out
  | _ + 1, out, [] => .ok out
  | k + 1, out, pc :: q =>
    let x := f.code.getD pc.toNat ⟨0, 0⟩
    let cur := out.getD pc.toNat 0
    let t := takesF x (argsF p x)
    let h := cur - t + putsF x
    if cur < t ∨ 8 < h then .error pc else
    match hOne h (nextF f pc.toNat) out q with
    | some (o, q') => hRun p f k o q'
    | none => .error pc
def startH (n : Nat) : List Int := (List.replicate n (-1)).set 0 0
def heightsE (p : List Fnc) (f : Fnc) : Except Int (List Int) := hRun p f f.code.length (startH f.code.length) [0]
def heightsR (p : List Fnc) (fn : Int) : List Int × Int × Int :=
  if packB p = true ∧ 0 ≤ fn ∧ fn < p.length then
    match p[fn.toNat]? with
    | none => ([], 0, 500)
    | some f =>
      match plainE p f (reachF f) with
      | some (pc, e) => ([], pc, e)
      | none => match heightsE p f with
        | .ok out => (out, 0, 0)
        | .error pc => ([], pc, 502)
  else ([], 0, 500)
def allF (p : List Fnc) : List Nat → List (List Int) → List (List Int) × Int
  | [], acc => (acc, 0)
  | i :: r, acc => if (heightsR p i).2.2 = 0 then allF p r (acc ++ [(heightsR p i).1]) else ([], (heightsR p i).2.2)
def allR (p : List Fnc) : List (List Int) × Int := if packB p = true then allF p (List.range p.length) [] else ([], 500)
end Go.Proofs.YticlgdhhnjpkjaaGreatDoor.Pf
namespace Go.Proofs.YticlgdhhnjpkjaaGreatDoor.Pf
open Go Go.RowKit Go.Proofs Go.Proofs.YticlgdhhnjpkjaaGreatDoor.Mw Go.Proofs.YticlgdhhnjpkjaaGreatDoor.Sx
set_option linter.unusedVariables false
set_option linter.unusedSimpArgs false
set_option maxRecDepth 4000
theorem outside_pf (p : List Fnc) (f : Fnc) (x : Ins) : pf Tryz.prog F_verify_outside [.ip [slD Fnc.c p], .ip f.c, .agg x.c] = some (.bool (outB p f x)) := by
  refine pf_of (v := .bool _) (pc_verify_outside (by simp) ?_) (((FrozL.nil.cons (Froz.agg x.froz)).cons (Froz.ip f.froz)).cons (Froz.ip (FrozL.nil.cons (Froz.slD Fnc.froz p)))) rfl rfl
  by_cases h1 : x.kind = 1 ∨ x.kind = 2
  · have c1 : (decide (x.kind = 1) || decide (x.kind = 2)) = true := by simpa using h1
    simp only [S_verify_outside, R_verify_outside, MU_verify_outside, MU_verify_outside, c1, outB, if_pos h1, SW, SV, wpD, evDL, evDM, evD, bldLD, wpSp, DMem.mt, beq_self_eq_true, seval]
  · have c1 : (decide (x.kind = 1) || decide (x.kind = 2)) = false := by simpa using h1
    by_cases h2 : x.kind = 12 ∨ x.kind = 13
    · have c2 : (decide (x.kind = 12) || decide (x.kind = 13)) = true := by simpa using h2
      simp only [S_verify_outside, R_verify_outside, MU_verify_outside, MU_verify_outside, c1, c2, outB, if_neg h1, if_pos h2, SW, SV, wpD, evDL, evDM, evD, bldLD, wpSp, DMem.mt, beq_self_eq_true, seval]
    · have c2 : (decide (x.kind = 12) || decide (x.kind = 13)) = false := by simpa using h2
      by_cases h3 : x.kind = 14
      · simp only [S_verify_outside, R_verify_outside, MU_verify_outside, MU_verify_outside, c1, c2, decide_eq_true h3, outB, if_neg h1, if_neg h2, if_pos h3, SW, SV, wpD, evDL, evDM, evD, bldLD, wpSp, DMem.mt, beq_self_eq_true, seval]
      · simp only [S_verify_outside, R_verify_outside, MU_verify_outside, MU_verify_outside, c1, c2, decide_eq_false h3, outB, if_neg h1, if_neg h2, if_neg h3, SW, SV, wpD, evDL, evDM, evD, bldLD, wpSp, DMem.mt, beq_self_eq_true, seval]
theorem ranged_pf (p : List Fnc) (f : Fnc) (x : Ins) : pf Tryz.prog F_swageref1_ranged [.agg [slD Fnc.c p], .agg f.c, .agg x.c] = some (.bool (!outB p f x)) := by
  refine pf_of (v := .bool _) (pc_swageref1_ranged (by simp) ?_) (((FrozL.nil.cons (Froz.agg x.froz)).cons (Froz.agg f.froz)).cons (Froz.agg (FrozL.nil.cons (Froz.slD Fnc.froz p)))) rfl rfl
  have nle : ∀ a b : Int, (!decide (a ≤ b)) = decide (b < a) := fun a b => by
    rw [Bool.eq_iff_iff]; simp
  by_cases h1 : x.kind = 1 ∨ x.kind = 2
  · have c1 : (decide (x.kind = 1) || decide (x.kind = 2)) = true := by simpa using h1
    simp only [S_swageref1_ranged, R_swageref1_ranged, MU_swageref1_ranged, MU_swageref1_ranged, c1, outB, if_pos h1, nle, SW, SV, wpD, evDL, evDM, evD, bldLD, wpSp, DMem.mt, beq_self_eq_true, seval]
    exact ⟨_, rfl⟩
  · have c1 : (decide (x.kind = 1) || decide (x.kind = 2)) = false := by simpa using h1
    by_cases h2 : x.kind = 12 ∨ x.kind = 13
    · have c2 : (decide (x.kind = 12) || decide (x.kind = 13)) = true := by simpa using h2
      simp only [S_swageref1_ranged, R_swageref1_ranged, MU_swageref1_ranged, MU_swageref1_ranged, c1, c2, outB, if_neg h1, if_pos h2, nle, SW, SV, wpD, evDL, evDM, evD, bldLD, wpSp, DMem.mt, beq_self_eq_true, seval]
      exact ⟨_, rfl⟩
    · have c2 : (decide (x.kind = 12) || decide (x.kind = 13)) = false := by simpa using h2
      by_cases h3 : x.kind = 14
      · simp only [S_swageref1_ranged, R_swageref1_ranged, MU_swageref1_ranged, MU_swageref1_ranged, c1, c2, decide_eq_true h3, outB, if_neg h1, if_neg h2, if_pos h3, nle, SW, SV, wpD, evDL, evDM, evD, bldLD, wpSp, DMem.mt, beq_self_eq_true, seval]
      · simp only [S_swageref1_ranged, R_swageref1_ranged, MU_swageref1_ranged, MU_swageref1_ranged, c1, c2, decide_eq_false h3, outB, if_neg h1, if_neg h2, if_neg h3, SW, SV, wpD, evDL, evDM, evD, bldLD, wpSp, DMem.mt, beq_self_eq_true, seval]
        exact ⟨_, rfl⟩
theorem args_pf (p : List Fnc) (x : Ins) (h : x.kind = 14 → 0 ≤ x.a ∧ x.a < p.length) : pf Tryz.prog F_verify_args [.ip [slD Fnc.c p], .agg x.c] = some (.int .i64 (argsF p x)) := by
  refine pf_of (v := .int _ _) (pc_verify_args (by simp) ?_) ((FrozL.nil.cons (Froz.agg x.froz)).cons (Froz.ip (FrozL.nil.cons (Froz.slD Fnc.froz p)))) rfl rfl
  by_cases h3 : x.kind = 14
  · obtain ⟨h0, hl⟩ := h h3
    obtain ⟨a, ha⟩ := Int.eq_ofNat_of_zero_le h0
    have hal : a < p.length := by omega
    simp only [S_verify_args, R_verify_args, MU_verify_args, MU_verify_args, decide_eq_true h3, ha, ix_slD Fnc.len hal, argsF, if_pos h3, Int.toNat_natCast, List.getElem?_eq_getElem hal, SW, SV, wpD, evDL, evDM, evD, bldLD, wpSp, DMem.mt, beq_self_eq_true, seval]
  · simp only [S_verify_args, R_verify_args, MU_verify_args, MU_verify_args, decide_eq_false h3, argsF, if_neg h3, SW, SV, wpD, evDL, evDM, evD, bldLD, wpSp, DMem.mt, beq_self_eq_true, seval]
end Go.Proofs.YticlgdhhnjpkjaaGreatDoor.Pf
namespace Go.Proofs.YticlgdhhnjpkjaaGreatDoor.Pf
open Go Go.RowKit Go.Proofs Go.Proofs.YticlgdhhnjpkjaaGreatDoor.Mw Go.Proofs.YticlgdhhnjpkjaaGreatDoor.Sx
set_option linter.unusedVariables false
set_option linter.unusedSimpArgs false
set_option maxRecDepth 4000
theorem and_mask {y : Int} (h0 : 0 ≤ y) (h1 : y < 4294967296) : bits .and .u64 y 4294967295 = y := by
  have h := bits_and_u64_nat y.toNat 4294967295 (by omega) (by omega)
  rw [Int.toNat_of_nonneg h0] at h
  have e : y.toNat &&& 4294967295 = y.toNat % 2 ^ 32 := Nat.and_two_pow_sub_one_eq_mod y.toNat 32
  rw [e, Nat.mod_eq_of_lt (by omega)] at h
  exact h.trans (Int.toNat_of_nonneg h0)
theorem shr32 {y : Int} (h0 : 0 ≤ y) (h1 : y < 4294967296) : y.fdiv (2 ^ (min 32 IntKind.u64.bits)) = 0 := by
  have e : (2 ^ (min 32 IntKind.u64.bits) : Int) = 4294967296 := by decide
  rw [e, Int.fdiv_eq_ediv_of_nonneg _ (by omega)]; omega
theorem Mul64_pf {y : Int} (h0 : 0 ≤ y) (h1 : y < 4294967296) : pf Tryz.prog F_math_bits_Mul64 [.int .u64 1, .int .u64 y] = some (.tup [.int .u64 0, .int .u64 y]) := by
  refine pf_of (v := .tuple #[.int _ _, .int _ _]) (pc_math_bits_Mul64 (by simp) ?_) ((FrozL.nil.cons (Froz.int _ _)).cons (Froz.int _ _)) rfl rfl
  simp only [S_math_bits_Mul64, R_math_bits_Mul64, MU_math_bits_Mul64, MU_math_bits_Mul64, SW, SV, wpD, evDL, evDM, evD, bldLD, wpSp, DMem.mt, beq_self_eq_true, seval, and_mask h0 h1, shr32 h0 h1, and_mask (show (0 : Int) ≤ 1 by decide) (by decide), shr32 (show (0 : Int) ≤ 1 by decide) (by decide), and_mask (show (0 : Int) ≤ 0 by decide) (by decide), shr32 (show (0 : Int) ≤ 0 by decide) (by decide)]
  have e : y % 18446744073709551616 = y := by omega
  simp [e, shr32 h0 h1, shr32 (show (0 : Int) ≤ 0 by decide) (by decide), and_mask (show (0 : Int) ≤ 0 by decide) (by decide)]
theorem Mul_pf {y : Int} (h0 : 0 ≤ y) (h1 : y < 4294967296) : pf Tryz.prog F_math_bits_Mul [.int .u64 1, .int .u64 y] = some (.tup [.int .u64 0, .int .u64 y]) := by
  refine pf_of (v := .tuple #[.int _ _, .int _ _]) (pc_math_bits_Mul (by simp) ?_) ((FrozL.nil.cons (Froz.int _ _)).cons (Froz.int _ _)) rfl rfl
  simp only [S_math_bits_Mul, R_math_bits_Mul, MU_math_bits_Mul, MU_math_bits_Mul, S1_math_bits_Mul, S2_math_bits_Mul, S3_math_bits_Mul, SW, SV, wpD, evDL, evDM, evD, bldLD, wpSp, DMem.mt, beq_self_eq_true, seval]
  refine PC.of_pf (by simp only [SW, SV, wpD, evDL, evDM, evD, bldLD, wpSp, DMem.mt, beq_self_eq_true, seval]; exact Mul64_pf h0 h1) ?_
  simp only [SW, SV, wpD, evDL, evDM, evD, bldLD, wpSp, DMem.mt, beq_self_eq_true, seval]
theorem rep_splD (X Z : DV) {n k j : Nat} (hn : n ≤ k) (hj : j ≤ n) (hjk : n + j ≤ k) :
    splD (List.replicate n X ++ List.replicate (k - n) Z) n ((List.replicate n X ++ List.replicate (k - n) Z).take j) = List.replicate (n + j) X ++ List.replicate (k - (n + j)) Z := by
  have e1 : (List.replicate n X ++ List.replicate (k - n) Z).take n = List.replicate n X := by rw [List.take_append_of_le_length (by simp)]; simp
  have e2 : (List.replicate n X ++ List.replicate (k - n) Z).take j = List.replicate j X := by rw [List.take_append_of_le_length (by simpa using hj), List.take_replicate, Nat.min_eq_left hj]
  have e3 : (List.replicate n X ++ List.replicate (k - n) Z).drop (n + j) = List.replicate (k - n - j) Z := by
    rw [List.drop_append, List.drop_eq_nil_of_le (by simp), List.nil_append, List.length_replicate, List.drop_replicate]; congr 1; omega
  unfold splD
  rw [e2, e1, List.length_replicate, e3, List.replicate_append_replicate, Nat.sub_sub]
theorem Repeat_pc {M : DMem} (x : Int) (k : Nat) (hk : k ≤ 1000) {R : DV → DMem → Prop} (hR : ∀ p M', M p = none → M' = M.ins p ⟨3, k, List.replicate k (.int .i64 x)⟩ → R (.msl p 0 k k) M') :
    PC Tryz.prog F_slices_Repeat_int_int [slI [x], .int .i64 k] R M := by
  refine pc_slices_Repeat_int_int (by simp) ?_
  simp only [S_slices_Repeat_int_int, R_slices_Repeat_int_int, MU_slices_Repeat_int_int, MU_slices_Repeat_int_int, S1_slices_Repeat_int_int, S2_slices_Repeat_int_int, raw0_slices_Repeat_int_int, P0_slices_Repeat_int_int, SW, wpD, evDL, evDM, evD, bldLD, List.contains_cons, List.contains_nil, Nat.reduceBEq, beq_self_eq_true, Nat.reduceMul, Nat.reduceSub, wpSp, Option.bind_some, Option.some.injEq, exists_eq_left', exists_eq_left, reduceIte, if_false, if_true, Nat.reduceEqDiff, Nat.reduceAdd, Nat.reduceLeDiff, Int.reduceEq, Int.reduceLT, Int.reduceLE, Int.reduceToNat, decide_true, decide_false, DV.bool.injEq, DV.int.injEq, DV.mp.injEq, DV.msl.injEq, DV.tup.injEq, DV.agg.injEq, DV.fn.injEq, true_implies, forall_const, reduceCtorEq, implies_true, ne_eq, DMem.mt]
  refine ⟨fun h => absurd (of_decide_eq_true h) (by omega), fun _ => ?_⟩
  have e1 : ((1 : Nat) : Int) % 18446744073709551616 = 1 := by decide
  have e2 : (k : Int) % 18446744073709551616 = k := by omega
  rw [e1, e2]
  refine PC.of_pf (by simp only [SW, wpD, evDL, evDM, evD, bldLD, List.contains_cons, List.contains_nil, Nat.reduceBEq, beq_self_eq_true, Nat.reduceMul, Nat.reduceSub, wpSp, Option.bind_some, Option.some.injEq, exists_eq_left', exists_eq_left, reduceIte, if_false, if_true, Nat.reduceEqDiff, Nat.reduceAdd, Nat.reduceLeDiff, Int.reduceEq, Int.reduceLT, Int.reduceLE, Int.reduceToNat, decide_true, decide_false, DV.bool.injEq, DV.int.injEq, DV.mp.injEq, DV.msl.injEq, DV.tup.injEq, DV.agg.injEq, DV.fn.injEq, true_implies, forall_const, reduceCtorEq, implies_true, ne_eq, DMem.mt]; exact Mul_pf (y := (k : Int)) (by omega) (by omega)) ?_
  simp only [SW, wpD, evDL, evDM, evD, bldLD, List.contains_cons, List.contains_nil, Nat.reduceBEq, beq_self_eq_true, Nat.reduceMul, Nat.reduceSub, wpSp, Option.bind_some, Option.some.injEq, exists_eq_left', exists_eq_left, reduceIte, if_false, if_true, Nat.reduceEqDiff, Nat.reduceAdd, Nat.reduceLeDiff, Int.reduceEq, Int.reduceLT, Int.reduceLE, Int.reduceToNat, decide_true, decide_false, DV.bool.injEq, DV.int.injEq, DV.mp.injEq, DV.msl.injEq, DV.tup.injEq, DV.agg.injEq, DV.fn.injEq, true_implies, forall_const, reduceCtorEq, implies_true, ne_eq, DMem.mt, w64n k (by omega)]
  have e3 : decide ((9223372036854775807 : Int) < k) = false := by rw [decide_eq_false_iff_not]; omega
  simp only [e3, SW, wpD, evDL, evDM, evD, bldLD, List.contains_cons, List.contains_nil, Nat.reduceBEq, beq_self_eq_true, Nat.reduceMul, Nat.reduceSub, wpSp, Option.bind_some, Option.some.injEq, exists_eq_left', exists_eq_left, reduceIte, if_false, if_true, Nat.reduceEqDiff, Nat.reduceAdd, Nat.reduceLeDiff, Int.reduceEq, Int.reduceLT, Int.reduceLE, Int.reduceToNat, decide_true, decide_false, DV.bool.injEq, DV.int.injEq, DV.mp.injEq, DV.msl.injEq, DV.tup.injEq, DV.agg.injEq, DV.fn.injEq, true_implies, forall_const, reduceCtorEq, implies_true, ne_eq, DMem.mt]
  refine mkD (z := .int .i64 0) (by omega) (by omega) fun p M1 hp hM1 => ?_
  rw [Nat.mul_one, zerosD_int] at hM1
  have hM1p : M1 p = some ⟨3, k, List.replicate k (.int .i64 0)⟩ := by rw [hM1, DMem.ins_same]
  simp only [hM1p, SW, wpD, evDL, evDM, evD, bldLD, List.contains_cons, List.contains_nil, Nat.reduceBEq, beq_self_eq_true, Nat.reduceMul, Nat.reduceSub, wpSp, Option.bind_some, Option.some.injEq, exists_eq_left', exists_eq_left, reduceIte, if_false, if_true, Nat.reduceEqDiff, Nat.reduceAdd, Nat.reduceLeDiff, Int.reduceEq, Int.reduceLT, Int.reduceLE, Int.reduceToNat, decide_true, decide_false, DV.bool.injEq, DV.int.injEq, DV.mp.injEq, DV.msl.injEq, DV.tup.injEq, DV.agg.injEq, DV.fn.injEq, true_implies, forall_const, reduceCtorEq, implies_true, ne_eq, DMem.mt, MU_slices_Repeat_int_int, S1_slices_Repeat_int_int, S2_slices_Repeat_int_int, raw0_slices_Repeat_int_int, P0_slices_Repeat_int_int]
  refine ⟨_, ⟨Nat.one_pos, by simp; omega, rfl⟩, Nat.min_le_right _ _, ?_, fun M2 hM2 => ?_⟩
  · have : min 1 k = 0 ∨ min 1 k = 1 := by omega
    rcases this with e | e <;> simp [e, plainD]
  refine ⟨fun f δ M' => ∃ n, n ≤ k ∧ (k = 0 ∨ 1 ≤ n) ∧ f = k - n ∧ δ 7 = .msl p 0 k k ∧ δ 8 = .int .i64 n ∧ M' = M.ins p ⟨3, k, List.replicate n (.int .i64 x) ++ List.replicate (k - n) (.int .i64 0)⟩, k - min 1 k, ⟨min 1 k, by omega, by omega, rfl, rfl, rfl, ?_⟩, ?_⟩
  · rw [hM2, hM1]
    funext y
    simp only [DMem.ins]
    split
    · congr 2
      rcases Nat.eq_zero_or_pos k with rfl | hk0
      · simp [splD]
      · have e : min 1 k = 1 := by omega
        rw [e]
        obtain ⟨q, rfl⟩ : ∃ q, k = q + 1 := ⟨k - 1, by omega⟩
        simp [splD, List.replicate_succ]
    · rfl
  rintro f δ M' ⟨n, hn, hn1, rfl, h7, h8, rfl⟩
  simp only [h7, h8, DMem.ins_same, SW, wpD, evDL, evDM, evD, bldLD, List.contains_cons, List.contains_nil, Nat.reduceBEq, beq_self_eq_true, Nat.reduceMul, Nat.reduceSub, wpSp, Option.bind_some, Option.some.injEq, exists_eq_left', exists_eq_left, reduceIte, if_false, if_true, Nat.reduceEqDiff, Nat.reduceAdd, Nat.reduceLeDiff, Int.reduceEq, Int.reduceLT, Int.reduceLE, Int.reduceToNat, decide_true, decide_false, DV.bool.injEq, DV.int.injEq, DV.mp.injEq, DV.msl.injEq, DV.tup.injEq, DV.agg.injEq, DV.fn.injEq, true_implies, forall_const, reduceCtorEq, implies_true, ne_eq, DMem.mt, MU_slices_Repeat_int_int, S1_slices_Repeat_int_int, S2_slices_Repeat_int_int, raw0_slices_Repeat_int_int, P0_slices_Repeat_int_int]
  refine ⟨fun h => ?_, fun h => ?_⟩
  · have hlt : n < k := by have := of_decide_eq_true h; omega
    have hn1' : 1 ≤ n := by omega
    have c1 : ¬ k = n := by omega
    have c2 : ¬ k = 0 := by omega
    simp only [slcM_lo (Nat.le_of_lt hlt) (Nat.le_refl k), slcM_hi (k := .i64) (Nat.le_of_lt hlt) (Nat.le_refl k), c1, c2, SW, wpD, evDL, evDM, evD, bldLD, List.contains_cons, List.contains_nil, Nat.reduceBEq, beq_self_eq_true, Nat.reduceMul, Nat.reduceSub, wpSp, Option.bind_some, Option.some.injEq, exists_eq_left', exists_eq_left, reduceIte, if_false, if_true, Nat.reduceEqDiff, Nat.reduceAdd, Nat.reduceLeDiff, Int.reduceEq, Int.reduceLT, Int.reduceLE, Int.reduceToNat, decide_true, decide_false, DV.bool.injEq, DV.int.injEq, DV.mp.injEq, DV.msl.injEq, DV.tup.injEq, DV.agg.injEq, DV.fn.injEq, true_implies, forall_const, reduceCtorEq, implies_true, ne_eq, DMem.mt]
    refine ⟨_, ⟨_, DMem.ins_same _ _ _, by simp; omega, rfl⟩, by simp, by omega, ?_, fun M' hM' => ?_⟩
    · simp only [List.drop_zero, Nat.mul_one]
      rw [List.all_eq_true]
      intro d hd
      have := List.mem_of_mem_take hd
      rcases List.mem_append.1 this with h | h <;> (rw [(List.mem_replicate.1 h).2] <;> rfl)
    · refine ⟨k - (n + min n (k - n)), _, by omega, SubD.refl _, n + min n (k - n), by omega, by omega, rfl, by rw [w64 ⟨by omega, by omega⟩]; omega, ?_⟩
      rw [hM']
      funext y
      simp only [DMem.ins]
      split
      · congr 2
        simp only [List.drop_zero, Nat.mul_one]
        exact rep_splD _ _ (by omega) (by omega) (by omega)
      · rfl
  · have : n = k := by have := of_decide_eq_false h; omega
    subst this
    refine hR p _ hp ?_
    simp
end Go.Proofs.YticlgdhhnjpkjaaGreatDoor.Pf
namespace Go.Proofs.YticlgdhhnjpkjaaGreatDoor.Pf
open Go Go.RowKit Go.Proofs Go.Proofs.YticlgdhhnjpkjaaGreatDoor.Mw Go.Proofs.YticlgdhhnjpkjaaGreatDoor.Sx
set_option linter.unusedVariables false
set_option linter.unusedSimpArgs false
set_option maxRecDepth 4000
theorem nextR_in {f : Fnc} (h : fmayB f.code = true) {n : Nat} (hn : n < f.code.length) : nextR f n = (nextF f n, 0) := by
  have : okNext f n = true := by
    simp only [okNext, h, Bool.not_true, Bool.false_or, Bool.not_or, Bool.and_eq_true, Bool.not_eq_true', decide_eq_false_iff_not]
    omega
  simp only [nextR, this, if_true, Int.toNat_natCast]
structure RchJ (f : Fnc) (p : Nat) (L : List Bool) (q : List Int) (M : DMem) (d : DV) : Prop where
  len : L.length = f.code.length
  out : M p = some ⟨4, f.code.length, L.map .bool⟩
  que : QueD M d q
  ne : blkD d ≠ some p
  inq : ∀ x ∈ q, ∃ i : Nat, x = i ∧ i < f.code.length ∧ Rch (nxF f) i
  snd : SoundB (nxF f) L
  z : L[0]? = some true ∨ (0 : Int) ∈ q
  small : 3 * unm L + q.length ≤ 300
  cl : ∀ i y : Nat, L[i]? = some true → y ∈ nxF f i → L[y]? = some true ∨ (y : Int) ∈ q
theorem ReachedR_pu (f : Fnc) : Pu Tryz.prog F_swageref1_Reached [.agg f.c] (.tup [slB (reachR f).1, .int .i64 (reachR f).2]) := by
  refine Pu.of (pc_swageref1_Reached (by simp) ?_)
  simp only [S_swageref1_Reached, R_swageref1_Reached, MU_swageref1_Reached, fz_ins, fz_fnca, FuncMay_pf, SW, SV, wpD, evDL, evDM, evD, bldLD, wpSp, DMem.mt, beq_self_eq_true, seval]
  refine ⟨fun h => ?_, fun h => ?_⟩
  · have e : reachR f = ([], 400) := by simp only [Bool.not_eq_true'] at h; simp only [reachR, h] <;> rfl
    rw [e] <;> rfl
  · simp only [Bool.not_eq_false'] at h
    have e : reachR f = (reachF f, 0) := by simp only [reachR, h] <;> rfl
    obtain ⟨hl1, hl2⟩ := fmay_le h
    rw [e]
    refine mkB (by omega) fun p M1 _ hM1 => ?_
    try simp only [SW, SV, wpD, evDL, evDM, evD, bldLD, wpSp, DMem.mt, beq_self_eq_true, seval]
    refine fun b M2 hb hM2 => ?_
    have hbp : p ≠ b := by rintro rfl; rw [hM1, DMem.ins_same] at hb; cases hb
    refine ⟨fun k δ M => ∃ L q, RchJ f p L q M (δ 5) ∧ k = 3 * unm L + q.length ∧ δ 1 = .ip f.c ∧ δ 4 = .msl p 0 f.code.length f.code.length,
      _, ⟨List.replicate f.code.length false, [0], ⟨by simp, by rw [hM2, DMem.ins_ne _ _ hbp, hM1, DMem.ins_same], ?_, ?_, ?_, ?_, .inr (by simp), ?_, ?_⟩, rfl, rfl, rfl⟩, ?_⟩
    · exact .inr ⟨b, 0, 1, 1, 3, [], rfl, by rw [hM2, DMem.ins_same] <;> rfl, rfl, by omega, by simp, by omega⟩
    · simp [blkD, DEnv.upd]; exact hbp.symm
    · intro x hx; simp at hx; exact ⟨0, by simp [hx], by omega, .zero⟩
    · intro i hi; rw [List.getElem?_replicate] at hi; split at hi <;> cases hi
    · unfold unm; simp; omega
    · intro i y hi hy
      rw [List.getElem?_replicate] at hi; split at hi <;> cases hi
    rintro k δ M ⟨L, q, hI, rfl, h1, h4⟩
    simp only [S2_swageref1_Reached, MU_swageref1_Reached, h1, h4, hI.que.len, SW, SV, wpD, evDL, evDM, evD, bldLD, wpSp, DMem.mt, beq_self_eq_true, seval, decide_eq_true_eq, decide_eq_false_iff_not]
    refine ⟨fun hpos => ?_, fun hend => ?_⟩
    · obtain ⟨x, q, rfl⟩ : ∃ x q', q = x :: q' := by cases q with | nil => simp at hpos | cons x q' => exact ⟨x, q', rfl⟩
      obtain ⟨n, rfl, hnl, hrn⟩ := hI.inq x (by simp)
      have hnL : n < L.length := by rw [hI.len]; exact hnl
      obtain ⟨d', ht, hq', hne⟩ := hI.que.tail .i64
      have hsm := hI.small
      simp only [List.length_cons] at hsm
      try simp only [h1, h4, hI.que.head, ht, ixM hnl, hI.out, get_map .bool L hnL, SW, SV, wpD, evDL, evDM, evD, bldLD, wpSp, DMem.mt, beq_self_eq_true, seval]
      refine ⟨fun htr => ?_, fun hfal => ?_⟩
      · refine ⟨_, M, ?_, SubD.refl _, L, q, ⟨hI.len, hI.out, hq', hne p hI.ne, fun x hx => hI.inq x (List.mem_cons_of_mem _ hx), hI.snd, ?_, by omega, fun i y hi hy => ?_⟩, rfl⟩
        · omega
        · rcases hI.z with hz | hz
          · exact .inl hz
          · rcases List.mem_cons.1 hz with hz | hz
            · have : n = 0 := by omega
              subst this; exact .inl (by rw [List.getElem?_eq_getElem hnL, htr])
            · exact .inr hz
        · rcases hI.cl i y hi hy with hz | hz
          · exact .inl hz
          · rcases List.mem_cons.1 hz with hz | hz
            · have : y = n := by omega
              subst this; exact .inl (by rw [List.getElem?_eq_getElem hnL, htr])
            · exact .inr hz
      · refine stB hI.out hnL (by rw [hI.len]; exact Nat.le_refl _) fun M3 hM3 => ?_
        have hu := unm_set hnL hfal
        try simp only [h1, h4, fz_fnca, SW, SV, wpD, evDL, evDM, evD, bldLD, wpSp, DMem.mt, beq_self_eq_true, seval]
        refine Pu.pc (NextR_pu f n) ?_
        rw [nextR_in h hnl]
        have hnl2 := nextF_len f n
        have hq3 : QueD M3 d' q := by rw [hM3]; exact hq'.ins (hne p hI.ne) _
        simp only [S1_swageref1_Reached, MU_swageref1_Reached, h1, h4, SW, SV, wpD, evDL, evDM, evD, bldLD, wpSp, DMem.mt, beq_self_eq_true, seval]
        refine hq3.app (by omega) (by omega) fun d2 M4 hq4 hg4 => ?_
        obtain ⟨g1, g2⟩ := hg4.blk (show M3 p = some ⟨4, f.code.length, (L.set n true).map .bool⟩ by rw [hM3, DMem.ins_same]) (hne p hI.ne)
        try simp only [h1, h4, SW, SV, wpD, evDL, evDM, evD, bldLD, wpSp, DMem.mt, beq_self_eq_true, seval]
        have get : ∀ i : Nat, L[i]? = some true → (L.set n true)[i]? = some true := fun i hi => (LeB.set L n).get hi
        have hself : (L.set n true)[n]? = some true := List.getElem?_set_self hnL
        refine ⟨_, M4, ?_, SubD.refl _, L.set n true, q ++ nextF f n, ⟨by simp [hI.len], g1, hq4, g2, fun x hx => ?_, fun i hi => ?_, ?_, ?_, fun i y hi hy => ?_⟩, rfl⟩
        · simp only [List.length_append]; omega
        · rcases List.mem_append.1 hx with hx | hx
          · exact hI.inq x (List.mem_cons_of_mem _ hx)
          · obtain ⟨hy0, hy1⟩ := nextF_mem h hx
            obtain ⟨y, rfl⟩ := Int.eq_ofNat_of_zero_le hy0
            exact ⟨y, rfl, by omega, .step hrn (by simp only [nxF, List.mem_map]; exact ⟨_, hx, by simp⟩)⟩
        · rw [List.getElem?_set] at hi
          split at hi
          · rename_i e; subst e; exact hrn
          · exact hI.snd i hi
        · rcases hI.z with hz | hz
          · exact .inl (get 0 hz)
          · rcases List.mem_cons.1 hz with hz | hz
            · have : n = 0 := by omega
              subst this; exact .inl hself
            · exact .inr (List.mem_append_left _ hz)
        · simp only [List.length_append]; omega
        · rw [List.getElem?_set] at hi
          split at hi
          · rename_i e; subst e
            refine .inr (List.mem_append_right _ ?_)
            simp only [nxF, List.mem_map] at hy
            obtain ⟨z, hz, rfl⟩ := hy
            have := nextF_mem h hz
            rwa [Int.toNat_of_nonneg this.1]
          · rcases hI.cl i y hi hy with hz | hz
            · exact .inl (get y hz)
            · rcases List.mem_cons.1 hz with hz | hz
              · have : y = n := by omega
                subst this; exact .inl hself
              · exact .inr (List.mem_append_left _ hz)
    · have hq0 : q = [] := List.eq_nil_of_length_eq_zero (by omega)
      subst hq0
      simp only [S3_swageref1_Reached, MU_swageref1_Reached, h1, h4, SW, SV, wpD, evDL, evDM, evD, bldLD, wpSp, DMem.mt, beq_self_eq_true, seval]
      have hL : L = reachF f := reachB_eq (nxF f) (by omega) (fun i y hy => nxF_lt h hy) hI.len (by rcases hI.z with hz | hz; exact hz; simp at hz) hI.snd fun i y hi hy _ => by
        rcases hI.cl i y hi hy with hz | hz
        · exact hz
        · simp at hz
      have ho := hI.out
      rw [hL] at ho
      rw [fz_msl ho 3 0 _ _ (Nat.le_refl _)]
      have hlen : (reachF f).length = f.code.length := reachB_len _ _
      simp only [List.drop_zero, List.map_map, slB, hlen] <;> rfl
theorem reachF_len (f : Fnc) : (reachF f).length = f.code.length := reachB_len _ _
theorem reachF_zero {f : Fnc} (h : 1 ≤ f.code.length) : (reachF f)[0]? = some true := (sweepN_le (nxF f) f.code.length (startB f.code.length)).get (startB_zero h)
theorem reachF_closed {f : Fnc} (h : fmayB f.code = true) {i y : Nat} (hi : (reachF f)[i]? = some true) (hy : y ∈ nxF f i) : (reachF f)[y]? = some true :=
  closed_of_fix (nxF f) (sweepN_fix (nxF f) f.code.length (startB f.code.length) (by simp [startB])) i y hi hy (by rw [show (sweepN (nxF f) f.code.length (startB f.code.length)).length = (reachF f).length from rfl, reachF_len]; exact nxF_lt h hy)
theorem reach_all {f : Fnc} (h : fmayB f.code = true) : ∀ i, Rch (nxF f) i → (reachF f)[i]? = some true := fun i hi => by
  induction hi with
  | zero => exact reachF_zero (fmay_le h).1
  | step _ hy ih => exact reachF_closed h ih hy
end Go.Proofs.YticlgdhhnjpkjaaGreatDoor.Pf
namespace Go.Proofs.YticlgdhhnjpkjaaGreatDoor.Pf
open Go Go.RowKit Go.Proofs Go.Proofs.YticlgdhhnjpkjaaGreatDoor.Mw Go.Proofs.YticlgdhhnjpkjaaGreatDoor.Sx
set_option linter.unusedVariables false
set_option linter.unusedSimpArgs false
set_option maxRecDepth 4000
def effR (x : Ins) (args : Int) : Int × Int × Int := if mayB x = true ∧ 0 ≤ args ∧ args ≤ 4 then (takesF x args, putsF x, 0) else (0, 0, 200)
theorem may_kind {x : Ins} (h : mayB x = true) : x.kind = 0 ∨ x.kind = 1 ∨ x.kind = 2 ∨ x.kind = 3 ∨ x.kind = 4 ∨ x.kind = 5 ∨ x.kind = 6 ∨ x.kind = 7 ∨ x.kind = 8 ∨ x.kind = 9 ∨ x.kind = 10 ∨ x.kind = 11 ∨ x.kind = 12 ∨ x.kind = 13 ∨ x.kind = 14 ∨ x.kind = 15 ∨ x.kind = 16 := by
  unfold mayB at h
  split at h
  · cases h
  · rename_i hk; omega
theorem eff_cond (x : Ins) (args : Int) : ((!mayB x || decide (args < 0)) || decide (4 < args)) = !decide (mayB x = true ∧ 0 ≤ args ∧ args ≤ 4) := by
  cases mayB x <;> simp
  grind
set_option maxHeartbeats 4000000 in
theorem Effect_pf (x : Ins) (args : Int) : pf Tryz.prog F_ins_Effect [.agg x.c, .int .i64 args] = some (.tup [.int .i64 (effR x args).1, .int .i64 (effR x args).2.1, .int .i64 (effR x args).2.2]) := by
  refine pf_of (v := .tuple #[.int _ _, .int _ _, .int _ _]) (pc_ins_Effect (by simp) ?_) ((FrozL.nil.cons (Froz.int _ _)).cons (Froz.agg x.froz)) rfl rfl
  by_cases h : mayB x = true ∧ 0 ≤ args ∧ args ≤ 4
  · have e : effR x args = (takesF x args, putsF x, 0) := by simp only [effR, if_pos h]
    have hc : ((!mayB x || decide (args < 0)) || decide (4 < args)) = false := by rw [eff_cond, decide_eq_true h] <;> rfl
    rw [e]
    have hm := May_pf x
    rw [h.1] at hm
    have w0 : wr64 (0 + 1) = 1 := w64 (by decide)
    have w1 : wr64 (1 + 1) = 2 := w64 (by decide)
    have hc' : (decide (args < 0) || decide (4 < args)) = false := by rw [h.1] at hc; exact hc
    obtain ⟨k, a⟩ := x
    simp only [Ins.c] at hm
    rcases may_kind h.1 with hk | hk | hk | hk | hk | hk | hk | hk | hk | hk | hk | hk | hk | hk | hk | hk | hk <;> (simp only at hk; subst hk) <;>
      (simp only [S_ins_Effect, R_ins_Effect, MU_ins_Effect, MU_ins_Effect, hm, hc', takesF, putsF, w0, w1, true_or, or_true, false_or, or_false, or_self, SW, wpD, evDL, evDM, evD, bldLD, List.contains_cons, List.contains_nil, Nat.reduceBEq, beq_self_eq_true, Nat.reduceMul, Nat.reduceSub, wpSp, Option.bind_some, Option.some.injEq, exists_eq_left', exists_eq_left, reduceIte, if_false, if_true, Nat.reduceEqDiff, Nat.reduceAdd, Nat.reduceLeDiff, Int.reduceEq, Int.reduceLT, Int.reduceLE, Int.reduceToNat, decide_true, decide_false, DV.bool.injEq, DV.int.injEq, DV.mp.injEq, DV.msl.injEq, DV.tup.injEq, DV.agg.injEq, DV.fn.injEq, true_implies, forall_const, reduceCtorEq, implies_true, ne_eq, DMem.mt] <;> try rfl)
  · have e : effR x args = (0, 0, 200) := by simp only [effR, if_neg h]
    have hc : ((!mayB x || decide (args < 0)) || decide (4 < args)) = true := by rw [eff_cond, decide_eq_false h] <;> rfl
    rw [e]
    simp only [S_ins_Effect, R_ins_Effect, MU_ins_Effect, MU_ins_Effect, May_pf, hc, SW, wpD, evDL, evDM, evD, bldLD, List.contains_cons, List.contains_nil, Nat.reduceBEq, beq_self_eq_true, Nat.reduceMul, Nat.reduceSub, wpSp, Option.bind_some, Option.some.injEq, exists_eq_left', exists_eq_left, reduceIte, if_false, if_true, Nat.reduceEqDiff, Nat.reduceAdd, Nat.reduceLeDiff, Int.reduceEq, Int.reduceLT, Int.reduceLE, Int.reduceToNat, decide_true, decide_false, DV.bool.injEq, DV.int.injEq, DV.mp.injEq, DV.msl.injEq, DV.tup.injEq, DV.agg.injEq, DV.fn.injEq, true_implies, forall_const, reduceCtorEq, implies_true, ne_eq, DMem.mt]
set_option maxHeartbeats 4000000 in
theorem EffectR_pf (x : Ins) (args : Int) : pf Tryz.prog F_swageref1_Effect [.agg x.c, .int .i64 args] = some (.tup [.int .i64 (effR x args).1, .int .i64 (effR x args).2.1, .int .i64 (effR x args).2.2]) := by
  refine pf_of (v := .tuple #[.int _ _, .int _ _, .int _ _]) (pc_swageref1_Effect (by simp) ?_) ((FrozL.nil.cons (Froz.int _ _)).cons (Froz.agg x.froz)) rfl rfl
  by_cases h : mayB x = true ∧ 0 ≤ args ∧ args ≤ 4
  · have e : effR x args = (takesF x args, putsF x, 0) := by simp only [effR, if_pos h]
    have hc : ((!mayB x || decide (args < 0)) || decide (4 < args)) = false := by rw [eff_cond, decide_eq_true h] <;> rfl
    rw [e]
    have hm := InsMay_pf x
    rw [h.1] at hm
    have hc' : (decide (args < 0) || decide (4 < args)) = false := by rw [h.1] at hc; exact hc
    obtain ⟨k, a⟩ := x
    simp only [Ins.c] at hm
    rcases may_kind h.1 with hk | hk | hk | hk | hk | hk | hk | hk | hk | hk | hk | hk | hk | hk | hk | hk | hk <;> (simp only at hk; subst hk) <;>
      (simp only [S_swageref1_Effect, R_swageref1_Effect, MU_swageref1_Effect, MU_swageref1_Effect, hm, hc', takesF, putsF, true_or, or_true, false_or, or_false, or_self, SW, SV, wpD, evDL, evDM, evD, bldLD, wpSp, DMem.mt, beq_self_eq_true, seval] <;> try rfl)
  · have e : effR x args = (0, 0, 200) := by simp only [effR, if_neg h]
    have hc : ((!mayB x || decide (args < 0)) || decide (4 < args)) = true := by rw [eff_cond, decide_eq_false h] <;> rfl
    rw [e]
    simp only [S_swageref1_Effect, R_swageref1_Effect, MU_swageref1_Effect, MU_swageref1_Effect, InsMay_pf, hc, SW, SV, wpD, evDL, evDM, evD, bldLD, wpSp, DMem.mt, beq_self_eq_true, seval]
end Go.Proofs.YticlgdhhnjpkjaaGreatDoor.Pf
namespace Go.Proofs.YticlgdhhnjpkjaaGreatDoor.Pf
open Go Go.RowKit Go.Proofs Go.Proofs.YticlgdhhnjpkjaaGreatDoor.Mw Go.Proofs.YticlgdhhnjpkjaaGreatDoor.Sx
set_option linter.unusedVariables false
set_option linter.unusedSimpArgs false
set_option maxRecDepth 4000
theorem ofV_nilI : ofV .nilIface = .raw .nilIface := rfl
theorem of0_nilI : of0 .nilIface = .raw .nilIface := rfl
theorem cellsIfc (t : TypeId) (d : DV) : cellsD (.ifc t d) = some [.ifc t d] := rfl
theorem fz_ifc (M : DMem) (k : Nat) (t : TypeId) (d : DV) : fz M k (.ifc t d) = .ifc t (fz M k d) := by cases k <;> rfl
theorem fz_raw (M : DMem) (k : Nat) (v : Value) : fz M k (.raw v) = .raw v := (Froz.raw v).fz M k
def faultD (pc e : Int) : DV := .ifc 185 (.ip [.int .i64 pc, .ifc 30 (.int .i64 e)])
def heightsD (r : Except Int (List Int)) : DV := match r with
  | .ok out => .tup [slI out, .raw .nilIface]
  | .error pc => .tup [.isl 0 [], faultD pc 502]
def neg1 (L : List Int) : Nat := L.count (-1)
theorem neg1_set {L : List Int} {i : Nat} {h : Int} (hi : i < L.length) (hf : L[i] = -1) (hh : h ≠ -1) : neg1 (L.set i h) + 1 = neg1 L := by
  unfold neg1
  rw [List.count_set hi, hf]
  have : 0 < L.count (-1) := List.count_pos_iff.2 (by rw [← hf]; exact List.getElem_mem hi)
  simp [hh]; omega
structure HgI (p : List Fnc) (f : Fnc) (b : Nat) (L : List Int) (q : List Int) (M : DMem) (d : DV) : Prop where
  len : L.length = f.code.length
  out : M b = some ⟨3, f.code.length, L.map (.int .i64)⟩
  que : QueD M d q
  ne : blkD d ≠ some b
  inq : ∀ x ∈ q, ∃ i : Nat, x = i ∧ i < f.code.length ∧ Rch (nxF f) i
  low : ∀ x ∈ L, -1 ≤ x ∧ x ≤ 8
  small : neg1 L + q.length ≤ 64
theorem fnB_args {f : Fnc} (h : fnB f = true) : 0 ≤ f.args ∧ f.args ≤ 4 := by
  unfold fnB at h
  simp only [Bool.and_eq_true, decide_eq_true_eq] at h
  exact ⟨h.1.1.1.1, h.1.1.1.2⟩
theorem may_call {x : Ins} (h : mayB x = true) (hk : x.kind = 14) : 0 ≤ x.a := by
  unfold mayB belowF at h
  simp only [hk] at h
  simp at h; omega
theorem argsF_in {p : List Fnc} (hp : ∀ g ∈ p, fnB g = true) (x : Ins) : 0 ≤ argsF p x ∧ argsF p x ≤ 4 := by
  unfold argsF
  split
  · split
    · rename_i g hg; exact fnB_args (hp g (List.mem_of_getElem? hg))
    · omega
  · omega
theorem takesF_in (x : Ins) {a : Int} (h : 0 ≤ a ∧ a ≤ 4) : 0 ≤ takesF x a ∧ takesF x a ≤ 4 := by
  unfold takesF; split
  · omega
  · split
    · omega
    · split <;> omega
theorem putsF_in (x : Ins) : 0 ≤ putsF x ∧ putsF x ≤ 2 := by
  unfold putsF; split
  · omega
  · split <;> omega
theorem outB_call {p : List Fnc} {f : Fnc} {x : Ins} (h : outB p f x = false) (hk : x.kind = 14) : x.a < p.length := by
  unfold outB at h
  rw [if_neg (by omega), if_neg (by omega), if_pos hk] at h
  simpa using h
theorem startH_neg {n : Nat} (h : 1 ≤ n) : neg1 (startH n) = n - 1 := by
  unfold neg1 startH
  rw [List.count_set (by simp; omega)]
  simp
theorem hRun_pop (p : List Fnc) (f : Fnc) (k n : Nat) (L q : List Int) (hn : n < f.code.length) (hL : n < L.length) :
    hRun p f (k + 1) L ((n : Int) :: q) = if L[n] < takesF f.code[n] (argsF p f.code[n]) ∨ 8 < L[n] - takesF f.code[n] (argsF p f.code[n]) + putsF f.code[n] then .error (n : Int)
      else match hOne (L[n] - takesF f.code[n] (argsF p f.code[n]) + putsF f.code[n]) (nextF f n) L q with
        | some (o, q') => hRun p f k o q'
        | none => .error (n : Int) := by
  conv => lhs; unfold hRun
  simp only [Int.toNat_natCast, List.getD_eq_getElem?_getD, List.getElem?_eq_getElem hn, List.getElem?_eq_getElem hL, Option.getD_some] <;> rfl
theorem hOne_cons (h to : Int) (r out q : List Int) : hOne h (to :: r) out q = if out[to.toNat]? = some (-1) then hOne h r (out.set to.toNat h) (q ++ [to]) else if out[to.toNat]? = some h then hOne h r out q else none := rfl
theorem heights_pu (p : List Fnc) (f : Fnc) (hp : ∀ g ∈ p, fnB g = true) (hf : fmayB f.code = true) (hr : ∀ i (h : i < f.code.length), Rch (nxF f) i → outB p f f.code[i] = false) :
    Pu Tryz.prog F_verify_heights [.ip [slD Fnc.c p], .ip f.c] (heightsD (heightsE p f)) := by
  obtain ⟨hl1, hl2⟩ := fmay_le hf
  refine Pu.of (pc_verify_heights (by simp) ?_)
  simp only [S_verify_heights, R_verify_heights, MU_verify_heights, isl_one, ofV_nilI, SW, SV, wpD, evDL, evDM, evD, bldLD, wpSp, DMem.mt, beq_self_eq_true, seval]
  refine Repeat_pc (-1) f.code.length (by omega) fun b M1 _ hM1 => ?_
  rw [← List.map_replicate] at hM1
  simp only [S5_verify_heights, MU_verify_heights, ixM0 (show 0 < f.code.length by omega), SW, SV, wpD, evDL, evDM, evD, bldLD, wpSp, DMem.mt, beq_self_eq_true, seval]
  refine stI (hM1 ▸ DMem.ins_same _ _ _) (by simp; omega) (by simp) fun M2 hM2 => ?_
  try simp only [SW, SV, wpD, evDL, evDM, evD, bldLD, wpSp, DMem.mt, beq_self_eq_true, seval]
  refine fun c M3 hc hM3 => ?_
  have hbc : b ≠ c := by rintro rfl; rw [hM2, DMem.ins_same] at hc; cases hc
  refine ⟨fun k δ M => ∃ L q, HgI p f b L q M (δ 7) ∧ neg1 L + q.length ≤ k ∧ hRun p f k L q = heightsE p f ∧ δ 0 = .ip [slD Fnc.c p] ∧ δ 1 = .ip f.c ∧ δ 6 = .msl b 0 f.code.length f.code.length,
    f.code.length, ⟨startH f.code.length, [0], ⟨by simp [startH], by rw [hM3, DMem.ins_ne _ _ hbc, hM2, DMem.ins_same] <;> rfl, ?_, ?_, ?_, ?_, ?_⟩, ?_, rfl, rfl, rfl, rfl⟩, ?_⟩
  · exact .inr ⟨c, 0, 1, 1, 3, [], rfl, by rw [hM3, DMem.ins_same] <;> rfl, rfl, by omega, by simp, by omega⟩
  · simp [blkD, DEnv.upd]; exact hbc.symm
  · intro x hx; simp at hx; exact ⟨0, by simp [hx], by omega, .zero⟩
  · intro x hx
    unfold startH at hx
    rcases List.mem_or_eq_of_mem_set hx with hx | hx
    · rw [(List.mem_replicate.1 hx).2]; decide
    · subst hx; decide
  · rw [startH_neg hl1]; simp; omega
  · rw [startH_neg hl1]; simp; omega
  rintro k δ M ⟨L, q, hI, hk, hrun, h0, h1, h6⟩
  simp only [S4_verify_heights, MU_verify_heights, h0, h1, h6, hI.que.len, SW, SV, wpD, evDL, evDM, evD, bldLD, wpSp, DMem.mt, beq_self_eq_true, seval, decide_eq_true_eq, decide_eq_false_iff_not]
  refine ⟨fun hpos => ?_, fun hend => ?_⟩
  · obtain ⟨x, q, rfl⟩ : ∃ x q', q = x :: q' := by cases q with | nil => simp at hpos | cons x q' => exact ⟨x, q', rfl⟩
    obtain ⟨n, rfl, hnl, hrn⟩ := hI.inq x (by simp)
    have hnL : n < L.length := by rw [hI.len]; exact hnl
    have hmay := fmay_ins hf hnl
    have hout := hr n hnl hrn
    have hargs := argsF_in hp f.code[n]
    have htk := takesF_in f.code[n] hargs
    have hpu := putsF_in f.code[n]
    have hcur := hI.low _ (List.getElem_mem hnL)
    have heff : effR f.code[n] (argsF p f.code[n]) = (takesF f.code[n] (argsF p f.code[n]), putsF f.code[n], 0) := by simp only [effR, if_pos (show mayB f.code[n] = true ∧ 0 ≤ argsF p f.code[n] ∧ argsF p f.code[n] ≤ 4 from ⟨hmay, hargs⟩)]
    have ha14 : f.code[n].kind = 14 → f.code[n].a < p.length := outB_call hout
    have hapf := args_pf p f.code[n] fun h14 => ⟨may_call hmay h14, ha14 h14⟩
    have hepf := Effect_pf f.code[n] (argsF p f.code[n])
    rw [heff] at hepf
    obtain ⟨k', rfl⟩ : ∃ k', k = k' + 1 := ⟨k - 1, by simp only [List.length_cons] at hk; omega⟩
    rw [hRun_pop p f k' n L q hnl hnL] at hrun
    have hgL := get_map (.int .i64) L hnL
    generalize takesF f.code[n] (argsF p f.code[n]) = t at htk hepf hrun
    generalize putsF f.code[n] = u at hpu hepf hrun
    generalize hcu : L[n] = cur at hcur hrun hgL
    have w1 : wr64 (cur - t) = cur - t := w64 (by omega)
    have w2 : wr64 (cur - t + u) = cur - t + u := w64 (by omega)
    simp only [h0, h1, h6, hI.que.head, ix_slD Ins.len hnl, fz_prg, fz_ins, hapf, hepf, ixM hnl, hI.out, hgL, w1, w2, SW, SV, wpD, evDL, evDM, evD, bldLD, wpSp, DMem.mt, beq_self_eq_true, seval]
    refine ⟨fun hbad => ?_, fun hgood => ?_⟩
    · have hbad' : cur < t ∨ 8 < cur - t + u := by simpa using hbad
      rw [if_pos hbad'] at hrun
      simp only [← hrun, heightsD, faultD, of0_nilI, cellsIfc, fz_ifc, SW, SV, wpD, evDL, evDM, evD, bldLD, wpSp, DMem.mt, beq_self_eq_true, seval]
    · have hgood' : ¬ (cur < t ∨ 8 < cur - t + u) := by simpa using hgood
      rw [if_neg hgood'] at hrun
      generalize hh : cur - t + u = h at hrun hgood' ⊢
      have hh0 : 0 ≤ h ∧ h ≤ 8 := by omega
      clear w1 w2 hepf hapf hgL htk hpu hcu hcur hh heff
      refine Pu.pc (Next_pu f n) ?_
      rw [nextR_in hf hnl]
      have hnl2 := nextF_len f n
      simp only [S2_verify_heights, MU_verify_heights, h0, h1, h6, SW, SV, wpD, evDL, evDM, evD, bldLD, wpSp, DMem.mt, beq_self_eq_true, seval]
      refine ⟨fun k δ M => ∃ (j : Nat) (L2 q2 : List Int), j ≤ (nextF f n).length ∧ k = (nextF f n).length - j ∧ HgI p f b L2 ((n : Int) :: q2) M (δ 7) ∧ neg1 L2 + q2.length ≤ k' ∧
          hOne h ((nextF f n).drop j) L2 q2 = hOne h (nextF f n) L q ∧
          δ 0 = .ip [slD Fnc.c p] ∧ δ 1 = .ip f.c ∧ δ 6 = .msl b 0 f.code.length f.code.length ∧ δ 8 = .int .i64 n ∧ δ 12 = .int .i64 h ∧ δ 87 = slI (nextF f n) ∧ δ 88 = .int .i64 (nextF f n).length ∧ δ 89 = .int .i64 j,
        (nextF f n).length, ⟨0, L, q, Nat.zero_le _, rfl, hI, by simp only [List.length_cons] at hk; omega, rfl, h0, h1, h6, rfl, rfl, rfl, rfl, rfl⟩, ?_⟩
      clear hk hI h0 h1 h6 hgood hpos
      rintro k δ M ⟨j, L2, q2, hj, rfl, hI, hk, hone, h0, h1, h6, h8, h12, h87, h88, h89⟩
      simp only [S1_verify_heights, S3_verify_heights, MU_verify_heights, h0, h1, h6, h8, h12, h87, h88, h89, SW, SV, wpD, evDL, evDM, evD, bldLD, wpSp, DMem.mt, beq_self_eq_true, seval, decide_eq_true_eq, decide_eq_false_iff_not]
      refine ⟨fun hlt => ?_, fun hge => ?_⟩
      · have hlt' : j < (nextF f n).length := by omega
        have hmem : (nextF f n)[j] ∈ nextF f n := List.getElem_mem hlt'
        obtain ⟨hy0, hy1⟩ := nextF_mem hf hmem
        obtain ⟨y, hy⟩ := Int.eq_ofNat_of_zero_le hy0
        rw [hy] at hy1 hmem
        have hyl : y < f.code.length := by omega
        have hyL : y < L2.length := by rw [hI.len]; exact hyl
        have hyn : y ∈ nxF f n := by simp only [nxF, List.mem_map]; exact ⟨_, hmem, by simp⟩
        have hj62 : j < 4611686018427387905 := by omega
        rw [List.drop_eq_getElem_cons hlt', hy] at hone
        rw [hOne_cons, Int.toNat_natCast, List.getElem?_eq_getElem hyL] at hone
        simp only [ix_slI hlt', hy, ixM hyl, hI.out, get_map (.int .i64) L2 hyL, h0, h1, h6, h8, h12, h87, h88, h89, SW, SV, wpD, evDL, evDM, evD, bldLD, wpSp, DMem.mt, beq_self_eq_true, seval]
        refine ⟨fun hneg => ?_, fun hnn => ?_⟩
        · have hneg' : L2[y] = -1 := by simpa using hneg
          rw [if_pos (by rw [hneg'])] at hone
          refine stI hI.out hyL (by rw [hI.len]; exact Nat.le_refl _) fun M3 hM3 => ?_
          try simp only [h0, h1, h6, h8, h12, h87, h88, h89, isl_one, SW, SV, wpD, evDL, evDM, evD, bldLD, wpSp, DMem.mt, beq_self_eq_true, seval]
          have hq3 : QueD M3 (δ 7) ((n : Int) :: q2) := by rw [hM3]; exact hI.que.ins hI.ne _
          have hsm := hI.small
          simp only [List.length_cons] at hsm
          refine hq3.app (by simp only [List.length_cons, List.length_nil]; omega) (by simp only [List.length_cons, List.length_nil]; omega) fun d' M4 hq4 hg4 => ?_
          obtain ⟨g1, g2⟩ := hg4.blk (show M3 b = some ⟨3, f.code.length, (L2.set y h).map (.int .i64)⟩ by rw [hM3, DMem.ins_same]) hI.ne
          have hns := neg1_set hyL hneg' (show h ≠ -1 by omega)
          simp only [h0, h1, h6, h8, h12, h87, h88, h89, w64s hj62, SW, SV, wpD, evDL, evDM, evD, bldLD, wpSp, DMem.mt, beq_self_eq_true, seval]
          refine ⟨(nextF f n).length - (j + 1), M4, by omega, SubD.refl _, j + 1, L2.set y h, q2 ++ [(y : Int)], by omega, rfl,
            ⟨by simp [hI.len], g1, hq4, g2, fun x hx => ?_, fun x hx => ?_, ?_⟩, ?_, hone, rfl⟩
          · rw [← List.cons_append, List.mem_append] at hx
            rcases hx with hx | hx
            · exact hI.inq x hx
            · simp at hx; exact ⟨y, hx, hyl, .step hrn hyn⟩
          · rcases List.mem_or_eq_of_mem_set hx with hx | hx
            · exact hI.low x hx
            · rw [hx]; omega
          · simp only [List.length_append, List.length_cons, List.length_nil]; omega
          · simp only [List.length_append, List.length_cons, List.length_nil]; omega
        · have hnn' : ¬ L2[y] = -1 := by simpa using hnn
          rw [if_neg (by simpa using hnn')] at hone
          refine ⟨fun hsame => ?_, fun hdiff => ?_⟩
          · have hsame' : L2[y] = h := by simpa using hsame
            rw [if_pos (by rw [hsame'])] at hone
            try simp only [h0, h1, h6, h8, h12, h87, h88, h89, w64s hj62, SW, SV, wpD, evDL, evDM, evD, bldLD, wpSp, DMem.mt, beq_self_eq_true, seval]
            exact ⟨(nextF f n).length - (j + 1), M, by omega, SubD.refl _, j + 1, L2, q2, by omega, rfl, hI, hk, hone, rfl⟩
          · have hdiff' : ¬ L2[y] = h := by simpa using hdiff
            rw [if_neg (by simpa using hdiff')] at hone
            rw [← hone] at hrun
            simp only [← hrun, heightsD, faultD, of0_nilI, cellsIfc, fz_ifc, h0, h1, h6, h8, h12, SW, SV, wpD, evDL, evDM, evD, bldLD, wpSp, DMem.mt, beq_self_eq_true, seval]
      · have : j = (nextF f n).length := by omega
        subst this
        rw [List.drop_of_length_le (Nat.le_refl _)] at hone
        simp only [hOne] at hone
        rw [← hone] at hrun
        obtain ⟨d', ht, hq', hne⟩ := hI.que.tail .i64
        try simp only [ht, h0, h1, h6, h8, h12, h87, h88, h89, SW, SV, wpD, evDL, evDM, evD, bldLD, wpSp, DMem.mt, beq_self_eq_true, seval]
        have hsm := hI.small
        simp only [List.length_cons] at hsm
        exact ⟨k', M, by omega, SubD.refl _, L2, q2, ⟨hI.len, hI.out, hq', hne b hI.ne, fun x hx => hI.inq x (List.mem_cons_of_mem _ hx), hI.low, by omega⟩, hk, hrun⟩
  · have hq0 : q = [] := List.eq_nil_of_length_eq_zero (by omega)
    subst hq0
    have hok : heightsE p f = .ok L := by rw [← hrun]; cases k <;> rfl
    simp only [ofV_nilI, fz_raw, h0, h1, h6, fz_msl hI.out, List.map_map, hok, heightsD, SW, SV, wpD, evDL, evDM, evD, bldLD, wpSp, DMem.mt, beq_self_eq_true, seval]
    simp only [slI, hI.len] <;> rfl
end Go.Proofs.YticlgdhhnjpkjaaGreatDoor.Pf
namespace Go.Proofs.YticlgdhhnjpkjaaGreatDoor.Pf
open Go Go.RowKit Go.Proofs Go.Proofs.YticlgdhhnjpkjaaGreatDoor.Mw Go.Proofs.YticlgdhhnjpkjaaGreatDoor.Sx
set_option linter.unusedVariables false
set_option linter.unusedSimpArgs false
set_option maxRecDepth 4000
def walkD (r : Except Int (List Int)) : DV := match r with
  | .ok out => .tup [slI out, .int .i64 0, .int .i64 0]
  | .error pc => .tup [.isl 0 [], .int .i64 pc, .int .i64 502]
def fillH (n i : Nat) : List Int := List.replicate i (-1) ++ List.replicate (n - i) 0
theorem fillH_set {n i : Nat} (h : i < n) : (fillH n i).set i (-1) = fillH n (i + 1) := by
  unfold fillH
  rw [List.set_append_right _ _ (by simp), List.length_replicate, Nat.sub_self, show n - i = (n - (i + 1)) + 1 by omega, List.replicate_succ, List.set_cons_zero, List.replicate_succ', List.append_assoc] <;> rfl
theorem fillH_len {n i : Nat} (h : i ≤ n) : (fillH n i).length = n := by simp [fillH]; omega
theorem walk_tail {p : List Fnc} {f : Fnc} (hf : fmayB f.code = true) {b n k' : Nat} {L q : List Int} {h : Int} {M : DMem} {δ : DEnv} (hnl : n < f.code.length) (hrn : Rch (nxF f) n) (hh0 : 0 ≤ h ∧ h ≤ 8)
    (hI : HgI p f b L q M (δ 9)) (hk : neg1 L + q.length ≤ k') (h2 : δ 2 = .ip [slD Fnc.c p]) (h3 : δ 3 = .ip f.c) (h7 : δ 7 = .msl b 0 f.code.length f.code.length) (h10 : δ 10 = .int .i64 n) (h15 : δ 15 = .int .i64 h)
    {KK RR : DEnv → DMem → Prop} {XX : Nat → DEnv → DMem → Prop}
    (hK : ∀ δ' M' L2 q2, HgI p f b L2 q2 M' (δ' 9) → neg1 L2 + q2.length ≤ k' → hOne h (nextF f n) L q = some (L2, q2) → δ' 2 = .ip [slD Fnc.c p] → δ' 3 = .ip f.c → δ' 7 = .msl b 0 f.code.length f.code.length → KK δ' M')
    (hR : ∀ δ' M', hOne h (nextF f n) L q = none → δ' 4 = .zsl → δ' 5 = .int .i64 n → δ' 6 = .int .i64 502 → RR δ' M') :
    PC Tryz.prog F_swageref1_Next [.agg f.c, .int .i64 n] (fun v M' => wpD Tryz.prog MU_swageref1_walk (fun f => roL.contains f) (fun t => G_swageref1_walk.contains t) 136 S3_swageref1_walk KK XX RR (δ.upd 94 v) M') M := by
  refine Pu.pc (NextR_pu f n) ?_
  rw [nextR_in hf hnl]
  have hnl2 := nextF_len f n
  simp only [S3_swageref1_walk, MU_swageref1_walk, h2, h3, h7, h10, h15, SW, SV, wpD, evDL, evDM, evD, bldLD, wpSp, DMem.mt, beq_self_eq_true, seval]
  refine ⟨fun k δ M => ∃ (j : Nat) (L2 q2 : List Int), j ≤ (nextF f n).length ∧ k = (nextF f n).length - j ∧ HgI p f b L2 q2 M (δ 9) ∧ neg1 L2 + q2.length ≤ k' ∧
      hOne h ((nextF f n).drop j) L2 q2 = hOne h (nextF f n) L q ∧
      δ 2 = .ip [slD Fnc.c p] ∧ δ 3 = .ip f.c ∧ δ 7 = .msl b 0 f.code.length f.code.length ∧ δ 10 = .int .i64 n ∧ δ 15 = .int .i64 h ∧ δ 16 = slI (nextF f n) ∧ δ 18 = .int .i64 j,
    (nextF f n).length, ⟨0, L, q, Nat.zero_le _, rfl, hI, hk, rfl, h2, h3, h7, h10, h15, rfl, rfl⟩, ?_⟩
  clear hk hI h2 h3 h7 h10 h15
  rintro k δ M ⟨j, L2, q2, hj, rfl, hI, hk, hone, h2, h3, h7, h10, h15, h16, h18⟩
  simp only [S2_swageref1_walk, MU_swageref1_walk, h2, h3, h7, h10, h15, h16, h18, SW, SV, wpD, evDL, evDM, evD, bldLD, wpSp, DMem.mt, beq_self_eq_true, seval, decide_eq_true_eq, decide_eq_false_iff_not]
  refine ⟨fun hlt => ?_, fun hge => ?_⟩
  · have hlt' : j < (nextF f n).length := by omega
    have hmem : (nextF f n)[j] ∈ nextF f n := List.getElem_mem hlt'
    obtain ⟨hy0, hy1⟩ := nextF_mem hf hmem
    obtain ⟨y, hy⟩ := Int.eq_ofNat_of_zero_le hy0
    rw [hy] at hy1 hmem
    have hyl : y < f.code.length := by omega
    have hyL : y < L2.length := by rw [hI.len]; exact hyl
    have hyn : y ∈ nxF f n := by simp only [nxF, List.mem_map]; exact ⟨_, hmem, by simp⟩
    have hj62 : j < 4611686018427387905 := by omega
    have hlow := hI.low _ (List.getElem_mem hyL)
    rw [List.drop_eq_getElem_cons hlt', hy] at hone
    rw [hOne_cons, Int.toNat_natCast, List.getElem?_eq_getElem hyL] at hone
    simp only [ix_slI hlt', hy, ixM hyl, hI.out, get_map (.int .i64) L2 hyL, h2, h3, h7, h10, h15, h16, h18, SW, SV, wpD, evDL, evDM, evD, bldLD, wpSp, DMem.mt, beq_self_eq_true, seval]
    refine ⟨fun hneg => ?_, fun hnn => ?_⟩
    · have hneg2 : L2[y] < 0 := of_decide_eq_true hneg
      have hneg' : L2[y] = -1 := by omega
      rw [if_pos (by rw [hneg'])] at hone
      refine stI hI.out hyL (by rw [hI.len]; exact Nat.le_refl _) fun M3 hM3 => ?_
      try simp only [ix_slI hlt', hy, h2, h3, h7, h10, h15, h16, h18, isl_one, SW, SV, wpD, evDL, evDM, evD, bldLD, wpSp, DMem.mt, beq_self_eq_true, seval]
      have hq3 : QueD M3 (δ 9) q2 := by rw [hM3]; exact hI.que.ins hI.ne _
      have hsm := hI.small
      refine hq3.app (by simp only [List.length_cons, List.length_nil]; omega) (by simp only [List.length_cons, List.length_nil]; omega) fun d' M4 hq4 hg4 => ?_
      obtain ⟨g1, g2⟩ := hg4.blk (show M3 b = some ⟨3, f.code.length, (L2.set y h).map (.int .i64)⟩ by rw [hM3, DMem.ins_same]) hI.ne
      have hns := neg1_set hyL hneg' (show h ≠ -1 by omega)
      have hyL' : y < (L2.set y h).length := by simpa using hyL
      have hself : (L2.set y h)[y] = h := by simp
      simp only [ix_slI hlt', hy, ixM hyl, g1, get_map (.int .i64) (L2.set y h) hyL', hself, h2, h3, h7, h10, h15, h16, h18, w64s hj62, SW, SV, wpD, evDL, evDM, evD, bldLD, wpSp, DMem.mt, beq_self_eq_true, seval]
      refine ⟨(nextF f n).length - (j + 1), M4, by omega, SubD.refl _, j + 1, L2.set y h, q2 ++ [(y : Int)], by omega, rfl,
        ⟨by simp [hI.len], g1, hq4, g2, fun x hx => ?_, fun x hx => ?_, ?_⟩, ?_, hone, rfl⟩
      · rw [List.mem_append] at hx
        rcases hx with hx | hx
        · exact hI.inq x hx
        · simp at hx; exact ⟨y, hx, hyl, .step hrn hyn⟩
      · rcases List.mem_or_eq_of_mem_set hx with hx | hx
        · exact hI.low x hx
        · rw [hx]; omega
      · simp only [List.length_append, List.length_cons, List.length_nil]; omega
      · simp only [List.length_append, List.length_cons, List.length_nil]; omega
    · have hnn2 : ¬ L2[y] < 0 := of_decide_eq_false hnn
      have hnn' : ¬ L2[y] = -1 := by omega
      rw [if_neg (by simpa using hnn')] at hone
      by_cases hsame : L2[y] = h
      · rw [if_pos (by rw [hsame])] at hone
        simp only [ix_slI hlt', hy, ixM hyl, hI.out, get_map (.int .i64) L2 hyL, hsame, h2, h3, h7, h10, h15, h16, h18, w64s hj62, SW, SV, wpD, evDL, evDM, evD, bldLD, wpSp, DMem.mt, beq_self_eq_true, seval]
        exact ⟨(nextF f n).length - (j + 1), M, by omega, SubD.refl _, j + 1, L2, q2, by omega, rfl, hI, hk, hone, rfl⟩
      · rw [if_neg (by simpa using hsame)] at hone
        simp only [ix_slI hlt', hy, ixM hyl, hI.out, get_map (.int .i64) L2 hyL, hsame, h2, h3, h7, h10, h15, h16, h18, w64s hj62, SW, SV, wpD, evDL, evDM, evD, bldLD, wpSp, DMem.mt, beq_self_eq_true, seval]
        exact hR _ _ hone.symm rfl rfl rfl
  · have : j = (nextF f n).length := by omega
    subst this
    rw [List.drop_of_length_le (Nat.le_refl _)] at hone
    simp only [hOne] at hone
    try simp only [h2, h3, h7, h10, h15, h16, h18, SW, SV, wpD, evDL, evDM, evD, bldLD, wpSp, DMem.mt, beq_self_eq_true, seval]
    exact hK _ _ L2 q2 (by simpa [DEnv.upd] using hI) hk hone.symm (by simp [DEnv.upd, h2]) (by simp [DEnv.upd, h3]) (by simp [DEnv.upd, h7])
theorem walk_pu (p : List Fnc) (f : Fnc) (hp : ∀ g ∈ p, fnB g = true) (hf : fmayB f.code = true) (hr : ∀ i (h : i < f.code.length), Rch (nxF f) i → outB p f f.code[i] = false) :
    Pu Tryz.prog F_swageref1_walk [.agg [slD Fnc.c p], .agg f.c] (walkD (heightsE p f)) := by
  obtain ⟨hl1, hl2⟩ := fmay_le hf
  refine Pu.of (pc_swageref1_walk (by simp) ?_)
  simp only [S_swageref1_walk, R_swageref1_walk, MU_swageref1_walk, SW, SV, wpD, evDL, evDM, evD, bldLD, wpSp, DMem.mt, beq_self_eq_true, seval]
  refine mkI (by omega) fun b M1 _ hM1 => ?_
  try simp only [SW, SV, wpD, evDL, evDM, evD, bldLD, wpSp, DMem.mt, beq_self_eq_true, seval]
  refine ⟨fun k δ M => ∃ i, i ≤ f.code.length ∧ k = f.code.length - i ∧ M = DMem.mt.ins b ⟨3, f.code.length, (fillH f.code.length i).map (.int .i64)⟩ ∧ δ 2 = .ip [slD Fnc.c p] ∧ δ 3 = .ip f.c ∧ δ 7 = .msl b 0 f.code.length f.code.length ∧ δ 8 = .int .i64 i,
    f.code.length, ⟨0, Nat.zero_le _, rfl, by rw [hM1] <;> rfl, rfl, rfl, rfl, rfl⟩, ?_⟩
  rintro k δ M ⟨i, hi, rfl, hM, h2, h3, h7, h8⟩
  have hMb : M b = some ⟨3, f.code.length, (fillH f.code.length i).map (.int .i64)⟩ := by rw [hM, DMem.ins_same]
  have hfl := fillH_len hi
  simp only [S1_swageref1_walk, MU_swageref1_walk, h2, h3, h7, h8, SW, SV, wpD, evDL, evDM, evD, bldLD, wpSp, DMem.mt, beq_self_eq_true, seval, decide_eq_true_eq, decide_eq_false_iff_not]
  refine ⟨fun hlt => ?_, fun hge => ?_⟩
  · have hlt' : i < f.code.length := by omega
    have hi62 : i < 4611686018427387905 := by omega
    simp only [ixM hlt', h2, h3, h7, h8, SW, SV, wpD, evDL, evDM, evD, bldLD, wpSp, DMem.mt, beq_self_eq_true, seval]
    refine stI hMb (by omega) (by omega) fun M2 hM2 => ?_
    try simp only [h2, h3, h7, h8, w64s hi62, SW, SV, wpD, evDL, evDM, evD, bldLD, wpSp, DMem.mt, beq_self_eq_true, seval]
    refine ⟨f.code.length - (i + 1), M2, by omega, SubD.refl _, i + 1, by omega, rfl, ?_, rfl⟩
    rw [hM2, hM, fillH_set hlt']
    funext x; simp only [DMem.ins]; split <;> rfl
  have hin : i = f.code.length := by omega
  subst hin
  have hfill : fillH f.code.length f.code.length = List.replicate f.code.length (-1) := by simp [fillH]
  rw [hfill] at hMb
  clear hM hfl hi hge h8 hM1
  simp only [S6_swageref1_walk, MU_swageref1_walk, ixM0 (show 0 < f.code.length by omega), h2, h3, h7, SW, SV, wpD, evDL, evDM, evD, bldLD, wpSp, DMem.mt, beq_self_eq_true, seval]
  refine stI hMb (by simp; omega) (by simp) fun M2 hM2 => ?_
  try simp only [SW, SV, wpD, evDL, evDM, evD, bldLD, wpSp, DMem.mt, beq_self_eq_true, seval]
  refine fun c M3 hc hM3 => ?_
  have hbc : b ≠ c := by rintro rfl; rw [hM2, DMem.ins_same] at hc; cases hc
  refine ⟨fun k δ M => ∃ L q, HgI p f b L q M (δ 9) ∧ neg1 L + q.length ≤ k ∧ hRun p f k L q = heightsE p f ∧ δ 2 = .ip [slD Fnc.c p] ∧ δ 3 = .ip f.c ∧ δ 7 = .msl b 0 f.code.length f.code.length,
    f.code.length, ⟨startH f.code.length, [0], ⟨by simp [startH], by rw [hM3, DMem.ins_ne _ _ hbc, hM2, DMem.ins_same] <;> rfl, ?_, ?_, ?_, ?_, ?_⟩, ?_, rfl, h2, h3, h7⟩, ?_⟩
  · exact .inr ⟨c, 0, 1, 1, 3, [], rfl, by rw [hM3, DMem.ins_same] <;> rfl, rfl, by omega, by simp, by omega⟩
  · simp [blkD, DEnv.upd]; exact hbc.symm
  · intro x hx; simp at hx; exact ⟨0, by simp [hx], by omega, .zero⟩
  · intro x hx
    unfold startH at hx
    rcases List.mem_or_eq_of_mem_set hx with hx | hx
    · rw [(List.mem_replicate.1 hx).2]; decide
    · subst hx; decide
  · rw [startH_neg hl1]; simp; omega
  · rw [startH_neg hl1]; simp; omega
  clear h2 h3 h7 hMb hM2 hc hM3 hbc
  rintro k δ M ⟨L, q, hI, hk, hrun, h2, h3, h7⟩
  simp only [S4_swageref1_walk, MU_swageref1_walk, h2, h3, h7, hI.que.len, SW, SV, wpD, evDL, evDM, evD, bldLD, wpSp, DMem.mt, beq_self_eq_true, seval, decide_eq_true_eq, decide_eq_false_iff_not]
  refine ⟨fun hpos => ?_, fun hend => ?_⟩
  · obtain ⟨x, q, rfl⟩ : ∃ x q', q = x :: q' := by cases q with | nil => simp at hpos | cons x q' => exact ⟨x, q', rfl⟩
    obtain ⟨n, rfl, hnl, hrn⟩ := hI.inq x (by simp)
    have hnL : n < L.length := by rw [hI.len]; exact hnl
    have hmay := fmay_ins hf hnl
    have hout := hr n hnl hrn
    have hargs := argsF_in hp f.code[n]
    have htk := takesF_in f.code[n] hargs
    have hpu := putsF_in f.code[n]
    have hcur := hI.low _ (List.getElem_mem hnL)
    have heff : effR f.code[n] (argsF p f.code[n]) = (takesF f.code[n] (argsF p f.code[n]), putsF f.code[n], 0) := by simp only [effR, if_pos (show mayB f.code[n] = true ∧ 0 ≤ argsF p f.code[n] ∧ argsF p f.code[n] ≤ 4 from ⟨hmay, hargs⟩)]
    have hepf := EffectR_pf f.code[n] (argsF p f.code[n])
    rw [heff] at hepf
    obtain ⟨d', ht, hq', hne⟩ := hI.que.tail .i64
    obtain ⟨k', rfl⟩ : ∃ k', k = k' + 1 := ⟨k - 1, by simp only [List.length_cons] at hk; omega⟩
    rw [hRun_pop p f k' n L q hnl hnL] at hrun
    have hgL := get_map (.int .i64) L hnL
    have hI2 : HgI p f b L q M d' := ⟨hI.len, hI.out, hq', hne b hI.ne, fun x hx => hI.inq x (List.mem_cons_of_mem _ hx), hI.low, by have := hI.small; simp only [List.length_cons] at this; omega⟩
    have hk2 : neg1 L + q.length ≤ k' := by simp only [List.length_cons] at hk; omega
    by_cases h14 : f.code[n].kind = 14
    · obtain ⟨a, ha⟩ := Int.eq_ofNat_of_zero_le (may_call hmay h14)
      have hal : a < p.length := by have := outB_call hout h14; omega
      have hA : argsF p f.code[n] = p[a].args := by simp only [argsF, if_pos h14, ha, Int.toNat_natCast, List.getElem?_eq_getElem hal]
      rw [hA] at hepf hrun htk
      generalize takesF f.code[n] p[a].args = t at htk hepf hrun
      generalize putsF f.code[n] = u at hpu hepf hrun
      generalize hcu : L[n] = cur at hcur hrun hgL
      have w1 : wr64 (cur - t) = cur - t := w64 (by omega)
      have w2 : wr64 (cur - t + u) = cur - t + u := w64 (by omega)
      simp only [Ins.c, ha] at hepf
      simp only [h2, h3, h7, hI.que.head, ht, ix_slD Ins.len hnl, decide_eq_true h14, ha, ix_slD Fnc.len hal, fz_prg, fz_ins, hepf, ixM hnl, hI.out, hgL, w1, w2, SW, SV, wpD, evDL, evDM, evD, bldLD, wpSp, DMem.mt, beq_self_eq_true, seval]
      refine ⟨fun hbad => ?_, fun hgood => ?_⟩
      · have hbad' : cur < t ∨ 8 < cur - t + u := by simpa using hbad
        rw [if_pos hbad'] at hrun
        rw [← hrun] <;> rfl
      · have hgood' : ¬ (cur < t ∨ 8 < cur - t + u) := by simpa using hgood
        rw [if_neg hgood'] at hrun
        refine walk_tail hf hnl hrn (show 0 ≤ cur - t + u ∧ cur - t + u ≤ 8 by omega) hI2 hk2 (by simp [DEnv.upd, h2]) (by simp [DEnv.upd, h3]) (by simp [DEnv.upd, h7]) rfl rfl (fun δ' M' L2 q2 g1 g2 g3 g4 g5 g6 => ?_) fun δ' M' g1 g2 g3 g4 => ?_
        · rw [g3] at hrun
          exact ⟨k', M', by omega, SubD.refl _, L2, q2, g1, g2, hrun, g4, g5, g6⟩
        · rw [g1] at hrun
          simp only [g2, g3, g4, ← hrun, walkD, SW, SV, wpD, evDL, evDM, evD, bldLD, wpSp, DMem.mt, beq_self_eq_true, seval]
    · have hA : argsF p f.code[n] = 0 := by simp only [argsF, if_neg h14]
      rw [hA] at hepf hrun htk
      generalize takesF f.code[n] 0 = t at htk hepf hrun
      generalize putsF f.code[n] = u at hpu hepf hrun
      generalize hcu : L[n] = cur at hcur hrun hgL
      have w1 : wr64 (cur - t) = cur - t := w64 (by omega)
      have w2 : wr64 (cur - t + u) = cur - t + u := w64 (by omega)
      simp only [h2, h3, h7, hI.que.head, ht, ix_slD Ins.len hnl, decide_eq_false h14, fz_prg, fz_ins, hepf, ixM hnl, hI.out, hgL, w1, w2, SW, SV, wpD, evDL, evDM, evD, bldLD, wpSp, DMem.mt, beq_self_eq_true, seval]
      refine ⟨fun hbad => ?_, fun hgood => ?_⟩
      · have hbad' : cur < t ∨ 8 < cur - t + u := by simpa using hbad
        rw [if_pos hbad'] at hrun
        rw [← hrun] <;> rfl
      · have hgood' : ¬ (cur < t ∨ 8 < cur - t + u) := by simpa using hgood
        rw [if_neg hgood'] at hrun
        refine walk_tail hf hnl hrn (show 0 ≤ cur - t + u ∧ cur - t + u ≤ 8 by omega) hI2 hk2 (by simp [DEnv.upd, h2]) (by simp [DEnv.upd, h3]) (by simp [DEnv.upd, h7]) rfl rfl (fun δ' M' L2 q2 g1 g2 g3 g4 g5 g6 => ?_) fun δ' M' g1 g2 g3 g4 => ?_
        · rw [g3] at hrun
          exact ⟨k', M', by omega, SubD.refl _, L2, q2, g1, g2, hrun, g4, g5, g6⟩
        · rw [g1] at hrun
          simp only [g2, g3, g4, ← hrun, walkD, SW, SV, wpD, evDL, evDM, evD, bldLD, wpSp, DMem.mt, beq_self_eq_true, seval]
  · have hq0 : q = [] := List.eq_nil_of_length_eq_zero (by omega)
    subst hq0
    have hok : heightsE p f = .ok L := by rw [← hrun]; cases k <;> rfl
    simp only [S5_swageref1_walk, MU_swageref1_walk, h2, h3, h7, fz_msl hI.out, List.map_map, hok, walkD, SW, SV, wpD, evDL, evDM, evD, bldLD, wpSp, DMem.mt, beq_self_eq_true, seval]
    simp only [slI, hI.len] <;> rfl
end Go.Proofs.YticlgdhhnjpkjaaGreatDoor.Pf
namespace Go.Proofs.YticlgdhhnjpkjaaGreatDoor.Pf
open Go Go.RowKit Go.Proofs Go.Proofs.YticlgdhhnjpkjaaGreatDoor.Mw Go.Proofs.YticlgdhhnjpkjaaGreatDoor.Sx
set_option linter.unusedVariables false
set_option linter.unusedSimpArgs false
set_option maxRecDepth 4000
def badP (p : List Fnc) (f : Fnc) (r : List Bool) (i : Nat) : Bool := r.getD i false && outB p f (f.code.getD i ⟨0, 0⟩)
theorem plain_hit {p : List Fnc} {f : Fnc} {r : List Bool} {i : Nat} (hi : i < f.code.length) (h : badP p f r i = true) (hj : ∀ j, j < i → badP p f r j = false) : plainE p f r = some ((i : Int), 501) := by
  have : (List.range f.code.length).find? (fun i => r.getD i false && outB p f (f.code.getD i ⟨0, 0⟩)) = some i := by
    rw [List.find?_range_eq_some]
    exact ⟨h, List.mem_range.2 hi, fun j hji => by have := hj j hji; unfold badP at this; simp only [this] <;> rfl⟩
  unfold plainE
  rw [this]
theorem plain_miss {p : List Fnc} {f : Fnc} {r : List Bool} (hj : ∀ j, j < f.code.length → badP p f r j = false) :
    plainE p f r = if (r.getD (f.code.length - 1) false && !(decide ((f.code.getD (f.code.length - 1) ⟨0, 0⟩).kind = 12)) && !(decide ((f.code.getD (f.code.length - 1) ⟨0, 0⟩).kind = 16))) = true then some (((f.code.length - 1 : Nat) : Int), 503) else none := by
  have : (List.range f.code.length).find? (fun i => r.getD i false && outB p f (f.code.getD i ⟨0, 0⟩)) = none := by
    rw [List.find?_range_eq_none]
    exact fun j hji => by have := hj j hji; unfold badP at this; simp only [this] <;> rfl
  unfold plainE
  rw [this]
theorem plain_none {p : List Fnc} {f : Fnc} (hf : fmayB f.code = true) (h : ∀ j, j < f.code.length → badP p f (reachF f) j = false) : ∀ i (hi : i < f.code.length), Rch (nxF f) i → outB p f f.code[i] = false := fun i hi hr => by
  have h1 := h i hi
  have h2 := reach_all hf i hr
  unfold badP at h1
  rw [List.getD_eq_getElem?_getD, h2, List.getD_eq_getElem?_getD, List.getElem?_eq_getElem hi] at h1
  simpa using h1
theorem pack_fn {p : List Fnc} (h : packB p = true) : ∀ g ∈ p, fnB g = true := by
  unfold packB at h
  simp only [Bool.and_eq_true, List.all_eq_true] at h
  exact h.2
theorem fn_may {f : Fnc} (h : fnB f = true) : fmayB f.code = true := by
  unfold fnB at h
  simp only [Bool.and_eq_true] at h
  exact h.2
theorem HeightsR_pu (p : List Fnc) (fn : Int) : Pu Tryz.prog F_swageref1_Heights [.agg [slD Fnc.c p], .int .i64 fn] (.tup [slI (heightsR p fn).1, .int .i64 (heightsR p fn).2.1, .int .i64 (heightsR p fn).2.2]) := by
  refine Pu.of (pc_swageref1_Heights (by simp) ?_)
  simp only [S_swageref1_Heights, R_swageref1_Heights, MU_swageref1_Heights, fz_prg, Packs_pf, ldnI1, SW, SV, wpD, evDL, evDM, evD, bldLD, wpSp, DMem.mt, beq_self_eq_true, seval]
  refine ⟨fun h => ?_, fun h => ?_⟩
  · have hc : ¬ (packB p = true ∧ 0 ≤ fn ∧ fn < p.length) := by
      simp only [Bool.or_eq_true, Bool.not_eq_true', decide_eq_true_eq] at h
      rcases h with (h | h) | h
      · simp [h]
      · omega
      · omega
    have e : heightsR p fn = ([], 0, 500) := by unfold heightsR; rw [if_neg hc]
    rw [e] <;> rfl
  · simp only [Bool.or_eq_false_iff, Bool.not_eq_false', decide_eq_false_iff_not] at h
    obtain ⟨⟨hpk, h0⟩, h1⟩ := h
    obtain ⟨n, rfl⟩ := Int.eq_ofNat_of_zero_le (show 0 ≤ fn by omega)
    have hn : n < p.length := by omega
    have hfn := pack_fn hpk _ (List.getElem_mem hn)
    have hmay := fn_may hfn
    obtain ⟨hl1, hl2⟩ := fmay_le hmay
    have e : heightsR p n = match plainE p p[n] (reachF p[n]) with
      | some (pc, e) => ([], pc, e)
      | none => match heightsE p p[n] with
        | .ok out => (out, 0, 0)
        | .error pc => ([], pc, 502) := by
      unfold heightsR
      rw [if_pos ⟨hpk, by omega, by omega⟩, Int.toNat_natCast, List.getElem?_eq_getElem hn] <;> rfl
    rw [e]
    simp only [ix_slD Fnc.len hn, ldnI1, SW, SV, wpD, evDL, evDM, evD, bldLD, wpSp, DMem.mt, beq_self_eq_true, seval]
    generalize hg : p[n] = f at hfn hmay hl1 hl2 e ⊢
    refine Pu.pc (ReachedR_pu f) ?_
    have er : reachR f = (reachF f, 0) := by simp only [reachR, hmay] <;> rfl
    rw [er]
    have hrl := reachF_len f
    simp only [S4_swageref1_Heights, MU_swageref1_Heights, ldnI1, SW, SV, wpD, evDL, evDM, evD, bldLD, wpSp, DMem.mt, beq_self_eq_true, seval]
    refine ⟨fun k δ M => ∃ i, i ≤ f.code.length ∧ k = f.code.length - i ∧ M = DMem.mt ∧ δ 2 = .ip [slD Fnc.c p] ∧ δ 7 = .ip f.c ∧ δ 8 = slB (reachF f) ∧ δ 10 = .int .i64 i ∧ (∀ j, j < i → badP p f (reachF f) j = false),
      f.code.length, ⟨0, Nat.zero_le _, rfl, rfl, rfl, rfl, rfl, rfl, fun j hj => absurd hj (by omega)⟩, ?_⟩
    rintro k δ M ⟨i, hi, rfl, rfl, h2, h7, h8, h10, hj⟩
    simp only [S1_swageref1_Heights, MU_swageref1_Heights, h2, h7, h8, h10, hrl, ldnI1, SW, SV, wpD, evDL, evDM, evD, bldLD, wpSp, DMem.mt, beq_self_eq_true, seval, decide_eq_true_eq, decide_eq_false_iff_not]
    refine ⟨fun hlt => ?_, fun hge => ?_⟩
    · have hlt' : i < f.code.length := by omega
      have hir : i < (reachF f).length := by omega
      have hi62 : i < 4611686018427387905 := by omega
      have hbad : ((reachF f)[i] && !(!outB p f f.code[i])) = badP p f (reachF f) i := by
        unfold badP
        rw [List.getD_eq_getElem?_getD, List.getElem?_eq_getElem hir, List.getD_eq_getElem?_getD, List.getElem?_eq_getElem hlt', Bool.not_not] <;> rfl
      simp only [ix_slB hir, ix_slD Ins.len hlt', fz_prg, fz_ins, ranged_pf, h2, h7, h8, h10, hbad, w64s hi62, ldnI1, SW, SV, wpD, evDL, evDM, evD, bldLD, wpSp, DMem.mt, beq_self_eq_true, seval]
      refine ⟨fun hb => ?_, fun hb => ⟨f.code.length - (i + 1), DMem.mt, by omega, SubD.refl _, i + 1, by omega, rfl, rfl, rfl, fun j hji => ?_⟩⟩
      · rw [plain_hit hlt' hb hj]
        rfl
      · rcases Nat.lt_or_ge j i with h | h
        · exact hj j h
        · have : j = i := by omega
          subst this; exact hb
    · have : i = f.code.length := by omega
      subst this
      have hlast : f.code.length - 1 < f.code.length := by omega
      have hlr : f.code.length - 1 < (reachF f).length := by omega
      have el : wr64 ((f.code.length : Int) - 1) = ((f.code.length - 1 : Nat) : Int) := by rw [w64 (by omega)]; omega
      have hpm := plain_miss hj
      rw [List.getD_eq_getElem?_getD, List.getElem?_eq_getElem hlr, List.getD_eq_getElem?_getD, List.getElem?_eq_getElem hlast] at hpm
      simp only [Option.getD_some] at hpm
      simp only [S3_swageref1_Heights, MU_swageref1_Heights, ix_slB hlr, ix_slD Ins.len hlast, el, hrl, h2, h7, h8, h10, ldnI1, SW, SV, wpD, evDL, evDM, evD, bldLD, wpSp, DMem.mt, beq_self_eq_true, seval]
      refine ⟨fun hb => ?_, fun hb => ?_⟩
      · rw [decide_not, decide_not] at hb
        rw [if_pos hb] at hpm
        rw [hpm] <;> rfl
      · rw [decide_not, decide_not] at hb
        rw [if_neg (by rw [hb]; simp)] at hpm
        rw [hpm]
        refine Pu.pc (walk_pu p f (pack_fn hpk) hmay (plain_none hmay hj)) ?_
        cases hE : heightsE p f with
        | ok out =>
          simp only [walkD, S2_swageref1_Heights, MU_swageref1_Heights, fz_slI, ldnI1, SW, SV, wpD, evDL, evDM, evD, bldLD, wpSp, DMem.mt, beq_self_eq_true, seval]
        | error pc =>
          simp only [walkD, S2_swageref1_Heights, MU_swageref1_Heights, ldnI1, SW, SV, wpD, evDL, evDM, evD, bldLD, wpSp, DMem.mt, beq_self_eq_true, seval] <;> rfl
end Go.Proofs.YticlgdhhnjpkjaaGreatDoor.Pf
namespace Go.Proofs.YticlgdhhnjpkjaaGreatDoor.Pf
open Go Go.RowKit Go.Proofs Go.Proofs.YticlgdhhnjpkjaaGreatDoor.Mw Go.Proofs.YticlgdhhnjpkjaaGreatDoor.Sx
set_option linter.unusedVariables false
set_option linter.unusedSimpArgs false
set_option maxRecDepth 4000
theorem allF_miss (p : List Fnc) : ∀ (l : List Nat) (acc : List (List Int)), (∀ i ∈ l, (heightsR p i).2.2 = 0) → allF p l acc = (acc ++ l.map (fun i : Nat => (heightsR p (i : Int)).1), 0)
  | [], acc, _ => by simp [allF]
  | i :: r, acc, h => by
    unfold allF
    rw [if_pos (h i (by simp)), allF_miss p r _ fun j hj => h j (by simp [hj])]
    simp
theorem allF_hit (p : List Fnc) {i : Nat} (hi : (heightsR p i).2.2 ≠ 0) (b : List Nat) : ∀ (a : List Nat) (acc : List (List Int)), (∀ j ∈ a, (heightsR p j).2.2 = 0) → allF p (a ++ i :: b) acc = ([], (heightsR p i).2.2)
  | [], acc, _ => by
    show allF p (i :: b) acc = _
    unfold allF; rw [if_neg hi]
  | j :: a, acc, h => by
    show allF p (j :: (a ++ i :: b)) acc = _
    unfold allF
    rw [if_pos (h j (by simp))]
    exact allF_hit p hi b a _ fun j hj => h j (by simp [hj])
theorem range_cut {i n : Nat} (h : i < n) : List.range n = List.range i ++ i :: (List.range (n - i - 1)).map (fun x => i + 1 + x) := by
  apply List.ext_getElem
  · simp; omega
  · intro j h1 h2
    simp only [List.getElem_range]
    rcases Nat.lt_trichotomy j i with hj | hj | hj
    · rw [List.getElem_append_left (by simpa using hj)]; simp
    · subst hj; rw [List.getElem_append_right (by simp)]; simp
    · rw [List.getElem_append_right (by simp; omega)]
      simp only [List.length_range]
      obtain ⟨q, hq⟩ : ∃ q, j - i = q + 1 := ⟨j - i - 1, by omega⟩
      simp only [hq, List.getElem_cons_succ, List.getElem_map, List.getElem_range]
      omega
def verifyE (p : List Fnc) : Int := (allR p).2
theorem verify_hit {p : List Fnc} (hp : packB p = true) {i : Nat} (hi : i < p.length) (he : (heightsR p i).2.2 ≠ 0) (hj : ∀ j, j < i → (heightsR p j).2.2 = 0) : allR p = ([], (heightsR p i).2.2) := by
  unfold allR
  rw [if_pos hp, range_cut hi, allF_hit p he _ _ _ fun j hj' => hj j (List.mem_range.1 hj')]
theorem verify_miss {p : List Fnc} (hp : packB p = true) (hj : ∀ j, j < p.length → (heightsR p j).2.2 = 0) : allR p = ((List.range p.length).map (fun i : Nat => (heightsR p (i : Int)).1), 0) := by
  unfold allR
  rw [if_pos hp, allF_miss p _ _ fun j hj' => hj j (List.mem_range.1 hj')]
  simp
theorem VerifyR_pf (p : List Fnc) : pf Tryz.prog F_swageref1_Verify [.agg [slD Fnc.c p]] = some (.int .i64 (verifyE p)) := by
  refine pf_of (v := .int _ _) (pc_swageref1_Verify (by simp) ?_) (FrozL.nil.cons (Froz.agg (FrozL.nil.cons (Froz.slD Fnc.froz p)))) rfl rfl
  simp only [S_swageref1_Verify, R_swageref1_Verify, MU_swageref1_Verify, fz_prg, Packs_pf, ldnI1, SW, SV, wpD, evDL, evDM, evD, bldLD, wpSp, DMem.mt, beq_self_eq_true, seval]
  refine ⟨fun h => ?_, fun h => ?_⟩
  · have hc : packB p = false := by simpa using h
    unfold verifyE allR
    rw [if_neg (by rw [hc]; simp)]
  · have hpk : packB p = true := by simpa using h
    have hlen : p.length ≤ 8 := by
      unfold packB at hpk; simp only [Bool.and_eq_true, decide_eq_true_eq] at hpk; exact hpk.1.2
    refine ⟨fun k δ M => ∃ i, i ≤ p.length ∧ k = p.length - i ∧ M = DMem.mt ∧ δ 1 = .ip [slD Fnc.c p] ∧ δ 3 = .int .i64 i ∧ (∀ j, j < i → (heightsR p (j : Int)).2.2 = 0),
      p.length, ⟨0, Nat.zero_le _, rfl, rfl, rfl, rfl, fun j hj => absurd hj (by omega)⟩, ?_⟩
    rintro k δ M ⟨i, hi, rfl, rfl, h1, h3, hj⟩
    simp only [S2_swageref1_Verify, MU_swageref1_Verify, h1, h3, ldnI1, SW, SV, wpD, evDL, evDM, evD, bldLD, wpSp, DMem.mt, beq_self_eq_true, seval, decide_eq_true_eq, decide_eq_false_iff_not]
    refine ⟨fun hlt => ?_, fun hge => ?_⟩
    · have hlt' : i < p.length := by omega
      have hi62 : i < 4611686018427387905 := by omega
      refine Pu.pc (HeightsR_pu p i) ?_
      simp only [S1_swageref1_Verify, MU_swageref1_Verify, h1, h3, w64s hi62, SW, SV, wpD, evDL, evDM, evD, bldLD, wpSp, DMem.mt, beq_self_eq_true, seval]
      refine ⟨fun hb => ?_, fun hb => ⟨p.length - (i + 1), DMem.mt, by omega, SubD.refl _, i + 1, by omega, rfl, rfl, rfl, fun j hji => ?_⟩⟩
      · have hb' : (heightsR p i).2.2 ≠ 0 := of_decide_eq_true hb
        unfold verifyE
        rw [verify_hit hpk hlt' hb' hj]
      · rcases Nat.lt_or_ge j i with h | h
        · exact hj j h
        · have : j = i := by omega
          subst this; exact Decidable.not_not.1 (of_decide_eq_false hb)
    · unfold verifyE
      rw [verify_miss hpk fun j hj' => hj j (by omega)]
def heightF (p : List Fnc) (fn pc : Int) : Int := if (heightsR p fn).2.2 = 0 ∧ 0 ≤ pc ∧ pc < (heightsR p fn).1.length then (heightsR p fn).1.getD pc.toNat 0 else -1
theorem HeightR_pf (p : List Fnc) (fn pc : Int) : pf Tryz.prog F_swageref1_Height [.agg [slD Fnc.c p], .int .i64 fn, .int .i64 pc] = some (.int .i64 (heightF p fn pc)) := by
  refine pf_of (v := .int _ _) (pc_swageref1_Height (by simp) ?_) (((FrozL.nil.cons (Froz.int _ _)).cons (Froz.int _ _)).cons (Froz.agg (FrozL.nil.cons (Froz.slD Fnc.froz p)))) rfl rfl
  simp only [S_swageref1_Height, R_swageref1_Height, MU_swageref1_Height, ldnI1, SW, SV, wpD, evDL, evDM, evD, bldLD, wpSp, DMem.mt, beq_self_eq_true, seval]
  refine Pu.pc (HeightsR_pu p fn) ?_
  unfold heightF
  generalize heightsR p fn = r
  by_cases h : r.2.2 = 0 ∧ 0 ≤ pc ∧ pc < r.1.length
  · obtain ⟨h1, h2, h3⟩ := h
    obtain ⟨n, rfl⟩ := Int.eq_ofNat_of_zero_le h2
    have hn : n < r.1.length := by omega
    have c1 : ¬ ((n : Int) < 0) := by omega
    have c2 : ¬ ((r.1.length : Int) ≤ n) := by omega
    rw [if_pos ⟨h1, h2, h3⟩, Int.toNat_natCast, List.getD_eq_getElem?_getD, List.getElem?_eq_getElem hn, Option.getD_some]
    simp only [S1_swageref1_Height, MU_swageref1_Height, h1, c1, c2, ix_slI hn, SW, SV, wpD, evDL, evDM, evD, bldLD, wpSp, DMem.mt, beq_self_eq_true, seval]
  · rw [if_neg h]
    have hc : ((decide (¬ r.2.2 = 0) || decide (pc < 0)) || decide ((r.1.length : Int) ≤ pc)) = true := by
      simp only [Bool.or_eq_true, decide_eq_true_eq]
      by_cases a : r.2.2 = 0
      · by_cases b : pc < 0
        · exact .inl (.inr b)
        · exact .inr (by omega)
      · exact .inl (.inl a)
    simp only [S1_swageref1_Height, MU_swageref1_Height, hc, SW, SV, wpD, evDL, evDM, evD, bldLD, wpSp, DMem.mt, beq_self_eq_true, seval]
end Go.Proofs.YticlgdhhnjpkjaaGreatDoor.Pf
namespace Go.Proofs.YticlgdhhnjpkjaaGreatDoor.Mw
open Go Go.RowKit
set_option linter.unusedVariables false
set_option linter.unusedSimpArgs false
structure El (α : Type) where
  sz : Nat
  c : α → List DV
  k : Nat
  rep : DMem → α → List DV → List Nat → Prop
structure El.Ok {α : Type} (E : El α) : Prop where
  pos : 0 < E.sz
  len : ∀ {M x cs S}, E.rep M x cs S → cs.length = E.sz
  clen : ∀ x, (E.c x).length = E.sz
  frame : ∀ {M M' x cs S}, E.rep M x cs S → (∀ b ∈ S, M' b = M b) → E.rep M' x cs S
  fz : ∀ {M x cs S k}, E.rep M x cs S → E.k ≤ k → cs.map (fz M k) = E.c x
  plain : ∀ {M x cs S}, E.rep M x cs S → cs.all plainD = true
  here : ∀ {M x cs S}, E.rep M x cs S → ∀ b ∈ S, M b ≠ none
variable {α : Type} {E : El α}
def RowAt (E : El α) (M : DMem) : List α → List DV → List Nat → Prop
  | [], cs, S => cs = [] ∧ S = []
  | x :: xs, cs, S => ∃ c1 c2 S1 S2, cs = c1 ++ c2 ∧ S = S1 ++ S2 ∧ E.rep M x c1 S1 ∧ RowAt E M xs c2 S2
theorem RowAt.len (hE : E.Ok) {M : DMem} : ∀ {xs : List α} {cs : List DV} {S : List Nat}, RowAt E M xs cs S → cs.length = xs.length * E.sz
  | [], cs, S, h => by rw [h.1]; simp
  | x :: xs, cs, S, ⟨c1, c2, S1, S2, e1, e2, h1, h2⟩ => by
    rw [e1, List.length_append, hE.len h1, RowAt.len hE h2, List.length_cons, Nat.add_mul]; omega
theorem RowAt.frame (hE : E.Ok) {M M' : DMem} : ∀ {xs : List α} {cs : List DV} {S : List Nat}, RowAt E M xs cs S → (∀ b ∈ S, M' b = M b) → RowAt E M' xs cs S
  | [], cs, S, h, _ => h
  | x :: xs, cs, S, ⟨c1, c2, S1, S2, e1, e2, h1, h2⟩, hk => ⟨c1, c2, S1, S2, e1, e2, hE.frame h1 fun b hb => hk b (by rw [e2]; exact List.mem_append_left _ hb), RowAt.frame hE h2 fun b hb => hk b (by rw [e2]; exact List.mem_append_right _ hb)⟩
theorem RowAt.fz (hE : E.Ok) {M : DMem} {k : Nat} (hk : E.k ≤ k) : ∀ {xs : List α} {cs : List DV} {S : List Nat}, RowAt E M xs cs S → cs.map (fz M k) = xs.flatMap E.c
  | [], cs, S, h => by rw [h.1]; rfl
  | x :: xs, cs, S, ⟨c1, c2, S1, S2, e1, e2, h1, h2⟩ => by
    rw [e1, List.map_append, hE.fz h1 hk, RowAt.fz hE hk h2]; rfl
theorem RowAt.plain (hE : E.Ok) {M : DMem} : ∀ {xs : List α} {cs : List DV} {S : List Nat}, RowAt E M xs cs S → cs.all plainD = true
  | [], cs, S, h => by rw [h.1]; rfl
  | x :: xs, cs, S, ⟨c1, c2, S1, S2, e1, e2, h1, h2⟩ => by
    rw [e1, List.all_append, hE.plain h1, RowAt.plain hE h2]; rfl
theorem RowAt.here (hE : E.Ok) {M : DMem} : ∀ {xs : List α} {cs : List DV} {S : List Nat}, RowAt E M xs cs S → ∀ b ∈ S, M b ≠ none
  | [], cs, S, h, b, hb => by rw [h.2] at hb; simp at hb
  | x :: xs, cs, S, ⟨c1, c2, S1, S2, e1, e2, h1, h2⟩, b, hb => by
    rw [e2] at hb
    rcases List.mem_append.1 hb with hb | hb
    · exact hE.here h1 b hb
    · exact RowAt.here hE h2 b hb
theorem RowAt.append {M : DMem} : ∀ {xs ys : List α} {cs ds : List DV} {S T : List Nat}, RowAt E M xs cs S → RowAt E M ys ds T → RowAt E M (xs ++ ys) (cs ++ ds) (S ++ T)
  | [], ys, cs, ds, S, T, h, h' => by rw [h.1, h.2]; simpa using h'
  | x :: xs, ys, cs, ds, S, T, ⟨c1, c2, S1, S2, e1, e2, h1, h2⟩, h' =>
    ⟨c1, c2 ++ ds, S1, S2 ++ T, by rw [e1, List.append_assoc], by rw [e2, List.append_assoc], h1, RowAt.append h2 h'⟩
theorem RowAt.nil {M : DMem} : RowAt E M [] [] [] := ⟨rfl, rfl⟩
theorem RowAt.one {M : DMem} {x : α} {cs : List DV} {S : List Nat} (h : E.rep M x cs S) : RowAt E M [x] cs S := ⟨cs, [], S, [], by simp, by simp, h, rfl, rfl⟩
theorem RowAt.get (hE : E.Ok) {M : DMem} : ∀ {xs : List α} {cs : List DV} {S : List Nat} {i : Nat}, RowAt E M xs cs S → (hi : i < xs.length) →
    ∃ c1 cx c2 S1 Sx S2, cs = c1 ++ cx ++ c2 ∧ S = S1 ++ Sx ++ S2 ∧ c1.length = i * E.sz ∧ E.rep M xs[i] cx Sx ∧ RowAt E M (xs.take i) c1 S1 ∧ RowAt E M (xs.drop (i + 1)) c2 S2
  | [], _, _, _, _, hi => absurd hi (by simp)
  | x :: xs, cs, S, 0, ⟨c1, c2, S1, S2, e1, e2, h1, h2⟩, _ => ⟨[], c1, c2, [], S1, S2, by simpa using e1, by simpa using e2, by simp, h1, RowAt.nil, h2⟩
  | x :: xs, cs, S, i + 1, ⟨c1, c2, S1, S2, e1, e2, h1, h2⟩, hi => by
    obtain ⟨d1, dx, d2, T1, Tx, T2, f1, f2, f3, f4, f5, f6⟩ := RowAt.get hE (i := i) h2 (by simpa using hi)
    exact ⟨c1 ++ d1, dx, d2, S1 ++ T1, Tx, T2, by rw [e1, f1]; simp only [List.append_assoc], by rw [e2, f2]; simp only [List.append_assoc], by rw [List.length_append, f3, hE.len h1, Nat.add_mul]; omega, f4, ⟨c1, d1, S1, T1, rfl, rfl, h1, f5⟩, f6⟩
theorem RowAt.put {M : DMem} {xs : List α} {i : Nat} (hi : i < xs.length) {y : α} {c1 cy c2 : List DV} {S1 Sy S2 : List Nat} (h1 : RowAt E M (xs.take i) c1 S1) (hy : E.rep M y cy Sy) (h2 : RowAt E M (xs.drop (i + 1)) c2 S2) : RowAt E M (xs.set i y) (c1 ++ cy ++ c2) (S1 ++ Sy ++ S2) := by
  have e : xs.set i y = xs.take i ++ [y] ++ xs.drop (i + 1) := by rw [List.set_eq_take_append_cons_drop, if_pos hi]; simp
  rw [e]
  exact (h1.append (RowAt.one hy)).append h2
def SlAt (E : El α) (M : DMem) (d : DV) (xs : List α) (S : List Nat) : Prop :=
  (d = .zsl ∧ xs = [] ∧ S = []) ∨ ∃ b c ty cs S', d = .msl b 0 xs.length c ∧ M b = some ⟨ty, c * E.sz, cs⟩ ∧ RowAt E M xs cs S' ∧ S = b :: S' ∧ xs.length ≤ c ∧ 0 < c
theorem SlAt.nil {M : DMem} : SlAt E M .zsl [] [] := .inl ⟨rfl, rfl, rfl⟩
theorem SlAt.lenD {M : DMem} {d : DV} {xs : List α} {S : List Nat} (h : SlAt E M d xs S) : Mw.lenD d = some (.int .i64 xs.length) := by
  obtain ⟨rfl, rfl, _⟩ | ⟨b, c, ty, cs, S', rfl, _⟩ := h <;> rfl
theorem SlAt.lenN {M : DMem} {d : DV} {xs : List α} {S : List Nat} (h : SlAt E M d xs S) : Mw.lenN d = some xs.length := by
  obtain ⟨rfl, rfl, _⟩ | ⟨b, c, ty, cs, S', rfl, _⟩ := h <;> rfl
theorem SlAt.cell {M : DMem} {d : DV} {xs : List α} {S : List Nat} (h : SlAt E M d xs S) : cellsD d = some [d] := by
  obtain ⟨rfl, rfl, _⟩ | ⟨b, c, ty, cs, S', rfl, _⟩ := h <;> rfl
theorem SlAt.plain {M : DMem} {d : DV} {xs : List α} {S : List Nat} (h : SlAt E M d xs S) : plainD d = true := by
  obtain ⟨rfl, rfl, _⟩ | ⟨b, c, ty, cs, S', rfl, _⟩ := h <;> rfl
theorem SlAt.frame (hE : E.Ok) {M M' : DMem} {d : DV} {xs : List α} {S : List Nat} (h : SlAt E M d xs S) (hk : ∀ b ∈ S, M' b = M b) : SlAt E M' d xs S := by
  obtain ⟨h1, h2, h3⟩ | ⟨b, c, ty, cs, S', h1, h2, h3, h4, h5, h6⟩ := h
  · exact .inl ⟨h1, h2, h3⟩
  · refine .inr ⟨b, c, ty, cs, S', h1, by rw [hk b (by simp [h4])]; exact h2, h3.frame hE fun x hx => hk x (by simp [h4, hx]), h4, h5, h6⟩
theorem SlAt.fz (hE : E.Ok) {M : DMem} {d : DV} {xs : List α} {S : List Nat} (h : SlAt E M d xs S) {k : Nat} (hk : E.k ≤ k) : Mw.fz M (k + 1) d = slD E.c xs := by
  obtain ⟨rfl, rfl, _⟩ | ⟨b, c, ty, cs, S', rfl, h2, h3, h4, h5, h6⟩ := h
  · exact fz_zsl _ _
  · rw [fz_msl h2 k 0 _ _ h5, List.drop_zero, h3.fz hE hk]; rfl
theorem SlAt.here (hE : E.Ok) {M : DMem} {d : DV} {xs : List α} {S : List Nat} (h : SlAt E M d xs S) : ∀ b ∈ S, M b ≠ none := by
  obtain ⟨_, _, rfl⟩ | ⟨b, c, ty, cs, S', rfl, h2, h3, rfl, h5, h6⟩ := h
  · intro b hb; simp at hb
  · intro x hx
    rcases List.mem_cons.1 hx with rfl | hx
    · rw [h2]; simp
    · exact h3.here hE x hx
theorem SlAt.at {M : DMem} {d : DV} {xs : List α} {S : List Nat} (h : SlAt E M d xs S) (h0 : 0 < xs.length) : ∃ b c ty cs S', d = .msl b 0 xs.length c ∧ M b = some ⟨ty, c * E.sz, cs⟩ ∧ RowAt E M xs cs S' ∧ S = b :: S' ∧ xs.length ≤ c := by
  obtain ⟨_, rfl, _⟩ | ⟨b, c, ty, cs, S', h1, h2, h3, h4, h5, h6⟩ := h
  · simp at h0
  · exact ⟨b, c, ty, cs, S', h1, h2, h3, h4, h5⟩
theorem SlAt.own (hE : E.Ok) {M : DMem} {d : DV} {xs : List α} {S : List Nat} (h : SlAt E M d xs S) : ∃ cs S', OwnD M E.sz d xs.length cs ∧ RowAt E M xs cs S' ∧ ((blkD d = none ∧ S = S') ∨ ∃ b, blkD d = some b ∧ S = b :: S') := by
  obtain ⟨rfl, rfl, rfl⟩ | ⟨b, c, ty, cs, S', rfl, h2, h3, h4, h5, h6⟩ := h
  · exact ⟨[], [], OwnD.zsl _ _, RowAt.nil, .inl ⟨rfl, rfl⟩⟩
  · exact ⟨cs, S', ⟨h3.len hE, .inr ⟨b, c, ty, rfl, h2, h5, h6⟩⟩, h3, .inr ⟨b, by simp only [blkD]; rw [if_neg (by omega)], h4⟩⟩
theorem SlAt.app (hE : E.Ok) {M : DMem} {d : DV} {xs ys : List α} {S T : List Nat} {e : TypeId} {bytes k : Nat} {ds : List DV} {Post : DV → DMem → Prop} (h : SlAt E M d xs S) (hS : S.Nodup)
    (hy : RowAt E M ys ds T) (hT : ∀ b ∈ T, b ∉ S) (hk : ys.length = k) (hb : (xs.length + k) * bytes ≤ 140737488355328) (hn : xs.length + k ≤ 9223372036854775807)
    (hP : ∀ d' M' S', SlAt E M' d' (xs ++ ys) S' → (∀ b B, M b = some B → b ∉ S → M' b = some B) → (∀ b ∈ S', b ∈ S ∨ b ∈ T ∨ M b = none) → (T.Nodup → S'.Nodup) → Post d' M') :
    ∃ k' news, RowD M E.sz (.isl k ds) k' news ∧ news.all plainD = true ∧ ∃ n', (n' + k') * bytes ≤ 140737488355328 ∧ n' + k' ≤ 9223372036854775807 ∧ AppD M e E.sz d n' k' news Post := by
  obtain ⟨cs, S0, ho, hr, hbl⟩ := h.own hE
  have hyl := hy.len hE
  rw [hk] at hyl
  refine app_isl ho hE.pos hyl (hy.plain hE) hb hn fun d' M' ho' hg => ?_
  have hS0 : ∀ b ∈ S0, b ∈ S ∧ blkD d ≠ some b := by
    rcases hbl with ⟨e1, e2⟩ | ⟨b0, e1, e2⟩
    · intro b hb; exact ⟨by rw [e2]; exact hb, by rw [e1]; simp⟩
    · intro b hb
      refine ⟨by rw [e2]; exact List.mem_cons_of_mem _ hb, fun hh => ?_⟩
      rw [e1] at hh; cases hh
      rw [e2] at hS
      exact (List.nodup_cons.1 hS).1 hb
  have hTb : ∀ b ∈ T, blkD d ≠ some b := fun b hb hh => by
    rcases hbl with ⟨e1, e2⟩ | ⟨b0, e1, e2⟩
    · rw [e1] at hh; cases hh
    · rw [e1] at hh; cases hh
      exact hT b hb (by rw [e2]; simp)
  have keepS : ∀ b ∈ S0, M' b = M b := fun b hb => by
    obtain ⟨B, hB⟩ := Option.ne_none_iff_exists'.1 (hr.here hE b hb)
    rw [hB]; exact hg.keep b B hB (hS0 b hb).2
  have keepT : ∀ b ∈ T, M' b = M b := fun b hb => by
    obtain ⟨B, hB⟩ := Option.ne_none_iff_exists'.1 (hy.here hE b hb)
    rw [hB]; exact hg.keep b B hB (hTb b hb)
  have hrow := (hr.frame hE keepS).append (hy.frame hE keepT)
  have hkeep : ∀ b B, M b = some B → b ∉ S → M' b = some B := fun b B hB hb => hg.keep b B hB fun hh => by
    rcases hbl with ⟨e1, e2⟩ | ⟨b0, e1, e2⟩
    · rw [e1] at hh; cases hh
    · rw [e1] at hh; cases hh
      exact hb (by rw [e2]; simp)
  have hndS0 : S0.Nodup := by
    rcases hbl with ⟨_, e2⟩ | ⟨b0, _, e2⟩
    · rw [e2] at hS; exact hS
    · rw [e2] at hS; exact (List.nodup_cons.1 hS).2
  have hnd : T.Nodup → (S0 ++ T).Nodup := fun ht => List.nodup_append.2 ⟨hndS0, ht, fun a ha b hb => by
    rintro rfl; exact hT a hb (hS0 a ha).1⟩
  obtain ⟨hcl, ⟨rfl, hz⟩ | ⟨b', c', ty', rfl, hM', hle, hpos⟩⟩ := ho'
  · have h0 : xs.length = 0 ∧ k = 0 := by omega
    have ex : xs = [] := List.eq_nil_of_length_eq_zero h0.1
    have ey : ys = [] := List.eq_nil_of_length_eq_zero (by omega)
    subst ex; subst ey
    exact hP _ _ [] (.inl ⟨rfl, rfl, rfl⟩) hkeep (fun b hb => by simp at hb) (fun _ => List.nodup_nil)
  · have hbk : blkD (.msl b' 0 (xs.length + k) c') = some b' := by simp only [blkD]; rw [if_neg (by omega)]
    have hb' : b' ∉ S0 ++ T ∧ (b' ∈ S ∨ M b' = none) := by
      rcases hg.here with e | ⟨q, e, hq⟩
      · rw [hbk] at e
        refine ⟨fun hh => ?_, .inl ?_⟩
        · rcases List.mem_append.1 hh with hh | hh
          · exact (hS0 b' hh).2 e.symm
          · exact hTb b' hh e.symm
        · rcases hbl with ⟨e1, _⟩ | ⟨b0, e1, e2⟩
          · rw [e1] at e; cases e
          · rw [e1] at e; cases e; rw [e2]; simp
      · rw [hbk] at e; cases e
        refine ⟨fun hh => ?_, .inr hq⟩
        rcases List.mem_append.1 hh with hh | hh
        · exact hr.here hE b' hh hq
        · exact hy.here hE b' hh hq
    refine hP _ _ (b' :: (S0 ++ T)) (.inr ⟨b', c', ty', cs ++ ds, S0 ++ T, by rw [List.length_append, hk], hM', hrow, rfl, by rw [List.length_append, hk]; exact hle, hpos⟩) hkeep (fun b hb => ?_) (fun ht => List.nodup_cons.2 ⟨hb'.1, hnd ht⟩)
    rcases List.mem_cons.1 hb with rfl | hb
    · rcases hb'.2 with h | h
      · exact .inl h
      · exact .inr (.inr h)
    · rcases List.mem_append.1 hb with hb | hb
      · exact .inl (hS0 b hb).1
      · exact .inr (.inl hb)
def intE : El Int := ⟨1, fun x => [.int .i64 x], 0, fun _ x cs S => cs = [.int .i64 x] ∧ S = []⟩
theorem intE_ok : intE.Ok where
  pos := by decide
  len := by rintro M x cs S ⟨rfl, rfl⟩; rfl
  clen := fun x => rfl
  frame := fun h _ => h
  fz := by rintro M x cs S k ⟨rfl, rfl⟩ _; simp only [List.map_cons, List.map_nil, fz_int]; rfl
  plain := by rintro M x cs S ⟨rfl, rfl⟩; rfl
  here := by rintro M x cs S ⟨rfl, rfl⟩ b hb; simp at hb
def flatE (c : α → List DV) (sz : Nat) : El α := ⟨sz, c, 0, fun _ x cs S => cs = c x ∧ S = []⟩
theorem flatE_ok {c : α → List DV} {sz : Nat} (h0 : 0 < sz) (hl : ∀ x, (c x).length = sz) (hf : ∀ x, FrozL (c x)) (hp : ∀ x, (c x).all plainD = true) : (flatE c sz).Ok where
  pos := h0
  len := by rintro M x cs S ⟨rfl, rfl⟩; exact hl x
  clen := hl
  frame := fun h _ => h
  fz := by rintro M x cs S k ⟨rfl, rfl⟩ _; exact fzmap_froz (hf x) M k
  plain := by rintro M x cs S ⟨rfl, rfl⟩; exact hp x
  here := by rintro M x cs S ⟨rfl, rfl⟩ b hb; simp at hb
theorem RowAt.flat {c : α → List DV} {sz : Nat} {M : DMem} : ∀ {xs : List α}, RowAt (flatE c sz) M xs (xs.flatMap c) []
  | [] => ⟨rfl, rfl⟩
  | x :: xs => ⟨c x, xs.flatMap c, [], [], rfl, rfl, ⟨rfl, rfl⟩, RowAt.flat⟩
theorem RowAt.ints {M : DMem} {xs : List Int} : RowAt intE M xs (xs.map (.int .i64)) [] := by
  induction xs with
  | nil => exact ⟨rfl, rfl⟩
  | cons x xs ih => exact ⟨[.int .i64 x], xs.map (.int .i64), [], [], rfl, rfl, ⟨rfl, rfl⟩, ih⟩
theorem RowAt.flat_eq {c : α → List DV} {sz : Nat} {M : DMem} : ∀ {xs : List α} {cs : List DV} {S : List Nat}, RowAt (flatE c sz) M xs cs S → cs = xs.flatMap c ∧ S = []
  | [], cs, S, h => h
  | x :: xs, cs, S, ⟨c1, c2, S1, S2, e1, e2, ⟨h1, h2⟩, h3⟩ => by
    obtain ⟨g1, g2⟩ := RowAt.flat_eq h3
    subst h1; subst h2; subst g1; subst g2
    exact ⟨e1, by simpa using e2⟩
theorem splD_one {l : List DV} {i : Nat} {v : DV} (h : i < l.length) : splD l i [v] = l.set i v := by
  unfold splD
  rw [List.set_eq_take_append_cons_drop, if_pos h]
  simp
theorem splD_field {c1 cx c2 : List DV} {o off : Nat} {v : DV} (h : c1.length = o) (hf : off < cx.length) : splD (c1 ++ cx ++ c2) (o + off) [v] = c1 ++ cx.set off v ++ c2 := by
  subst h
  rw [splD_one (by simp only [List.length_append]; omega), List.append_assoc, List.set_append_right _ _ (by omega), Nat.add_sub_cancel_left, List.set_append_left _ _ hf, List.append_assoc]
theorem get_field {c1 cx c2 : List DV} {o off : Nat} (h : c1.length = o) (hf : off < cx.length) : (c1 ++ cx ++ c2)[o + off]? = cx[off]? := by
  subst h
  rw [List.append_assoc, List.getElem?_append_right (by omega), Nat.add_sub_cancel_left, List.getElem?_append_left hf]
theorem take_field {c1 cx c2 : List DV} {o sz : Nat} (h : c1.length = o) (hs : cx.length = sz) : ((c1 ++ cx ++ c2).drop o).take sz = cx := by
  subst h; subst hs
  rw [List.append_assoc, List.drop_left, List.take_left]
theorem SlAt.inner (hE : E.Ok) {M : DMem} {d : DV} {xs : List α} {S : List Nat} (h : SlAt E M d xs S) (hS : S.Nodup) {i : Nat} (hi : i < xs.length) :
    ∃ b c ty c1 cx c2 S1 Sx S2, d = .msl b 0 xs.length c ∧ M b = some ⟨ty, c * E.sz, c1 ++ cx ++ c2⟩ ∧ c1.length = i * E.sz ∧ cx.length = E.sz ∧ E.rep M xs[i] cx Sx ∧ S = b :: (S1 ++ Sx ++ S2) ∧ xs.length ≤ c ∧
      (∀ M' y, E.rep M' y cx Sx → (∀ x ∈ S, x ∉ Sx → M' x = M x) → SlAt E M' d (xs.set i y) S) ∧
      (∀ M' y cy, E.rep M y cy Sx → M' = M.ins b ⟨ty, c * E.sz, c1 ++ cy ++ c2⟩ → SlAt E M' d (xs.set i y) S) := by
  obtain ⟨b, c, ty, cs, S', rfl, hM, hr, rfl, hc⟩ := h.at (by omega)
  obtain ⟨c1, cx, c2, S1, Sx, S2, rfl, rfl, hl, hx, h1, h2⟩ := hr.get hE hi
  obtain ⟨hb, hnd⟩ := List.nodup_cons.1 hS
  obtain ⟨hnd1, hnd2, hdis⟩ := List.nodup_append.1 hnd
  obtain ⟨hnd3, hnd4, hdis2⟩ := List.nodup_append.1 hnd1
  have d1 : ∀ x ∈ S1, x ∉ Sx := fun x hx hh => hdis2 x hx x hh rfl
  have d2 : ∀ x ∈ S2, x ∉ Sx := fun x hx hh => hdis x (List.mem_append_right _ hh) x hx rfl
  have hbx : b ∉ Sx := fun hh => hb (List.mem_append_left _ (List.mem_append_right _ hh))
  refine ⟨b, c, ty, c1, cx, c2, S1, Sx, S2, rfl, hM, hl, hE.len hx, hx, rfl, hc, fun M' y hy hk => ?_, fun M' y cy hy hM' => ?_⟩
  · have k1 : RowAt E M' (xs.take i) c1 S1 := h1.frame hE fun x hx => hk x (by simp [hx]) (d1 x hx)
    have k2 : RowAt E M' (xs.drop (i + 1)) c2 S2 := h2.frame hE fun x hx => hk x (by simp [hx]) (d2 x hx)
    exact .inr ⟨b, c, ty, _, _, by rw [List.length_set], by rw [hk b (by simp) hbx]; exact hM, RowAt.put hi k1 hy k2, rfl, by rw [List.length_set]; exact hc, by omega⟩
  · have ne : ∀ x ∈ S1 ++ Sx ++ S2, M' x = M x := fun x hx => by rw [hM', DMem.ins_ne _ _ (by rintro rfl; exact hb hx)]
    have k1 : RowAt E M' (xs.take i) c1 S1 := h1.frame hE fun x hx => ne x (List.mem_append_left _ (List.mem_append_left _ hx))
    have k2 : RowAt E M' (xs.drop (i + 1)) c2 S2 := h2.frame hE fun x hx => ne x (List.mem_append_right _ hx)
    have ky : E.rep M' y cy Sx := hE.frame hy fun x hx => ne x (List.mem_append_left _ (List.mem_append_right _ hx))
    exact .inr ⟨b, c, ty, _, _, by rw [List.length_set], by rw [hM', DMem.ins_same], RowAt.put hi k1 ky k2, rfl, by rw [List.length_set]; exact hc, by omega⟩
theorem SlAt.or (hE : E.Ok) {M M2 : DMem} {d : DV} {xs : List α} {S : List Nat} (h : SlAt E M2 d xs S) (hd : ∀ b, M b ≠ none → M2 b = none) : SlAt E (M.or M2) d xs S ∧ ∀ b ∈ S, M b = none := by
  have hn : ∀ b ∈ S, M b = none := fun b hb => by
    cases hM : M b with
    | none => rfl
    | some C => exact absurd (hd b (by rw [hM]; simp)) (h.here hE b hb)
  exact ⟨h.frame hE fun b hb => DMem.or_right (hn b hb), hn⟩
theorem SlAt.sub (hE : E.Ok) {M M' : DMem} {d : DV} {xs : List α} {S : List Nat} (h : SlAt E M d xs S) (hs : SubD M M') : SlAt E M' d xs S :=
  h.frame hE fun b hb => by
    obtain ⟨B, hB⟩ := Option.ne_none_iff_exists'.1 (h.here hE b hb)
    rw [hs b B hB, hB]
end Go.Proofs.YticlgdhhnjpkjaaGreatDoor.Mw
namespace Go.Proofs.YticlgdhhnjpkjaaGreatDoor.Pf
open Go Go.RowKit Go.Proofs Go.Proofs.YticlgdhhnjpkjaaGreatDoor.Mw Go.Proofs.YticlgdhhnjpkjaaGreatDoor.Sx
set_option linter.unusedVariables false
set_option linter.unusedSimpArgs false
structure Src where
  const : Bool
  v : Int
deriving DecidableEq
structure Part where
  fn : Int
  pc : Int
  locals : List Src
  stack : List Src
deriving DecidableEq
structure Irc where
  kind : Int
  r : Int
  a : Int
  b : Int
  k : Int
  args : List Int
  cost : Int
  mt : Int
  pc : Int
deriving DecidableEq
structure Cod where
  fn : Int
  regs : Int
  code : List Irc
  metas : List (List Part)
deriving DecidableEq
abbrev Src.c (x : Src) : List DV := [.bool x.const, .int .i64 x.v]
abbrev Part.c (x : Part) : List DV := [.int .i64 x.fn, .int .i64 x.pc, slD Src.c x.locals, slD Src.c x.stack]
abbrev metaC (m : List Part) : List DV := [slD Part.c m]
abbrev Irc.c (x : Irc) : List DV := [.int .i64 x.kind, .int .i64 x.r, .int .i64 x.a, .int .i64 x.b, .int .i64 x.k, slI x.args, .int .i64 x.cost, .int .i64 x.mt, .int .i64 x.pc]
abbrev Cod.c (x : Cod) : List DV := [.int .i64 x.fn, .int .i64 x.regs, slD Irc.c x.code, slD metaC x.metas]
theorem Src.len (x : Src) : x.c.length = 2 := rfl
theorem Part.len (x : Part) : x.c.length = 4 := rfl
theorem metaC_len (x : List Part) : (metaC x).length = 1 := rfl
theorem Irc.len (x : Irc) : x.c.length = 9 := rfl
theorem Src.froz (x : Src) : FrozL x.c := (FrozL.nil.cons (Froz.int _ _)).cons (Froz.bool _)
theorem Part.froz (x : Part) : FrozL x.c := (((FrozL.nil.cons (Froz.slD Src.froz _)).cons (Froz.slD Src.froz _)).cons (Froz.int _ _)).cons (Froz.int _ _)
theorem metaC_froz (x : List Part) : FrozL (metaC x) := FrozL.nil.cons (Froz.slD Part.froz _)
theorem Irc.froz (x : Irc) : FrozL x.c := ((((((((FrozL.nil.cons (Froz.int _ _)).cons (Froz.int _ _)).cons (Froz.int _ _)).cons (Froz.slI _)).cons (Froz.int _ _)).cons (Froz.int _ _)).cons (Froz.int _ _)).cons (Froz.int _ _)).cons (Froz.int _ _)
theorem Cod.froz (x : Cod) : FrozL x.c := (((FrozL.nil.cons (Froz.slD metaC_froz _)).cons (Froz.slD Irc.froz _)).cons (Froz.int _ _)).cons (Froz.int _ _)
def rowS (from' : Int) (k : Nat) : List Src := (List.range k).map fun i : Nat => ⟨false, from' + (i : Int)⟩
def plainP (f : Fnc) (fn pc h base : Int) : Part := ⟨fn, pc, rowS base f.locals.toNat, rowS (base + f.locals) h.toNat⟩
def argsOf (p : List Fnc) (fn : Int) : Int := match p[fn.toNat]? with | some f => f.args | none => 0
def irL (p : List Fnc) (x : Ins) (pc top : Int) : Irc :=
  if x.kind = 0 then ⟨1, top, 0, 0, x.a, [], 1, 0, pc⟩
  else if x.kind = 1 then ⟨2, top, x.a, 0, 0, [], 1, 0, pc⟩
  else if x.kind = 2 then ⟨2, x.a, top - 1, 0, 0, [], 1, 0, pc⟩
  else if x.kind = 10 then ⟨2, top, top - 1, 0, 0, [], 1, 0, pc⟩
  else if x.kind = 11 then ⟨0, 0, 0, 0, 0, [], 1, 0, pc⟩
  else if x.kind = 12 then ⟨4, 0, 0, 0, x.a, [], 1, 0, pc⟩
  else if x.kind = 13 then ⟨5, 0, top - 1, 0, x.a, [], 1, 0, pc⟩
  else if x.kind = 14 then ⟨6, top - argsOf p x.a, 0, 0, x.a, (List.range (argsOf p x.a).toNat).map (fun i : Nat => top - argsOf p x.a + (i : Int)), 1, 0, pc⟩
  else if x.kind = 15 then ⟨7, 0, top - 1, 0, 0, [], 1, 0, pc⟩
  else if x.kind = 16 then ⟨8, 0, top - 1, 0, 0, [], 1, 0, pc⟩
  else ⟨3, top - 2, top - 2, top - 1, x.kind, [], 1, 0, pc⟩
def backB (x : Ins) (pc : Int) : Bool := (decide (x.kind = 12) || decide (x.kind = 13)) && decide (x.a ≤ pc)
structure Low where
  code : List Irc
  metas : List (List Part)
  starts : List Int
def lowStep (p : List Fnc) (f : Fnc) (fn : Int) (h : Int) (pc : Nat) (w : Low) : Low :=
  let x := f.code.getD pc ⟨0, 0⟩
  if h = -1 then ⟨w.code, w.metas, w.starts ++ [0]⟩
  else if backB x pc then ⟨w.code ++ [⟨10, 0, 0, 0, 0, [], 0, w.metas.length, pc⟩, irL p x pc (f.locals + h)], w.metas ++ [[plainP f fn pc h 0]], w.starts ++ [(w.code.length : Int)]⟩
  else ⟨w.code ++ [irL p x pc (f.locals + h)], w.metas, w.starts ++ [(w.code.length : Int)]⟩
def lowS (p : List Fnc) (f : Fnc) (fn : Int) (hs : List Int) : Nat → Low
  | 0 => ⟨[], [], []⟩
  | n + 1 => lowStep p f fn (hs.getD n (-1)) n (lowS p f fn hs n)
def goesB (k : Int) : Bool := decide (k = 4) || decide (k = 5)
def placed (starts : List Int) (x : Irc) : Irc := if goesB x.kind then { x with k := starts.getD x.k.toNat 0 } else x
def lowF (p : List Fnc) (f : Fnc) (fn : Int) : Cod :=
  let w := lowS p f fn (heightsR p fn).1 f.code.length
  ⟨fn, f.locals + 8, w.code.map (placed w.starts), w.metas⟩
def cod0 : Cod := ⟨0, 0, [], []⟩
def lowerR (p : List Fnc) (fn : Int) : Cod × Int :=
  if verifyE p = 0 ∧ 0 ≤ fn ∧ fn < p.length then
    match p[fn.toNat]? with
    | some f => (lowF p f fn, 0)
    | none => (cod0, 1100)
  else (cod0, 1100)
end Go.Proofs.YticlgdhhnjpkjaaGreatDoor.Pf
namespace Go.Proofs.YticlgdhhnjpkjaaGreatDoor.Pf
open Go Go.RowKit Go.Proofs Go.Proofs.YticlgdhhnjpkjaaGreatDoor.Mw Go.Proofs.YticlgdhhnjpkjaaGreatDoor.Sx
set_option linter.unusedVariables false
set_option linter.unusedSimpArgs false
set_option maxRecDepth 8000
theorem fz_of {d : DV} (h : Froz d) (M : DMem) (k : Nat) : fz M k d = d := by
  have e := fzmap_froz (FrozL.nil.cons h) M k
  simpa using e
theorem fz_srcs (M : DMem) (k : Nat) (l : List Src) : fz M k (slD Src.c l) = slD Src.c l := fz_of (Froz.slD Src.froz l) M k
theorem fz_parts (M : DMem) (k : Nat) (l : List Part) : fz M k (slD Part.c l) = slD Part.c l := fz_of (Froz.slD Part.froz l) M k
theorem fz_irs (M : DMem) (k : Nat) (l : List Irc) : fz M k (slD Irc.c l) = slD Irc.c l := fz_of (Froz.slD Irc.froz l) M k
theorem fz_metas (M : DMem) (k : Nat) (l : List (List Part)) : fz M k (slD metaC l) = slD metaC l := fz_of (Froz.slD metaC_froz l) M k
theorem fz_irc (M : DMem) (k : Nat) (x : Irc) : fz M k (.agg x.c) = .agg x.c := fz_of (Froz.agg (Irc.froz x)) M k
theorem fz_ints (M : DMem) (k : Nat) (l : List Int) : fz M k (slI l) = slI l := fz_of (Froz.slI l) M k
theorem ldn_irc (K : DMem) (x : Irc) (r : List DV) : ldnD K 9 (.ip (.int .i64 x.kind :: .int .i64 x.r :: .int .i64 x.a :: .int .i64 x.b :: .int .i64 x.k :: slI x.args :: .int .i64 x.cost :: .int .i64 x.mt :: .int .i64 x.pc :: r)) = some (.agg x.c) := by simp [ldnD]
abbrev Big : Nat := 4611686018427387904
theorem SameIr_pf (a b : Irc) (ha : a.args.length ≤ Big) : pf Tryz.prog F_swagelaw0_SameIr [.agg a.c, .agg b.c] = some (.bool (decide (a = b))) := by
  refine pf_of (v := .bool _) (pc_swagelaw0_SameIr (by simp) ?_) ((FrozL.nil.cons (Froz.agg (Irc.froz b))).cons (Froz.agg (Irc.froz a))) rfl rfl
  simp only [S_swagelaw0_SameIr, R_swagelaw0_SameIr, MU_swagelaw0_SameIr, SameInts_pf _ _ ha, fz_ints, SW, SV, wpD, evDL, evDM, evD, bldLD, wpSp, DMem.mt, beq_self_eq_true, seval]
  rw [Bool.eq_iff_iff]
  simp only [Bool.and_eq_true, decide_eq_true_eq]
  constructor
  · rintro ⟨⟨⟨⟨⟨⟨⟨⟨h1, h2⟩, h3⟩, h4⟩, h5⟩, h6⟩, h7⟩, h8⟩, h9⟩
    cases a; cases b; simp_all
  · rintro rfl; simp
theorem eqsS (ne : Bool) (a b : Bool) (x y : Int) : eqsD ne 102 (.agg [.bool a, .int .i64 x]) (.agg [.bool b, .int .i64 y]) = some (.bool (if ne then !((a == b) && ((x == y) && true)) else ((a == b) && ((x == y) && true)))) := by
  simp [eqsD, lift2, DV.v1, DV.v0, eqsV, eqRows, ofV]
  rfl
theorem SameSrcs_pf (a b : List Src) (ha : a.length ≤ Big) : pf Tryz.prog F_swagelaw0_SameSrcs [slD Src.c a, slD Src.c b] = some (.bool (decide (a = b))) := by
  unfold Big at ha
  refine pf_of (v := .bool _) (pc_swagelaw0_SameSrcs (by simp) ?_) ((FrozL.nil.cons (Froz.slD Src.froz _)).cons (Froz.slD Src.froz _)) rfl rfl
  simp only [S_swagelaw0_SameSrcs, R_swagelaw0_SameSrcs, MU_swagelaw0_SameSrcs, SW, SV, wpD, evDL, evDM, evD, bldLD, wpSp, DMem.mt, beq_self_eq_true, seval, decide_eq_true_eq, decide_eq_false_iff_not]
  refine ⟨fun hne => ?_, fun hle => ?_⟩
  · exact (decide_eq_false (by rintro rfl; exact hne rfl)).symm
  · have hlen : a.length = b.length := by omega
    refine ⟨fun k δ M => ∃ i, i ≤ a.length ∧ k = a.length - i ∧ M = DMem.mt ∧ δ 0 = slD Src.c a ∧ δ 1 = slD Src.c b ∧ δ 5 = .int .i64 i ∧ (∀ j (h1 : j < a.length) (h2 : j < b.length), j < i → a[j] = b[j]),
      a.length, ⟨0, Nat.zero_le _, rfl, rfl, rfl, rfl, rfl, fun j _ _ hj => absurd hj (by omega)⟩, ?_⟩
    rintro k δ M ⟨i, hi, rfl, rfl, h0, h1, h5, hj⟩
    simp only [S1_swagelaw0_SameSrcs, MU_swagelaw0_SameSrcs, h0, h1, h5, SW, SV, wpD, evDL, evDM, evD, bldLD, wpSp, DMem.mt, beq_self_eq_true, seval, decide_eq_true_eq, decide_eq_false_iff_not]
    refine ⟨fun h => ?_, fun h => ?_⟩
    · have hlt : i < a.length := by omega
      have hlt' : i < b.length := by omega
      simp only [ix_slD Src.len hlt, ix_slD Src.len hlt', h0, h1, h5, w64s (show i < 4611686018427387905 by omega), SW, SV, wpD, evDL, evDM, evD, bldLD, wpSp, DMem.mt, beq_self_eq_true, seval, decide_eq_true_eq, decide_eq_false_iff_not]
      simp only [eqsS, h0, h1, h5, w64s (show i < 4611686018427387905 by omega), SW, SV, wpD, evDL, evDM, evD, bldLD, wpSp, DMem.mt, beq_self_eq_true, seval]
      refine ⟨fun hne => (decide_eq_false (by rintro rfl; simp at hne)).symm, fun he => ⟨a.length - (i + 1), DMem.mt, by omega, SubD.refl _, i + 1, by omega, rfl, rfl, rfl, fun j g1 g2 hji => ?_⟩⟩
      rcases Nat.lt_or_ge j i with h2 | h2
      · exact hj j g1 g2 h2
      · have : j = i := by omega
        subst this
        simp only [Bool.not_eq_eq_eq_not, Bool.not_false, Bool.and_eq_true, beq_iff_eq] at he
        cases hx : a[j]; cases hy : b[j]
        simp only [hx, hy] at he
        simp [he]
    · exact (decide_eq_true (same_all hlen fun j g1 g2 => hj j g1 g2 (by omega))).symm
def SzPart (x : Part) : Prop := x.locals.length ≤ Big ∧ x.stack.length ≤ Big
theorem sameParts_pf (a b : List Part) (ha : a.length ≤ Big) (hs : ∀ x ∈ a, SzPart x) : pf Tryz.prog F_swagelaw0_sameParts [slD Part.c a, slD Part.c b] = some (.bool (decide (a = b))) := by
  unfold Big at ha
  refine pf_of (v := .bool _) (pc_swagelaw0_sameParts (by simp) ?_) ((FrozL.nil.cons (Froz.slD Part.froz _)).cons (Froz.slD Part.froz _)) rfl rfl
  simp only [S_swagelaw0_sameParts, R_swagelaw0_sameParts, MU_swagelaw0_sameParts, SW, SV, wpD, evDL, evDM, evD, bldLD, wpSp, DMem.mt, beq_self_eq_true, seval, decide_eq_true_eq, decide_eq_false_iff_not]
  refine ⟨fun hne => ?_, fun hle => ?_⟩
  · exact (decide_eq_false (by rintro rfl; exact hne rfl)).symm
  · have hlen : a.length = b.length := by omega
    refine ⟨fun k δ M => ∃ i, i ≤ a.length ∧ k = a.length - i ∧ M = DMem.mt ∧ δ 0 = slD Part.c a ∧ δ 1 = slD Part.c b ∧ δ 5 = .int .i64 i ∧ (∀ j (h1 : j < a.length) (h2 : j < b.length), j < i → a[j] = b[j]),
      a.length, ⟨0, Nat.zero_le _, rfl, rfl, rfl, rfl, rfl, fun j _ _ hj => absurd hj (by omega)⟩, ?_⟩
    rintro k δ M ⟨i, hi, rfl, rfl, h0, h1, h5, hj⟩
    simp only [S1_swagelaw0_sameParts, MU_swagelaw0_sameParts, h0, h1, h5, SW, SV, wpD, evDL, evDM, evD, bldLD, wpSp, DMem.mt, beq_self_eq_true, seval, decide_eq_true_eq, decide_eq_false_iff_not]
    refine ⟨fun h => ?_, fun h => ?_⟩
    · have hlt : i < a.length := by omega
      have hlt' : i < b.length := by omega
      have hz := hs _ (List.getElem_mem hlt)
      simp only [ix_slD Part.len hlt, ix_slD Part.len hlt', h0, h1, h5, fz_srcs, SameSrcs_pf a[i].locals b[i].locals hz.1, SameSrcs_pf a[i].stack b[i].stack hz.2, w64s (show i < 4611686018427387905 by omega), SW, SV, wpD, evDL, evDM, evD, bldLD, wpSp, DMem.mt, beq_self_eq_true, seval, decide_eq_true_eq, decide_eq_false_iff_not]
      refine ⟨fun hne => (decide_eq_false (by rintro rfl; simp at hne)).symm, fun he => ⟨a.length - (i + 1), DMem.mt, by omega, SubD.refl _, i + 1, by omega, rfl, rfl, rfl, fun j g1 g2 hji => ?_⟩⟩
      rcases Nat.lt_or_ge j i with h2 | h2
      · exact hj j g1 g2 h2
      · have : j = i := by omega
        subst this
        cases hx : a[j]; cases hy : b[j]
        simp only [hx, hy] at he
        simp at he
        simp [he]
    · exact (decide_eq_true (same_all hlen fun j g1 g2 => hj j g1 g2 (by omega))).symm
def SzCod (x : Cod) : Prop := x.code.length ≤ Big ∧ (∀ y ∈ x.code, y.args.length ≤ Big) ∧ x.metas.length ≤ Big ∧ ∀ m ∈ x.metas, m.length ≤ Big ∧ ∀ y ∈ m, SzPart y
theorem SameCode_pf (a b : Cod) (ha : SzCod a) : pf Tryz.prog F_swagelaw0_SameCode [.agg a.c, .agg b.c] = some (.bool (decide (a = b))) := by
  obtain ⟨z1, z2, z3, z4⟩ := ha
  unfold Big at z1 z3
  refine pf_of (v := .bool _) (pc_swagelaw0_SameCode (by simp) ?_) ((FrozL.nil.cons (Froz.agg (Cod.froz b))).cons (Froz.agg (Cod.froz a))) rfl rfl
  simp only [S_swagelaw0_SameCode, R_swagelaw0_SameCode, MU_swagelaw0_SameCode, SW, SV, wpD, evDL, evDM, evD, bldLD, wpSp, DMem.mt, beq_self_eq_true, seval, decide_eq_true_eq, decide_eq_false_iff_not]
  refine ⟨fun hne => (decide_eq_false (by rintro rfl; simp at hne)).symm, fun he => ?_⟩
  obtain ⟨⟨⟨e1, e2⟩, e3⟩, e4⟩ : ((a.fn = b.fn ∧ a.regs = b.regs) ∧ a.code.length = b.code.length) ∧ a.metas.length = b.metas.length := by
    simp at he; omega
  refine ⟨fun k δ M => ∃ i, i ≤ a.code.length ∧ k = a.code.length - i ∧ M = DMem.mt ∧ δ 2 = .ip a.c ∧ δ 3 = .ip b.c ∧ δ 5 = .int .i64 i ∧ (∀ j (h1 : j < a.code.length) (h2 : j < b.code.length), j < i → a.code[j] = b.code[j]),
    a.code.length, ⟨0, Nat.zero_le _, rfl, rfl, rfl, rfl, rfl, fun j _ _ hj => absurd hj (by omega)⟩, ?_⟩
  rintro k δ M ⟨i, hi, rfl, rfl, h2, h3, h5, hj⟩
  simp only [S1_swagelaw0_SameCode, MU_swagelaw0_SameCode, h2, h3, h5, SW, SV, wpD, evDL, evDM, evD, bldLD, wpSp, DMem.mt, beq_self_eq_true, seval, decide_eq_true_eq, decide_eq_false_iff_not]
  refine ⟨fun h => ?_, fun h => ?_⟩
  · have hlt : i < a.code.length := by omega
    have hlt' : i < b.code.length := by omega
    simp only [ix_slD Irc.len hlt, ix_slD Irc.len hlt', ldn_irc, fz_irc, SameIr_pf a.code[i] b.code[i] (z2 _ (List.getElem_mem hlt)), h2, h3, h5, w64s (show i < 4611686018427387905 by omega), SW, SV, wpD, evDL, evDM, evD, bldLD, wpSp, DMem.mt, beq_self_eq_true, seval, decide_eq_true_eq, decide_eq_false_iff_not]
    refine ⟨fun hne => (decide_eq_false (by rintro rfl; simp at hne)).symm, fun hx => ⟨a.code.length - (i + 1), DMem.mt, by omega, SubD.refl _, i + 1, by omega, rfl, rfl, rfl, fun j g1 g2 hji => ?_⟩⟩
    rcases Nat.lt_or_ge j i with h2 | h2
    · exact hj j g1 g2 h2
    · have : j = i := by omega
      subst this
      simpa using hx
  · have ec : a.code = b.code := same_all e3 fun j g1 g2 => hj j g1 g2 (by omega)
    simp only [S3_swagelaw0_SameCode, MU_swagelaw0_SameCode, h2, h3, SW, SV, wpD, evDL, evDM, evD, bldLD, wpSp, DMem.mt, beq_self_eq_true, seval]
    clear hj
    refine ⟨fun k δ M => ∃ i, i ≤ a.metas.length ∧ k = a.metas.length - i ∧ M = DMem.mt ∧ δ 2 = .ip a.c ∧ δ 3 = .ip b.c ∧ δ 6 = .int .i64 i ∧ (∀ j (h1 : j < a.metas.length) (h2 : j < b.metas.length), j < i → a.metas[j] = b.metas[j]),
      a.metas.length, ⟨0, Nat.zero_le _, rfl, rfl, h2, h3, rfl, fun j _ _ hj => absurd hj (by omega)⟩, ?_⟩
    rintro k δ M ⟨i, hi, rfl, rfl, h2, h3, h6, hj⟩
    simp only [S2_swagelaw0_SameCode, MU_swagelaw0_SameCode, h2, h3, h6, SW, SV, wpD, evDL, evDM, evD, bldLD, wpSp, DMem.mt, beq_self_eq_true, seval, decide_eq_true_eq, decide_eq_false_iff_not]
    refine ⟨fun h => ?_, fun h => ?_⟩
    · have hlt : i < a.metas.length := by omega
      have hlt' : i < b.metas.length := by omega
      have hz := z4 _ (List.getElem_mem hlt)
      simp only [ix_slD metaC_len hlt, ix_slD metaC_len hlt', fz_parts, sameParts_pf a.metas[i] b.metas[i] hz.1 hz.2, h2, h3, h6, w64s (show i < 4611686018427387905 by omega), SW, SV, wpD, evDL, evDM, evD, bldLD, wpSp, DMem.mt, beq_self_eq_true, seval, decide_eq_true_eq, decide_eq_false_iff_not]
      refine ⟨fun hne => (decide_eq_false (by rintro rfl; simp at hne)).symm, fun hx => ⟨a.metas.length - (i + 1), DMem.mt, by omega, SubD.refl _, i + 1, by omega, rfl, rfl, rfl, fun j g1 g2 hji => ?_⟩⟩
      rcases Nat.lt_or_ge j i with h2 | h2
      · exact hj j g1 g2 h2
      · have : j = i := by omega
        subst this
        simpa using hx
    · have em : a.metas = b.metas := same_all e4 fun j g1 g2 => hj j g1 g2 (by omega)
      refine (decide_eq_true ?_).symm
      cases a; cases b; simp_all
end Go.Proofs.YticlgdhhnjpkjaaGreatDoor.Pf
