/- Wk: joined texts of this claim. No condition. -/
import Derived.Test.YtpehdlobicocpaaDoorLwjg
/- lower.Lower walked. No condition. -/
namespace Go.Proofs.YtpehdlobicocpaaDoor.Pf
open Go Go.RowKit Go.Proofs Go.Proofs.YtpehdlobicocpaaDoor.Mw Go.Proofs.YtpehdlobicocpaaDoor.Sx
set_option linter.unusedVariables false
set_option linter.unusedSimpArgs false
set_option maxRecDepth 8000
theorem low_len (p : List Fnc) (f : Fnc) (fn : Int) (hs : List Int) : ∀ n, (lowS p f fn hs n).starts.length = n ∧ (lowS p f fn hs n).code.length ≤ 2 * n ∧ (lowS p f fn hs n).metas.length ≤ n
  | 0 => by simp [lowS]
  | n + 1 => by
    obtain ⟨h1, h2, h3⟩ := low_len p f fn hs n
    simp only [lowS, lowStep]
    split
    · simp only [List.length_append, List.length_cons, List.length_nil]; omega
    · split <;> simp only [List.length_append, List.length_cons, List.length_nil] <;> omega
/-- As far as place i, the rest of the places at zero. -/
def lowW (p : List Fnc) (f : Fnc) (fn : Int) (hs : List Int) (i : Nat) : Low := ⟨(lowS p f fn hs i).code, (lowS p f fn hs i).metas, (lowS p f fn hs i).starts ++ List.replicate (f.code.length - i) 0⟩
theorem WrAt.sub {M M' : DMem} {wb : Nat} {fn regs : Int} {w : Low} {S : List Nat} (h : WrAt M wb fn regs w S) (k : SubD M M') : WrAt M' wb fn regs w S := by
  obtain ⟨dc, dm, sb, Sc, Sm, hM, hc, hm, hs, rfl, hnd⟩ := h
  exact ⟨dc, dm, sb, Sc, Sm, k _ _ hM, hc.sub irE_ok k, hm.sub metaE_ok k, k _ _ hs, rfl, hnd⟩
theorem WrAt.here {M : DMem} {wb : Nat} {fn regs : Int} {w : Low} {S : List Nat} (h : WrAt M wb fn regs w S) : ∀ y ∈ S, M y ≠ none := by
  obtain ⟨dc, dm, sb, Sc, Sm, hM, hc, hm, hs, rfl, hnd⟩ := h
  intro y hy
  simp only [List.mem_cons, List.mem_append] at hy
  rcases hy with rfl | rfl | h | h
  · rw [hM]; simp
  · rw [hs]; simp
  · exact hc.here irE_ok y h
  · exact hm.here metaE_ok y h
theorem lowW_neg {p : List Fnc} {f : Fnc} {fn : Int} {hs : List Int} {i : Nat} (h : i < hs.length) (hn : hs[i] = -1) (hi : i < f.code.length) (h0 : True) : lowW p f fn hs (i + 1) = lowW p f fn hs i := by
  unfold lowW
  have e : hs.getD i (-1) = -1 := by rw [List.getD_eq_getElem?_getD, List.getElem?_eq_getElem h]; exact hn
  simp only [lowS, lowStep, e, if_true]
  congr 1
  rw [List.append_assoc, show f.code.length - i = (f.code.length - (i + 1)) + 1 by omega, List.replicate_succ]
  rfl
theorem low_set {s : List Int} {i k : Nat} {c : Int} (h : s.length = i) (hk : 1 ≤ k) : (s ++ List.replicate k 0).set i c = s ++ [c] ++ List.replicate (k - 1) 0 := by
  subst h
  obtain ⟨j, rfl⟩ : ∃ j, k = j + 1 := ⟨k - 1, by omega⟩
  rw [List.set_append_right _ _ (Nat.le_refl _), Nat.sub_self, List.replicate_succ, List.set_cons_zero]
  simp
theorem lowW_put {p : List Fnc} {f : Fnc} {fn : Int} {hs : List Int} {i : Nat} {v : Int} (hv : hs[i]? = some v) (hn : v ≠ -1) (hi : i < f.code.length) (hb : backB f.code[i] i = false) : lowW p f fn hs (i + 1) = ⟨(lowW p f fn hs i).code ++ [irL p f.code[i] i (f.locals + v)], (lowW p f fn hs i).metas, (lowW p f fn hs i).starts.set i (lowW p f fn hs i).code.length⟩ := by
  have e : hs.getD i (-1) = v := by rw [List.getD_eq_getElem?_getD, hv]; rfl
  have e2 : f.code.getD i ⟨0, 0⟩ = f.code[i] := by rw [List.getD_eq_getElem?_getD, List.getElem?_eq_getElem hi]; rfl
  have hl := (low_len p f fn hs i).1
  unfold lowW
  rw [low_set hl (by omega)]
  simp only [lowS, lowStep, e, e2, if_neg hn, hb, Nat.sub_sub]
  rfl
theorem lowW_back {p : List Fnc} {f : Fnc} {fn : Int} {hs : List Int} {i : Nat} {v : Int} (hv : hs[i]? = some v) (hn : v ≠ -1) (hi : i < f.code.length) (hb : backB f.code[i] i = true) : lowW p f fn hs (i + 1) = ⟨(lowW p f fn hs i).code ++ [⟨10, 0, 0, 0, 0, [], 0, (lowW p f fn hs i).metas.length, i⟩] ++ [irL p f.code[i] i (f.locals + v)], (lowW p f fn hs i).metas ++ [[plainP f fn i v 0]], (lowW p f fn hs i).starts.set i (lowW p f fn hs i).code.length⟩ := by
  have e : hs.getD i (-1) = v := by rw [List.getD_eq_getElem?_getD, hv]; rfl
  have e2 : f.code.getD i ⟨0, 0⟩ = f.code[i] := by rw [List.getD_eq_getElem?_getD, List.getElem?_eq_getElem hi]; rfl
  have hl := (low_len p f fn hs i).1
  unfold lowW
  rw [low_set hl (by omega)]
  simp only [lowS, lowStep, e, e2, if_neg hn, hb, Nat.sub_sub, if_true, List.append_assoc]
  rfl
theorem irL_goes {p : List Fnc} {x : Ins} {pc top : Int} (hk : goesB (irL p x pc top).kind = true) : (x.kind = 12 ∨ x.kind = 13) ∧ (irL p x pc top).k = x.a := by
  by_cases h12 : x.kind = 12
  · simp [irL, h12]
  · by_cases h13 : x.kind = 13
    · simp [irL, h13]
    · exfalso
      unfold irL at hk
      rw [if_neg h12, if_neg h13] at hk
      repeat' split at hk
      all_goals exact absurd hk (by simp [goesB])
theorem low_goes {p : List Fnc} {f : Fnc} {fn : Int} {hs : List Int} (h : HF p f hs) : ∀ {n : Nat}, n ≤ f.code.length → ∀ x ∈ (lowS p f fn hs n).code, goesB x.kind = true → 0 ≤ x.k ∧ x.k < ((f.code.length : Nat) : Int)
  | 0, _, x, hx, _ => by simp [lowS] at hx
  | n + 1, hn, x, hx, hg => by
    have hnl : n < f.code.length := by omega
    have hnh : n < hs.length := by rw [h.hi.len]; exact hnl
    have key : ∀ top : Int, hs[n] ≠ -1 → goesB (irL p f.code[n] n top).kind = true → 0 ≤ (irL p f.code[n] n top).k ∧ (irL p f.code[n] n top).k < ((f.code.length : Nat) : Int) := fun top hne hg => by
      obtain ⟨h1, h2⟩ := irL_goes hg
      rw [h2]
      have h3 := may_jump (fmay_ins (fn_may h.fn) hnl) h1
      have h4 := h.out n hnl _ (List.getElem?_eq_getElem hnh) hne
      refine ⟨h3.1, ?_⟩
      unfold outB at h4
      rw [if_neg (by omega), if_pos h1] at h4
      simpa using h4
    have e : hs.getD n (-1) = hs[n] := by rw [List.getD_eq_getElem?_getD, List.getElem?_eq_getElem hnh]; rfl
    have e2 : f.code.getD n ⟨0, 0⟩ = f.code[n] := by rw [List.getD_eq_getElem?_getD, List.getElem?_eq_getElem hnl]; rfl
    simp only [lowS, lowStep, e, e2] at hx
    split at hx
    · exact low_goes h (by omega) x hx hg
    · rename_i hne
      split at hx
      · simp only [List.mem_append, List.mem_cons, List.not_mem_nil, or_false] at hx
        rcases hx with hx | rfl | rfl
        · exact low_goes h (by omega) x hx hg
        · exact absurd hg (by simp [goesB])
        · exact key _ hne hg
      · simp only [List.mem_append, List.mem_cons, List.not_mem_nil, or_false] at hx
        rcases hx with hx | rfl
        · exact low_goes h (by omega) x hx hg
        · exact key _ hne hg
theorem imp_zsl : Imp .zsl (slI []) := fun m v h => by
  simp only [slI, Rep] at h ⊢
  obtain ⟨a, rfl⟩ := h
  exact ⟨a, 0, rfl, by simp⟩
theorem imp_ir (w : DV) (k mt pc : Int) : ImpL [w, .agg [.int .i64 k, .int .i64 0, .int .i64 0, .int .i64 0, .int .i64 0, .zsl, .int .i64 0, .int .i64 mt, .int .i64 pc]] [w, .agg (⟨k, 0, 0, 0, 0, [], 0, mt, pc⟩ : Irc).c] :=
  ImpL.cons (Imp.refl _) <| ImpL.cons (Imp.agg (ImpL.cons (Imp.refl _) <| ImpL.cons (Imp.refl _) <| ImpL.cons (Imp.refl _) <| ImpL.cons (Imp.refl _) <| ImpL.cons (Imp.refl _) <| ImpL.cons imp_zsl <| ImpL.refl _)) (ImpL.refl _)
theorem lowW_zero (p : List Fnc) (f : Fnc) (fn : Int) (hs : List Int) : lowW p f fn hs 0 = ⟨[], [], List.replicate f.code.length 0⟩ := rfl
set_option maxHeartbeats 1000000 in
theorem Lower_pc {M : DMem} (p : List Fnc) (fn : Int) {R : DV → DMem → Prop}
    (hR : ∀ dc dm M' Sc Sm, SlAt irE M' dc (lowerR p fn).1.code Sc → SlAt metaE M' dm (lowerR p fn).1.metas Sm → (Sc ++ Sm).Nodup → (∀ y ∈ Sc ++ Sm, M y = none) → SubD M M' →
      R (.tup [.agg [.int .i64 (lowerR p fn).1.fn, .int .i64 (lowerR p fn).1.regs, dc, dm], .int .i64 (lowerR p fn).2]) M') : PC Tryd.prog F_lower_Lower [.agg [slD Fnc.c p], .int .i64 fn] R M := by
  refine pc_lower_Lower (by simp) ?_
  simp only [S_lower_Lower, R_lower_Lower, MU_lower_Lower, SW, wpD, evDL, evDM, evD, bldLD, List.contains_cons, List.contains_nil, Nat.reduceBEq, beq_self_eq_true, Nat.reduceMul, Nat.reduceSub, wpSp, Option.bind_some, Option.some.injEq, exists_eq_left', exists_eq_left, reduceIte, if_false, if_true, Nat.reduceEqDiff, Nat.reduceAdd, Nat.reduceLeDiff, Int.reduceEq, Int.reduceLT, Int.reduceLE, Int.reduceToNat, decide_true, decide_false, DV.bool.injEq, DV.int.injEq, DV.mp.injEq, DV.msl.injEq, DV.tup.injEq, DV.agg.injEq, DV.fn.injEq, true_implies, forall_const, reduceCtorEq, implies_true, ne_eq, DMem.mt]
  intro o M1 ho hM1
  refine Pu.pc (All_pu p) ?_
  simp only [S8_lower_Lower, MU_lower_Lower, SW, wpD, evDL, evDM, evD, bldLD, List.contains_cons, List.contains_nil, Nat.reduceBEq, beq_self_eq_true, Nat.reduceMul, Nat.reduceSub, wpSp, Option.bind_some, Option.some.injEq, exists_eq_left', exists_eq_left, reduceIte, if_false, if_true, Nat.reduceEqDiff, Nat.reduceAdd, Nat.reduceLeDiff, Int.reduceEq, Int.reduceLT, Int.reduceLE, Int.reduceToNat, decide_true, decide_false, DV.bool.injEq, DV.int.injEq, DV.mp.injEq, DV.msl.injEq, DV.tup.injEq, DV.agg.injEq, DV.fn.injEq, true_implies, forall_const, reduceCtorEq, implies_true, ne_eq, DMem.mt]
  have hoM : M o = none := ho
  have k1 : SubD M M1 := fun y B hB => by rw [hM1, DMem.ins_ne _ _ (by rintro rfl; rw [hoM] at hB; cases hB)]; exact hB
  have ho1 : M1 o = some ⟨38, 4, [.int .i64 0, .int .i64 0, .zsl, .zsl]⟩ := by rw [hM1, DMem.ins_same]
  clear hM1 ho
  refine ⟨fun hb => ?_, fun hb => ?_⟩
  · have e : lowerR p fn = (cod0, 1100) := by
      unfold lowerR
      rw [if_neg]
      simp only [Bool.or_eq_true, decide_eq_true_eq] at hb
      unfold verifyE
      omega
    rw [e] at hR
    refine stD ho1 rfl rfl (by simp) (by simp) rfl fun M2 hM2 => ?_
    have ho2 : M2 o = some ⟨38, 4, [.int .i64 0, .int .i64 0, .zsl, .zsl]⟩ := by rw [hM2, DMem.ins_same]; rfl
    refine ⟨_, by rw [ho2]; rfl, hR .zsl .zsl M2 [] [] SlAt.nil SlAt.nil List.nodup_nil (fun y hy => by simp at hy) fun y B hB => ?_⟩
    rw [hM2, DMem.ins_ne _ _ (by rintro rfl; rw [hoM] at hB; cases hB)]
    exact k1 y B hB
  · simp only [Bool.or_eq_false_iff, decide_eq_false_iff_not, Decidable.not_not] at hb
    obtain ⟨⟨hv, hf0⟩, hfl⟩ := hb
    obtain ⟨n, rfl⟩ := Int.eq_ofNat_of_zero_le (show 0 ≤ fn by omega)
    have hn : n < p.length := by omega
    have hve : verifyE p = 0 := hv
    obtain ⟨hpk, hall⟩ := verify_ok hve
    have hHF := heights_hf hpk hn (hall n hn)
    have hloc := fn_loc hHF.fn
    have hmay := fn_may hHF.fn
    obtain ⟨hl1, hl2⟩ := fmay_le hmay
    have hp8 := pack_len hpk
    have eR : lowerR p (n : Int) = (lowF p p[n] n, 0) := by
      unfold lowerR
      rw [if_pos ⟨hve, by omega, by omega⟩]
      simp only [Int.toNat_natCast, List.getElem?_eq_getElem hn]
    rw [eR] at hR
    rw [verify_rows hve]
    have e8 : wr64 (p[n].locals + 8) = p[n].locals + 8 := w64 (by omega)
    simp only [ix_slD Fnc.len hn, raw0_lower_Lower, P0_lower_Lower, MU_lower_Lower, e8, SW, wpD, evDL, evDM, evD, bldLD, List.contains_cons, List.contains_nil, Nat.reduceBEq, beq_self_eq_true, Nat.reduceMul, Nat.reduceSub, wpSp, Option.bind_some, Option.some.injEq, exists_eq_left', exists_eq_left, reduceIte, if_false, if_true, Nat.reduceEqDiff, Nat.reduceAdd, Nat.reduceLeDiff, Int.reduceEq, Int.reduceLT, Int.reduceLE, Int.reduceToNat, decide_true, decide_false, DV.bool.injEq, DV.int.injEq, DV.mp.injEq, DV.msl.injEq, DV.tup.injEq, DV.agg.injEq, DV.fn.injEq, true_implies, forall_const, reduceCtorEq, implies_true, ne_eq, DMem.mt]
    refine Write_pc n (p[n].locals + 8) p[n].code.length (by omega) fun wb M2 S hw fS k2 => ?_
    have ho2 := k2 o _ ho1
    have fo : ∀ y ∈ S, y ≠ o := fun y hy => by rintro rfl; have := fS y hy; rw [ho1] at this; cases this
    generalize hhs : (heightsR p (n : Int)).1 = hs at hHF
    simp only [S7_lower_Lower, MU_lower_Lower, ldnI1, SW, wpD, evDL, evDM, evD, bldLD, List.contains_cons, List.contains_nil, Nat.reduceBEq, beq_self_eq_true, Nat.reduceMul, Nat.reduceSub, wpSp, Option.bind_some, Option.some.injEq, exists_eq_left', exists_eq_left, reduceIte, if_false, if_true, Nat.reduceEqDiff, Nat.reduceAdd, Nat.reduceLeDiff, Int.reduceEq, Int.reduceLT, Int.reduceLE, Int.reduceToNat, decide_true, decide_false, DV.bool.injEq, DV.int.injEq, DV.mp.injEq, DV.msl.injEq, DV.tup.injEq, DV.agg.injEq, DV.fn.injEq, true_implies, forall_const, reduceCtorEq, implies_true, ne_eq, DMem.mt]
    refine ⟨fun k δ M' => ∃ (i : Nat) (S' : List Nat), i ≤ p[n].code.length ∧ k = p[n].code.length - i ∧ δ 1 = .int .i64 n ∧ δ 2 = .ip [slD Fnc.c p] ∧ δ 4 = .mp o 0 ∧ δ 5 = .int .i64 0 ∧
        δ 6 = rowsD ((List.range p.length).map (fun i : Nat => (heightsR p (i : Int)).1)) ∧ δ 8 = .ip (.int .i64 p[n].args :: .int .i64 p[n].locals :: slD Ins.c p[n].code :: (p.drop (n + 1)).flatMap Fnc.c) ∧ δ 9 = .mp wb 0 ∧ δ 52 = slD Ins.c p[n].code ∧ δ 53 = .int .i64 p[n].code.length ∧ δ 54 = .int .i64 i ∧
        WrAt M' wb n (p[n].locals + 8) (lowW p p[n] n hs i) S' ∧ (∀ y ∈ S', M1 y = none) ∧ SubD M1 M', p[n].code.length,
      ⟨0, S, Nat.zero_le _, rfl, rfl, rfl, rfl, rfl, rfl, rfl, rfl, rfl, rfl, rfl, hw, fS, k2⟩, ?_⟩
    clear hw fo fS k2 ho2
    rintro k δ M' ⟨i, S', hi, rfl, h1, h2, h4, h5, h6, h8, h9, h52, h53, h54, hw, fS, k2⟩
    simp only [S4_lower_Lower, MU_lower_Lower, h1, h2, h4, h5, h6, h8, h9, h52, h53, h54, SW, wpD, evDL, evDM, evD, bldLD, List.contains_cons, List.contains_nil, Nat.reduceBEq, beq_self_eq_true, Nat.reduceMul, Nat.reduceSub, wpSp, Option.bind_some, Option.some.injEq, exists_eq_left', exists_eq_left, reduceIte, if_false, if_true, Nat.reduceEqDiff, Nat.reduceAdd, Nat.reduceLeDiff, Int.reduceEq, Int.reduceLT, Int.reduceLE, Int.reduceToNat, decide_true, decide_false, DV.bool.injEq, DV.int.injEq, DV.mp.injEq, DV.msl.injEq, DV.tup.injEq, DV.agg.injEq, DV.fn.injEq, true_implies, forall_const, reduceCtorEq, implies_true, ne_eq, DMem.mt, decide_eq_true_eq, decide_eq_false_iff_not]
    refine ⟨fun hlt => ?_, fun hge => ?_⟩
    · have hil : i < p[n].code.length := by omega
      have hix : ixD 1 (rowsD ((List.range p.length).map (fun i : Nat => (heightsR p (i : Int)).1))) (.int .i64 (n : Int)) = some (.ip (slI hs :: (((List.range p.length).map (fun i : Nat => (heightsR p (i : Int)).1)).drop (n + 1)).map slI)) := by
        unfold rowsD
        simp only [ixD, List.length_map, List.length_range]
        rw [if_pos ⟨by omega, by omega⟩, Int.toNat_natCast, Nat.mul_one, List.drop_eq_getElem_cons (by simpa using hn), ← List.map_drop]
        simp only [List.getElem_map, List.getElem_range, hhs]
      have hhl : i < hs.length := by rw [hHF.hi.len]; exact hil
      simp only [ix_slD Ins.len hil, SW, wpD, evDL, evDM, evD, bldLD, List.contains_cons, List.contains_nil, Nat.reduceBEq, beq_self_eq_true, Nat.reduceMul, Nat.reduceSub, wpSp, Option.bind_some, Option.some.injEq, exists_eq_left', exists_eq_left, reduceIte, if_false, if_true, Nat.reduceEqDiff, Nat.reduceAdd, Nat.reduceLeDiff, Int.reduceEq, Int.reduceLT, Int.reduceLE, Int.reduceToNat, decide_true, decide_false, DV.bool.injEq, DV.int.injEq, DV.mp.injEq, DV.msl.injEq, DV.tup.injEq, DV.agg.injEq, DV.fn.injEq, true_implies, forall_const, reduceCtorEq, implies_true, ne_eq, DMem.mt]
      intro q M2 hq hM2
      have hqM : M' q = none := hq
      have hq2 : M2 q = some ⟨24, 2, [.int .i64 0, .int .i64 0]⟩ := by rw [hM2, DMem.ins_same]
      have k3 : SubD M' M2 := fun y B hB => by rw [hM2, DMem.ins_ne _ _ (by rintro rfl; rw [hqM] at hB; cases hB)]; exact hB
      refine stD hq2 rfl rfl (by simp) (by simp) rfl fun M3 hM3 => ?_
      have hq3 : M3 q = some ⟨24, 2, [.int .i64 p[n].code[i].kind, .int .i64 p[n].code[i].a]⟩ := by rw [hM3, DMem.ins_same]; rfl
      have k4 : SubD M' M3 := fun y B hB => by rw [hM3, DMem.ins_ne _ _ (by rintro rfl; rw [hqM] at hB; cases hB)]; exact k3 y B hB
      clear hM2 hM3 hq2 hq k3
      have hw3 : WrAt M3 wb n (p[n].locals + 8) (lowW p p[n] n hs i) S' := hw.sub k4
      have hqS : q ∉ S' := fun hh => hw.here q hh hqM
      have k5 : SubD M1 M3 := fun y B hB => k4 y B (k2 y B hB)
      have ei : wr64 ((i : Int) + 1) = ((i + 1 : Nat) : Int) := w64s (by omega)
      simp only [h1, h6, hix, ix_slI hhl, SW, wpD, evDL, evDM, evD, bldLD, List.contains_cons, List.contains_nil, Nat.reduceBEq, beq_self_eq_true, Nat.reduceMul, Nat.reduceSub, wpSp, Option.bind_some, Option.some.injEq, exists_eq_left', exists_eq_left, reduceIte, if_false, if_true, Nat.reduceEqDiff, Nat.reduceAdd, Nat.reduceLeDiff, Int.reduceEq, Int.reduceLT, Int.reduceLE, Int.reduceToNat, decide_true, decide_false, DV.bool.injEq, DV.int.injEq, DV.mp.injEq, DV.msl.injEq, DV.tup.injEq, DV.agg.injEq, DV.fn.injEq, true_implies, forall_const, reduceCtorEq, implies_true, ne_eq, DMem.mt, decide_eq_true_eq, decide_eq_false_iff_not]
      refine ⟨fun hneg => ?_, fun hpos => ?_⟩
      · try simp only [h1, h2, h4, h5, h6, h8, h9, h52, h53, h54, ei, SW, wpD, evDL, evDM, evD, bldLD, List.contains_cons, List.contains_nil, Nat.reduceBEq, beq_self_eq_true, Nat.reduceMul, Nat.reduceSub, wpSp, Option.bind_some, Option.some.injEq, exists_eq_left', exists_eq_left, reduceIte, if_false, if_true, Nat.reduceEqDiff, Nat.reduceAdd, Nat.reduceLeDiff, Int.reduceEq, Int.reduceLT, Int.reduceLE, Int.reduceToNat, decide_true, decide_false, DV.bool.injEq, DV.int.injEq, DV.mp.injEq, DV.msl.injEq, DV.tup.injEq, DV.agg.injEq, DV.fn.injEq, true_implies, forall_const, reduceCtorEq, implies_true, ne_eq, DMem.mt]
        refine ⟨p[n].code.length - (i + 1), M3, by omega, SubD.refl _, i + 1, S', by omega, rfl, rfl, ?_, fS, k5⟩
        rw [lowW_neg hhl hneg hil trivial]
        exact hw3
      · simp only [S3_lower_Lower, MU_lower_Lower, h1, h2, h4, h5, h6, h8, h9, h52, h53, h54, ei, SW, wpD, evDL, evDM, evD, bldLD, List.contains_cons, List.contains_nil, Nat.reduceBEq, beq_self_eq_true, Nat.reduceMul, Nat.reduceSub, wpSp, Option.bind_some, Option.some.injEq, exists_eq_left', exists_eq_left, reduceIte, if_false, if_true, Nat.reduceEqDiff, Nat.reduceAdd, Nat.reduceLeDiff, Int.reduceEq, Int.reduceLT, Int.reduceLE, Int.reduceToNat, decide_true, decide_false, DV.bool.injEq, DV.int.injEq, DV.mp.injEq, DV.msl.injEq, DV.tup.injEq, DV.agg.injEq, DV.fn.injEq, true_implies, forall_const, reduceCtorEq, implies_true, ne_eq, DMem.mt]
        have hln := low_len p p[n] n hs i
        have hst : i < (lowW p p[n] n hs i).starts.length := by simp only [lowW, List.length_append, List.length_replicate]; omega
        refine At_pc hw3 i hst fun M4 hw4 k6 => ?_
        have hq4 := (k6 q hqS).trans hq3
        have hqn4 : ∀ y B, y ∉ S' → M3 y = some B → M4 y = some B := fun y B hy hB => by rw [k6 y hy]; exact hB
        obtain ⟨hn0, hn8, _⟩ := hHF.hi.val i _ (List.getElem?_eq_getElem hhl) hpos
        have hout := hHF.out i hil _ (List.getElem?_eq_getElem hhl) hpos
        have hmx := fmay_ins hmay hil
        generalize hxe : p[n].code[i] = x at hq3 hq4 hout hmx
        obtain ⟨hh, hhe⟩ := Int.eq_ofNat_of_zero_le hn0
        have hv0 : hs[i]? = some (hh : Int) := by rw [List.getElem?_eq_getElem hhl, hhe]
        simp only [hhe] at *
        simp only [hq4, SW, wpD, evDL, evDM, evD, bldLD, List.contains_cons, List.contains_nil, Nat.reduceBEq, beq_self_eq_true, Nat.reduceMul, Nat.reduceSub, wpSp, Option.bind_some, Option.some.injEq, exists_eq_left', exists_eq_left, reduceIte, if_false, if_true, Nat.reduceEqDiff, Nat.reduceAdd, Nat.reduceLeDiff, Int.reduceEq, Int.reduceLT, Int.reduceLE, Int.reduceToNat, decide_true, decide_false, DV.bool.injEq, DV.int.injEq, DV.mp.injEq, DV.msl.injEq, DV.tup.injEq, DV.agg.injEq, DV.fn.injEq, true_implies, forall_const, reduceCtorEq, implies_true, ne_eq, DMem.mt]
        have hcall : x.kind = 14 → 0 ≤ x.a ∧ x.a < p.length ∧ 0 ≤ argsOf p x.a ∧ argsOf p x.a ≤ 4 := fun hk => by
          have h1 := outB_call hout hk
          have h2 : 0 ≤ x.a := by
            have h3 := hmx
            unfold mayB at h3
            simp only [hk] at h3
            simp at h3; omega
          refine ⟨h2, h1, ?_⟩
          unfold argsOf
          have hlt : x.a.toNat < p.length := by omega
          rw [List.getElem?_eq_getElem hlt]
          exact fnB_args (pack_fn hpk _ (List.getElem_mem hlt))
        have etop : wr64 (p[n].locals + (hh : Int)) = p[n].locals + hh := w64 (by omega)
        have hfz : FrozL [DV.ip [slD Fnc.c p], .agg x.c, .int .i64 (i : Int), .int .i64 (p[n].locals + hh)] := (((FrozL.nil.cons (Froz.int _ _)).cons (Froz.int _ _)).cons (Froz.agg (Ins.froz x))).cons (Froz.ip (FrozL.nil.cons (Froz.slD Fnc.froz p)))
        have hargs : (irL p x i (p[n].locals + hh)).args.length ≤ 100000 := by
          by_cases h14 : x.kind = 14
          · have := hcall h14
            simp only [irL, h14]
            simp; omega
          · have : (irL p x i (p[n].locals + hh)).args = [] := by
              unfold irL
              rw [if_neg h14]
              repeat' split
              all_goals rfl
            rw [this]; decide
        have n4 : ∀ y, M4 y = none → M1 y = none := fun y hy => by
          by_cases hyS : y ∈ S'
          · exact fS y hyS
          · cases e : M1 y with
            | none => rfl
            | some B => have := hqn4 y B hyS (k5 y B e); rw [hy] at this; cases this
        refine ⟨fun hbk => ?_, fun hbk => ?_⟩
        · simp only [h1, h2, h4, h5, h6, h8, h9, h52, h53, h54, SW, wpD, evDL, evDM, evD, bldLD, List.contains_cons, List.contains_nil, Nat.reduceBEq, beq_self_eq_true, Nat.reduceMul, Nat.reduceSub, wpSp, Option.bind_some, Option.some.injEq, exists_eq_left', exists_eq_left, reduceIte, if_false, if_true, Nat.reduceEqDiff, Nat.reduceAdd, Nat.reduceLeDiff, Int.reduceEq, Int.reduceLT, Int.reduceLE, Int.reduceToNat, decide_true, decide_false, DV.bool.injEq, DV.int.injEq, DV.mp.injEq, DV.msl.injEq, DV.tup.injEq, DV.agg.injEq, DV.fn.injEq, true_implies, forall_const, reduceCtorEq, implies_true, ne_eq, DMem.mt]
          have hfp : FrozL [DV.ip [slD Fnc.c p], .int .i64 (n : Int), .int .i64 (i : Int), .int .i64 (hh : Int), .int .i64 0] := ((((FrozL.nil.cons (Froz.int _ _)).cons (Froz.int _ _)).cons (Froz.int _ _)).cons (Froz.int _ _)).cons (Froz.ip (FrozL.nil.cons (Froz.slD Fnc.froz p)))
          refine Pt.pc (by rw [fzmap_froz hfp]; exact Plain_pt p n i hh 0 hn (by omega) (by omega) (by omega)) ?_
          simp only [S2_lower_Lower, MU_lower_Lower, h1, h2, h4, h5, h6, h8, h9, h52, h53, h54, SW, wpD, evDL, evDM, evD, bldLD, List.contains_cons, List.contains_nil, Nat.reduceBEq, beq_self_eq_true, Nat.reduceMul, Nat.reduceSub, wpSp, Option.bind_some, Option.some.injEq, exists_eq_left', exists_eq_left, reduceIte, if_false, if_true, Nat.reduceEqDiff, Nat.reduceAdd, Nat.reduceLeDiff, Int.reduceEq, Int.reduceLT, Int.reduceLE, Int.reduceToNat, decide_true, decide_false, DV.bool.injEq, DV.int.injEq, DV.mp.injEq, DV.msl.injEq, DV.tup.injEq, DV.agg.injEq, DV.fn.injEq, true_implies, forall_const, reduceCtorEq, implies_true, ne_eq, DMem.mt]
          have hsl : DV.isl 1 (plainP p[n] n i hh 0).c = slD Part.c [plainP p[n] n i hh 0] := by simp [slD]
          have hcl : ClP M4 (.isl 1 (plainP p[n] n i hh 0).c) [plainP p[n] n i hh 0] := by rw [hsl]; exact ClP.isl (by simp)
          have hsz : SizeM [plainP p[n] n i hh 0] := by
            refine ⟨by simp, fun x hx => ?_⟩
            simp only [List.mem_cons, List.not_mem_nil, or_false] at hx
            subst hx
            simp only [plainP, rowS, List.length_map, List.length_range, Int.toNat_natCast]
            omega
          refine Meta_pc hw4 _ hsz hcl (by simp only [lowW]; omega) fun M5 S5 hw5 keep5 in5 => ?_
          simp only [S1_lower_Lower, MU_lower_Lower, h1, h2, h4, h5, h6, h8, h9, h52, h53, h54, SW, wpD, evDL, evDM, evD, bldLD, List.contains_cons, List.contains_nil, Nat.reduceBEq, beq_self_eq_true, Nat.reduceMul, Nat.reduceSub, wpSp, Option.bind_some, Option.some.injEq, exists_eq_left', exists_eq_left, reduceIte, if_false, if_true, Nat.reduceEqDiff, Nat.reduceAdd, Nat.reduceLeDiff, Int.reduceEq, Int.reduceLT, Int.reduceLE, Int.reduceToNat, decide_true, decide_false, DV.bool.injEq, DV.int.injEq, DV.mp.injEq, DV.msl.injEq, DV.tup.injEq, DV.agg.injEq, DV.fn.injEq, true_implies, forall_const, reduceCtorEq, implies_true, ne_eq, DMem.mt]
          refine PC.weak (Put_pc hw5 ⟨10, 0, 0, 0, 0, [], 0, (lowW p p[n] n hs i).metas.length, i⟩ (by simp only [lowW]; omega) (by simp) fun M6 S6 hw6 keep6 in6 => ?_) (imp_ir _ _ _ _)
          have hq0 : ∀ {y : Nat}, M4 y ≠ none → y ∉ S' → y ∉ S5 := fun {y} hy h1 h2 => by
            rcases in5 y h2 with h | h
            · exact h1 h
            · exact hy h
          have keep56 : ∀ y B, y ∉ S' → M4 y = some B → M6 y = some B := fun y B hy hB => keep6 y B (hq0 (by rw [hB]; simp) hy) (keep5 y B hy hB)
          have hq6 := keep56 q _ hqS hq4
          have n5 : ∀ y, M5 y = none → M1 y = none := fun y hy => by
            by_cases hyS : y ∈ S'
            · exact fS y hyS
            · refine n4 y ?_
              cases e : M4 y with
              | none => rfl
              | some B => rw [keep5 y B hyS e] at hy; cases hy
          have f5 : ∀ y ∈ S5, M1 y = none := fun y hy => by
            rcases in5 y hy with h | h
            · exact fS y h
            · exact n4 y h
          have n6 : ∀ y, M6 y = none → M1 y = none := fun y hy => by
            by_cases hyS : y ∈ S5
            · exact f5 y hyS
            · refine n5 y ?_
              cases e : M5 y with
              | none => rfl
              | some B => rw [keep6 y B hyS e] at hy; cases hy
          have f6 : ∀ y ∈ S6, M1 y = none := fun y hy => by
            rcases in6 y hy with h | h
            · exact f5 y h
            · exact n5 y h
          simp only [raw1_lower_Lower, P1_lower_Lower, MU_lower_Lower, h1, h2, h4, h5, h6, h8, h9, h52, h53, h54, hq6, ldnM, etop, SW, wpD, evDL, evDM, evD, bldLD, List.contains_cons, List.contains_nil, Nat.reduceBEq, beq_self_eq_true, Nat.reduceMul, Nat.reduceSub, wpSp, Option.bind_some, Option.some.injEq, exists_eq_left', exists_eq_left, reduceIte, if_false, if_true, Nat.reduceEqDiff, Nat.reduceAdd, Nat.reduceLeDiff, Int.reduceEq, Int.reduceLT, Int.reduceLE, Int.reduceToNat, decide_true, decide_false, DV.bool.injEq, DV.int.injEq, DV.mp.injEq, DV.msl.injEq, DV.tup.injEq, DV.agg.injEq, DV.fn.injEq, true_implies, forall_const, reduceCtorEq, implies_true, ne_eq, DMem.mt]
          refine Pt.pc (by rw [fzmap_froz hfz]; exact ins_pt p x i (p[n].locals + hh) hmx (by omega) hcall) ?_
          refine Put_pc hw6 (irL p x i (p[n].locals + hh)) (by simp only [lowW, List.length_append, List.length_cons, List.length_nil]; omega) hargs fun M7 S7 hw7 keep7 in7 => ?_
          refine ⟨p[n].code.length - (i + 1), M7, by omega, SubD.refl _, i + 1, S7, by omega, rfl, ei, ?_, fun y hy => ?_, fun y B hB => ?_⟩
          · rw [lowW_back (v := (hh : Int)) hv0 (by omega) hil (by rw [hxe]; exact hbk), hxe]
            exact hw7
          · rcases in7 y hy with h | h
            · exact f6 y h
            · exact n6 y h
          · have hyS : y ∉ S' := fun hh => by rw [fS y hh] at hB; cases hB
            have hyS6 : y ∉ S6 := fun hh => by rw [f6 y hh] at hB; cases hB
            exact keep7 y B hyS6 (keep56 y B hyS (hqn4 y B hyS (k5 y B hB)))
        · simp only [raw1_lower_Lower, P1_lower_Lower, MU_lower_Lower, h1, h2, h4, h5, h6, h8, h9, h52, h53, h54, hq4, ldnM, etop, SW, wpD, evDL, evDM, evD, bldLD, List.contains_cons, List.contains_nil, Nat.reduceBEq, beq_self_eq_true, Nat.reduceMul, Nat.reduceSub, wpSp, Option.bind_some, Option.some.injEq, exists_eq_left', exists_eq_left, reduceIte, if_false, if_true, Nat.reduceEqDiff, Nat.reduceAdd, Nat.reduceLeDiff, Int.reduceEq, Int.reduceLT, Int.reduceLE, Int.reduceToNat, decide_true, decide_false, DV.bool.injEq, DV.int.injEq, DV.mp.injEq, DV.msl.injEq, DV.tup.injEq, DV.agg.injEq, DV.fn.injEq, true_implies, forall_const, reduceCtorEq, implies_true, ne_eq, DMem.mt]
          refine Pt.pc (by rw [fzmap_froz hfz]; exact ins_pt p x i (p[n].locals + hh) hmx (by omega) hcall) ?_
          refine Put_pc hw4 (irL p x i (p[n].locals + hh)) (by simp only [lowW]; omega) hargs fun M5 S5 hw5 keep5 in5 => ?_
          refine ⟨p[n].code.length - (i + 1), M5, by omega, SubD.refl _, i + 1, S5, by omega, rfl, ei, ?_, fun y hy => ?_, fun y B hB => ?_⟩
          · rw [lowW_put (v := (hh : Int)) hv0 (by omega) hil (by rw [hxe]; exact hbk), hxe]
            exact hw5
          · rcases in5 y hy with h | h
            · exact fS y h
            · exact n4 y h
          · have hyS : y ∉ S' := fun hh => by rw [fS y hh] at hB; cases hB
            exact keep5 y B hyS (hqn4 y B hyS (k5 y B hB))
    · have : i = p[n].code.length := by omega
      subst this
      simp only [S6_lower_Lower, MU_lower_Lower, h1, h2, h4, h5, h9, SW, wpD, evDL, evDM, evD, bldLD, List.contains_cons, List.contains_nil, Nat.reduceBEq, beq_self_eq_true, Nat.reduceMul, Nat.reduceSub, wpSp, Option.bind_some, Option.some.injEq, exists_eq_left', exists_eq_left, reduceIte, if_false, if_true, Nat.reduceEqDiff, Nat.reduceAdd, Nat.reduceLeDiff, Int.reduceEq, Int.reduceLT, Int.reduceLE, Int.reduceToNat, decide_true, decide_false, DV.bool.injEq, DV.int.injEq, DV.mp.injEq, DV.msl.injEq, DV.tup.injEq, DV.agg.injEq, DV.fn.injEq, true_implies, forall_const, reduceCtorEq, implies_true, ne_eq, DMem.mt]
      have hln := low_len p p[n] n hs p[n].code.length
      have hst : (lowW p p[n] n hs p[n].code.length).starts = (lowS p p[n] n hs p[n].code.length).starts := by simp [lowW]
      have hlF : lowF p p[n] n = ⟨n, p[n].locals + 8, (lowS p p[n] n hs p[n].code.length).code.map (placed (lowS p p[n] n hs p[n].code.length).starts), (lowS p p[n] n hs p[n].code.length).metas⟩ := by unfold lowF; rw [hhs]
      refine Done_pc hw (by simp only [lowW]; omega) (by simp only [lowW]; omega) (fun x hx hg => ?_) fun dc dm M5 Sc Sm hc hm nd hin keep => ?_
      · rw [hst, hln.1]
        exact low_goes hHF (Nat.le_refl _) x hx hg
      · rw [hst] at hc
        have ho' := k2 o _ ho1
        have hoS : o ∉ S' := fun hh => by have := fS o hh; rw [ho1] at this; cases this
        have ho5 := keep o _ hoS ho'
        have hl4 : ∀ K : DMem, ldnD K 4 (.ip [.int .i64 n, .int .i64 (p[n].locals + 8), dc, dm]) = some (.agg [.int .i64 n, .int .i64 (p[n].locals + 8), dc, dm]) := fun _ => rfl
        simp only [S5_lower_Lower, MU_lower_Lower, h1, h2, h4, h5, h9, hc.cell, hm.cell, hc.plain, hm.plain, hl4, ldnI1, SW, wpD, evDL, evDM, evD, bldLD, List.contains_cons, List.contains_nil, Nat.reduceBEq, beq_self_eq_true, Nat.reduceMul, Nat.reduceSub, wpSp, Option.bind_some, Option.some.injEq, exists_eq_left', exists_eq_left, reduceIte, if_false, if_true, Nat.reduceEqDiff, Nat.reduceAdd, Nat.reduceLeDiff, Int.reduceEq, Int.reduceLT, Int.reduceLE, Int.reduceToNat, decide_true, decide_false, DV.bool.injEq, DV.int.injEq, DV.mp.injEq, DV.msl.injEq, DV.tup.injEq, DV.agg.injEq, DV.fn.injEq, true_implies, forall_const, reduceCtorEq, implies_true, ne_eq, DMem.mt]
        refine stD ho5 rfl rfl (by simp) (by simp) (by simp only [List.all_cons, List.all_nil, hc.plain, hm.plain]; rfl) fun M6 hM6 => ?_
        have ho6 : M6 o = some ⟨38, 4, [.int .i64 n, .int .i64 (p[n].locals + 8), dc, dm]⟩ := by rw [hM6, DMem.ins_same]; rfl
        have n6 : ∀ y, y ≠ o → M6 y = M5 y := fun y hy => by rw [hM6, DMem.ins_ne _ _ hy]
        have hoin : ∀ y ∈ Sc ++ Sm, y ≠ o := fun y hy => by rintro rfl; exact hoS (hin y hy)
        refine ⟨_, by rw [ho6]; rfl, ?_⟩
        rw [hlF] at hR
        refine hR dc dm M6 Sc Sm (hc.frame irE_ok fun y hy => n6 y (hoin y (by simp [hy]))) (hm.frame metaE_ok fun y hy => n6 y (hoin y (by simp [hy]))) nd (fun y hy => ?_) fun y B hB => ?_
        · have := fS y (hin y hy)
          cases e : M y with
          | none => rfl
          | some B => have h3 := k1 y B e; rw [this] at h3; cases h3
        · have hyo : y ≠ o := by rintro rfl; rw [hoM] at hB; cases hB
          rw [n6 y hyo]
          exact keep y B (fun hh => by have := fS y hh; rw [k1 y B hB] at this; cases this) (k2 y B (k1 y B hB))
end Go.Proofs.YtpehdlobicocpaaDoor.Pf
