/- Flows: the law at every input. No condition. -/
import Derived.Test.YtggejjeneoaakaaQj
namespace Go.Proofs.Ytggejjeneoaakaa.Pf
open Go Go.RowKit Go.Proofs Go.Proofs.Ytggejjeneoaakaa.Mw Go.Proofs.Ytggejjeneoaakaa.Sx
set_option linter.unusedVariables false
set_option linter.unusedSimpArgs false
set_option maxRecDepth 4000
theorem Fnc.len (f : Fnc) : f.c.length = 3 := rfl
theorem fz_prg (M : DMem) (k : Nat) (l : List Fnc) : fz M k (slD Fnc.c l) = slD Fnc.c l := (Froz.slD Fnc.froz l).fz M k
def SzF (f : Fnc) : Prop := f.code.length * 16 ≤ 140737488351232
def SzP (l : List Fnc) : Prop := l.length * 40 ≤ 140737488351232 ∧ ∀ f ∈ l, SzF f
theorem nextR_small (f : Fnc) (pc : Int) : (nextR f pc).1.length ≤ 2 := by
  unfold nextR; split
  · exact nextF_len f _
  · simp
theorem leadR_small (f : Fnc) : (leadR f).1.length ≤ 64 := by
  unfold leadR; split
  · rename_i h; rw [leadF, leadL_len]; exact (fmay_le h).2
  · simp
theorem reachR_small (f : Fnc) : (reachR f).1.length ≤ 64 := by
  unfold reachR; split
  · rename_i h; rw [reachF, reachB_len]; exact (fmay_le h).2
  · simp
theorem Lent.or {M M2 : DMem} {d : DV} {l : List Ins} (h : Lent M d l) : Lent (M.or M2) d l := by
  obtain ⟨b, c, ty, rfl, hM, hc⟩ := h
  exact ⟨b, c, ty, rfl, DMem.or_left hM, hc⟩
theorem Lent.imp {M : DMem} {d : DV} {f : Fnc} (h : Lent M d f.code) : Imp (Mw.fz M 4 (.agg [.int .i64 f.args, .int .i64 f.locals, d])) (.agg f.c) := by
  obtain ⟨rest, e, _, _⟩ := h.fz
  rw [fz_agg]
  simp only [List.map_cons, List.map_nil, e, fz_int]
  exact Imp.agg (ImpL.cons (Imp.refl _) (ImpL.cons (Imp.refl _) (ImpL.cons Imp.isl (ImpL.refl _))))
theorem Lent.cells {M : DMem} {d : DV} {l : List Ins} (h : Lent M d l) : cellsD d = some [d] := by obtain ⟨b, c, ty, rfl, _⟩ := h; rfl
theorem Lent.plain {M : DMem} {d : DV} {l : List Ins} (h : Lent M d l) : plainD d = true := by obtain ⟨b, c, ty, rfl, _⟩ := h; rfl
theorem Next_own {M : DMem} {d : DV} {f : Fnc} (h : Lent M d f.code) (pc : Int) {R : DV → DMem → Prop} (hR : ∀ d0 M2, NewI M2 d0 (nextR f pc).1 → (∀ b, M b ≠ none → M2 b = none) → R (.tup [d0, .int .i64 (nextR f pc).2]) (M.or M2)) :
    PC Try.prog F_flow_Next [.agg [.int .i64 f.args, .int .i64 f.locals, d], .int .i64 pc] R M := by
  refine PC.seal (R := fun d1 M2 => ∃ d0, d1 = .tup [d0, .int .i64 (nextR f pc).2] ∧ NewI M2 d0 (nextR f pc).1) ?_ ?_ ?_
  · refine PC.weak (Next_pc f pc fun d0 M2 h2 => ⟨d0, rfl, h2⟩) (ImpL.cons h.imp (ImpL.cons ?_ (ImpL.refl _)))
    rw [fz_int]; exact Imp.refl _
  · rintro d1 M2 ⟨d0, rfl, h2⟩
    obtain ⟨a, b⟩ := h2.thaw
    exact ⟨by simp only [thawed, thawedL, a]; rfl, b⟩
  · rintro d1 M2 ⟨d0, rfl, h2⟩ hd
    exact hR d0 M2 h2 hd
theorem Leaders_own {M : DMem} {d : DV} {f : Fnc} (h : Lent M d f.code) {R : DV → DMem → Prop} (hR : R (.tup [slB (leadR f).1, .int .i64 (leadR f).2]) M) : PC Try.prog F_flow_Leaders [.agg [.int .i64 f.args, .int .i64 f.locals, d]] R M :=
  Pt.pc (by exact (Leaders_pt f).weak (ImpL.cons h.imp (ImpL.refl []))) hR
theorem Reached_own {M : DMem} {d : DV} {f : Fnc} (h : Lent M d f.code) {R : DV → DMem → Prop} (hR : R (.tup [slB (reachR f).1, .int .i64 (reachR f).2]) M) : PC Try.prog F_flow_Reached [.agg [.int .i64 f.args, .int .i64 f.locals, d]] R M :=
  Pt.pc (by exact (Reached_pt f).weak (ImpL.cons h.imp (ImpL.refl []))) hR
/-- As it reads. -/
theorem NewI.same {M : DMem} {d : DV} {l : List Int} (h : NewI M d l) {M0 : DMem} (hd : ∀ b, M0 b ≠ none → M b = none) (hs : l.length ≤ 64) : pf Try.prog F_swagelaw0_SameInts [fz (M0.or M) 4 d, slI l] = some (.bool true) := by
  have := SameInts_pf l l (by omega)
  rw [decide_eq_true rfl] at this
  obtain ⟨rfl, rfl, rfl⟩ | ⟨b, n, rest, rfl, hl, rfl⟩ := h
  · exact this
  · have hb : M0 b = none := by
      cases h0 : M0 b with
      | none => rfl
      | some C => have := hd b (by rw [h0]; simp); rw [DMem.ins_same] at this; cases this
    rw [fz_msl (show (M0.or _) b = some _ by rw [DMem.or_right hb, DMem.ins_same]) 3 0 _ _ hl]
    simp only [List.drop_zero, List.map_append, List.map_map]
    exact pf_weak this ((FrozL.nil.cons (Froz.slI l)).cons (Froz.isl ((FrozL.map (fun x => Froz.int _ x) l).append (FrozL.map (fun x => Froz.int _ x) rest)))) ((ImpL.refl _).cons Imp.isl)
/-- Written over, nothing else is turned. -/
theorem NewI.spoil {M : DMem} {d : DV} {l : List Int} (h : NewI M d l) {M0 : DMem} (hd : ∀ b, M0 b ≠ none → M b = none) (hs : l.length ≤ 64) {R : DV → DMem → Prop} (hR : ∀ v M', SubD M0 M' → R v M') : PC Try.prog F_swagelaw0_SpoilInts [d] R (M0.or M) := by
  obtain ⟨rfl, rfl, rfl⟩ | ⟨b, n, rest, rfl, hl, rfl⟩ := h
  · exact SpoilInts_zsl fun v => hR v _ (SubD.or_left _ _)
  · have hb : M0 b = none := by
      cases h0 : M0 b with
      | none => rfl
      | some C => have := hd b (by rw [h0]; simp); rw [DMem.ins_same] at this; cases this
    refine SpoilInts_pc (l := l) (rest := rest) (show (M0.or _) b = some _ by rw [DMem.or_right hb, DMem.ins_same]) rfl hl (by omega) fun M' v hk _ => hR v M' fun x B hx => ?_
    · have hxb : x ≠ b := by rintro rfl; rw [hb] at hx; cases hx
      rw [hk x hxb, DMem.or_left hx]
theorem Lent.sub {M M2 : DMem} {d : DV} {l : List Ins} (h : Lent M d l) (hs : SubD M M2) : Lent M2 d l := by
  obtain ⟨b, c, ty, rfl, hM, hc⟩ := h
  exact ⟨b, c, ty, rfl, hs b _ hM, hc⟩
theorem Flows_pc (fs : List Fnc) (which pc : Int) (hs : SzP fs) : PC Try.prog F_swagelaw4_Flows [.agg [slD Fnc.c fs], .int .i64 which, .int .i64 pc] (fun d _ => d = .bool true) DMem.mt := by
  refine pc_swagelaw4_Flows (by simp) ?_
  simp only [S_swagelaw4_Flows, R_swagelaw4_Flows, MU_swagelaw4_Flows, awake4_pf, SW, wpD, evDL, evDM, evD, bldLD, List.contains_cons, List.contains_nil, Nat.reduceBEq, beq_self_eq_true, Nat.reduceMul, Nat.reduceSub, wpSp, Option.bind_some, Option.some.injEq, exists_eq_left', exists_eq_left, reduceIte, if_false, if_true, Nat.reduceEqDiff, Nat.reduceAdd, Nat.reduceLeDiff, Int.reduceEq, Int.reduceLT, Int.reduceLE, Int.reduceToNat, decide_true, decide_false, DV.bool.injEq, DV.int.injEq, DV.mp.injEq, DV.msl.injEq, DV.tup.injEq, DV.agg.injEq, DV.fn.injEq, true_implies, forall_const, reduceCtorEq, implies_true, ne_eq, DMem.mt, decide_eq_true_eq, decide_eq_false_iff_not]
  refine fun hne => ?_
  have hpos : 0 < fs.length := by omega
  have hlen : fs.length < 9223372036854775807 := by have := hs.1; omega
  have el : ((fs.length : Int) % 18446744073709551616) = fs.length := Int.emod_eq_of_lt (by omega) (by omega)
  have hr := tmod_bnd which fs.length (by omega)
  have hne' : ¬ ((fs.length : Int) = 0) := by omega
  simp only [raw0_swagelaw4_Flows, P0_swagelaw4_Flows, MU_swagelaw4_Flows, el, hne', SW, wpD, evDL, evDM, evD, bldLD, List.contains_cons, List.contains_nil, Nat.reduceBEq, beq_self_eq_true, Nat.reduceMul, Nat.reduceSub, wpSp, Option.bind_some, Option.some.injEq, exists_eq_left', exists_eq_left, reduceIte, if_false, if_true, Nat.reduceEqDiff, Nat.reduceAdd, Nat.reduceLeDiff, Int.reduceEq, Int.reduceLT, Int.reduceLE, Int.reduceToNat, decide_true, decide_false, DV.bool.injEq, DV.int.injEq, DV.mp.injEq, DV.msl.injEq, DV.tup.injEq, DV.agg.injEq, DV.fn.injEq, true_implies, forall_const, reduceCtorEq, implies_true, ne_eq, DMem.mt]
  generalize (which % 18446744073709551616).tmod (fs.length : Int) = r at hr ⊢
  obtain ⟨n, rfl⟩ := Int.eq_ofNat_of_zero_le hr.1
  have hn : n < fs.length := by omega
  clear el
  rw [w64n n (by omega)]
  have hsz : SzF fs[n] := hs.2 _ (List.getElem_mem hn)
  simp only [ix_slD Fnc.len hn, SW, wpD, evDL, evDM, evD, bldLD, List.contains_cons, List.contains_nil, Nat.reduceBEq, beq_self_eq_true, Nat.reduceMul, Nat.reduceSub, wpSp, Option.bind_some, Option.some.injEq, exists_eq_left', exists_eq_left, reduceIte, if_false, if_true, Nat.reduceEqDiff, Nat.reduceAdd, Nat.reduceLeDiff, Int.reduceEq, Int.reduceLT, Int.reduceLE, Int.reduceToNat, decide_true, decide_false, DV.bool.injEq, DV.int.injEq, DV.mp.injEq, DV.msl.injEq, DV.tup.injEq, DV.agg.injEq, DV.fn.injEq, true_implies, forall_const, reduceCtorEq, implies_true, ne_eq, DMem.mt]
  generalize fs[n] = f at hsz ⊢
  simp only [S10_swagelaw4_Flows, MU_swagelaw4_Flows, raw1_swagelaw4_Flows, P1_swagelaw4_Flows, SW, wpD, evDL, evDM, evD, bldLD, List.contains_cons, List.contains_nil, Nat.reduceBEq, beq_self_eq_true, Nat.reduceMul, Nat.reduceSub, wpSp, Option.bind_some, Option.some.injEq, exists_eq_left', exists_eq_left, reduceIte, if_false, if_true, Nat.reduceEqDiff, Nat.reduceAdd, Nat.reduceLeDiff, Int.reduceEq, Int.reduceLT, Int.reduceLE, Int.reduceToNat, decide_true, decide_false, DV.bool.injEq, DV.int.injEq, DV.mp.injEq, DV.msl.injEq, DV.tup.injEq, DV.agg.injEq, DV.fn.injEq, true_implies, forall_const, reduceCtorEq, implies_true, ne_eq, DMem.mt]
  refine LendInss_pc hsz fun d M1 hd _ => ?_
  simp only [S9_swagelaw4_Flows, MU_swagelaw4_Flows, hd.cells, hd.plain, SW, wpD, evDL, evDM, evD, bldLD, List.contains_cons, List.contains_nil, Nat.reduceBEq, beq_self_eq_true, Nat.reduceMul, Nat.reduceSub, wpSp, Option.bind_some, Option.some.injEq, exists_eq_left', exists_eq_left, reduceIte, if_false, if_true, Nat.reduceEqDiff, Nat.reduceAdd, Nat.reduceLeDiff, Int.reduceEq, Int.reduceLT, Int.reduceLE, Int.reduceToNat, decide_true, decide_false, DV.bool.injEq, DV.int.injEq, DV.mp.injEq, DV.msl.injEq, DV.tup.injEq, DV.agg.injEq, DV.fn.injEq, true_implies, forall_const, reduceCtorEq, implies_true, ne_eq, DMem.mt]
  refine Next_own hd pc fun d0 M2 hd0 hdis => ?_
  have hd2 := hd.or (M2 := M2)
  simp only [S8_swagelaw4_Flows, MU_swagelaw4_Flows, SW, wpD, evDL, evDM, evD, bldLD, List.contains_cons, List.contains_nil, Nat.reduceBEq, beq_self_eq_true, Nat.reduceMul, Nat.reduceSub, wpSp, Option.bind_some, Option.some.injEq, exists_eq_left', exists_eq_left, reduceIte, if_false, if_true, Nat.reduceEqDiff, Nat.reduceAdd, Nat.reduceLeDiff, Int.reduceEq, Int.reduceLT, Int.reduceLE, Int.reduceToNat, decide_true, decide_false, DV.bool.injEq, DV.int.injEq, DV.mp.injEq, DV.msl.injEq, DV.tup.injEq, DV.agg.injEq, DV.fn.injEq, true_implies, forall_const, reduceCtorEq, implies_true, ne_eq, DMem.mt]
  refine Pu.pc (NextR_pu f pc) ?_
  simp only [S7_swagelaw4_Flows, MU_swagelaw4_Flows, SW, wpD, evDL, evDM, evD, bldLD, List.contains_cons, List.contains_nil, Nat.reduceBEq, beq_self_eq_true, Nat.reduceMul, Nat.reduceSub, wpSp, Option.bind_some, Option.some.injEq, exists_eq_left', exists_eq_left, reduceIte, if_false, if_true, Nat.reduceEqDiff, Nat.reduceAdd, Nat.reduceLeDiff, Int.reduceEq, Int.reduceLT, Int.reduceLE, Int.reduceToNat, decide_true, decide_false, DV.bool.injEq, DV.int.injEq, DV.mp.injEq, DV.msl.injEq, DV.tup.injEq, DV.agg.injEq, DV.fn.injEq, true_implies, forall_const, reduceCtorEq, implies_true, ne_eq, DMem.mt]
  refine Leaders_own hd2 ?_
  simp only [S6_swagelaw4_Flows, MU_swagelaw4_Flows, SW, wpD, evDL, evDM, evD, bldLD, List.contains_cons, List.contains_nil, Nat.reduceBEq, beq_self_eq_true, Nat.reduceMul, Nat.reduceSub, wpSp, Option.bind_some, Option.some.injEq, exists_eq_left', exists_eq_left, reduceIte, if_false, if_true, Nat.reduceEqDiff, Nat.reduceAdd, Nat.reduceLeDiff, Int.reduceEq, Int.reduceLT, Int.reduceLE, Int.reduceToNat, decide_true, decide_false, DV.bool.injEq, DV.int.injEq, DV.mp.injEq, DV.msl.injEq, DV.tup.injEq, DV.agg.injEq, DV.fn.injEq, true_implies, forall_const, reduceCtorEq, implies_true, ne_eq, DMem.mt]
  refine Pu.pc (LeadersR_pu f) ?_
  simp only [S5_swagelaw4_Flows, MU_swagelaw4_Flows, SW, wpD, evDL, evDM, evD, bldLD, List.contains_cons, List.contains_nil, Nat.reduceBEq, beq_self_eq_true, Nat.reduceMul, Nat.reduceSub, wpSp, Option.bind_some, Option.some.injEq, exists_eq_left', exists_eq_left, reduceIte, if_false, if_true, Nat.reduceEqDiff, Nat.reduceAdd, Nat.reduceLeDiff, Int.reduceEq, Int.reduceLT, Int.reduceLE, Int.reduceToNat, decide_true, decide_false, DV.bool.injEq, DV.int.injEq, DV.mp.injEq, DV.msl.injEq, DV.tup.injEq, DV.agg.injEq, DV.fn.injEq, true_implies, forall_const, reduceCtorEq, implies_true, ne_eq, DMem.mt]
  refine Reached_own hd2 ?_
  simp only [S4_swagelaw4_Flows, MU_swagelaw4_Flows, SW, wpD, evDL, evDM, evD, bldLD, List.contains_cons, List.contains_nil, Nat.reduceBEq, beq_self_eq_true, Nat.reduceMul, Nat.reduceSub, wpSp, Option.bind_some, Option.some.injEq, exists_eq_left', exists_eq_left, reduceIte, if_false, if_true, Nat.reduceEqDiff, Nat.reduceAdd, Nat.reduceLeDiff, Int.reduceEq, Int.reduceLT, Int.reduceLE, Int.reduceToNat, decide_true, decide_false, DV.bool.injEq, DV.int.injEq, DV.mp.injEq, DV.msl.injEq, DV.tup.injEq, DV.agg.injEq, DV.fn.injEq, true_implies, forall_const, reduceCtorEq, implies_true, ne_eq, DMem.mt]
  refine Pu.pc (ReachedR_pu f) ?_
  simp only [S3_swagelaw4_Flows, MU_swagelaw4_Flows, fz_slI, fz_slB, NumF_pf, hd0.same hdis (Nat.le_trans (nextR_small f pc) (by decide)), SameBools_pf _ _ (Nat.le_trans (leadR_small f) (by decide)), SameBools_pf _ _ (Nat.le_trans (reachR_small f) (by decide)), SW, wpD, evDL, evDM, evD, bldLD, List.contains_cons, List.contains_nil, Nat.reduceBEq, beq_self_eq_true, Nat.reduceMul, Nat.reduceSub, wpSp, Option.bind_some, Option.some.injEq, exists_eq_left', exists_eq_left, reduceIte, if_false, if_true, Nat.reduceEqDiff, Nat.reduceAdd, Nat.reduceLeDiff, Int.reduceEq, Int.reduceLT, Int.reduceLE, Int.reduceToNat, decide_true, decide_false, DV.bool.injEq, DV.int.injEq, DV.mp.injEq, DV.msl.injEq, DV.tup.injEq, DV.agg.injEq, DV.fn.injEq, true_implies, forall_const, reduceCtorEq, implies_true, ne_eq, DMem.mt]
  refine hd0.spoil hdis (Nat.le_trans (nextR_small f pc) (by decide)) fun v M3 hM3 => ?_
  have hd3 := hd.sub hM3
  simp only [S2_swagelaw4_Flows, MU_swagelaw4_Flows, SW, wpD, evDL, evDM, evD, bldLD, List.contains_cons, List.contains_nil, Nat.reduceBEq, beq_self_eq_true, Nat.reduceMul, Nat.reduceSub, wpSp, Option.bind_some, Option.some.injEq, exists_eq_left', exists_eq_left, reduceIte, if_false, if_true, Nat.reduceEqDiff, Nat.reduceAdd, Nat.reduceLeDiff, Int.reduceEq, Int.reduceLT, Int.reduceLE, Int.reduceToNat, decide_true, decide_false, DV.bool.injEq, DV.int.injEq, DV.mp.injEq, DV.msl.injEq, DV.tup.injEq, DV.agg.injEq, DV.fn.injEq, true_implies, forall_const, reduceCtorEq, implies_true, ne_eq, DMem.mt]
  refine KeptInss_pc hsz hd3 ?_
  simp only [S1_swagelaw4_Flows, MU_swagelaw4_Flows, awake4_pf, SW, wpD, evDL, evDM, evD, bldLD, List.contains_cons, List.contains_nil, Nat.reduceBEq, beq_self_eq_true, Nat.reduceMul, Nat.reduceSub, wpSp, Option.bind_some, Option.some.injEq, exists_eq_left', exists_eq_left, reduceIte, if_false, if_true, Nat.reduceEqDiff, Nat.reduceAdd, Nat.reduceLeDiff, Int.reduceEq, Int.reduceLT, Int.reduceLE, Int.reduceToNat, decide_true, decide_false, DV.bool.injEq, DV.int.injEq, DV.mp.injEq, DV.msl.injEq, DV.tup.injEq, DV.agg.injEq, DV.fn.injEq, true_implies, forall_const, reduceCtorEq, implies_true, ne_eq, DMem.mt]
end Go.Proofs.Ytggejjeneoaakaa.Pf
