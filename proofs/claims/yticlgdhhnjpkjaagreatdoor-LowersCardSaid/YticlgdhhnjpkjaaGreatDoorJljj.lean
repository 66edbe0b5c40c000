/- Za Fp Xa Xb: joined texts of this claim. No condition. -/
import Derived.Test.YticlgdhhnjpkjaaGreatDoorJljh
import Derived.Test.YticlgdhhnjpkjaaGreatDoorJljf
import Derived.Test.YticlgdhhnjpkjaaGreatDoorJlji
namespace Go.Proofs.YticlgdhhnjpkjaaGreatDoor.Pf
open Go Go.RowKit Go.Proofs Go.Proofs.YticlgdhhnjpkjaaGreatDoor.Mw Go.Proofs.YticlgdhhnjpkjaaGreatDoor.Sx
set_option linter.unusedVariables false
set_option linter.unusedSimpArgs false
set_option maxRecDepth 8000
theorem Lower_pt (p : List Fnc) (fn : Int) : Pt Tryz.prog F_lower_Lower [.agg [slD Fnc.c p], .int .i64 fn] (.tup [.agg (lowerR p fn).1.c, .int .i64 (lowerR p fn).2]) :=
  Pt.of (Lower_pc p fn fun dc dm M' Sc Sm hc hm nd new sub => by
    obtain ⟨t1, t2⟩ := irE_th.sl hc
    obtain ⟨t3, t4⟩ := metaE_th.sl hm
    refine pt_only (S := Sc ++ Sm) (by simp only [thawed, thawedL, t1, t3] <;> rfl) (fun b hb => ?_) ?_
    · rcases List.mem_append.1 hb with hb | hb
      · exact t2 b hb
      · exact t4 b hb
    · have g1 := SlAt.only irE_ok hc (T := Sc ++ Sm) (fun b hb => by simp [hb])
      have g2 := SlAt.only metaE_ok hm (T := Sc ++ Sm) (fun b hb => by simp [hb])
      rw [fz_tup]
      simp only [List.map_cons, List.map_nil, fz_agg, fz_int]
      rw [g1.fz irE_ok (k := 3) (by decide), g2.fz metaE_ok (k := 3) (by decide)]
      rfl)
theorem SameIr_e0 (k r a b kk c m pc : Int) : pf Tryz.prog F_swagelaw0_SameIr [.agg [.int .i64 k, .int .i64 r, .int .i64 a, .int .i64 b, .int .i64 kk, slI [], .int .i64 c, .int .i64 m, .int .i64 pc], .agg [.int .i64 k, .int .i64 r, .int .i64 a, .int .i64 b, .int .i64 kk, .isl 0 [], .int .i64 c, .int .i64 m, .int .i64 pc]] = some (.bool true) :=
  (SameIr_pf ⟨k, r, a, b, kk, [], c, m, pc⟩ ⟨k, r, a, b, kk, [], c, m, pc⟩ (by simp)).trans (by rw [decide_eq_true rfl])
theorem SameIr_e2 (k r a b kk y z c m pc : Int) : pf Tryz.prog F_swagelaw0_SameIr [.agg [.int .i64 k, .int .i64 r, .int .i64 a, .int .i64 b, .int .i64 kk, slI [y, z], .int .i64 c, .int .i64 m, .int .i64 pc], .agg [.int .i64 k, .int .i64 r, .int .i64 a, .int .i64 b, .int .i64 kk, .isl 2 [.int .i64 y, .int .i64 z], .int .i64 c, .int .i64 m, .int .i64 pc]] = some (.bool true) :=
  (SameIr_pf ⟨k, r, a, b, kk, [y, z], c, m, pc⟩ ⟨k, r, a, b, kk, [y, z], c, m, pc⟩ (by simp [Big])).trans (by rw [decide_eq_true rfl])
theorem ldn9 (K : DMem) (a b c d e f g h i : DV) (r : List DV) : ldnD K 9 (.ip (a :: b :: c :: d :: e :: f :: g :: h :: i :: r)) = some (.agg [a, b, c, d, e, f, g, h, i]) := by simp [ldnD]
theorem ix_lit {l : List Irc} {i : Nat} {x : Irc} (h : l[i]? = some x) : ixD 9 (slD Irc.c l) (.int .i64 (i : Int)) = some (.ip (x.c ++ (l.drop (i + 1)).flatMap Irc.c)) := by
  obtain ⟨hi, rfl⟩ := List.getElem?_eq_some_iff.1 h
  exact ix_slD Irc.len hi
def twoP : List Fnc := [⟨1, 1, [⟨1, 0⟩, ⟨0, 2⟩, ⟨14, 1⟩, ⟨10, 0⟩, ⟨15, 0⟩, ⟨16, 0⟩]⟩, ⟨2, 2, [⟨1, 0⟩, ⟨1, 1⟩, ⟨3, 0⟩, ⟨16, 0⟩]⟩]
theorem two_pu : Pu Tryz.prog F_swagelaw11_two [] (.agg [slD Fnc.c twoP]) := by
  refine Pu.of (pc_swagelaw11_two (by simp) ?_)
  simp only [S_swagelaw11_two, R_swagelaw11_two, MU_swagelaw11_two, MU_swagelaw11_two, SW, SV, wpD, evDL, evDM, evD, bldLD, wpSp, DMem.mt, beq_self_eq_true, seval]
  intro b M1 hM1
  refine stD (by rw [hM1, DMem.ins_same]) rfl rfl (by simp) (by simp) rfl fun M2 hM2 => ?_
  refine ⟨.agg [slD Fnc.c twoP], ?_, ?_⟩
  · rw [hM2, DMem.ins_same] <;> rfl
  · exact fz_of (Froz.agg (FrozL.nil.cons (Froz.slD Fnc.froz twoP))) _ _
def twoC : List Irc := [⟨2, 1, 0, 0, 0, [], 1, 0, 0⟩, ⟨1, 2, 0, 0, 2, [], 1, 0, 1⟩, ⟨6, 1, 0, 0, 1, [1, 2], 1, 0, 2⟩, ⟨2, 2, 1, 0, 0, [], 1, 0, 3⟩, ⟨7, 0, 2, 0, 0, [], 1, 0, 4⟩, ⟨8, 0, 1, 0, 0, [], 1, 0, 5⟩]
theorem low_two0 : lowerR twoP 0 = (⟨0, 9, twoC, []⟩, 0) := by decide +kernel
theorem low_two2 : lowerR twoP 2 = (cod0, 1100) := by decide +kernel
theorem awake_pf : pf Tryz.prog F_swagelaw11_awake [] = some (.bool true) := by
  refine pf_of (v := .bool _) (pc_swagelaw11_awake (by simp) ?_) FrozL.nil rfl rfl
  simp only [S_swagelaw11_awake, R_swagelaw11_awake, MU_swagelaw11_awake, MU_swagelaw11_awake, S1_swagelaw11_awake, S2_swagelaw11_awake, S3_swagelaw11_awake, SW, wpD, evDL, evDM, evD, bldLD, List.contains_cons, List.contains_nil, Nat.reduceBEq, beq_self_eq_true, Nat.reduceMul, Nat.reduceSub, wpSp, Option.bind_some, Option.some.injEq, exists_eq_left', exists_eq_left, reduceIte, if_false, if_true, Nat.reduceEqDiff, Nat.reduceAdd, Nat.reduceLeDiff, Int.reduceEq, Int.reduceLT, Int.reduceLE, Int.reduceToNat, decide_true, decide_false, DV.bool.injEq, DV.int.injEq, DV.mp.injEq, DV.msl.injEq, DV.tup.injEq, DV.agg.injEq, DV.fn.injEq, true_implies, forall_const, reduceCtorEq, implies_true, ne_eq, DMem.mt]
  refine Pu.pc two_pu ?_
  have f1 : ∀ n : Int, FrozL [DV.agg [slD Fnc.c twoP], .int .i64 n] := fun n => (FrozL.nil.cons (Froz.int _ _)).cons (Froz.agg (FrozL.nil.cons (Froz.slD Fnc.froz twoP)))
  simp only [MU_swagelaw11_awake, S1_swagelaw11_awake, S2_swagelaw11_awake, S3_swagelaw11_awake, ldnI1, SW, wpD, evDL, evDM, evD, bldLD, List.contains_cons, List.contains_nil, Nat.reduceBEq, beq_self_eq_true, Nat.reduceMul, Nat.reduceSub, wpSp, Option.bind_some, Option.some.injEq, exists_eq_left', exists_eq_left, reduceIte, if_false, if_true, Nat.reduceEqDiff, Nat.reduceAdd, Nat.reduceLeDiff, Int.reduceEq, Int.reduceLT, Int.reduceLE, Int.reduceToNat, decide_true, decide_false, DV.bool.injEq, DV.int.injEq, DV.mp.injEq, DV.msl.injEq, DV.tup.injEq, DV.agg.injEq, DV.fn.injEq, true_implies, forall_const, reduceCtorEq, implies_true, ne_eq, DMem.mt]
  refine Pt.pc (by rw [fzmap_froz (f1 0)]; exact Lower_pt twoP 0) ?_
  rw [low_two0]
  simp only [MU_swagelaw11_awake, S1_swagelaw11_awake, S2_swagelaw11_awake, S3_swagelaw11_awake, ldnI1, SW, wpD, evDL, evDM, evD, bldLD, List.contains_cons, List.contains_nil, Nat.reduceBEq, beq_self_eq_true, Nat.reduceMul, Nat.reduceSub, wpSp, Option.bind_some, Option.some.injEq, exists_eq_left', exists_eq_left, reduceIte, if_false, if_true, Nat.reduceEqDiff, Nat.reduceAdd, Nat.reduceLeDiff, Int.reduceEq, Int.reduceLT, Int.reduceLE, Int.reduceToNat, decide_true, decide_false, DV.bool.injEq, DV.int.injEq, DV.mp.injEq, DV.msl.injEq, DV.tup.injEq, DV.agg.injEq, DV.fn.injEq, true_implies, forall_const, reduceCtorEq, implies_true, ne_eq, DMem.mt]
  refine Pt.pc (by rw [fzmap_froz (f1 2)]; exact Lower_pt twoP 2) ?_
  rw [low_two2]
  have x2 : ixD 9 (slD Irc.c twoC) (.int .i64 2) = some (.ip ((⟨6, 1, 0, 0, 1, [1, 2], 1, 0, 2⟩ : Irc).c ++ (twoC.drop 3).flatMap Irc.c)) := ix_lit (i := 2) rfl
  have x5 : ixD 9 (slD Irc.c twoC) (.int .i64 5) = some (.ip ((⟨8, 0, 1, 0, 0, [], 1, 0, 5⟩ : Irc).c ++ (twoC.drop 6).flatMap Irc.c)) := ix_lit (i := 5) rfl
  have hl : twoC.length = 6 := rfl
  have e6 : decide (¬(((6 : Nat) : Int) = 6)) = false := by decide
  simp only [MU_swagelaw11_awake, S1_swagelaw11_awake, S2_swagelaw11_awake, S3_swagelaw11_awake, ldnI1, NumF_pf, hl, e6, x2, x5, ldn9, fz_agg, fz_zsl, fz_int, fz_ints, List.map_cons, List.map_nil, SameIr_e0, SameIr_e2, SW, wpD, evDL, evDM, evD, bldLD, List.contains_cons, List.contains_nil, Nat.reduceBEq, beq_self_eq_true, Nat.reduceMul, Nat.reduceSub, wpSp, Option.bind_some, Option.some.injEq, exists_eq_left', exists_eq_left, reduceIte, if_false, if_true, Nat.reduceEqDiff, Nat.reduceAdd, Nat.reduceLeDiff, Int.reduceEq, Int.reduceLT, Int.reduceLE, Int.reduceToNat, decide_true, decide_false, DV.bool.injEq, DV.int.injEq, DV.mp.injEq, DV.msl.injEq, DV.tup.injEq, DV.agg.injEq, DV.fn.injEq, true_implies, forall_const, reduceCtorEq, implies_true, ne_eq, DMem.mt]
  decide
end Go.Proofs.YticlgdhhnjpkjaaGreatDoor.Pf
namespace Go.Proofs.YticlgdhhnjpkjaaGreatDoor.Pf
open Go Go.RowKit Go.Proofs Go.Proofs.YticlgdhhnjpkjaaGreatDoor.Mw Go.Proofs.YticlgdhhnjpkjaaGreatDoor.Sx
set_option linter.unusedVariables false
set_option linter.unusedSimpArgs false
set_option maxRecDepth 4000
def insE : El Ins := flatE Ins.c 2
theorem insE_ok : insE.Ok := flatE_ok (by decide) Ins.len Ins.froz (fun x => rfl)
def fncE : El Fnc := ⟨3, Fnc.c, 1, fun M f cs S => ∃ d, cs = [.int .i64 f.args, .int .i64 f.locals, d] ∧ SlAt insE M d f.code S⟩
theorem fncE_ok : fncE.Ok where
  pos := by decide
  len := by rintro M x cs S ⟨d, rfl, _⟩; rfl
  clen := fun x => rfl
  frame := by rintro M M' x cs S ⟨d, rfl, h⟩ hk; exact ⟨d, rfl, h.frame insE_ok hk⟩
  fz := by
    rintro M x cs S k ⟨d, rfl, h⟩ hk
    obtain ⟨j, rfl⟩ : ∃ j, k = j + 1 := ⟨k - 1, by have : 1 ≤ k := hk; omega⟩
    simp only [List.map_cons, List.map_nil, fz_int]
    rw [h.fz insE_ok (k := j) (Nat.zero_le _)] <;> rfl
  plain := by
    rintro M x cs S ⟨d, rfl, h⟩
    simp only [List.all_cons, List.all_nil, h.plain] <;> rfl
  here := by rintro M x cs S ⟨d, rfl, h⟩ b hb; exact h.here insE_ok b hb
theorem CopyInss_pc {M : DMem} (l : List Ins) (hl : l.length * 16 ≤ 140737488355328) {R : DV → DMem → Prop}
    (hR : ∀ d M' S, SlAt insE M' d l S → S.Nodup → (∀ x ∈ S, M x = none) → SubD M M' → R d M') : PC Tryz.prog F_swagelaw0_CopyInss [slD Ins.c l] R M := by
  refine pc_swagelaw0_CopyInss (by simp) ?_
  simp only [S_swagelaw0_CopyInss, R_swagelaw0_CopyInss, MU_swagelaw0_CopyInss, SW, SV, wpD, evDL, evDM, evD, bldLD, wpSp, DMem.mt, beq_self_eq_true, seval]
  have h := (SlAt.nil (E := insE) (M := M)).app insE_ok List.nodup_nil (e := 63) (bytes := 16) (ys := l) (ds := l.flatMap Ins.c) (T := []) (k := l.length) RowAt.flat (fun x hx => by simp at hx) rfl (by simp; omega) (by simp; omega) (Post := R) fun d' M' S' h1 h2 h3 h4 => hR d' M' S' (by simpa using h1) (h4 List.nodup_nil) (fun x hx => by
      rcases h3 x hx with h | h | h
      · simp at h
      · simp at h
      · exact h) fun b B hB => h2 b B hB (by simp)
  exact h
theorem CopyProgram_pc {M : DMem} (p : List Fnc) (hp : p.length * 40 ≤ 140737488355328) (hc : ∀ f ∈ p, f.code.length * 16 ≤ 140737488355328) {R : DV → DMem → Prop}
    (hR : ∀ d M' S, SlAt fncE M' d p S → S.Nodup → (∀ x ∈ S, M x = none) → SubD M M' → R (.agg [d]) M') : PC Tryz.prog F_swagelaw0_CopyProgram [.agg [slD Fnc.c p]] R M := by
  refine pc_swagelaw0_CopyProgram (by simp) ?_
  simp only [S_swagelaw0_CopyProgram, R_swagelaw0_CopyProgram, MU_swagelaw0_CopyProgram, SW, SV, wpD, evDL, evDM, evD, bldLD, wpSp, DMem.mt, beq_self_eq_true, seval]
  intro r M1 hr hM1
  try simp only [SW, SV, wpD, evDL, evDM, evD, bldLD, wpSp, DMem.mt, beq_self_eq_true, seval]
  intro o M2 ho hM2
  have hro : r ≠ o := by rintro rfl; rw [hM1, DMem.ins_same] at ho; cases ho
  have hr2 : M2 r = some ⟨24, 1, [.zsl]⟩ := by rw [hM2, DMem.ins_ne _ _ hro, hM1, DMem.ins_same]
  have ho2 : M2 o = some ⟨24, 1, [.zsl]⟩ := by rw [hM2, DMem.ins_same]
  have hk2 : ∀ x B, M x = some B → M2 x = some B ∧ x ≠ r ∧ x ≠ o := fun x B hB => by
    have e1 : x ≠ r := by rintro rfl; rw [hr] at hB; cases hB
    have e2 : x ≠ o := by rintro rfl; rw [hM1, DMem.ins_ne _ _ e1, hB] at ho; cases ho
    exact ⟨by rw [hM2, DMem.ins_ne _ _ e2, hM1, DMem.ins_ne _ _ e1]; exact hB, e1, e2⟩
  clear hM1 hM2 ho
  try simp only [SW, SV, wpD, evDL, evDM, evD, bldLD, wpSp, DMem.mt, beq_self_eq_true, seval]
  refine ⟨fun k δ M' => ∃ (i : Nat) (d : DV) (S : List Nat), i ≤ p.length ∧ k = p.length - i ∧ δ 1 = .ip [slD Fnc.c p] ∧ δ 2 = .mp r 0 ∧ δ 3 = .mp o 0 ∧ δ 4 = .int .i64 i ∧ M' r = some ⟨24, 1, [.zsl]⟩ ∧ M' o = some ⟨24, 1, [d]⟩ ∧ SlAt fncE M' d (p.take i) S ∧ S.Nodup ∧ r ∉ S ∧ o ∉ S ∧ (∀ x ∈ S, M x = none) ∧ ∀ x B, M x = some B → M' x = some B,
    p.length, ⟨0, .zsl, [], Nat.zero_le _, rfl, rfl, rfl, rfl, rfl, hr2, ho2, SlAt.nil, List.nodup_nil, by simp, by simp, fun x hx => by simp at hx, fun x B hB => (hk2 x B hB).1⟩, ?_⟩
  have hoM : M o = none := by
    cases e : M o with
    | none => rfl
    | some B => exact absurd rfl (hk2 o B e).2.2
  clear hr2 ho2 hk2
  rintro k δ M' ⟨i, d, S, hi, rfl, h1, h2, h3, h4, hMr, hMo, hsl, hnd, hrS, hoS, hS, hkeep⟩
  simp only [S2_swagelaw0_CopyProgram, MU_swagelaw0_CopyProgram, h1, h2, h3, h4, SW, SV, wpD, evDL, evDM, evD, bldLD, wpSp, DMem.mt, beq_self_eq_true, seval, decide_eq_true_eq, decide_eq_false_iff_not]
  refine ⟨fun hlt => ?_, fun hge => ?_⟩
  · have hip : i < p.length := by omega
    simp only [ix_slD Fnc.len hip, h1, h2, h3, h4, SW, SV, wpD, evDL, evDM, evD, bldLD, wpSp, DMem.mt, beq_self_eq_true, seval]
    intro q N1 hq hN1
    have hqr : q ≠ r := by rintro rfl; rw [hMr] at hq; cases hq
    have hqo : q ≠ o := by rintro rfl; rw [hMo] at hq; cases hq
    have hqS : q ∉ S := fun hh => hsl.here fncE_ok q hh hq
    have hqM : M q = none := by
      cases e : M q with
      | none => rfl
      | some B => have := hkeep q B e; rw [hq] at this; cases this
    have hq1 : N1 q = some ⟨53, 3, [.int .i64 p[i].args, .int .i64 p[i].locals, slD Ins.c p[i].code]⟩ := by rw [hN1, DMem.ins_same]
    have hk1 : ∀ x, x ≠ q → N1 x = M' x := fun x e => by rw [hN1, DMem.ins_ne _ _ e]
    clear hN1
    simp only [h1, h2, h3, h4, hq1, SW, SV, wpD, evDL, evDM, evD, bldLD, wpSp, DMem.mt, beq_self_eq_true, seval]
    refine CopyInss_pc p[i].code (hc _ (List.getElem_mem hip)) fun d1 N2 T hsl1 hnd1 hT hs2 => ?_
    have hq2 := hs2 q _ hq1
    simp only [S1_swagelaw0_CopyProgram, MU_swagelaw0_CopyProgram, h1, h2, h3, h4, SW, SV, wpD, evDL, evDM, evD, bldLD, wpSp, DMem.mt, beq_self_eq_true, seval]
    refine stD hq2 (hsl1.cell) rfl (by simp) (by simp) (by simp only [List.all_cons, List.all_nil, hsl1.plain] <;> rfl) fun N3 hN3 => ?_
    have hq3 : N3 q = some ⟨53, 3, [.int .i64 p[i].args, .int .i64 p[i].locals, d1]⟩ := by rw [hN3, DMem.ins_same] <;> rfl
    have hqT : q ∉ T := fun hh => by have := hT q hh; rw [hq1] at this; cases this
    have hk3 : ∀ x B, x ≠ q → M' x = some B → N3 x = some B := fun x B e hB => by rw [hN3, DMem.ins_ne _ _ e]; exact hs2 x B (by rw [hk1 x e]; exact hB)
    have hsl3 : SlAt insE N3 d1 p[i].code T := hsl1.frame insE_ok fun x hx => by rw [hN3, DMem.ins_ne _ _ (by rintro rfl; exact hqT hx)]
    have hTM : ∀ x ∈ T, M' x = none := fun x hx => by
      have := hT x hx
      rwa [hk1 x (by rintro rfl; exact hqT hx)] at this
    have hMo3 := hk3 o _ (Ne.symm hqo) hMo
    have hMr3 := hk3 r _ (Ne.symm hqr) hMr
    have hne : ∀ x ∈ S, M' x ≠ none := fun x hx => hsl.here fncE_ok x hx
    have hslF : SlAt fncE N3 d (p.take i) S := hsl.frame fncE_ok fun x hx => by
      obtain ⟨B, hB⟩ := Option.ne_none_iff_exists'.1 (hne x hx)
      rw [hB, hk3 x B (by rintro rfl; exact hqS hx) hB]
    have hti : (p.take i).length = i := by simp; omega
    simp only [h1, h2, h3, h4, hMo3, hq3, ldnM, SW, SV, wpD, evDL, evDM, evD, bldLD, wpSp, DMem.mt, beq_self_eq_true, seval]
    refine hslF.app fncE_ok hnd (ys := [p[i]]) (ds := [.int .i64 p[i].args, .int .i64 p[i].locals, d1]) (T := T) (RowAt.one ⟨d1, rfl, hsl3⟩) (fun x hx hh => hne x hh (hTM x hx)) rfl (by rw [hti]; omega) (by rw [hti]; omega) fun d' M9 S' hsl9 hk9 hS9 hnd9 => ?_
    have hMo9 := hk9 o _ hMo3 hoS
    try simp only [h1, h2, h3, h4, SW, SV, wpD, evDL, evDM, evD, bldLD, wpSp, DMem.mt, beq_self_eq_true, seval]
    refine stD hMo9 (hsl9.cell) rfl (by simp) (by simp) (by simp only [List.all_cons, List.all_nil, hsl9.plain] <;> rfl) fun M10 hM10 => ?_
    have hoS9 : o ∉ S' := fun hh => by
      rcases hS9 o hh with h' | h' | h'
      · exact hoS h'
      · have := hTM o h'; rw [hMo] at this; cases this
      · rw [hMo3] at h'; cases h'
    have hrS9 : r ∉ S' := fun hh => by
      rcases hS9 r hh with h' | h' | h'
      · exact hrS h'
      · have := hTM r h'; rw [hMr] at this; cases this
      · rw [hMr3] at h'; cases h'
    try simp only [h1, h2, h3, h4, w64s (show i < 4611686018427387905 by omega), SW, SV, wpD, evDL, evDM, evD, bldLD, wpSp, DMem.mt, beq_self_eq_true, seval]
    refine ⟨p.length - (i + 1), M10, by omega, SubD.refl _, i + 1, d', S', by omega, rfl, rfl, ?_, by rw [hM10, DMem.ins_same] <;> rfl, ?_, hnd9 hnd1, hrS9, hoS9, fun x hx => ?_, fun x B hB => ?_⟩
    · rw [hM10, DMem.ins_ne _ _ hro]; exact hk9 r _ hMr3 hrS
    · rw [List.take_succ_eq_append_getElem hip]
      exact hsl9.frame fncE_ok fun x hx => by rw [hM10, DMem.ins_ne _ _ (by rintro rfl; exact hoS9 hx)]
    · have hold : M' x = none → M x = none := fun h' => by
        cases e1 : M x with
        | none => rfl
        | some B => have := hkeep x B e1; rw [h'] at this; cases this
      rcases hS9 x hx with h' | h' | h'
      · exact hS x h'
      · exact hold (hTM x h')
      · refine hold ?_
        cases e1 : M' x with
        | none => rfl
        | some B => have := hk3 x B (fun e' => by rw [e', hq3] at h'; cases h') e1; rw [h'] at this; cases this
    · have e1 : x ≠ o := by rintro rfl; rw [hoM] at hB; cases hB
      have e2 : x ∉ S := fun hh => by rw [hS x hh] at hB; cases hB
      have e4 : x ≠ q := by rintro rfl; rw [hqM] at hB; cases hB
      rw [hM10, DMem.ins_ne _ _ e1]
      exact hk9 x B (hk3 x B e4 (hkeep x B hB)) e2
  · have hil : i = p.length := by omega
    subst hil
    rw [List.take_length] at hsl
    simp only [S3_swagelaw0_CopyProgram, MU_swagelaw0_CopyProgram, h1, h2, h3, h4, hMo, ldnM, SW, SV, wpD, evDL, evDM, evD, bldLD, wpSp, DMem.mt, beq_self_eq_true, seval]
    refine stD hMr rfl rfl (by simp) (by simp) (by simp only [List.all_cons, List.all_nil, hsl.plain] <;> rfl) fun M2 hM2 => ?_
    have f2 : M2 r = some ⟨24, 1, [d]⟩ := by rw [hM2, DMem.ins_same] <;> rfl
    simp only [h1, h2, h3, h4, f2, ldnM, SW, SV, wpD, evDL, evDM, evD, bldLD, wpSp, DMem.mt, beq_self_eq_true, seval]
    exact hR d M2 S (hsl.frame fncE_ok fun x hx => by rw [hM2, DMem.ins_ne _ _ (by rintro rfl; exact hrS hx)]) hnd hS fun x B hB => by
      have e1 : x ≠ r := by rintro rfl; rw [hr] at hB; cases hB
      rw [hM2, DMem.ins_ne _ _ e1]; exact hkeep x B hB
instance : DecidableEq Fnc := fun a b => decidable_of_iff (a.args = b.args ∧ a.locals = b.locals ∧ a.code = b.code) (by cases a; cases b; simp)
theorem fnc_eq (a b : Fnc) : ((decide (¬a.args = b.args) || decide (¬a.locals = b.locals)) || !decide (a.code = b.code)) = !decide (a = b) := by
  have h : a = b ↔ a.args = b.args ∧ a.locals = b.locals ∧ a.code = b.code := by cases a; cases b; simp
  rw [Bool.eq_iff_iff]
  simp only [Bool.or_eq_true, decide_eq_true_eq, Bool.not_eq_true', decide_eq_false_iff_not, h]
  by_cases h1 : a.args = b.args <;> by_cases h2 : a.locals = b.locals <;> simp [h1, h2]
theorem SameProgram_pf (a b : List Fnc) (ha : a.length ≤ 4611686018427387904) (hc : ∀ f ∈ a, f.code.length ≤ 4611686018427387904) : pf Tryz.prog F_swagelaw0_SameProgram [.agg [slD Fnc.c a], .agg [slD Fnc.c b]] = some (.bool (decide (a = b))) := by
  have hf : ∀ l : List Fnc, Froz (.agg [slD Fnc.c l]) := fun l => Froz.agg (FrozL.nil.cons (Froz.slD Fnc.froz l))
  refine pf_of (v := .bool _) (pc_swagelaw0_SameProgram (by simp) ?_) ((FrozL.nil.cons (hf b)).cons (hf a)) rfl rfl
  simp only [S_swagelaw0_SameProgram, R_swagelaw0_SameProgram, MU_swagelaw0_SameProgram, SW, SV, wpD, evDL, evDM, evD, bldLD, wpSp, DMem.mt, beq_self_eq_true, seval, decide_eq_true_eq, decide_eq_false_iff_not]
  refine ⟨fun hne => ?_, fun hle => ?_⟩
  · exact (decide_eq_false (by rintro rfl; exact hne rfl)).symm
  · have hlen : a.length = b.length := by omega
    refine ⟨fun k δ M => ∃ i, i ≤ a.length ∧ k = a.length - i ∧ M = DMem.mt ∧ δ 2 = .ip [slD Fnc.c a] ∧ δ 3 = .ip [slD Fnc.c b] ∧ δ 5 = .int .i64 i ∧ (∀ j (h1 : j < a.length) (h2 : j < b.length), j < i → a[j] = b[j]),
      a.length, ⟨0, Nat.zero_le _, rfl, rfl, rfl, rfl, rfl, fun j _ _ hj => absurd hj (by omega)⟩, ?_⟩
    rintro k δ M ⟨i, hi, rfl, rfl, h2, h3, h5, hj⟩
    simp only [S3_swagelaw0_SameProgram, MU_swagelaw0_SameProgram, h2, h3, h5, SW, SV, wpD, evDL, evDM, evD, bldLD, wpSp, DMem.mt, beq_self_eq_true, seval, decide_eq_true_eq, decide_eq_false_iff_not]
    refine ⟨fun h => ?_, fun h => ?_⟩
    · have hlt : i < a.length := by omega
      have hlt' : i < b.length := by omega
      simp only [raw0_swagelaw0_SameProgram, P0_swagelaw0_SameProgram, MU_swagelaw0_SameProgram, ix_slD Fnc.len hlt, ix_slD Fnc.len hlt', h2, h3, h5, SW, SV, wpD, evDL, evDM, evD, bldLD, wpSp, DMem.mt, beq_self_eq_true, seval, decide_eq_true_eq, decide_eq_false_iff_not]
      have hg := fnc_eq a[i] b[i]
      cases hd : (decide (¬a[i].args = b[i].args) || decide (¬a[i].locals = b[i].locals))
      · simp only [S2_swagelaw0_SameProgram, MU_swagelaw0_SameProgram, h2, h3, h5, hd, SW, SV, wpD, evDL, evDM, evD, bldLD, wpSp, DMem.mt, beq_self_eq_true, seval]
        refine PC.of_pf (by simp only [List.map_cons, List.map_nil, fz_ins]; exact SameInss_pf a[i].code b[i].code (hc _ (List.getElem_mem hlt))) ?_
        rw [hd, Bool.false_or] at hg
        have hg' : decide (a[i].code = b[i].code) = decide (a[i] = b[i]) := by
          cases h1 : decide (a[i].code = b[i].code) <;> cases h2 : decide (a[i] = b[i]) <;> rw [h1, h2] at hg <;> first | rfl | cases hg
        simp only [S1_swagelaw0_SameProgram, MU_swagelaw0_SameProgram, hg', h2, h3, h5, hd, w64s (show i < 4611686018427387905 by omega), SW, SV, wpD, evDL, evDM, evD, bldLD, wpSp, DMem.mt, beq_self_eq_true, seval]
        refine ⟨fun hne => (decide_eq_false (by rintro rfl; simp at hne)).symm, fun he => ⟨a.length - (i + 1), DMem.mt, by omega, SubD.refl _, i + 1, by omega, rfl, rfl, rfl, fun j g1 g2 hji => ?_⟩⟩
        rcases Nat.lt_or_ge j i with h2 | h2
        · exact hj j g1 g2 h2
        · have : j = i := by omega
          subst this
          simpa using he
      · simp only [S1_swagelaw0_SameProgram, S2_swagelaw0_SameProgram, MU_swagelaw0_SameProgram, h2, h3, h5, hd, SW, SV, wpD, evDL, evDM, evD, bldLD, wpSp, DMem.mt, beq_self_eq_true, seval]
        refine (decide_eq_false ?_).symm
        rintro rfl
        simp at hd
    · have : a = b := same_all hlen fun j h1 h2 => hj j h1 h2 (by omega)
      try simp only [SW, SV, wpD, evDL, evDM, evD, bldLD, wpSp, DMem.mt, beq_self_eq_true, seval]
      rw [decide_eq_true this]
end Go.Proofs.YticlgdhhnjpkjaaGreatDoor.Pf
namespace Go.Proofs.YticlgdhhnjpkjaaGreatDoor.Pf
open Go Go.RowKit Go.Proofs Go.Proofs.YticlgdhhnjpkjaaGreatDoor.Mw Go.Proofs.YticlgdhhnjpkjaaGreatDoor.Sx
set_option linter.unusedVariables false
set_option linter.unusedSimpArgs false
set_option maxRecDepth 8000
variable {α : Type}
def mixE (E : El α) : El (α × Bool) := ⟨E.sz, fun x => E.c x.1, E.k, fun M x cs S => if x.2 = true then E.rep M x.1 cs S else cs = E.c x.1 ∧ S = []⟩
theorem RowAt.raw {E : El α} {M : DMem} : ∀ (xs : List α), RowAt (mixE E) M (xs.map (·, false)) (xs.flatMap E.c) []
  | [] => ⟨rfl, rfl⟩
  | x :: xs => ⟨E.c x, xs.flatMap E.c, [], [], rfl, rfl, ⟨rfl, rfl⟩, RowAt.raw xs⟩
theorem RowAt.unmix {E : El α} {M : DMem} : ∀ {xs : List α} {cs : List DV} {S : List Nat}, RowAt (mixE E) M (xs.map (·, true)) cs S → RowAt E M xs cs S
  | [], cs, S, h => h
  | x :: xs, cs, S, ⟨c1, c2, S1, S2, e1, e2, h1, h2⟩ => ⟨c1, c2, S1, S2, e1, e2, h1, RowAt.unmix h2⟩
theorem SlAt.raw {E : El α} {M : DMem} {d : DV} {xs : List α} {S : List Nat} (h : SlAt (flatE E.c E.sz) M d xs S) : SlAt (mixE E) M d (xs.map (·, false)) S := by
  rcases h with ⟨h, h1, h2⟩ | ⟨b, c, ty, cs, S', h, h1, h2, h3, h4, h5⟩
  · exact .inl ⟨h, by rw [h1] <;> rfl, h2⟩
  · obtain ⟨rfl, rfl⟩ := RowAt.flat_eq h2
    exact .inr ⟨b, c, ty, _, [], by rw [List.length_map]; exact h, h1, RowAt.raw xs, h3, by rw [List.length_map]; exact h4, h5⟩
theorem SlAt.unmix {E : El α} {M : DMem} {d : DV} {xs : List α} {S : List Nat} (h : SlAt (mixE E) M d (xs.map (·, true)) S) : SlAt E M d xs S := by
  rcases h with ⟨h, h1, h2⟩ | ⟨b, c, ty, cs, S', h, h1, h2, h3, h4, h5⟩
  · exact .inl ⟨h, by simpa using h1, h2⟩
  · exact .inr ⟨b, c, ty, cs, S', by rw [List.length_map] at h; exact h, h1, RowAt.unmix h2, h3, by rw [List.length_map] at h4; exact h4, h5⟩
theorem Irc.plain (x : Irc) : x.c.all plainD = true := rfl
def irF : El Irc := flatE Irc.c 9
def metaF : El (List Part) := flatE metaC 1
def irM : El (Irc × Bool) := mixE irE
def metaM : El (List Part × Bool) := mixE metaE
def halfM (l : List α) (i : Nat) : List (α × Bool) := (l.take i).map (·, true) ++ (l.drop i).map (·, false)
end Go.Proofs.YticlgdhhnjpkjaaGreatDoor.Pf
namespace Go.Proofs.YticlgdhhnjpkjaaGreatDoor.Pf
open Go Go.RowKit Go.Proofs Go.Proofs.YticlgdhhnjpkjaaGreatDoor.Mw Go.Proofs.YticlgdhhnjpkjaaGreatDoor.Sx
set_option linter.unusedVariables false
set_option linter.unusedSimpArgs false
set_option maxRecDepth 8000
end Go.Proofs.YticlgdhhnjpkjaaGreatDoor.Pf
