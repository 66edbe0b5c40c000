/- Za Zf Mr Mt Do Dp Ls: joined texts of this claim. No condition. -/
import Derived.Test.YtpehdlobicocpaaDoorLyjf
import Derived.Test.YtpehdlobicocpaaDoorLyjh
import Derived.Test.YtpehdlobicocpaaDoorLyji
import Derived.Test.YtpehdlobicocpaaDoorLyjd
import Derived.WalkKit
import Derived.ProofKit
import Derived.OpenShut
import Derived.ShutString
import Derived.ChangeOld
import Derived.Below
import Derived.Carry
import Derived.SizedLaws
import Derived.ChangeSame
import Derived.ChangeVars
import Derived.JoinedOf
import Derived.LaidLaws
import Derived.LaidHandle
import Derived.Handed
import Derived.Stop.Joined
import Derived.Deep.Slices
import Derived.Test.YtpehdlobicocpaaDoorRows
import Derived.Test.YtpehdlobicocpaaDoorTie
import Derived.Test.YtpehdlobicocpaaDoorCards
import Derived.Lib.SmallJoins
import Derived.SevenTiedAt
/- Lowered code, as nobody writes it; small programs of the laws. No condition. -/
namespace Go.Proofs.YtpehdlobicocpaaDoor.Pf
open Go Go.RowKit Go.Proofs Go.Proofs.YtpehdlobicocpaaDoor.Mw Go.Proofs.YtpehdlobicocpaaDoor.Sx
set_option linter.unusedVariables false
set_option linter.unusedSimpArgs false
set_option maxRecDepth 8000
theorem Lower_pt (p : List Fnc) (fn : Int) : Pt Tryd.prog F_lower_Lower [.agg [slD Fnc.c p], .int .i64 fn] (.tup [.agg (lowerR p fn).1.c, .int .i64 (lowerR p fn).2]) :=
  Pt.of (Lower_pc p fn fun dc dm M' Sc Sm hc hm nd new sub => by
    obtain ⟨t1, t2⟩ := irE_th.sl hc
    obtain ⟨t3, t4⟩ := metaE_th.sl hm
    refine pt_only (S := Sc ++ Sm) (by simp only [thawed, thawedL, t1, t3]; rfl) (fun b hb => ?_) ?_
    · rcases List.mem_append.1 hb with hb | hb
      · exact t2 b hb
      · exact t4 b hb
    · have g1 := SlAt.only irE_ok hc (T := Sc ++ Sm) (fun b hb => by simp [hb])
      have g2 := SlAt.only metaE_ok hm (T := Sc ++ Sm) (fun b hb => by simp [hb])
      rw [fz_tup]
      simp only [List.map_cons, List.map_nil, fz_agg, fz_int]
      rw [g1.fz irE_ok (k := 3) (by decide), g2.fz metaE_ok (k := 3) (by decide)]
      rfl)
theorem SameIr_e0 (k r a b kk c m pc : Int) : pf Tryd.prog F_swagelaw0_SameIr [.agg [.int .i64 k, .int .i64 r, .int .i64 a, .int .i64 b, .int .i64 kk, slI [], .int .i64 c, .int .i64 m, .int .i64 pc], .agg [.int .i64 k, .int .i64 r, .int .i64 a, .int .i64 b, .int .i64 kk, .isl 0 [], .int .i64 c, .int .i64 m, .int .i64 pc]] = some (.bool true) :=
  (SameIr_pf ⟨k, r, a, b, kk, [], c, m, pc⟩ ⟨k, r, a, b, kk, [], c, m, pc⟩ (by simp)).trans (by rw [decide_eq_true rfl])
theorem SameIr_e2 (k r a b kk y z c m pc : Int) : pf Tryd.prog F_swagelaw0_SameIr [.agg [.int .i64 k, .int .i64 r, .int .i64 a, .int .i64 b, .int .i64 kk, slI [y, z], .int .i64 c, .int .i64 m, .int .i64 pc], .agg [.int .i64 k, .int .i64 r, .int .i64 a, .int .i64 b, .int .i64 kk, .isl 2 [.int .i64 y, .int .i64 z], .int .i64 c, .int .i64 m, .int .i64 pc]] = some (.bool true) :=
  (SameIr_pf ⟨k, r, a, b, kk, [y, z], c, m, pc⟩ ⟨k, r, a, b, kk, [y, z], c, m, pc⟩ (by simp [Big])).trans (by rw [decide_eq_true rfl])
theorem ldn9 (K : DMem) (a b c d e f g h i : DV) (r : List DV) : ldnD K 9 (.ip (a :: b :: c :: d :: e :: f :: g :: h :: i :: r)) = some (.agg [a, b, c, d, e, f, g, h, i]) := by simp [ldnD]
theorem ix_lit {l : List Irc} {i : Nat} {x : Irc} (h : l[i]? = some x) : ixD 9 (slD Irc.c l) (.int .i64 (i : Int)) = some (.ip (x.c ++ (l.drop (i + 1)).flatMap Irc.c)) := by
  obtain ⟨hi, rfl⟩ := List.getElem?_eq_some_iff.1 h
  exact ix_slD Irc.len hi
def twoP : List Fnc := [⟨1, 1, [⟨1, 0⟩, ⟨0, 2⟩, ⟨14, 1⟩, ⟨10, 0⟩, ⟨15, 0⟩, ⟨16, 0⟩]⟩, ⟨2, 2, [⟨1, 0⟩, ⟨1, 1⟩, ⟨3, 0⟩, ⟨16, 0⟩]⟩]
theorem two_pu : Pu Tryd.prog F_swagelaw11_two [] (.agg [slD Fnc.c twoP]) := by
  refine Pu.of (pc_swagelaw11_two (by simp) ?_)
  simp only [S_swagelaw11_two, R_swagelaw11_two, MU_swagelaw11_two, MU_swagelaw11_two, SW, wpD, evDL, evDM, evD, bldLD, List.contains_cons, List.contains_nil, Nat.reduceBEq, beq_self_eq_true, Nat.reduceMul, Nat.reduceSub, wpSp, Option.bind_some, Option.some.injEq, exists_eq_left', exists_eq_left, reduceIte, if_false, if_true, Nat.reduceEqDiff, Nat.reduceAdd, Nat.reduceLeDiff, Int.reduceEq, Int.reduceLT, Int.reduceLE, Int.reduceToNat, decide_true, decide_false, DV.bool.injEq, DV.int.injEq, DV.mp.injEq, DV.msl.injEq, DV.tup.injEq, DV.agg.injEq, DV.fn.injEq, true_implies, forall_const, reduceCtorEq, implies_true, ne_eq, DMem.mt]
  intro b M1 hM1
  refine stD (by rw [hM1, DMem.ins_same]) rfl rfl (by simp) (by simp) rfl fun M2 hM2 => ?_
  refine ⟨.agg [slD Fnc.c twoP], ?_, ?_⟩
  · rw [hM2, DMem.ins_same]; rfl
  · exact fz_of (Froz.agg (FrozL.nil.cons (Froz.slD Fnc.froz twoP))) _ _
def twoC : List Irc := [⟨2, 1, 0, 0, 0, [], 1, 0, 0⟩, ⟨1, 2, 0, 0, 2, [], 1, 0, 1⟩, ⟨6, 1, 0, 0, 1, [1, 2], 1, 0, 2⟩, ⟨2, 2, 1, 0, 0, [], 1, 0, 3⟩, ⟨7, 0, 2, 0, 0, [], 1, 0, 4⟩, ⟨8, 0, 1, 0, 0, [], 1, 0, 5⟩]
theorem low_two0 : lowerR twoP 0 = (⟨0, 9, twoC, []⟩, 0) := by decide +kernel
theorem low_two2 : lowerR twoP 2 = (cod0, 1100) := by decide +kernel
theorem awake_pf : pf Tryd.prog F_swagelaw11_awake [] = some (.bool true) := by
  refine pf_of (v := .bool _) (pc_swagelaw11_awake (by simp) ?_) FrozL.nil rfl rfl
  simp only [S_swagelaw11_awake, R_swagelaw11_awake, MU_swagelaw11_awake, MU_swagelaw11_awake, S1_swagelaw11_awake, S2_swagelaw11_awake, S3_swagelaw11_awake, SW, wpD, evDL, evDM, evD, bldLD, List.contains_cons, List.contains_nil, Nat.reduceBEq, beq_self_eq_true, Nat.reduceMul, Nat.reduceSub, wpSp, Option.bind_some, Option.some.injEq, exists_eq_left', exists_eq_left, reduceIte, if_false, if_true, Nat.reduceEqDiff, Nat.reduceAdd, Nat.reduceLeDiff, Int.reduceEq, Int.reduceLT, Int.reduceLE, Int.reduceToNat, decide_true, decide_false, DV.bool.injEq, DV.int.injEq, DV.mp.injEq, DV.msl.injEq, DV.tup.injEq, DV.agg.injEq, DV.fn.injEq, true_implies, forall_const, reduceCtorEq, implies_true, ne_eq, DMem.mt]
  refine Pu.pc two_pu ?_
  have f1 : ∀ n : Int, FrozL [DV.agg [slD Fnc.c twoP], .int .i64 n] := fun n => (FrozL.nil.cons (Froz.int _ _)).cons (Froz.agg (FrozL.nil.cons (Froz.slD Fnc.froz twoP)))
  simp only [MU_swagelaw11_awake, S1_swagelaw11_awake, S2_swagelaw11_awake, S3_swagelaw11_awake, ldnI1, SW, wpD, evDL, evDM, evD, bldLD, List.contains_cons, List.contains_nil, Nat.reduceBEq, beq_self_eq_true, Nat.reduceMul, Nat.reduceSub, wpSp, Option.bind_some, Option.some.injEq, exists_eq_left', exists_eq_left, reduceIte, if_false, if_true, Nat.reduceEqDiff, Nat.reduceAdd, Nat.reduceLeDiff, Int.reduceEq, Int.reduceLT, Int.reduceLE, Int.reduceToNat, decide_true, decide_false, DV.bool.injEq, DV.int.injEq, DV.mp.injEq, DV.msl.injEq, DV.tup.injEq, DV.agg.injEq, DV.fn.injEq, true_implies, forall_const, reduceCtorEq, implies_true, ne_eq, DMem.mt]
  refine Pt.pc (by rw [fzmap_froz (f1 0)]; exact Lower_pt twoP 0) ?_
  rw [low_two0]
  simp only [MU_swagelaw11_awake, S1_swagelaw11_awake, S2_swagelaw11_awake, S3_swagelaw11_awake, ldnI1, SW, wpD, evDL, evDM, evD, bldLD, List.contains_cons, List.contains_nil, Nat.reduceBEq, beq_self_eq_true, Nat.reduceMul, Nat.reduceSub, wpSp, Option.bind_some, Option.some.injEq, exists_eq_left', exists_eq_left, reduceIte, if_false, if_true, Nat.reduceEqDiff, Nat.reduceAdd, Nat.reduceLeDiff, Int.reduceEq, Int.reduceLT, Int.reduceLE, Int.reduceToNat, decide_true, decide_false, DV.bool.injEq, DV.int.injEq, DV.mp.injEq, DV.msl.injEq, DV.tup.injEq, DV.agg.injEq, DV.fn.injEq, true_implies, forall_const, reduceCtorEq, implies_true, ne_eq, DMem.mt]
  refine Pt.pc (by rw [fzmap_froz (f1 2)]; exact Lower_pt twoP 2) ?_
  rw [low_two2]
  have x2 : ixD 9 (slD Irc.c twoC) (.int .i64 2) = some (.ip ((⟨6, 1, 0, 0, 1, [1, 2], 1, 0, 2⟩ : Irc).c ++ (twoC.drop 3).flatMap Irc.c)) := ix_lit (i := 2) rfl
  have x5 : ixD 9 (slD Irc.c twoC) (.int .i64 5) = some (.ip ((⟨8, 0, 1, 0, 0, [], 1, 0, 5⟩ : Irc).c ++ (twoC.drop 6).flatMap Irc.c)) := ix_lit (i := 5) rfl
  have hl : twoC.length = 6 := rfl
  have e6 : decide (¬(((6 : Nat) : Int) = 6)) = false := by decide
  simp only [MU_swagelaw11_awake, S1_swagelaw11_awake, S2_swagelaw11_awake, S3_swagelaw11_awake, ldnI1, NumF_pf, hl, e6, x2, x5, ldn9, fz_agg, fz_zsl, fz_int, fz_ints, List.map_cons, List.map_nil, SameIr_e0, SameIr_e2, SW, wpD, evDL, evDM, evD, bldLD, List.contains_cons, List.contains_nil, Nat.reduceBEq, beq_self_eq_true, Nat.reduceMul, Nat.reduceSub, wpSp, Option.bind_some, Option.some.injEq, exists_eq_left', exists_eq_left, reduceIte, if_false, if_true, Nat.reduceEqDiff, Nat.reduceAdd, Nat.reduceLeDiff, Int.reduceEq, Int.reduceLT, Int.reduceLE, Int.reduceToNat, decide_true, decide_false, DV.bool.injEq, DV.int.injEq, DV.mp.injEq, DV.msl.injEq, DV.tup.injEq, DV.agg.injEq, DV.fn.injEq, true_implies, forall_const, reduceCtorEq, implies_true, ne_eq, DMem.mt]
  decide
end Go.Proofs.YtpehdlobicocpaaDoor.Pf
/- Of each function of what is verified there is code that may be. No condition. -/
namespace Go.Proofs.YtpehdlobicocpaaDoor.Pf
open Go Go.RowKit Go.Proofs Go.Proofs.YtpehdlobicocpaaDoor.Mw Go.Proofs.YtpehdlobicocpaaDoor.Sx
set_option linter.unusedVariables false
set_option linter.unusedSimpArgs false
set_option maxRecDepth 8000
theorem LowerMay_pc (p : List Fnc) (hz : p.length ≤ 4611686018427387904) : PC Tryd.prog F_swagelaw11_LowerMay [.agg [slD Fnc.c p]] (fun d' M' => d' = .bool true) DMem.mt := by
  refine pc_swagelaw11_LowerMay (by simp) ?_
  have f1 : ∀ n : Int, FrozL [DV.agg [slD Fnc.c p], .int .i64 n] := fun n => (FrozL.nil.cons (Froz.int _ _)).cons (Froz.agg (FrozL.nil.cons (Froz.slD Fnc.froz p)))
  simp only [S_swagelaw11_LowerMay, R_swagelaw11_LowerMay, MU_swagelaw11_LowerMay, awake_pf, SW, wpD, evDL, evDM, evD, bldLD, List.contains_cons, List.contains_nil, Nat.reduceBEq, beq_self_eq_true, Nat.reduceMul, Nat.reduceSub, wpSp, Option.bind_some, Option.some.injEq, exists_eq_left', exists_eq_left, reduceIte, if_false, if_true, Nat.reduceEqDiff, Nat.reduceAdd, Nat.reduceLeDiff, Int.reduceEq, Int.reduceLT, Int.reduceLE, Int.reduceToNat, decide_true, decide_false, DV.bool.injEq, DV.int.injEq, DV.mp.injEq, DV.msl.injEq, DV.tup.injEq, DV.agg.injEq, DV.fn.injEq, true_implies, forall_const, reduceCtorEq, implies_true, ne_eq, DMem.mt]
  refine ⟨fun k δ M => ∃ i : Nat, i ≤ p.length ∧ k = p.length - i ∧ M = DMem.mt ∧ δ 1 = .ip [slD Fnc.c p] ∧ δ 3 = .int .i64 i, p.length, ⟨0, Nat.zero_le _, rfl, rfl, rfl, rfl⟩, ?_⟩
  rintro k δ M ⟨i, hi, rfl, rfl, h1, h3⟩
  simp only [S4_swagelaw11_LowerMay, MU_swagelaw11_LowerMay, h1, h3, SW, wpD, evDL, evDM, evD, bldLD, List.contains_cons, List.contains_nil, Nat.reduceBEq, beq_self_eq_true, Nat.reduceMul, Nat.reduceSub, wpSp, Option.bind_some, Option.some.injEq, exists_eq_left', exists_eq_left, reduceIte, if_false, if_true, Nat.reduceEqDiff, Nat.reduceAdd, Nat.reduceLeDiff, Int.reduceEq, Int.reduceLT, Int.reduceLE, Int.reduceToNat, decide_true, decide_false, DV.bool.injEq, DV.int.injEq, DV.mp.injEq, DV.msl.injEq, DV.tup.injEq, DV.agg.injEq, DV.fn.injEq, true_implies, forall_const, reduceCtorEq, implies_true, ne_eq, DMem.mt, decide_eq_true_eq, decide_eq_false_iff_not]
  intro hlt
  have hil : i < p.length := by omega
  simp only [h1, h3, ldnI1, SW, wpD, evDL, evDM, evD, bldLD, List.contains_cons, List.contains_nil, Nat.reduceBEq, beq_self_eq_true, Nat.reduceMul, Nat.reduceSub, wpSp, Option.bind_some, Option.some.injEq, exists_eq_left', exists_eq_left, reduceIte, if_false, if_true, Nat.reduceEqDiff, Nat.reduceAdd, Nat.reduceLeDiff, Int.reduceEq, Int.reduceLT, Int.reduceLE, Int.reduceToNat, decide_true, decide_false, DV.bool.injEq, DV.int.injEq, DV.mp.injEq, DV.msl.injEq, DV.tup.injEq, DV.agg.injEq, DV.fn.injEq, true_implies, forall_const, reduceCtorEq, implies_true, ne_eq, DMem.mt]
  refine Pt.pc (by rw [fzmap_froz (f1 i)]; exact Lower_pt p i) ?_
  by_cases hv : verifyE p = 0
  · have eR : lowerR p (i : Int) = (lowF p p[i] i, 0) := by
      unfold lowerR
      rw [if_pos ⟨hv, by omega, by omega⟩]
      simp only [Int.toNat_natCast, List.getElem?_eq_getElem hil]
    rw [eR]
    have hm := irMay_pf p (lowF p p[i] i) (lower_sz hv hil)
    rw [lower_may hv hil] at hm
    have hpo := lower_polls hv hil
    have hsz := (lower_sz hv hil).n
    have hfn : (lowF p p[i] i).fn = i := rfl
    generalize lowF p p[i] i = c at *
    have hm : pf Tryd.prog F_ir_May [.agg [slD Fnc.c p], .agg [.int .i64 i, .int .i64 c.regs, slD Irc.c c.code, slD metaC c.metas]] = some (.bool true) := by rw [← hfn]; exact hm
    have f2 : ∀ M k, fz M k (.agg [slD Fnc.c p]) = .agg [slD Fnc.c p] := fun M k => fz_of (Froz.agg (FrozL.nil.cons (Froz.slD Fnc.froz p))) M k
    have hl4 : ∀ K : DMem, ldnD K 4 (.ip [.int .i64 i, .int .i64 c.regs, slD Irc.c c.code, slD metaC c.metas]) = some (.agg [.int .i64 i, .int .i64 c.regs, slD Irc.c c.code, slD metaC c.metas]) := fun K => rfl
    have ec : c.c = [.int .i64 i, .int .i64 c.regs, slD Irc.c c.code, slD metaC c.metas] := by simp only [Cod.c, hfn]
    rw [ec]
    simp only [S3_swagelaw11_LowerMay, MU_swagelaw11_LowerMay, h1, h3, ldnI1, hl4, NumF_pf, f2, fz_agg, fz_irs, fz_metas, fz_int, List.map_cons, List.map_nil, hm, SW, wpD, evDL, evDM, evD, bldLD, List.contains_cons, List.contains_nil, Nat.reduceBEq, beq_self_eq_true, Nat.reduceMul, Nat.reduceSub, wpSp, Option.bind_some, Option.some.injEq, exists_eq_left', exists_eq_left, reduceIte, if_false, if_true, Nat.reduceEqDiff, Nat.reduceAdd, Nat.reduceLeDiff, Int.reduceEq, Int.reduceLT, Int.reduceLE, Int.reduceToNat, decide_true, decide_false, DV.bool.injEq, DV.int.injEq, DV.mp.injEq, DV.msl.injEq, DV.tup.injEq, DV.agg.injEq, DV.fn.injEq, true_implies, forall_const, reduceCtorEq, implies_true, ne_eq, DMem.mt]
    refine ⟨fun k δ M => ∃ j : Nat, j ≤ c.code.length ∧ k = c.code.length - j ∧ M = DMem.mt ∧ δ 1 = .ip [slD Fnc.c p] ∧ δ 3 = .int .i64 i ∧ δ 4 = .ip [.int .i64 i, .int .i64 c.regs, slD Irc.c c.code, slD metaC c.metas] ∧ δ 6 = .int .i64 ((c.code.take j).filter pollB).length ∧ δ 7 = .int .i64 j, c.code.length,
      ⟨0, Nat.zero_le _, rfl, rfl, h1, h3, rfl, rfl, rfl⟩, ?_⟩
    clear h1 h3
    rintro k δ M ⟨j, hj, rfl, rfl, h1, h3, h4, h6, h7⟩
    simp only [S1_swagelaw11_LowerMay, MU_swagelaw11_LowerMay, h1, h3, h4, h6, h7, SW, wpD, evDL, evDM, evD, bldLD, List.contains_cons, List.contains_nil, Nat.reduceBEq, beq_self_eq_true, Nat.reduceMul, Nat.reduceSub, wpSp, Option.bind_some, Option.some.injEq, exists_eq_left', exists_eq_left, reduceIte, if_false, if_true, Nat.reduceEqDiff, Nat.reduceAdd, Nat.reduceLeDiff, Int.reduceEq, Int.reduceLT, Int.reduceLE, Int.reduceToNat, decide_true, decide_false, DV.bool.injEq, DV.int.injEq, DV.mp.injEq, DV.msl.injEq, DV.tup.injEq, DV.agg.injEq, DV.fn.injEq, true_implies, forall_const, reduceCtorEq, implies_true, ne_eq, DMem.mt, decide_eq_true_eq, decide_eq_false_iff_not]
    refine ⟨fun hlt => ?_, fun hge => ?_⟩
    · have hjl : j < c.code.length := by omega
      have hjx : c.code[j]? = some c.code[j] := List.getElem?_eq_getElem hjl
      have hcnt : ((c.code.take j).filter pollB).length ≤ j := by
        have := List.length_filter_le pollB (c.code.take j)
        rw [List.length_take] at this; omega
      have hpos := hpo.one j _ hjx
      have hzer := hpo.zero j _ hjx
      have hbac := hpo.back j _ hjx
      have htk : (c.code.take (j + 1)).filter pollB = (c.code.take j).filter pollB ++ (if c.code[j].kind = 10 then [c.code[j]] else []) := by
        rw [List.take_succ_eq_append_getElem hjl, List.filter_append]
        congr 1
        by_cases hk : c.code[j].kind = 10
        · rw [if_pos hk, List.filter_cons_of_pos (by simp [pollB, hk])]; rfl
        · rw [if_neg hk, List.filter_cons_of_neg (by simp [pollB, hk])]; rfl
      have ei : wr64 ((j : Int) + 1) = ((j + 1 : Nat) : Int) := w64s (by omega)
      have ep : wr64 ((((c.code.take j).filter pollB).length : Int) + 1) = ((((c.code.take j).filter pollB).length + 1 : Nat) : Int) := w64s (by omega)
      simp only [ix_slD Irc.len hjl, ldn9, h1, h3, h4, h6, h7, SW, wpD, evDL, evDM, evD, bldLD, List.contains_cons, List.contains_nil, Nat.reduceBEq, beq_self_eq_true, Nat.reduceMul, Nat.reduceSub, wpSp, Option.bind_some, Option.some.injEq, exists_eq_left', exists_eq_left, reduceIte, if_false, if_true, Nat.reduceEqDiff, Nat.reduceAdd, Nat.reduceLeDiff, Int.reduceEq, Int.reduceLT, Int.reduceLE, Int.reduceToNat, decide_true, decide_false, DV.bool.injEq, DV.int.injEq, DV.mp.injEq, DV.msl.injEq, DV.tup.injEq, DV.agg.injEq, DV.fn.injEq, true_implies, forall_const, reduceCtorEq, implies_true, ne_eq, DMem.mt, decide_eq_true_eq, decide_eq_false_iff_not]
      generalize c.code[j] = x at *
      refine ⟨fun hk => ?_, fun hk => ?_⟩
      · have hc0 : decide (¬ x.cost = 0) = false := by rw [hzer hk]; decide
        simp only [h1, h3, h4, h6, h7, ei, ep, hc0, SW, wpD, evDL, evDM, evD, bldLD, List.contains_cons, List.contains_nil, Nat.reduceBEq, beq_self_eq_true, Nat.reduceMul, Nat.reduceSub, wpSp, Option.bind_some, Option.some.injEq, exists_eq_left', exists_eq_left, reduceIte, if_false, if_true, Nat.reduceEqDiff, Nat.reduceAdd, Nat.reduceLeDiff, Int.reduceEq, Int.reduceLT, Int.reduceLE, Int.reduceToNat, decide_true, decide_false, DV.bool.injEq, DV.int.injEq, DV.mp.injEq, DV.msl.injEq, DV.tup.injEq, DV.agg.injEq, DV.fn.injEq, true_implies, forall_const, reduceCtorEq, implies_true, ne_eq, DMem.mt]
        refine ⟨fun h => h (hzer hk), fun _ => ⟨c.code.length - (j + 1), DMem.mt, by omega, SubD.refl _, j + 1, by omega, rfl, rfl, ?_, rfl⟩⟩
        rw [htk, if_pos hk, List.length_append]; rfl
      · have hc1 : decide (¬ x.cost = 1) = false := by rw [hpos hk]; decide
        have fin : ∃ k' M0, k' < c.code.length - j ∧ SubD M0 DMem.mt ∧ ∃ j1 : Nat, j1 ≤ c.code.length ∧ k' = c.code.length - j1 ∧ M0 = DMem.mt ∧ (((c.code.take j).filter pollB).length : Int) = (((c.code.take j1).filter pollB).length : Int) ∧ ((j + 1 : Nat) : Int) = (j1 : Int) := by
          refine ⟨c.code.length - (j + 1), DMem.mt, by omega, SubD.refl _, j + 1, by omega, rfl, rfl, ?_, rfl⟩
          rw [htk, if_neg hk]; simp
        cases hb : ((decide (x.kind = 4) || decide (x.kind = 5)) && decide (x.k ≤ (j : Int))) with
        | false =>
          simp only [h1, h3, h4, h6, h7, ei, hc1, hb, grdFF, grdTF, grdFT, grdTT, grdU, SW, wpD, evDL, evDM, evD, bldLD, List.contains_cons, List.contains_nil, Nat.reduceBEq, beq_self_eq_true, Nat.reduceMul, Nat.reduceSub, wpSp, Option.bind_some, Option.some.injEq, exists_eq_left', exists_eq_left, reduceIte, if_false, if_true, Nat.reduceEqDiff, Nat.reduceAdd, Nat.reduceLeDiff, Int.reduceEq, Int.reduceLT, Int.reduceLE, Int.reduceToNat, decide_true, decide_false, DV.bool.injEq, DV.int.injEq, DV.mp.injEq, DV.msl.injEq, DV.tup.injEq, DV.agg.injEq, DV.fn.injEq, true_implies, forall_const, reduceCtorEq, implies_true, ne_eq, DMem.mt]
          exact fin
        | true =>
          obtain ⟨hg, hle⟩ := Bool.and_eq_true_iff.1 hb
          obtain ⟨i0, y, hj0, hy, hyk⟩ := hbac hg (of_decide_eq_true hle)
          obtain ⟨hil0, hy'⟩ := List.getElem?_eq_some_iff.1 hy
          have ew : wr64 ((j : Int) - 1) = (i0 : Int) := by rw [w64 (by omega)]; omega
          have ej : decide ((j : Int) = 0) = false := decide_eq_false (by omega)
          have ek : decide (¬ c.code[i0].kind = 10) = false := by rw [hy', hyk]; decide
          simp only [h1, h3, h4, h6, h7, ei, hc1, hb, ew, ej, ek, ix_slD Irc.len hil0, grdFF, grdTF, grdFT, grdTT, grdU, SW, wpD, evDL, evDM, evD, bldLD, List.contains_cons, List.contains_nil, Nat.reduceBEq, beq_self_eq_true, Nat.reduceMul, Nat.reduceSub, wpSp, Option.bind_some, Option.some.injEq, exists_eq_left', exists_eq_left, reduceIte, if_false, if_true, Nat.reduceEqDiff, Nat.reduceAdd, Nat.reduceLeDiff, Int.reduceEq, Int.reduceLT, Int.reduceLE, Int.reduceToNat, decide_true, decide_false, DV.bool.injEq, DV.int.injEq, DV.mp.injEq, DV.msl.injEq, DV.tup.injEq, DV.agg.injEq, DV.fn.injEq, true_implies, forall_const, reduceCtorEq, implies_true, ne_eq, DMem.mt]
          exact fin
    · have hje : j = c.code.length := by omega
      subst hje
      rw [List.take_length, hpo.cnt] at h6
      have e0 : decide (¬ ((c.metas.length : Int) = c.metas.length)) = false := by simp
      simp only [S2_swagelaw11_LowerMay, MU_swagelaw11_LowerMay, h1, h3, h4, h6, e0, SW, wpD, evDL, evDM, evD, bldLD, List.contains_cons, List.contains_nil, Nat.reduceBEq, beq_self_eq_true, Nat.reduceMul, Nat.reduceSub, wpSp, Option.bind_some, Option.some.injEq, exists_eq_left', exists_eq_left, reduceIte, if_false, if_true, Nat.reduceEqDiff, Nat.reduceAdd, Nat.reduceLeDiff, Int.reduceEq, Int.reduceLT, Int.reduceLE, Int.reduceToNat, decide_true, decide_false, DV.bool.injEq, DV.int.injEq, DV.mp.injEq, DV.msl.injEq, DV.tup.injEq, DV.agg.injEq, DV.fn.injEq, true_implies, forall_const, reduceCtorEq, implies_true, ne_eq, DMem.mt]
      exact ⟨p.length - (i + 1), DMem.mt, by omega, SubD.refl _, i + 1, by omega, rfl, rfl, w64s (by omega)⟩
  · have eR : lowerR p (i : Int) = (cod0, 1100) := by
      unfold lowerR
      rw [if_neg (fun hh => hv hh.1)]
    rw [eR]
    simp only [S3_swagelaw11_LowerMay, MU_swagelaw11_LowerMay, h1, h3, ldnI1, NumF_pf, fz_int, List.map_cons, List.map_nil, SW, wpD, evDL, evDM, evD, bldLD, List.contains_cons, List.contains_nil, Nat.reduceBEq, beq_self_eq_true, Nat.reduceMul, Nat.reduceSub, wpSp, Option.bind_some, Option.some.injEq, exists_eq_left', exists_eq_left, reduceIte, if_false, if_true, Nat.reduceEqDiff, Nat.reduceAdd, Nat.reduceLeDiff, Int.reduceEq, Int.reduceLT, Int.reduceLE, Int.reduceToNat, decide_true, decide_false, DV.bool.injEq, DV.int.injEq, DV.mp.injEq, DV.msl.injEq, DV.tup.injEq, DV.agg.injEq, DV.fn.injEq, true_implies, forall_const, reduceCtorEq, implies_true, ne_eq, DMem.mt]
    decide
end Go.Proofs.YtpehdlobicocpaaDoor.Pf
/- The row of a law that is true at every input: from the law's walk over a memory. No condition. -/
namespace Go.Proofs.YtpehdlobicocpaaDoor.Mw
open Go Go.RowKit Go.ChangeShapes Go.WideShapes Go.ChangeAt
set_option linter.unusedVariables false
theorem walk_of {P : Program} {f : FuncId} {args : List Value} {w : World} (h : MC P f args (fun v _ => v = .bool true) (snap w)) :
    Calls P f args.toArray w fun e w' => e = .returned (.bool true) ∧ Below w.heap.size w w' :=
  (h.2 w w (snap_sat w)).mono fun e w' ⟨v, m', he, hs, hv⟩ => ⟨by rw [he, hv], hs.below⟩
/-- Arguments read behind the call as they did before. -/
theorem args_stay {H : Type} {enc : TypeId × Value → H} {P : Program} (hl : laidOutB P = true) {W W' : World} (hb : Below W.heap.size W W') : ∀ (ts : List TypeId) (vs : List Value) (ds : List (DataW H)) (ps : List MemPlace),
    (∀ t ∈ ts, P.readableRec t = true ∧ t < P.types.size) → DataW.TrodAll enc P W 0 (fun _ => true) true ts vs ds ps → DataW.TrodAll enc P W' 0 (fun b => decide (b < W.heap.size)) true ts vs ds ps
  | [], [], [], ps, _, h => h
  | t :: ts, v :: vs, d :: ds, ps, ht, h => by
    have hlt := DataW.TrodAll.lt h
    obtain ⟨p, q, h1, h2, rfl⟩ := h
    exact ⟨p, q, Below.trod hl (ht t (by simp)).1 (ht t (by simp)).2 h1 hb (fun x hx => hlt x (by simp [hx])), args_stay hl hb ts vs ds q (fun t' h' => ht t' (by simp [h'])) h2, rfl⟩
  | [], [], _ :: _, _, _, h => h.elim
  | [], _ :: _, _, _, _, h => by cases h
  | _ :: _, [], _, _, _, h => by cases h
  | _ :: _, _ :: _, [], _, _, h => by cases h
end Go.Proofs.YtpehdlobicocpaaDoor.Mw
/- The row of a law whose program reads a variable that is told: from the law's walk over a memory. No condition. -/
namespace Go.Proofs.YtpehdlobicocpaaDoor.Mw
open Go Go.RowKit Go.ChangeShapes Go.WideShapes Go.ChangeAt
set_option linter.unusedVariables false
theorem law_row_laid {C : Checked} {os : Os} {H : Type} {enc : TypeId × Value → H} (laid : List (String × DataW Unit)) (own : ownKnob C.prog.godebug = none) (started : os.Started) {f : FuncId} {fn : Func} {s : ChangeSpec}
    (noInit : C.prog.inits.idxOf? f = none) (hfn : C.prog.funcs[f]? = some fn) (hvars : s.vars = [])
    (hspec : ∀ ds : List (DataW H), ds.length = fn.params.toList.length → s.fn H ds = { results := [.lit (.bool true)], args := ds })
    {tb : TypeId} (hres : fn.resultTypes = #[tb]) (htb : C.prog.underlying tb = some .bool)
    (hl : laidOutB C.prog = true) (hread : ∀ t ∈ fn.params.toList, C.prog.readableRec t = true ∧ t < C.prog.types.size) {apart : Bool}
    (witness : ∃ (w : World) (tape : Tape) (i : Input), w.os = os ∧ (w.forCall tape i).Shaped C.prog ∧ i.vars = [] ∧ Input.okWide C.prog (w.forCall tape i) .any w.heap.size f i ∧
      ((s.pre enc C.prog fn [] apart (w.forCall tape i).memory i.args ∧ laidMetH C.prog laid (w.forCall tape i).memory) ∧ sizedMet enc C.prog fn (OpenSpec.ofChange s) apart (w.forCall tape i).memory i.args) ∧ ({} : Assume).holds C.prog (lone (Frame.enter C.prog f i.args .normal) [] (w.forCall tape i)))
    (hmc : ∀ (W : World) (base : Nat) (args : List Value) (ds : List (DataW H)) (p : List MemPlace), DataW.TrodAll enc C.prog W 0 (fun _ => true) true fn.params.toList args ds p →
      (∀ (j : Nat) t v, fn.params[j]? = some t → args[j]? = some v → Value.okWide C.prog W .any base t v) →
      (DataW.weightsEach C.prog fn.params.toList ds).all (· ≤ reachBytes) = true → laidMetH C.prog laid W → MC C.prog f args (fun v _ => v = .bool true) (snap W)) :
    ReturnsInHanded {} C os f .any (fun w args => (s.pre enc C.prog fn [] apart w args ∧ laidMetH C.prog laid w) ∧ sizedMet enc C.prog fn (OpenSpec.ofChange s) apart w args) (s.post enc C.prog fn apart true false false) := by
  refine returnsInHanded_of_change_and (X := fun w _ => laidMetH C.prog laid w) (fun _ _ _ hh h => h.of_heap hh) own started noInit hfn witness ?_
  intro W base args ds gs before hval hW _ hsz hL _
  have hW' := hW
  obtain ⟨p, q, hA, hV, rfl, hfz, hnd⟩ := hW
  have hg : gs = [] := by
    rw [hvars] at hV
    cases gs with
    | nil => rfl
    | cons a b => exact hV.elim
  subst hg
  have hlen : ds.length = fn.params.toList.length := by
    have : ∀ (ts : List TypeId) (vs : List Value) (ds : List (DataW H)) (ps : List MemPlace), DataW.TrodAll enc C.prog W 0 (fun _ => true) true ts vs ds ps → ds.length = ts.length := by
      intro ts
      induction ts with
      | nil => intro vs ds ps h; cases vs <;> cases ds <;> first | rfl | exact h.elim | cases h
      | cons t ts ih =>
        intro vs ds ps h
        cases vs with
        | nil => cases h
        | cons v vs =>
          cases ds with
          | nil => cases h
          | cons d ds => obtain ⟨p, q, _, h2, _⟩ := h; simp [ih _ _ _ h2]
    exact this _ _ _ _ hA
  have hv0 : s.plain.varTypes C.prog = [] := by
    have : s.plain.vars = [] := hvars
    simp [DataSpec.varTypes, this]
  have hmc' := hmc W base args.toList ds p hA (fun j t v ht hv => hval j t v ht (by simpa using hv)) (by rw [hv0] at hsz; simpa using hsz) hL
  have hw := walk_of hmc'
  rw [Array.toArray_toList] at hw
  refine hw.mono fun e W' ⟨he, bel⟩ => ?_
  have hsp := hspec ds hlen
  refine ⟨_, he, ds, [], _, [], p, [], hW', ?_, ?_, ?_, bel.frame _, fun h => by cases h⟩
  · rw [List.append_nil, hsp, hres]
    exact trodAll_mk1 (shut_bool htb _)
  · rw [List.append_nil, hsp]
    exact args_stay hl bel _ _ _ _ hread hA
  · rw [List.append_nil, hsp, hvars]
    rfl
end Go.Proofs.YtpehdlobicocpaaDoor.Mw
/- Arguments opened: what came in as data stands in the memory as it was found, a value that nobody writes. No condition. -/
namespace Go.Proofs.YtpehdlobicocpaaDoor.Mw
open Go Go.RowKit Go.ChangeShapes Go.WideShapes Go.ChangeAt Go.Deep
set_option linter.unusedVariables false
/-- Data of this type stands as one of these. -/
structure Opens (P : Program) (w : World) (t : TypeId) {α : Type} (c : α → List DV) : Prop where
  op : ∀ {H : Type} (enc : TypeId × Value → H) (base : Nat) (spare : Nat → Bool) (held : Bool) (fuel : Nat) (cs : List Value) (x : DataW H × List MemPlace),
    DataW.trod enc P w base spare held fuel t cs = some x → ∃ a, RepL (snap w) (c a) cs
structure OpensF (P : Program) (w : World) (tot : Nat) (fs : List Field) (o : Nat) {α : Type} (c : α → List DV) : Prop where
  op : ∀ {H : Type} (enc : TypeId × Value → H) (base : Nat) (spare : Nat → Bool) (held : Bool) (fuel : Nat) (cs : List Value), cs.length = tot →
    (∀ f ∈ fs, ∃ y, DataW.trod enc P w base spare held fuel f.type ((cs.drop f.offset).take (P.cellsOf f.type)) = some y) → ∃ a, RepL (snap w) (c a) (cs.drop o)
section
variable {P : Program} {w : World} {t : TypeId}
theorem RepL.one {m : Mem} {d : DV} {v : Value} (h : Rep m d v) : RepL m [d] [v] := RepL.cons h (RepL.nil m)
theorem Opens.int {k : IntKind} (ht : P.underlying t = some (.int k)) : Opens P w t (fun z : Int => [.int k z]) := by
  constructor
  intro _ enc base sp held fuel cs x h
  obtain ⟨n, rfl, _, _⟩ := DataW.trod_int ht h
  exact ⟨n, RepL.one (by simp only [Rep])⟩
theorem Opens.bool (ht : P.underlying t = some .bool) : Opens P w t (fun z : Bool => [.bool z]) := by
  constructor
  intro _ enc base sp held fuel cs x h
  obtain ⟨n, rfl, _⟩ := DataW.trod_bool ht h
  exact ⟨n, RepL.one (by simp only [Rep])⟩
theorem Opens.str (ht : P.underlying t = some .string) : Opens P w t (fun z : ByteArray => [.str z]) := by
  constructor
  intro _ enc base sp held fuel cs x h
  obtain ⟨n, rfl, _⟩ := DataW.trod_string ht h
  exact ⟨n, RepL.one (by simp only [Rep])⟩
theorem Opens.map {α β : Type} {c : α → List DV} {c' : β → List DV} (h : Opens P w t c) (f : α → β) (e : ∀ a, c' (f a) = c a) : Opens P w t c' := by
  constructor
  intro _ enc base sp held fuel cs x hx
  obtain ⟨a, ha⟩ := h.op enc base sp held fuel cs x hx
  exact ⟨f a, by rw [e]; exact ha⟩
theorem OpensF.nil {tot : Nat} : OpensF P w tot [] tot (fun _ : Unit => []) := by
  constructor
  intro _ enc base sp held fuel cs hl h
  exact ⟨(), by rw [List.drop_eq_nil_of_le (by omega)]; exact RepL.nil _⟩
theorem OpensF.cons {α β : Type} {c0 : α → List DV} {c1 : β → List DV} {tot o k : Nat} {f : Field} {fs : List Field} (h0 : Opens P w f.type c0) (ho : f.offset = o) (hk : P.cellsOf f.type = k) (h1 : OpensF P w tot fs (o + k) c1) :
    OpensF P w tot (f :: fs) o (fun p : α × β => c0 p.1 ++ c1 p.2) := by
  constructor
  intro _ enc base sp held fuel cs hl h
  obtain ⟨y, hy⟩ := h f (by simp)
  obtain ⟨a, ha⟩ := h0.op enc base sp held fuel _ _ hy
  obtain ⟨b, hb⟩ := h1.op enc base sp held fuel cs hl fun g hg => h g (by simp [hg])
  rw [ho, hk] at ha
  refine ⟨(a, b), ?_⟩
  have e : cs.drop o = (cs.drop o).take k ++ cs.drop (o + k) := by rw [← List.drop_drop, List.take_append_drop]
  rw [e]
  exact ha.append hb
theorem Opens.struct {α : Type} {c : α → List DV} {fs : Array Field} {tot : Nat} (ht : P.underlying t = some (.struct fs)) (hc : P.cellsOf t = tot) (h : OpensF P w tot fs.toList 0 c) : Opens P w t c := by
  constructor
  intro _ enc base sp held fuel cs x hx
  obtain ⟨xs, n, _, _, hl, hlen, hf⟩ := DataW.trod_struct ht hx
  have := h.op enc base sp held n cs (hl.trans hc) fun f hf' => by
    obtain ⟨i, hi, e⟩ := List.getElem_of_mem hf'
    have hi' : i < xs.length := by rw [hlen]; simpa using hi
    refine ⟨xs[i], ?_⟩
    rw [hf i f (by rw [← Array.getElem?_toList, List.getElem?_eq_getElem hi, e]), List.getElem?_eq_getElem hi']
  simpa using this
theorem snap_cell {a : Addr} {v : Value} (h : w.cell? a = some v) : ∃ b o ty N full, a = ⟨b, o, none⟩ ∧ snap w b = some (.cells ty N true full) ∧ full[o]? = some v := by
  obtain ⟨b, o, sp⟩ := a
  have hs := World.cell?_spot h
  simp only at hs; subst hs
  unfold World.cell? at h
  split at h
  · rename_i c ty fz hb
    simp only [Option.isSome_none, Bool.false_eq_true, if_false] at h
    refine ⟨b, o, ty, c.size, c.toList, rfl, ?_, by simpa using h⟩
    simp only at hb
    simp only [snap, hb]
  · cases h
theorem rep_cells {α : Type} {c : α → List DV} {n : Nat} {base b o : Nat} {ty : TypeId} {N : Nat} {full : List Value} (hm : snap w b = some (.cells ty N true full)) :
    ∀ (l : List α) (k : Nat), (∀ i (hi : i < l.length), ∃ cs', w.cells? base ((⟨b, o, none⟩ : Addr).add ((k + i) * n)) n = some cs' ∧ RepL (snap w) (c l[i]) cs') → RepP (snap w) (l.flatMap c) (full.drop (o + k * n))
  | [], k, h => by simp [RepP]
  | x :: l, k, h => by
    obtain ⟨cs', h1, h2⟩ := h 0 (by simp)
    obtain ⟨_, hlen, hcell⟩ := World.cells?_some h1
    have ih := rep_cells (base := base) hm l (k + 1) fun i hi => by
      have := h (i + 1) (by simpa using hi)
      simpa [Nat.add_assoc, Nat.add_comm 1 i] using this
    have e : cs' = (full.drop (o + k * n)).take n := by
      apply List.ext_getElem?
      intro i
      by_cases hi : i < n
      · rw [List.getElem?_take_of_lt hi, List.getElem?_drop, ← hcell i hi]
        simp only [Nat.add_zero, add_plain]
        unfold World.cell?
        unfold snap at hm
        split at hm
        · rename_i c' ty' fz hb
          cases hm
          simp only [hb]
          simp [Nat.add_assoc]
        · cases hm
      · rw [List.getElem?_eq_none (by omega), List.getElem?_eq_none (by simp; omega)]
    have e2 : full.drop (o + k * n) = cs' ++ full.drop (o + (k + 1) * n) := by
      rw [e, show o + (k + 1) * n = o + k * n + n by rw [Nat.add_mul]; omega, ← List.drop_drop (i := n), List.take_append_drop]
    rw [List.flatMap_cons, e2]
    exact h2.1.append h2.2 ih
theorem Opens.slice {α : Type} {c : α → List DV} {e : TypeId} {n : Nat} (h : Opens P w e c) (ht : P.underlying t = some (.slice e)) (hn : P.cellsOf e = n) (hpos : 0 < n) : Opens P w t (fun l : List α => [slD c l]) := by
  constructor
  intro _ enc base sp held fuel cs x hx
  rcases open_slice ht hx with ⟨rfl, _⟩ | ⟨a, len, cap, m, k, D, Pl, rfl, _, hl, _, hm, _, hel⟩
  · refine ⟨[], RepL.one ?_⟩
    simp only [slD, Rep, List.flatMap_nil, List.length_nil]
    exact ⟨none, 0, rfl, Nat.le_refl _, fun h => absurd h (by omega)⟩
  · have hlm : len ≤ m := by rw [hm]; split <;> omega
    have each : ∀ i, i < len → ∃ y : α, ∃ cs', w.cells? base (a.add (i * n)) n = some cs' ∧ RepL (snap w) (c y) cs' := fun i hi => by
      obtain ⟨cs', h1, h2⟩ := hel i (by omega)
      obtain ⟨y, hy⟩ := h.op enc base sp held k cs' _ h2
      rw [hn] at h1
      exact ⟨y, cs', h1, hy⟩
    have : ∃ l : List α, l.length = len ∧ ∀ i (hi : i < l.length), ∃ cs', w.cells? base (a.add (i * n)) n = some cs' ∧ RepL (snap w) (c l[i]) cs' := by
      clear hel hl hlm hm hx
      rename_i hxx
      clear hxx
      induction len with
      | zero => exact ⟨[], rfl, fun i hi => absurd hi (by simp)⟩
      | succ len ih =>
        obtain ⟨l, h1, h2⟩ := ih fun i hi => each i (by omega)
        obtain ⟨y, hy⟩ := each len (by omega)
        refine ⟨l ++ [y], by simp [h1], fun i hi => ?_⟩
        by_cases h' : i < l.length
        · simpa [List.getElem_append_left h'] using h2 i h'
        · have : i = len := by simp at hi; omega
          subst this
          simpa [h1] using hy
    obtain ⟨l, rfl, hlc⟩ := this
    refine ⟨l, RepL.one ?_⟩
    simp only [slD, Rep]
    refine ⟨some a, cap, rfl, hl, fun h0 => ?_⟩
    obtain ⟨cs', h1, h2⟩ := hlc 0 h0
    obtain ⟨_, hlen, hcell⟩ := World.cells?_some h1
    have h3 := hcell 0 hpos
    have h4 : 0 < cs'.length := by omega
    rw [List.getElem?_eq_getElem h4] at h3
    simp only [Nat.zero_mul] at h3
    obtain ⟨b, o, ty, N, full, e1, e2, _⟩ := snap_cell h3
    have ea : a = ⟨b, o, none⟩ := by simpa [Addr.add] using e1
    subst ea
    refine ⟨b, o, ty, N, full, rfl, e2, ?_⟩
    have := rep_cells (base := base) (n := n) e2 l 0 (by simpa using hlc)
    simpa using this
/-- One value of a flat list of one cell. -/
theorem Opens.val {α : Type} {d : α → DV} (h : Opens P w t (fun a => [d a])) {v : Value} (hc : v.cells = #[v]) {H : Type} {enc : TypeId × Value → H} {base : Nat} {sp : Nat → Bool} {held : Bool} {x : DataW H} {p : List MemPlace}
    (hx : DataW.Trod enc P w base sp held t v x p) : ∃ a, Rep (snap w) (d a) v := by
  obtain ⟨fuel, hf⟩ := hx
  obtain ⟨a, ha⟩ := h.op enc base sp held fuel _ _ hf
  rw [hc] at ha
  have h1 := ha.1
  simp only [RepP] at h1
  exact ⟨a, h1.1⟩
end
end Go.Proofs.YtpehdlobicocpaaDoor.Mw
/- Arguments opened, with what their sizes are. No condition. -/
namespace Go.Proofs.YtpehdlobicocpaaDoor.Mw
open Go Go.RowKit Go.ChangeShapes Go.WideShapes Go.ChangeAt Go.Deep
set_option linter.unusedVariables false
/-- Data of this type, of no more than what a machine bears, stands as one of these. -/
structure OpensS (P : Program) (w : World) (t : TypeId) {α : Type} (c : α → List DV) (S : α → Prop) : Prop where
  op : ∀ {H : Type} (enc : TypeId × Value → H) (base : Nat) (spare : Nat → Bool) (held : Bool) (fuel : Nat) (cs : List Value) (x : DataW H × List MemPlace),
    DataW.trod enc P w base spare held fuel t cs = some x → (∀ n ∈ x.1.weights P t, n ≤ reachBytes) → ∃ a, RepL (snap w) (c a) cs ∧ S a
structure OpensT (P : Program) (w : World) (tot : Nat) (fs : List Field) (o : Nat) {α : Type} (c : α → List DV) (S : α → Prop) : Prop where
  op : ∀ {H : Type} (enc : TypeId × Value → H) (base : Nat) (spare : Nat → Bool) (held : Bool) (fuel : Nat) (cs : List Value), cs.length = tot →
    (∀ f ∈ fs, ∃ y, DataW.trod enc P w base spare held fuel f.type ((cs.drop f.offset).take (P.cellsOf f.type)) = some y ∧ ∀ n ∈ y.1.weights P f.type, n ≤ reachBytes) → ∃ a, RepL (snap w) (c a) (cs.drop o) ∧ S a
section
variable {P : Program} {w : World} {t : TypeId}
def I64 (z : Int) : Prop := -9223372036854775808 ≤ z ∧ z ≤ 9223372036854775807
theorem OpensS.int (ht : P.underlying t = some (.int .i64)) : OpensS P w t (fun z : Int => [.int .i64 z]) I64 := by
  constructor
  intro _ enc base sp held fuel cs x h _
  obtain ⟨n, rfl, _, hw⟩ := DataW.trod_int ht h
  refine ⟨n, RepL.one (by simp only [Rep]), ?_⟩
  simp only [Lit.wf, Bool.and_eq_true, decide_eq_true_eq] at hw
  exact hw
theorem OpensS.bool (ht : P.underlying t = some .bool) : OpensS P w t (fun z : Bool => [.bool z]) (fun _ => True) := by
  constructor
  intro _ enc base sp held fuel cs x h _
  obtain ⟨n, rfl, _⟩ := DataW.trod_bool ht h
  exact ⟨n, RepL.one (by simp only [Rep]), trivial⟩
theorem OpensS.str (ht : P.underlying t = some .string) : OpensS P w t (fun z : ByteArray => [.str z]) (fun s => s.size ≤ reachBytes) := by
  constructor
  intro _ enc base sp held fuel cs x h hs
  obtain ⟨n, rfl, rfl, _⟩ := DataW.trod_string ht h
  refine ⟨n, RepL.one (by simp only [Rep]), ?_⟩
  have := hs n.data.toList.length (by simp [DataW.weights])
  simpa using this
theorem OpensS.map {α β : Type} {c : α → List DV} {c' : β → List DV} {S : α → Prop} {S' : β → Prop} (h : OpensS P w t c S) (f : α → β) (e : ∀ a, c' (f a) = c a) (hS : ∀ a, S a → S' (f a)) : OpensS P w t c' S' := by
  constructor
  intro _ enc base sp held fuel cs x hx hs
  obtain ⟨a, ha, h1⟩ := h.op enc base sp held fuel cs x hx hs
  exact ⟨f a, by rw [e]; exact ha, hS a h1⟩
theorem OpensT.nil {tot : Nat} : OpensT P w tot [] tot (fun _ : Unit => []) (fun _ => True) := by
  constructor
  intro _ enc base sp held fuel cs hl h
  exact ⟨(), by rw [List.drop_eq_nil_of_le (by omega)]; exact RepL.nil _, trivial⟩
theorem OpensT.cons {α β : Type} {c0 : α → List DV} {c1 : β → List DV} {S0 : α → Prop} {S1 : β → Prop} {tot o k : Nat} {f : Field} {fs : List Field} (h0 : OpensS P w f.type c0 S0) (ho : f.offset = o) (hk : P.cellsOf f.type = k) (h1 : OpensT P w tot fs (o + k) c1 S1) :
    OpensT P w tot (f :: fs) o (fun p : α × β => c0 p.1 ++ c1 p.2) (fun p => S0 p.1 ∧ S1 p.2) := by
  constructor
  intro _ enc base sp held fuel cs hl h
  obtain ⟨y, hy, hyw⟩ := h f (by simp)
  obtain ⟨a, ha, sa⟩ := h0.op enc base sp held fuel _ _ hy hyw
  obtain ⟨b, hb, sb⟩ := h1.op enc base sp held fuel cs hl fun g hg => h g (by simp [hg])
  rw [ho, hk] at ha
  refine ⟨(a, b), ?_, sa, sb⟩
  have e : cs.drop o = (cs.drop o).take k ++ cs.drop (o + k) := by rw [← List.drop_drop, List.take_append_drop]
  rw [e]
  exact ha.append hb
theorem OpensS.struct {α : Type} {c : α → List DV} {S : α → Prop} {fs : Array Field} {tot : Nat} (ht : P.underlying t = some (.struct fs)) (hc : P.cellsOf t = tot) (h : OpensT P w tot fs.toList 0 c S) : OpensS P w t c S := by
  constructor
  intro _ enc base sp held fuel cs x hx hs
  obtain ⟨xs, n, _, rfl, hl, hlen, hf⟩ := DataW.trod_struct ht hx
  have := h.op enc base sp held n cs (hl.trans hc) fun f hf' => by
    obtain ⟨i, hi, e⟩ := List.getElem_of_mem hf'
    have hi' : i < xs.length := by rw [hlen]; simpa using hi
    have hfi : fs[i]? = some f := by rw [← Array.getElem?_toList, List.getElem?_eq_getElem hi, e]
    refine ⟨xs[i], ?_, fun m hm => hs m ?_⟩
    · rw [hf i f hfi, List.getElem?_eq_getElem hi']
    · simp only [DataW.weights, ht]
      exact DataW.weights_mem_each (j := i) (t := f.type) (d := xs[i].1) (by rw [List.getElem?_map, Array.getElem?_toList, hfi]; rfl) (by simp [hi']) m hm
  simpa using this
theorem weights_all {H : Type} {e : TypeId} {n : Nat} : ∀ {ds : List (DataW H)} {d : DataW H}, d ∈ ds → n ∈ d.weights P e → n ∈ DataW.weightsAll P e ds
  | x :: ds, d, hd, hn => by
    simp only [DataW.weightsAll, List.mem_append]
    rcases List.mem_cons.1 hd with rfl | hd
    · exact .inl hn
    · exact .inr (weights_all hd hn)
theorem OpensS.slice {α : Type} {c : α → List DV} {S : α → Prop} {e : TypeId} {n bytes : Nat} (h : OpensS P w e c S) (ht : P.underlying t = some (.slice e)) (hn : P.cellsOf e = n) (hpos : 0 < n) (hb : P.bytesOf e = bytes) :
    OpensS P w t (fun l : List α => [slD c l]) (fun l => l.length * bytes ≤ reachBytes ∧ ∀ x ∈ l, S x) := by
  constructor
  intro _ enc base sp held fuel cs x hx hs
  rcases open_slice ht hx with ⟨rfl, _⟩ | ⟨a, len, cap, m, k, D, Pl, rfl, _, hl, _, hm, rfl, hel⟩
  · refine ⟨[], RepL.one ?_, by simp, fun _ h => by simp at h⟩
    simp only [slD, Rep, List.flatMap_nil, List.length_nil]
    exact ⟨none, 0, rfl, Nat.le_refl _, fun h => absurd h (by omega)⟩
  · have hlm : len ≤ m := by rw [hm]; split <;> omega
    simp only [DataW.weights, ht, List.mem_cons, List.mem_append] at hs
    have hsz : len * bytes ≤ reachBytes := by
      have := hs _ (.inl rfl)
      simp only [List.length_map, List.length_range, hb] at this
      exact Nat.le_trans (Nat.mul_le_mul_right _ (Nat.le_add_right _ _)) this
    have each : ∀ i, i < len → ∃ y : α, (∃ cs', w.cells? base (a.add (i * n)) n = some cs' ∧ RepL (snap w) (c y) cs') ∧ S y := fun i hi => by
      obtain ⟨cs', h1, h2⟩ := hel i (by omega)
      obtain ⟨y, hy, sy⟩ := h.op enc base sp held k cs' _ h2 fun q hq => hs q (.inr (.inl (weights_all (d := D i) (by simp; exact ⟨i, hi, rfl⟩) hq)))
      rw [hn] at h1
      exact ⟨y, ⟨cs', h1, hy⟩, sy⟩
    have : ∃ l : List α, l.length = len ∧ (∀ i (hi : i < l.length), ∃ cs', w.cells? base (a.add (i * n)) n = some cs' ∧ RepL (snap w) (c l[i]) cs') ∧ ∀ x ∈ l, S x := by
      clear hel hl hlm hm hx hs hsz
      induction len with
      | zero => exact ⟨[], rfl, fun i hi => absurd hi (by simp), fun _ h => by simp at h⟩
      | succ len ih =>
        obtain ⟨l, h1, h2, h3⟩ := ih fun i hi => each i (by omega)
        obtain ⟨y, hy, sy⟩ := each len (by omega)
        refine ⟨l ++ [y], by simp [h1], fun i hi => ?_, fun x hx => ?_⟩
        · by_cases h' : i < l.length
          · simpa [List.getElem_append_left h'] using h2 i h'
          · have : i = len := by simp at hi; omega
            subst this
            simpa [h1] using hy
        · rcases List.mem_append.1 hx with hx | hx
          · exact h3 x hx
          · simp at hx; subst hx; exact sy
    obtain ⟨l, rfl, hlc, hS⟩ := this
    refine ⟨l, RepL.one ?_, hsz, hS⟩
    simp only [slD, Rep]
    refine ⟨some a, cap, rfl, hl, fun h0 => ?_⟩
    obtain ⟨cs', h1, h2⟩ := hlc 0 h0
    obtain ⟨_, hlen, hcell⟩ := World.cells?_some h1
    have h3 := hcell 0 hpos
    have h4 : 0 < cs'.length := by omega
    rw [List.getElem?_eq_getElem h4] at h3
    simp only [Nat.zero_mul] at h3
    obtain ⟨b, o, ty, N, full, e1, e2, _⟩ := snap_cell h3
    have ea : a = ⟨b, o, none⟩ := by simpa [Addr.add] using e1
    subst ea
    refine ⟨b, o, ty, N, full, rfl, e2, ?_⟩
    have := rep_cells (base := base) (n := n) e2 l 0 (by simpa using hlc)
    simpa using this
/-- One value of one cell. -/
theorem OpensS.val {α : Type} {d : α → DV} {S : α → Prop} (h : OpensS P w t (fun a => [d a]) S) {v : Value} (hc : v.cells = #[v]) {H : Type} {enc : TypeId × Value → H} {base : Nat} {sp : Nat → Bool} {held : Bool} {x : DataW H} {p : List MemPlace}
    (hx : DataW.Trod enc P w base sp held t v x p) (hs : ∀ n ∈ x.weights P t, n ≤ reachBytes) : ∃ a, Rep (snap w) (d a) v ∧ S a := by
  obtain ⟨fuel, hf⟩ := hx
  obtain ⟨a, ha, sa⟩ := h.op enc base sp held fuel _ _ hf hs
  rw [hc] at ha
  have h1 := ha.1
  simp only [RepP] at h1
  exact ⟨a, h1.1, sa⟩
/-- A struct. -/
theorem OpensS.agg {α : Type} {c : α → List DV} {S : α → Prop} (h : OpensS P w t c S) {cs : Array Value} {H : Type} {enc : TypeId × Value → H} {base : Nat} {sp : Nat → Bool} {held : Bool} {x : DataW H} {p : List MemPlace}
    (hx : DataW.Trod enc P w base sp held t (.agg cs) x p) (hs : ∀ n ∈ x.weights P t, n ≤ reachBytes) : ∃ a, Rep (snap w) (.agg (c a)) (.agg cs) ∧ S a := by
  obtain ⟨fuel, hf⟩ := hx
  obtain ⟨a, ha, sa⟩ := h.op enc base sp held fuel _ _ hf hs
  refine ⟨a, ?_, sa⟩
  simp only [Rep]
  exact ⟨cs.toList, by simp, ha.1, ha.2⟩
theorem sized_mem {H : Type} {ts : List TypeId} {ds : List (DataW H)} (h : (DataW.weightsEach P ts ds).all (· ≤ reachBytes) = true) {j : Nat} {d : DataW H} (ht : ts[j]? = some t) (hd : ds[j]? = some d) : ∀ n ∈ d.weights P t, n ≤ reachBytes := fun n hn => by
  have := List.all_eq_true.1 h n (DataW.weights_mem_each ht hd n hn)
  simpa using this
end
end Go.Proofs.YtpehdlobicocpaaDoor.Mw
/- Rows and cards: lowered code that may be. No condition. -/
namespace Go.Proofs.YtpehdlobicocpaaDoor
open Go Go.RowKit Go.Proofs.YtpehdlobicocpaaDoor.Mw Go.Proofs.YtpehdlobicocpaaDoor.Pf Go.ChangeShapes Go.WideShapes Go.ChangeAt
set_option linter.unusedVariables false
theorem own : ownKnob Tryd.prog.godebug = none := by kernel_rfl
theorem laid : laidOutB Tryd.prog = true := by kernel_rfl
theorem et : Tryd.prog.globalNamed "errors.errorType" = some 0 := by kernel_rfl
theorem rt : (Tryd.prog.cutTypes.find? (·.1 == "internal/reflectlite.rtype")).map (·.2) = some 189 := by kernel_rfl
theorem oneRow : ((List.range 231).filter fun t => Tryd.prog.rowNamed t [101, 114, 114, 111, 114]) = [126] := by kernel_rfl
theorem sizeT : Tryd.prog.types.size = 231 := by kernel_rfl
abbrev told : List (String × DataW Unit) := [("errors.errorType", Rows.laid_errors_errorType)]
theorem glob_told {W : World} (h : laidMetH Tryd.prog told W) : Glob (snap W) := by
  have h' : laidMet Tryd.prog [] W ∧ handlesMet Tryd.prog told W := h
  obtain ⟨name, u, ty, e1, e2, e3, e4, e5⟩ := h'.2 _ (List.mem_singleton.2 rfl)
  have en : name = [101, 114, 114, 111, 114] := (Option.some.inj e1).symm
  subst en
  obtain rfl := Option.some.inj (rt.symm.trans e2)
  have hm : ty ∈ (List.range 231).filter fun t => Tryd.prog.rowNamed t [101, 114, 114, 111, 114] := List.mem_filter.2 ⟨List.mem_range.2 (by rw [← sizeT]; exact e3), e4⟩
  rw [oneRow] at hm
  obtain rfl := List.mem_singleton.1 hm
  have hh : typeHandle Tryd.prog 126 = .pointer (some ⟨1, 126, none⟩) := by kernel_rfl
  rw [hh] at e5
  intro b v hb
  have hb0 : b = 0 ∧ v = .iface 189 (.agg #[.pointer (some ⟨1, 126, none⟩)]) := by
    unfold globs at hb
    simp only [List.lookup] at hb
    split at hb
    · rename_i hx
      exact ⟨by simpa using hx, (Option.some.inj hb).symm⟩
    · cases hb
  obtain ⟨rfl, rfl⟩ := hb0
  unfold World.var? at e5
  rw [et] at e5
  simp only [Option.bind_some] at e5
  split at e5
  · rename_i c t z hc
    cases e5
    exact ⟨t, by unfold snap; rw [hc]; rfl⟩
  · cases e5
noncomputable def toldWorld (os : Os) : World :=
  let w0 := World.holding Tryd.prog os ⟨#[], #[], []⟩
  { w0 with heap := w0.heap.modify 0 fun
      | .cells _ t frozen => .cells #[.iface 189 (.agg #[.pointer (some ⟨1, 126, none⟩)])] t frozen
      | o => o }
theorem toldWorld_met (os : Os) (args : Array Value) : laidMetH Tryd.prog told ((toldWorld os).forCall (fun _ _ => 0) ⟨#[], args, []⟩).memory :=
  laidMetH_of_parts (laidMet_nil _ _) (by kernel_rfl)
theorem cI : Tryd.prog.cellsOf 3 = 1 := by kernel_rfl
theorem opI (w : World) : OpensS Tryd.prog w 3 (fun z : Int => [.int .i64 z]) I64 := OpensS.int Tryd.underlying3
theorem cIns : Tryd.prog.cellsOf 24 = 2 := by kernel_rfl
theorem cInss : Tryd.prog.cellsOf 25 = 1 := by kernel_rfl
theorem cFnc : Tryd.prog.cellsOf 32 = 3 := by kernel_rfl
theorem cFncs : Tryd.prog.cellsOf 33 = 1 := by kernel_rfl
theorem cPrg : Tryd.prog.cellsOf 35 = 1 := by kernel_rfl
set_option maxRecDepth 100000 in
theorem opIns (w : World) : OpensS Tryd.prog w 24 Ins.c (fun x => I64 x.kind ∧ I64 x.a) :=
  (OpensS.struct Tryd.underlying24 cIns (OpensT.cons (opI w) rfl cI (OpensT.cons (opI w) rfl cI OpensT.nil))).map (fun p => ⟨p.1, p.2.1⟩) (fun a => rfl) (fun a h => ⟨h.1, h.2.1⟩)
set_option maxRecDepth 100000 in
theorem opInss (w : World) : OpensS Tryd.prog w 25 (fun l : List Ins => [slD Ins.c l]) (fun l => l.length * 16 ≤ reachBytes ∧ ∀ x ∈ l, I64 x.kind ∧ I64 x.a) :=
  OpensS.slice (opIns w) Tryd.underlying25 cIns (by decide) (by kernel_rfl)
set_option maxRecDepth 100000 in
theorem opFnc (w : World) : OpensS Tryd.prog w 32 Fnc.c (fun f => (I64 f.args ∧ I64 f.locals) ∧ f.code.length * 16 ≤ reachBytes ∧ ∀ x ∈ f.code, I64 x.kind ∧ I64 x.a) :=
  (OpensS.struct Tryd.underlying32 cFnc (OpensT.cons (opI w) rfl cI (OpensT.cons (opI w) rfl cI (OpensT.cons (opInss w) rfl cInss OpensT.nil)))).map (fun p => ⟨p.1, p.2.1, p.2.2.1⟩) (fun a => rfl) (fun a h => ⟨⟨h.1, h.2.1⟩, h.2.2.1⟩)
set_option maxRecDepth 100000 in
theorem opPrg (w : World) : OpensS Tryd.prog w 35 (fun l : List Fnc => [slD Fnc.c l]) (fun l => l.length * 40 ≤ reachBytes ∧ ∀ f ∈ l, (I64 f.args ∧ I64 f.locals) ∧ f.code.length * 16 ≤ reachBytes ∧ ∀ x ∈ f.code, I64 x.kind ∧ I64 x.a) :=
  (OpensS.struct Tryd.underlying35 cPrg (OpensT.cons (OpensS.slice (opFnc w) Tryd.underlying33 cFnc (by decide) (by kernel_rfl)) rfl cFncs OpensT.nil)).map (fun p => p.1) (fun a => rfl) (fun a h => h.1)
namespace lowerMay
set_option maxRecDepth 100000 in
theorem lifted (os : Os) (started : os.Started) (H : Type) (enc : TypeId × Value → H) :
    ReturnsInHanded {} Tryd.checked os 9 .any (fun w args => (Rows.lowerMaySpec.pre enc Tryd.prog Tryd.f9 [] false w args ∧ laidMetH Tryd.prog told w) ∧ sizedMet enc Tryd.prog Tryd.f9 (OpenSpec.ofChange Rows.lowerMaySpec) false w args)
      (Rows.lowerMaySpec.post enc Tryd.prog Tryd.f9 false true false false) := by
  refine law_row_laid (C := Tryd.checked) told own started (by kernel_rfl) Tryd.func9 rfl (fun ds h => ?_) rfl Tryd.underlying4 laid (of_decide_eq_true (by kernel_rfl))
    (ChangeSpec.witness_at (enc := enc) (C := Tryd.checked) (os := os) (X := fun w _ => laidMetH Tryd.prog told w) false (toldWorld os) #[.agg #[.slice none 0 0]] 8 rfl (by kernel_rfl) (by kernel_rfl) (by kernel_rfl) (by kernel_rfl) (by kernel_rfl) (toldWorld_met os _)) (fun W base args ds p hA hval hsz hL => ?_)
  · match ds, h with
    | [_], _ => rfl
  · rw [show Tryd.f9.params.toList = [35] from rfl] at hA hsz
    obtain ⟨v0, vs0, d0, ds0, p0, q0, rfl, rfl, rfl, h0, r0⟩ := trodAll_cons hA
    obtain ⟨rfl, rfl, rfl⟩ := trodAll_nil r0
    obtain ⟨x0, rfl, z0⟩ := okWide_struct Tryd.underlying35 (hval 0 35 v0 rfl rfl)
    obtain ⟨a0, g0, s0⟩ := OpensS.agg (opPrg W) h0 (sized_mem (t := 35) (j := 0) hsz rfl rfl)
    exact law_mc (LowerMay_pc a0 (by have h := s0.1; unfold reachBytes at h; omega)) (glob_told hL) (RepL.cons g0 (RepL.nil _))
theorem over : Rows.lowerMayRow.holds Tryd.pinned (OpenSpec.ofChange Rows.lowerMaySpec) :=
  OpenClaim.holds_of_wide 9 Tryd.f9 rfl rfl rfl rfl rfl rfl rfl ⟨rfl, rfl, rfl, rfl, rfl⟩ rfl rfl rfl rfl rfl (by kernel_rfl) Tryd.func9 (by kernel_rfl)
    (of_decide_eq_true (by kernel_rfl)) (by unfold Func.isWrapper; first | (rw [if_pos (by decide +kernel)]; kernel_rfl) | (rw [if_neg (by decide +kernel)]; exact ⟨rfl, rfl⟩))
    (fun os started H enc _ => lifted os started H enc)
end lowerMay
theorem lowerMay_card : Rows.LowerMayCardSaid :=
  Claim7.holds_tied_plain_at .later [] [.handle] true _ true
    lowerMay.over (fun _ h => by cases h) (by kernel_rfl) (fun _ h => by cases h) lowerMay_row_tie rfl ⟨rfl, rfl⟩ (by kernel_rfl) rfl
    (fun f fn hf hfn => by
      obtain rfl : f = 9 := Option.some.inj ((show Tryd.prog.funcNamed "swage/swagelaw11.LowerMay" = some 9 by kernel_rfl).symm.trans hf) |>.symm
      obtain rfl : fn = Tryd.f9 := (Option.some.inj (Tryd.func9.symm.trans hfn)).symm
      have hall : (Tryd.f9.params.toList.all fun t => !Tryd.prog.wantsStandIn t) = true := by kernel_rfl
      refine ⟨by kernel_rfl, fun j t ht => ?_⟩
      have hm : t ∈ Tryd.f9.params.toList := List.mem_of_getElem? (i := j) (by rw [Array.getElem?_toList]; exact ht)
      exact (show Tryd.prog.wantsStandIn t = false by simpa using List.all_eq_true.1 hall t hm))
    (by kernel_rfl)
end Go.Proofs.YtpehdlobicocpaaDoor
