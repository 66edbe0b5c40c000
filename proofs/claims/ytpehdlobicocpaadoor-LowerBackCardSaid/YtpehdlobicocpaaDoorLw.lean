/- Za Zb Zc Mr Mt Do Dp Lr: joined texts of this claim. No condition. -/
import Derived.Test.YtpehdlobicocpaaDoorLwjh
import Derived.Test.YtpehdlobicocpaaDoorLwjj
import Derived.Test.YtpehdlobicocpaaDoorLwjk
import Derived.Test.YtpehdlobicocpaaDoorLwjd
import Derived.WalkKit
import Derived.ProofKit
import Derived.OpenShut
import Derived.ShutString
import Derived.ChangeOld
import Derived.Below
import Derived.Carry
import Derived.SizedLaws
import Derived.ChangeSame
import Derived.ChangeVars
import Derived.JoinedOf
import Derived.LaidLaws
import Derived.LaidHandle
import Derived.Handed
import Derived.Stop.Joined
import Derived.Deep.Slices
import Derived.Test.YtpehdlobicocpaaDoorRows
import Derived.Test.YtpehdlobicocpaaDoorTie
import Derived.Test.YtpehdlobicocpaaDoorCards
import Derived.Lib.SmallJoins
import Derived.SevenTiedAt
/- Lowered code, as nobody writes it; small programs of the laws. No condition. -/
namespace Go.Proofs.YtpehdlobicocpaaDoor.Pf
open Go Go.RowKit Go.Proofs Go.Proofs.YtpehdlobicocpaaDoor.Mw Go.Proofs.YtpehdlobicocpaaDoor.Sx
set_option linter.unusedVariables false
set_option linter.unusedSimpArgs false
set_option maxRecDepth 8000
theorem Lower_pt (p : List Fnc) (fn : Int) : Pt Tryd.prog F_lower_Lower [.agg [slD Fnc.c p], .int .i64 fn] (.tup [.agg (lowerR p fn).1.c, .int .i64 (lowerR p fn).2]) :=
  Pt.of (Lower_pc p fn fun dc dm M' Sc Sm hc hm nd new sub => by
    obtain ⟨t1, t2⟩ := irE_th.sl hc
    obtain ⟨t3, t4⟩ := metaE_th.sl hm
    refine pt_only (S := Sc ++ Sm) (by simp only [thawed, thawedL, t1, t3]; rfl) (fun b hb => ?_) ?_
    · rcases List.mem_append.1 hb with hb | hb
      · exact t2 b hb
      · exact t4 b hb
    · have g1 := SlAt.only irE_ok hc (T := Sc ++ Sm) (fun b hb => by simp [hb])
      have g2 := SlAt.only metaE_ok hm (T := Sc ++ Sm) (fun b hb => by simp [hb])
      rw [fz_tup]
      simp only [List.map_cons, List.map_nil, fz_agg, fz_int]
      rw [g1.fz irE_ok (k := 3) (by decide), g2.fz metaE_ok (k := 3) (by decide)]
      rfl)
theorem SameIr_e0 (k r a b kk c m pc : Int) : pf Tryd.prog F_swagelaw0_SameIr [.agg [.int .i64 k, .int .i64 r, .int .i64 a, .int .i64 b, .int .i64 kk, slI [], .int .i64 c, .int .i64 m, .int .i64 pc], .agg [.int .i64 k, .int .i64 r, .int .i64 a, .int .i64 b, .int .i64 kk, .isl 0 [], .int .i64 c, .int .i64 m, .int .i64 pc]] = some (.bool true) :=
  (SameIr_pf ⟨k, r, a, b, kk, [], c, m, pc⟩ ⟨k, r, a, b, kk, [], c, m, pc⟩ (by simp)).trans (by rw [decide_eq_true rfl])
theorem SameIr_e2 (k r a b kk y z c m pc : Int) : pf Tryd.prog F_swagelaw0_SameIr [.agg [.int .i64 k, .int .i64 r, .int .i64 a, .int .i64 b, .int .i64 kk, slI [y, z], .int .i64 c, .int .i64 m, .int .i64 pc], .agg [.int .i64 k, .int .i64 r, .int .i64 a, .int .i64 b, .int .i64 kk, .isl 2 [.int .i64 y, .int .i64 z], .int .i64 c, .int .i64 m, .int .i64 pc]] = some (.bool true) :=
  (SameIr_pf ⟨k, r, a, b, kk, [y, z], c, m, pc⟩ ⟨k, r, a, b, kk, [y, z], c, m, pc⟩ (by simp [Big])).trans (by rw [decide_eq_true rfl])
theorem ldn9 (K : DMem) (a b c d e f g h i : DV) (r : List DV) : ldnD K 9 (.ip (a :: b :: c :: d :: e :: f :: g :: h :: i :: r)) = some (.agg [a, b, c, d, e, f, g, h, i]) := by simp [ldnD]
theorem ix_lit {l : List Irc} {i : Nat} {x : Irc} (h : l[i]? = some x) : ixD 9 (slD Irc.c l) (.int .i64 (i : Int)) = some (.ip (x.c ++ (l.drop (i + 1)).flatMap Irc.c)) := by
  obtain ⟨hi, rfl⟩ := List.getElem?_eq_some_iff.1 h
  exact ix_slD Irc.len hi
def twoP : List Fnc := [⟨1, 1, [⟨1, 0⟩, ⟨0, 2⟩, ⟨14, 1⟩, ⟨10, 0⟩, ⟨15, 0⟩, ⟨16, 0⟩]⟩, ⟨2, 2, [⟨1, 0⟩, ⟨1, 1⟩, ⟨3, 0⟩, ⟨16, 0⟩]⟩]
theorem two_pu : Pu Tryd.prog F_swagelaw11_two [] (.agg [slD Fnc.c twoP]) := by
  refine Pu.of (pc_swagelaw11_two (by simp) ?_)
  simp only [S_swagelaw11_two, R_swagelaw11_two, MU_swagelaw11_two, MU_swagelaw11_two, SW, wpD, evDL, evDM, evD, bldLD, List.contains_cons, List.contains_nil, Nat.reduceBEq, beq_self_eq_true, Nat.reduceMul, Nat.reduceSub, wpSp, Option.bind_some, Option.some.injEq, exists_eq_left', exists_eq_left, reduceIte, if_false, if_true, Nat.reduceEqDiff, Nat.reduceAdd, Nat.reduceLeDiff, Int.reduceEq, Int.reduceLT, Int.reduceLE, Int.reduceToNat, decide_true, decide_false, DV.bool.injEq, DV.int.injEq, DV.mp.injEq, DV.msl.injEq, DV.tup.injEq, DV.agg.injEq, DV.fn.injEq, true_implies, forall_const, reduceCtorEq, implies_true, ne_eq, DMem.mt]
  intro b M1 hM1
  refine stD (by rw [hM1, DMem.ins_same]) rfl rfl (by simp) (by simp) rfl fun M2 hM2 => ?_
  refine ⟨.agg [slD Fnc.c twoP], ?_, ?_⟩
  · rw [hM2, DMem.ins_same]; rfl
  · exact fz_of (Froz.agg (FrozL.nil.cons (Froz.slD Fnc.froz twoP))) _ _
theorem small_pu (args locals : Int) (code : List Ins) : Pu Tryd.prog F_swagelaw11_small [.int .i64 args, .int .i64 locals, slD Ins.c code] (.agg [slD Fnc.c [⟨args, locals, code⟩]]) := by
  refine Pu.of (pc_swagelaw11_small (by simp) ?_)
  simp only [S_swagelaw11_small, R_swagelaw11_small, MU_swagelaw11_small, MU_swagelaw11_small, SW, wpD, evDL, evDM, evD, bldLD, List.contains_cons, List.contains_nil, Nat.reduceBEq, beq_self_eq_true, Nat.reduceMul, Nat.reduceSub, wpSp, Option.bind_some, Option.some.injEq, exists_eq_left', exists_eq_left, reduceIte, if_false, if_true, Nat.reduceEqDiff, Nat.reduceAdd, Nat.reduceLeDiff, Int.reduceEq, Int.reduceLT, Int.reduceLE, Int.reduceToNat, decide_true, decide_false, DV.bool.injEq, DV.int.injEq, DV.mp.injEq, DV.msl.injEq, DV.tup.injEq, DV.agg.injEq, DV.fn.injEq, true_implies, forall_const, reduceCtorEq, implies_true, ne_eq, DMem.mt]
  intro b M1 hM1
  refine stD (by rw [hM1, DMem.ins_same]) rfl rfl (by simp) (by simp) rfl fun M2 hM2 => ?_
  refine ⟨.agg [slD Fnc.c [⟨args, locals, code⟩]], ?_, ?_⟩
  · rw [hM2, DMem.ins_same]; rfl
  · exact fz_of (Froz.agg (FrozL.nil.cons (Froz.slD Fnc.froz _))) _ _
def twoC : List Irc := [⟨2, 1, 0, 0, 0, [], 1, 0, 0⟩, ⟨1, 2, 0, 0, 2, [], 1, 0, 1⟩, ⟨6, 1, 0, 0, 1, [1, 2], 1, 0, 2⟩, ⟨2, 2, 1, 0, 0, [], 1, 0, 3⟩, ⟨7, 0, 2, 0, 0, [], 1, 0, 4⟩, ⟨8, 0, 1, 0, 0, [], 1, 0, 5⟩]
theorem low_two0 : lowerR twoP 0 = (⟨0, 9, twoC, []⟩, 0) := by decide +kernel
theorem low_two2 : lowerR twoP 2 = (cod0, 1100) := by decide +kernel
theorem awake_pf : pf Tryd.prog F_swagelaw11_awake [] = some (.bool true) := by
  refine pf_of (v := .bool _) (pc_swagelaw11_awake (by simp) ?_) FrozL.nil rfl rfl
  simp only [S_swagelaw11_awake, R_swagelaw11_awake, MU_swagelaw11_awake, MU_swagelaw11_awake, S1_swagelaw11_awake, S2_swagelaw11_awake, S3_swagelaw11_awake, SW, wpD, evDL, evDM, evD, bldLD, List.contains_cons, List.contains_nil, Nat.reduceBEq, beq_self_eq_true, Nat.reduceMul, Nat.reduceSub, wpSp, Option.bind_some, Option.some.injEq, exists_eq_left', exists_eq_left, reduceIte, if_false, if_true, Nat.reduceEqDiff, Nat.reduceAdd, Nat.reduceLeDiff, Int.reduceEq, Int.reduceLT, Int.reduceLE, Int.reduceToNat, decide_true, decide_false, DV.bool.injEq, DV.int.injEq, DV.mp.injEq, DV.msl.injEq, DV.tup.injEq, DV.agg.injEq, DV.fn.injEq, true_implies, forall_const, reduceCtorEq, implies_true, ne_eq, DMem.mt]
  refine Pu.pc two_pu ?_
  have f1 : ∀ n : Int, FrozL [DV.agg [slD Fnc.c twoP], .int .i64 n] := fun n => (FrozL.nil.cons (Froz.int _ _)).cons (Froz.agg (FrozL.nil.cons (Froz.slD Fnc.froz twoP)))
  simp only [MU_swagelaw11_awake, S1_swagelaw11_awake, S2_swagelaw11_awake, S3_swagelaw11_awake, ldnI1, SW, wpD, evDL, evDM, evD, bldLD, List.contains_cons, List.contains_nil, Nat.reduceBEq, beq_self_eq_true, Nat.reduceMul, Nat.reduceSub, wpSp, Option.bind_some, Option.some.injEq, exists_eq_left', exists_eq_left, reduceIte, if_false, if_true, Nat.reduceEqDiff, Nat.reduceAdd, Nat.reduceLeDiff, Int.reduceEq, Int.reduceLT, Int.reduceLE, Int.reduceToNat, decide_true, decide_false, DV.bool.injEq, DV.int.injEq, DV.mp.injEq, DV.msl.injEq, DV.tup.injEq, DV.agg.injEq, DV.fn.injEq, true_implies, forall_const, reduceCtorEq, implies_true, ne_eq, DMem.mt]
  refine Pt.pc (by rw [fzmap_froz (f1 0)]; exact Lower_pt twoP 0) ?_
  rw [low_two0]
  simp only [MU_swagelaw11_awake, S1_swagelaw11_awake, S2_swagelaw11_awake, S3_swagelaw11_awake, ldnI1, SW, wpD, evDL, evDM, evD, bldLD, List.contains_cons, List.contains_nil, Nat.reduceBEq, beq_self_eq_true, Nat.reduceMul, Nat.reduceSub, wpSp, Option.bind_some, Option.some.injEq, exists_eq_left', exists_eq_left, reduceIte, if_false, if_true, Nat.reduceEqDiff, Nat.reduceAdd, Nat.reduceLeDiff, Int.reduceEq, Int.reduceLT, Int.reduceLE, Int.reduceToNat, decide_true, decide_false, DV.bool.injEq, DV.int.injEq, DV.mp.injEq, DV.msl.injEq, DV.tup.injEq, DV.agg.injEq, DV.fn.injEq, true_implies, forall_const, reduceCtorEq, implies_true, ne_eq, DMem.mt]
  refine Pt.pc (by rw [fzmap_froz (f1 2)]; exact Lower_pt twoP 2) ?_
  rw [low_two2]
  have x2 : ixD 9 (slD Irc.c twoC) (.int .i64 2) = some (.ip ((⟨6, 1, 0, 0, 1, [1, 2], 1, 0, 2⟩ : Irc).c ++ (twoC.drop 3).flatMap Irc.c)) := ix_lit (i := 2) rfl
  have x5 : ixD 9 (slD Irc.c twoC) (.int .i64 5) = some (.ip ((⟨8, 0, 1, 0, 0, [], 1, 0, 5⟩ : Irc).c ++ (twoC.drop 6).flatMap Irc.c)) := ix_lit (i := 5) rfl
  have hl : twoC.length = 6 := rfl
  have e6 : decide (¬(((6 : Nat) : Int) = 6)) = false := by decide
  simp only [MU_swagelaw11_awake, S1_swagelaw11_awake, S2_swagelaw11_awake, S3_swagelaw11_awake, ldnI1, NumF_pf, hl, e6, x2, x5, ldn9, fz_agg, fz_zsl, fz_int, fz_ints, List.map_cons, List.map_nil, SameIr_e0, SameIr_e2, SW, wpD, evDL, evDM, evD, bldLD, List.contains_cons, List.contains_nil, Nat.reduceBEq, beq_self_eq_true, Nat.reduceMul, Nat.reduceSub, wpSp, Option.bind_some, Option.some.injEq, exists_eq_left', exists_eq_left, reduceIte, if_false, if_true, Nat.reduceEqDiff, Nat.reduceAdd, Nat.reduceLeDiff, Int.reduceEq, Int.reduceLT, Int.reduceLE, Int.reduceToNat, decide_true, decide_false, DV.bool.injEq, DV.int.injEq, DV.mp.injEq, DV.msl.injEq, DV.tup.injEq, DV.agg.injEq, DV.fn.injEq, true_implies, forall_const, reduceCtorEq, implies_true, ne_eq, DMem.mt]
  decide
end Go.Proofs.YtpehdlobicocpaaDoor.Pf
/- What each kind becomes; what goes back has a poll ahead: two laws. No condition. -/
namespace Go.Proofs.YtpehdlobicocpaaDoor.Pf
open Go Go.RowKit Go.Proofs Go.Proofs.YtpehdlobicocpaaDoor.Mw Go.Proofs.YtpehdlobicocpaaDoor.Sx
set_option linter.unusedVariables false
set_option linter.unusedSimpArgs false
set_option maxRecDepth 16000
def kindsI : List Ins := [⟨0, 9⟩, ⟨1, 0⟩, ⟨2, 0⟩, ⟨5, 0⟩, ⟨10, 0⟩, ⟨11, 0⟩, ⟨15, 0⟩, ⟨14, 1⟩, ⟨16, 0⟩, ⟨13, 3⟩, ⟨12, 3⟩]
def wantI : List Irc := [⟨1, 3, 0, 0, 9, [], 1, 0, 2⟩, ⟨2, 3, 0, 0, 0, [], 1, 0, 2⟩, ⟨2, 0, 2, 0, 0, [], 1, 0, 2⟩, ⟨3, 1, 1, 2, 5, [], 1, 0, 2⟩, ⟨2, 3, 2, 0, 0, [], 1, 0, 2⟩, ⟨0, 0, 0, 0, 0, [], 1, 0, 2⟩, ⟨7, 0, 2, 0, 0, [], 1, 0, 2⟩, ⟨6, 1, 0, 0, 1, [1, 2], 1, 0, 2⟩, ⟨8, 0, 2, 0, 0, [], 1, 0, 2⟩, ⟨5, 0, 2, 0, 3, [], 1, 0, 2⟩, ⟨4, 0, 0, 0, 3, [], 1, 0, 2⟩]
def progK (k : Nat) : List Fnc := [⟨0, 1, [⟨0, 4⟩, ⟨0, 5⟩, kindsI.getD k ⟨0, 0⟩, ⟨0, 6⟩, ⟨16, 0⟩]⟩, ⟨2, 2, [⟨0, 1⟩, ⟨16, 0⟩]⟩]
def codeK (k : Nat) : List Irc := [⟨1, 1, 0, 0, 4, [], 1, 0, 0⟩, ⟨1, 2, 0, 0, 5, [], 1, 0, 1⟩, wantI.getD k ⟨0, 0, 0, 0, 0, [], 0, 0, 0⟩] ++ (if k = 8 then [] else [⟨1, [4, 4, 2, 2, 4, 2, 2, 2, 0, 2, 3].getD k 0, 0, 0, 6, [], 1, 0, 3⟩, ⟨8, 0, [4, 4, 2, 2, 4, 2, 2, 2, 0, 2, 3].getD k 0, 0, 0, [], 1, 0, 4⟩])
theorem low_k : ∀ k, k < 11 → lowerR (progK k) 0 = (⟨0, 9, codeK k, []⟩, 0) := by decide +kernel
theorem kinds_pt {k : Nat} (hk : k < 11) {ds : List DV} (hd : ds = [.agg [slD Fnc.c (progK k)], .int .i64 0]) : Pt Tryd.prog F_lower_Lower (ds.map (fz DMem.mt 4)) (.tup [.agg [.int .i64 0, .int .i64 9, slD Irc.c (codeK k), slD metaC []], .int .i64 0]) := by
  subst hd
  have f1 : FrozL [DV.agg [slD Fnc.c (progK k)], .int .i64 0] := (FrozL.nil.cons (Froz.int _ _)).cons (Froz.agg (FrozL.nil.cons (Froz.slD Fnc.froz (progK k))))
  rw [fzmap_froz f1]
  have := Lower_pt (progK k) 0
  rw [low_k k hk] at this
  exact this
theorem ix_islJ {n sz j : Nat} {i : Int} (h0 : 0 ≤ i) (h1 : i.toNat < n) (hj : i.toNat * sz = j) (cs : List DV) : ixD sz (.isl n cs) (.int .i64 i) = some (.ip (cs.drop j)) := by
  have h2 : i < n := by omega
  subst hj
  simp [ixD, h0, h2]
theorem ldn2 (K : DMem) (a b : DV) (r : List DV) : ldnD K 2 (.ip (a :: b :: r)) = some (.agg [a, b]) := by simp [ldnD]
theorem fz_two (M : DMem) (k : Nat) (x y : Int) : fz M k (.isl 2 [.int .i64 x, .int .i64 y]) = .isl 2 [.int .i64 x, .int .i64 y] := fz_ints M k [x, y]
theorem mod_nat (x : Int) : ∃ k : Nat, k < 11 ∧ wr64 ((x % 18446744073709551616).tmod 11) = (k : Int) := by
  have h0 : 0 ≤ x % 18446744073709551616 := Int.emod_nonneg _ (by decide)
  have h1 : x % 18446744073709551616 < 18446744073709551616 := Int.emod_lt_of_pos _ (by decide)
  generalize x % 18446744073709551616 = y at *
  have h2 : y.tmod 11 = y % 11 := by rw [Int.tmod_eq_emod_of_nonneg h0]
  rw [h2]
  refine ⟨(y % 11).toNat, by omega, ?_⟩
  rw [w64 (by omega)]; omega
set_option maxHeartbeats 4000000 in
theorem LowerKinds_pc (which : Int) : PC Tryd.prog F_swagelaw11_LowerKinds [.int .i64 which] (fun d' M' => d' = .bool true) DMem.mt := by
  refine pc_swagelaw11_LowerKinds (by simp) ?_
  obtain ⟨k, hk, ek⟩ := mod_nat which
  have hk : k = 0 ∨ k = 1 ∨ k = 2 ∨ k = 3 ∨ k = 4 ∨ k = 5 ∨ k = 6 ∨ k = 7 ∨ k = 8 ∨ k = 9 ∨ k = 10 := by omega
  rcases hk with rfl | rfl | rfl | rfl | rfl | rfl | rfl | rfl | rfl | rfl | rfl
  · replace ek : wr64 ((which % 18446744073709551616).tmod 11) = 0 := ek
    have j2 := @ix_islJ 11 2 0 0 (by decide) (by decide) rfl
    have j9 := @ix_islJ 11 9 0 0 (by decide) (by decide) rfl
    have x0 : ixD 9 (slD Irc.c (codeK 0)) (.int .i64 0) = some (.ip ((⟨1, 1, 0, 0, 4, [], 1, 0, 0⟩ : Irc).c ++ ((codeK 0).drop 1).flatMap Irc.c)) := ix_lit (i := 0) rfl
    have x1 : ixD 9 (slD Irc.c (codeK 0)) (.int .i64 1) = some (.ip ((⟨1, 2, 0, 0, 5, [], 1, 0, 1⟩ : Irc).c ++ ((codeK 0).drop 2).flatMap Irc.c)) := ix_lit (i := 1) rfl
    have x2 : ixD 9 (slD Irc.c (codeK 0)) (.int .i64 2) = some (.ip ((⟨1, 3, 0, 0, 9, [], 1, 0, 2⟩ : Irc).c ++ ((codeK 0).drop 3).flatMap Irc.c)) := ix_lit (i := 2) rfl
    have hl : (codeK 0).length = 5 := rfl
    simp only [S_swagelaw11_LowerKinds, R_swagelaw11_LowerKinds, MU_swagelaw11_LowerKinds, awake_pf, ek, j2, j9, ldn2, ldn9, ldnI1, List.drop_succ_cons, List.drop_zero, SW, wpD, evDL, evDM, evD, bldLD, List.contains_cons, List.contains_nil, Nat.reduceBEq, beq_self_eq_true, Nat.reduceMul, Nat.reduceSub, wpSp, Option.bind_some, Option.some.injEq, exists_eq_left', exists_eq_left, reduceIte, if_false, if_true, Nat.reduceEqDiff, Nat.reduceAdd, Nat.reduceLeDiff, Int.reduceEq, Int.reduceLT, Int.reduceLE, Int.reduceToNat, decide_true, decide_false, DV.bool.injEq, DV.int.injEq, DV.mp.injEq, DV.msl.injEq, DV.tup.injEq, DV.agg.injEq, DV.fn.injEq, true_implies, forall_const, reduceCtorEq, implies_true, ne_eq, DMem.mt]
    refine Pt.pc (kinds_pt (k := 0) (by decide) rfl) ?_
    simp only [MU_swagelaw11_LowerKinds, S1_swagelaw11_LowerKinds, ek, j9, ldn2, ldn9, ldnI1, NumF_pf, hl, x0, x1, x2, fz_agg, fz_zsl, fz_int, fz_ints, List.map_cons, List.map_nil, SameIr_e0, SameIr_e2, List.drop_succ_cons, List.drop_zero, SW, wpD, evDL, evDM, evD, bldLD, List.contains_cons, List.contains_nil, Nat.reduceBEq, beq_self_eq_true, Nat.reduceMul, Nat.reduceSub, wpSp, Option.bind_some, Option.some.injEq, exists_eq_left', exists_eq_left, reduceIte, if_false, if_true, Nat.reduceEqDiff, Nat.reduceAdd, Nat.reduceLeDiff, Int.reduceEq, Int.reduceLT, Int.reduceLE, Int.reduceToNat, decide_true, decide_false, DV.bool.injEq, DV.int.injEq, DV.mp.injEq, DV.msl.injEq, DV.tup.injEq, DV.agg.injEq, DV.fn.injEq, true_implies, forall_const, reduceCtorEq, implies_true, ne_eq, DMem.mt]
    refine ⟨fun h => absurd h (by decide), fun _ b M1 hM1 => ?_⟩
    refine st9 (i := 6) (v := 1) (q := b) (by rw [hM1, DMem.ins_same]) rfl (by decide) fun M2 g2 _ => ?_
    refine st9 (i := 8) (v := 2) g2 rfl (by decide) fun M3 g3 _ => ?_
    replace g3 : M3 b = some ⟨28, 9, [.int .i64 1, .int .i64 3, .int .i64 0, .int .i64 0, .int .i64 9, .zsl, .int .i64 1, .int .i64 0, .int .i64 2]⟩ := g3
    have z0 : decide (((0 : Nat) : Int) = 0) = true := by decide
    have z3 : decide (((5 : Nat) : Int) = 3) = false := by decide
    have z5 : decide (((5 : Nat) : Int) = 5) = true := by decide
    simp only [g3, z0, z3, z5, ldnM, fz_agg, fz_zsl, fz_int, fz_ints, fz_two, List.map_cons, List.map_nil, SameIr_e0, SameIr_e2, grdTT, grdTF, grdFF, grdFT, grdU, SW, wpD, evDL, evDM, evD, bldLD, List.contains_cons, List.contains_nil, Nat.reduceBEq, beq_self_eq_true, Nat.reduceMul, Nat.reduceSub, wpSp, Option.bind_some, Option.some.injEq, exists_eq_left', exists_eq_left, reduceIte, if_false, if_true, Nat.reduceEqDiff, Nat.reduceAdd, Nat.reduceLeDiff, Int.reduceEq, Int.reduceLT, Int.reduceLE, Int.reduceToNat, decide_true, decide_false, DV.bool.injEq, DV.int.injEq, DV.mp.injEq, DV.msl.injEq, DV.tup.injEq, DV.agg.injEq, DV.fn.injEq, true_implies, forall_const, reduceCtorEq, implies_true, ne_eq, DMem.mt]
  · replace ek : wr64 ((which % 18446744073709551616).tmod 11) = 1 := ek
    have j2 := @ix_islJ 11 2 2 1 (by decide) (by decide) rfl
    have j9 := @ix_islJ 11 9 9 1 (by decide) (by decide) rfl
    have x0 : ixD 9 (slD Irc.c (codeK 1)) (.int .i64 0) = some (.ip ((⟨1, 1, 0, 0, 4, [], 1, 0, 0⟩ : Irc).c ++ ((codeK 1).drop 1).flatMap Irc.c)) := ix_lit (i := 0) rfl
    have x1 : ixD 9 (slD Irc.c (codeK 1)) (.int .i64 1) = some (.ip ((⟨1, 2, 0, 0, 5, [], 1, 0, 1⟩ : Irc).c ++ ((codeK 1).drop 2).flatMap Irc.c)) := ix_lit (i := 1) rfl
    have x2 : ixD 9 (slD Irc.c (codeK 1)) (.int .i64 2) = some (.ip ((⟨2, 3, 0, 0, 0, [], 1, 0, 2⟩ : Irc).c ++ ((codeK 1).drop 3).flatMap Irc.c)) := ix_lit (i := 2) rfl
    have hl : (codeK 1).length = 5 := rfl
    simp only [S_swagelaw11_LowerKinds, R_swagelaw11_LowerKinds, MU_swagelaw11_LowerKinds, awake_pf, ek, j2, j9, ldn2, ldn9, ldnI1, List.drop_succ_cons, List.drop_zero, SW, wpD, evDL, evDM, evD, bldLD, List.contains_cons, List.contains_nil, Nat.reduceBEq, beq_self_eq_true, Nat.reduceMul, Nat.reduceSub, wpSp, Option.bind_some, Option.some.injEq, exists_eq_left', exists_eq_left, reduceIte, if_false, if_true, Nat.reduceEqDiff, Nat.reduceAdd, Nat.reduceLeDiff, Int.reduceEq, Int.reduceLT, Int.reduceLE, Int.reduceToNat, decide_true, decide_false, DV.bool.injEq, DV.int.injEq, DV.mp.injEq, DV.msl.injEq, DV.tup.injEq, DV.agg.injEq, DV.fn.injEq, true_implies, forall_const, reduceCtorEq, implies_true, ne_eq, DMem.mt]
    refine Pt.pc (kinds_pt (k := 1) (by decide) rfl) ?_
    simp only [MU_swagelaw11_LowerKinds, S1_swagelaw11_LowerKinds, ek, j9, ldn2, ldn9, ldnI1, NumF_pf, hl, x0, x1, x2, fz_agg, fz_zsl, fz_int, fz_ints, List.map_cons, List.map_nil, SameIr_e0, SameIr_e2, List.drop_succ_cons, List.drop_zero, SW, wpD, evDL, evDM, evD, bldLD, List.contains_cons, List.contains_nil, Nat.reduceBEq, beq_self_eq_true, Nat.reduceMul, Nat.reduceSub, wpSp, Option.bind_some, Option.some.injEq, exists_eq_left', exists_eq_left, reduceIte, if_false, if_true, Nat.reduceEqDiff, Nat.reduceAdd, Nat.reduceLeDiff, Int.reduceEq, Int.reduceLT, Int.reduceLE, Int.reduceToNat, decide_true, decide_false, DV.bool.injEq, DV.int.injEq, DV.mp.injEq, DV.msl.injEq, DV.tup.injEq, DV.agg.injEq, DV.fn.injEq, true_implies, forall_const, reduceCtorEq, implies_true, ne_eq, DMem.mt]
    refine ⟨fun h => absurd h (by decide), fun _ b M1 hM1 => ?_⟩
    refine st9 (i := 6) (v := 1) (q := b) (by rw [hM1, DMem.ins_same]) rfl (by decide) fun M2 g2 _ => ?_
    refine st9 (i := 8) (v := 2) g2 rfl (by decide) fun M3 g3 _ => ?_
    replace g3 : M3 b = some ⟨28, 9, [.int .i64 2, .int .i64 3, .int .i64 0, .int .i64 0, .int .i64 0, .zsl, .int .i64 1, .int .i64 0, .int .i64 2]⟩ := g3
    have z0 : decide (((0 : Nat) : Int) = 0) = true := by decide
    have z3 : decide (((5 : Nat) : Int) = 3) = false := by decide
    have z5 : decide (((5 : Nat) : Int) = 5) = true := by decide
    simp only [g3, z0, z3, z5, ldnM, fz_agg, fz_zsl, fz_int, fz_ints, fz_two, List.map_cons, List.map_nil, SameIr_e0, SameIr_e2, grdTT, grdTF, grdFF, grdFT, grdU, SW, wpD, evDL, evDM, evD, bldLD, List.contains_cons, List.contains_nil, Nat.reduceBEq, beq_self_eq_true, Nat.reduceMul, Nat.reduceSub, wpSp, Option.bind_some, Option.some.injEq, exists_eq_left', exists_eq_left, reduceIte, if_false, if_true, Nat.reduceEqDiff, Nat.reduceAdd, Nat.reduceLeDiff, Int.reduceEq, Int.reduceLT, Int.reduceLE, Int.reduceToNat, decide_true, decide_false, DV.bool.injEq, DV.int.injEq, DV.mp.injEq, DV.msl.injEq, DV.tup.injEq, DV.agg.injEq, DV.fn.injEq, true_implies, forall_const, reduceCtorEq, implies_true, ne_eq, DMem.mt]
  · replace ek : wr64 ((which % 18446744073709551616).tmod 11) = 2 := ek
    have j2 := @ix_islJ 11 2 4 2 (by decide) (by decide) rfl
    have j9 := @ix_islJ 11 9 18 2 (by decide) (by decide) rfl
    have x0 : ixD 9 (slD Irc.c (codeK 2)) (.int .i64 0) = some (.ip ((⟨1, 1, 0, 0, 4, [], 1, 0, 0⟩ : Irc).c ++ ((codeK 2).drop 1).flatMap Irc.c)) := ix_lit (i := 0) rfl
    have x1 : ixD 9 (slD Irc.c (codeK 2)) (.int .i64 1) = some (.ip ((⟨1, 2, 0, 0, 5, [], 1, 0, 1⟩ : Irc).c ++ ((codeK 2).drop 2).flatMap Irc.c)) := ix_lit (i := 1) rfl
    have x2 : ixD 9 (slD Irc.c (codeK 2)) (.int .i64 2) = some (.ip ((⟨2, 0, 2, 0, 0, [], 1, 0, 2⟩ : Irc).c ++ ((codeK 2).drop 3).flatMap Irc.c)) := ix_lit (i := 2) rfl
    have hl : (codeK 2).length = 5 := rfl
    simp only [S_swagelaw11_LowerKinds, R_swagelaw11_LowerKinds, MU_swagelaw11_LowerKinds, awake_pf, ek, j2, j9, ldn2, ldn9, ldnI1, List.drop_succ_cons, List.drop_zero, SW, wpD, evDL, evDM, evD, bldLD, List.contains_cons, List.contains_nil, Nat.reduceBEq, beq_self_eq_true, Nat.reduceMul, Nat.reduceSub, wpSp, Option.bind_some, Option.some.injEq, exists_eq_left', exists_eq_left, reduceIte, if_false, if_true, Nat.reduceEqDiff, Nat.reduceAdd, Nat.reduceLeDiff, Int.reduceEq, Int.reduceLT, Int.reduceLE, Int.reduceToNat, decide_true, decide_false, DV.bool.injEq, DV.int.injEq, DV.mp.injEq, DV.msl.injEq, DV.tup.injEq, DV.agg.injEq, DV.fn.injEq, true_implies, forall_const, reduceCtorEq, implies_true, ne_eq, DMem.mt]
    refine Pt.pc (kinds_pt (k := 2) (by decide) rfl) ?_
    simp only [MU_swagelaw11_LowerKinds, S1_swagelaw11_LowerKinds, ek, j9, ldn2, ldn9, ldnI1, NumF_pf, hl, x0, x1, x2, fz_agg, fz_zsl, fz_int, fz_ints, List.map_cons, List.map_nil, SameIr_e0, SameIr_e2, List.drop_succ_cons, List.drop_zero, SW, wpD, evDL, evDM, evD, bldLD, List.contains_cons, List.contains_nil, Nat.reduceBEq, beq_self_eq_true, Nat.reduceMul, Nat.reduceSub, wpSp, Option.bind_some, Option.some.injEq, exists_eq_left', exists_eq_left, reduceIte, if_false, if_true, Nat.reduceEqDiff, Nat.reduceAdd, Nat.reduceLeDiff, Int.reduceEq, Int.reduceLT, Int.reduceLE, Int.reduceToNat, decide_true, decide_false, DV.bool.injEq, DV.int.injEq, DV.mp.injEq, DV.msl.injEq, DV.tup.injEq, DV.agg.injEq, DV.fn.injEq, true_implies, forall_const, reduceCtorEq, implies_true, ne_eq, DMem.mt]
    refine ⟨fun h => absurd h (by decide), fun _ b M1 hM1 => ?_⟩
    refine st9 (i := 6) (v := 1) (q := b) (by rw [hM1, DMem.ins_same]) rfl (by decide) fun M2 g2 _ => ?_
    refine st9 (i := 8) (v := 2) g2 rfl (by decide) fun M3 g3 _ => ?_
    replace g3 : M3 b = some ⟨28, 9, [.int .i64 2, .int .i64 0, .int .i64 2, .int .i64 0, .int .i64 0, .zsl, .int .i64 1, .int .i64 0, .int .i64 2]⟩ := g3
    have z0 : decide (((0 : Nat) : Int) = 0) = true := by decide
    have z3 : decide (((5 : Nat) : Int) = 3) = false := by decide
    have z5 : decide (((5 : Nat) : Int) = 5) = true := by decide
    simp only [g3, z0, z3, z5, ldnM, fz_agg, fz_zsl, fz_int, fz_ints, fz_two, List.map_cons, List.map_nil, SameIr_e0, SameIr_e2, grdTT, grdTF, grdFF, grdFT, grdU, SW, wpD, evDL, evDM, evD, bldLD, List.contains_cons, List.contains_nil, Nat.reduceBEq, beq_self_eq_true, Nat.reduceMul, Nat.reduceSub, wpSp, Option.bind_some, Option.some.injEq, exists_eq_left', exists_eq_left, reduceIte, if_false, if_true, Nat.reduceEqDiff, Nat.reduceAdd, Nat.reduceLeDiff, Int.reduceEq, Int.reduceLT, Int.reduceLE, Int.reduceToNat, decide_true, decide_false, DV.bool.injEq, DV.int.injEq, DV.mp.injEq, DV.msl.injEq, DV.tup.injEq, DV.agg.injEq, DV.fn.injEq, true_implies, forall_const, reduceCtorEq, implies_true, ne_eq, DMem.mt]
  · replace ek : wr64 ((which % 18446744073709551616).tmod 11) = 3 := ek
    have j2 := @ix_islJ 11 2 6 3 (by decide) (by decide) rfl
    have j9 := @ix_islJ 11 9 27 3 (by decide) (by decide) rfl
    have x0 : ixD 9 (slD Irc.c (codeK 3)) (.int .i64 0) = some (.ip ((⟨1, 1, 0, 0, 4, [], 1, 0, 0⟩ : Irc).c ++ ((codeK 3).drop 1).flatMap Irc.c)) := ix_lit (i := 0) rfl
    have x1 : ixD 9 (slD Irc.c (codeK 3)) (.int .i64 1) = some (.ip ((⟨1, 2, 0, 0, 5, [], 1, 0, 1⟩ : Irc).c ++ ((codeK 3).drop 2).flatMap Irc.c)) := ix_lit (i := 1) rfl
    have x2 : ixD 9 (slD Irc.c (codeK 3)) (.int .i64 2) = some (.ip ((⟨3, 1, 1, 2, 5, [], 1, 0, 2⟩ : Irc).c ++ ((codeK 3).drop 3).flatMap Irc.c)) := ix_lit (i := 2) rfl
    have hl : (codeK 3).length = 5 := rfl
    simp only [S_swagelaw11_LowerKinds, R_swagelaw11_LowerKinds, MU_swagelaw11_LowerKinds, awake_pf, ek, j2, j9, ldn2, ldn9, ldnI1, List.drop_succ_cons, List.drop_zero, SW, wpD, evDL, evDM, evD, bldLD, List.contains_cons, List.contains_nil, Nat.reduceBEq, beq_self_eq_true, Nat.reduceMul, Nat.reduceSub, wpSp, Option.bind_some, Option.some.injEq, exists_eq_left', exists_eq_left, reduceIte, if_false, if_true, Nat.reduceEqDiff, Nat.reduceAdd, Nat.reduceLeDiff, Int.reduceEq, Int.reduceLT, Int.reduceLE, Int.reduceToNat, decide_true, decide_false, DV.bool.injEq, DV.int.injEq, DV.mp.injEq, DV.msl.injEq, DV.tup.injEq, DV.agg.injEq, DV.fn.injEq, true_implies, forall_const, reduceCtorEq, implies_true, ne_eq, DMem.mt]
    refine Pt.pc (kinds_pt (k := 3) (by decide) rfl) ?_
    simp only [MU_swagelaw11_LowerKinds, S1_swagelaw11_LowerKinds, ek, j9, ldn2, ldn9, ldnI1, NumF_pf, hl, x0, x1, x2, fz_agg, fz_zsl, fz_int, fz_ints, List.map_cons, List.map_nil, SameIr_e0, SameIr_e2, List.drop_succ_cons, List.drop_zero, SW, wpD, evDL, evDM, evD, bldLD, List.contains_cons, List.contains_nil, Nat.reduceBEq, beq_self_eq_true, Nat.reduceMul, Nat.reduceSub, wpSp, Option.bind_some, Option.some.injEq, exists_eq_left', exists_eq_left, reduceIte, if_false, if_true, Nat.reduceEqDiff, Nat.reduceAdd, Nat.reduceLeDiff, Int.reduceEq, Int.reduceLT, Int.reduceLE, Int.reduceToNat, decide_true, decide_false, DV.bool.injEq, DV.int.injEq, DV.mp.injEq, DV.msl.injEq, DV.tup.injEq, DV.agg.injEq, DV.fn.injEq, true_implies, forall_const, reduceCtorEq, implies_true, ne_eq, DMem.mt]
    refine ⟨fun h => absurd h (by decide), fun _ b M1 hM1 => ?_⟩
    refine st9 (i := 6) (v := 1) (q := b) (by rw [hM1, DMem.ins_same]) rfl (by decide) fun M2 g2 _ => ?_
    refine st9 (i := 8) (v := 2) g2 rfl (by decide) fun M3 g3 _ => ?_
    replace g3 : M3 b = some ⟨28, 9, [.int .i64 3, .int .i64 1, .int .i64 1, .int .i64 2, .int .i64 5, .zsl, .int .i64 1, .int .i64 0, .int .i64 2]⟩ := g3
    have z0 : decide (((0 : Nat) : Int) = 0) = true := by decide
    have z3 : decide (((5 : Nat) : Int) = 3) = false := by decide
    have z5 : decide (((5 : Nat) : Int) = 5) = true := by decide
    simp only [g3, z0, z3, z5, ldnM, fz_agg, fz_zsl, fz_int, fz_ints, fz_two, List.map_cons, List.map_nil, SameIr_e0, SameIr_e2, grdTT, grdTF, grdFF, grdFT, grdU, SW, wpD, evDL, evDM, evD, bldLD, List.contains_cons, List.contains_nil, Nat.reduceBEq, beq_self_eq_true, Nat.reduceMul, Nat.reduceSub, wpSp, Option.bind_some, Option.some.injEq, exists_eq_left', exists_eq_left, reduceIte, if_false, if_true, Nat.reduceEqDiff, Nat.reduceAdd, Nat.reduceLeDiff, Int.reduceEq, Int.reduceLT, Int.reduceLE, Int.reduceToNat, decide_true, decide_false, DV.bool.injEq, DV.int.injEq, DV.mp.injEq, DV.msl.injEq, DV.tup.injEq, DV.agg.injEq, DV.fn.injEq, true_implies, forall_const, reduceCtorEq, implies_true, ne_eq, DMem.mt]
  · replace ek : wr64 ((which % 18446744073709551616).tmod 11) = 4 := ek
    have j2 := @ix_islJ 11 2 8 4 (by decide) (by decide) rfl
    have j9 := @ix_islJ 11 9 36 4 (by decide) (by decide) rfl
    have x0 : ixD 9 (slD Irc.c (codeK 4)) (.int .i64 0) = some (.ip ((⟨1, 1, 0, 0, 4, [], 1, 0, 0⟩ : Irc).c ++ ((codeK 4).drop 1).flatMap Irc.c)) := ix_lit (i := 0) rfl
    have x1 : ixD 9 (slD Irc.c (codeK 4)) (.int .i64 1) = some (.ip ((⟨1, 2, 0, 0, 5, [], 1, 0, 1⟩ : Irc).c ++ ((codeK 4).drop 2).flatMap Irc.c)) := ix_lit (i := 1) rfl
    have x2 : ixD 9 (slD Irc.c (codeK 4)) (.int .i64 2) = some (.ip ((⟨2, 3, 2, 0, 0, [], 1, 0, 2⟩ : Irc).c ++ ((codeK 4).drop 3).flatMap Irc.c)) := ix_lit (i := 2) rfl
    have hl : (codeK 4).length = 5 := rfl
    simp only [S_swagelaw11_LowerKinds, R_swagelaw11_LowerKinds, MU_swagelaw11_LowerKinds, awake_pf, ek, j2, j9, ldn2, ldn9, ldnI1, List.drop_succ_cons, List.drop_zero, SW, wpD, evDL, evDM, evD, bldLD, List.contains_cons, List.contains_nil, Nat.reduceBEq, beq_self_eq_true, Nat.reduceMul, Nat.reduceSub, wpSp, Option.bind_some, Option.some.injEq, exists_eq_left', exists_eq_left, reduceIte, if_false, if_true, Nat.reduceEqDiff, Nat.reduceAdd, Nat.reduceLeDiff, Int.reduceEq, Int.reduceLT, Int.reduceLE, Int.reduceToNat, decide_true, decide_false, DV.bool.injEq, DV.int.injEq, DV.mp.injEq, DV.msl.injEq, DV.tup.injEq, DV.agg.injEq, DV.fn.injEq, true_implies, forall_const, reduceCtorEq, implies_true, ne_eq, DMem.mt]
    refine Pt.pc (kinds_pt (k := 4) (by decide) rfl) ?_
    simp only [MU_swagelaw11_LowerKinds, S1_swagelaw11_LowerKinds, ek, j9, ldn2, ldn9, ldnI1, NumF_pf, hl, x0, x1, x2, fz_agg, fz_zsl, fz_int, fz_ints, List.map_cons, List.map_nil, SameIr_e0, SameIr_e2, List.drop_succ_cons, List.drop_zero, SW, wpD, evDL, evDM, evD, bldLD, List.contains_cons, List.contains_nil, Nat.reduceBEq, beq_self_eq_true, Nat.reduceMul, Nat.reduceSub, wpSp, Option.bind_some, Option.some.injEq, exists_eq_left', exists_eq_left, reduceIte, if_false, if_true, Nat.reduceEqDiff, Nat.reduceAdd, Nat.reduceLeDiff, Int.reduceEq, Int.reduceLT, Int.reduceLE, Int.reduceToNat, decide_true, decide_false, DV.bool.injEq, DV.int.injEq, DV.mp.injEq, DV.msl.injEq, DV.tup.injEq, DV.agg.injEq, DV.fn.injEq, true_implies, forall_const, reduceCtorEq, implies_true, ne_eq, DMem.mt]
    refine ⟨fun h => absurd h (by decide), fun _ b M1 hM1 => ?_⟩
    refine st9 (i := 6) (v := 1) (q := b) (by rw [hM1, DMem.ins_same]) rfl (by decide) fun M2 g2 _ => ?_
    refine st9 (i := 8) (v := 2) g2 rfl (by decide) fun M3 g3 _ => ?_
    replace g3 : M3 b = some ⟨28, 9, [.int .i64 2, .int .i64 3, .int .i64 2, .int .i64 0, .int .i64 0, .zsl, .int .i64 1, .int .i64 0, .int .i64 2]⟩ := g3
    have z0 : decide (((0 : Nat) : Int) = 0) = true := by decide
    have z3 : decide (((5 : Nat) : Int) = 3) = false := by decide
    have z5 : decide (((5 : Nat) : Int) = 5) = true := by decide
    simp only [g3, z0, z3, z5, ldnM, fz_agg, fz_zsl, fz_int, fz_ints, fz_two, List.map_cons, List.map_nil, SameIr_e0, SameIr_e2, grdTT, grdTF, grdFF, grdFT, grdU, SW, wpD, evDL, evDM, evD, bldLD, List.contains_cons, List.contains_nil, Nat.reduceBEq, beq_self_eq_true, Nat.reduceMul, Nat.reduceSub, wpSp, Option.bind_some, Option.some.injEq, exists_eq_left', exists_eq_left, reduceIte, if_false, if_true, Nat.reduceEqDiff, Nat.reduceAdd, Nat.reduceLeDiff, Int.reduceEq, Int.reduceLT, Int.reduceLE, Int.reduceToNat, decide_true, decide_false, DV.bool.injEq, DV.int.injEq, DV.mp.injEq, DV.msl.injEq, DV.tup.injEq, DV.agg.injEq, DV.fn.injEq, true_implies, forall_const, reduceCtorEq, implies_true, ne_eq, DMem.mt]
  · replace ek : wr64 ((which % 18446744073709551616).tmod 11) = 5 := ek
    have j2 := @ix_islJ 11 2 10 5 (by decide) (by decide) rfl
    have j9 := @ix_islJ 11 9 45 5 (by decide) (by decide) rfl
    have x0 : ixD 9 (slD Irc.c (codeK 5)) (.int .i64 0) = some (.ip ((⟨1, 1, 0, 0, 4, [], 1, 0, 0⟩ : Irc).c ++ ((codeK 5).drop 1).flatMap Irc.c)) := ix_lit (i := 0) rfl
    have x1 : ixD 9 (slD Irc.c (codeK 5)) (.int .i64 1) = some (.ip ((⟨1, 2, 0, 0, 5, [], 1, 0, 1⟩ : Irc).c ++ ((codeK 5).drop 2).flatMap Irc.c)) := ix_lit (i := 1) rfl
    have x2 : ixD 9 (slD Irc.c (codeK 5)) (.int .i64 2) = some (.ip ((⟨0, 0, 0, 0, 0, [], 1, 0, 2⟩ : Irc).c ++ ((codeK 5).drop 3).flatMap Irc.c)) := ix_lit (i := 2) rfl
    have hl : (codeK 5).length = 5 := rfl
    simp only [S_swagelaw11_LowerKinds, R_swagelaw11_LowerKinds, MU_swagelaw11_LowerKinds, awake_pf, ek, j2, j9, ldn2, ldn9, ldnI1, List.drop_succ_cons, List.drop_zero, SW, wpD, evDL, evDM, evD, bldLD, List.contains_cons, List.contains_nil, Nat.reduceBEq, beq_self_eq_true, Nat.reduceMul, Nat.reduceSub, wpSp, Option.bind_some, Option.some.injEq, exists_eq_left', exists_eq_left, reduceIte, if_false, if_true, Nat.reduceEqDiff, Nat.reduceAdd, Nat.reduceLeDiff, Int.reduceEq, Int.reduceLT, Int.reduceLE, Int.reduceToNat, decide_true, decide_false, DV.bool.injEq, DV.int.injEq, DV.mp.injEq, DV.msl.injEq, DV.tup.injEq, DV.agg.injEq, DV.fn.injEq, true_implies, forall_const, reduceCtorEq, implies_true, ne_eq, DMem.mt]
    refine Pt.pc (kinds_pt (k := 5) (by decide) rfl) ?_
    simp only [MU_swagelaw11_LowerKinds, S1_swagelaw11_LowerKinds, ek, j9, ldn2, ldn9, ldnI1, NumF_pf, hl, x0, x1, x2, fz_agg, fz_zsl, fz_int, fz_ints, List.map_cons, List.map_nil, SameIr_e0, SameIr_e2, List.drop_succ_cons, List.drop_zero, SW, wpD, evDL, evDM, evD, bldLD, List.contains_cons, List.contains_nil, Nat.reduceBEq, beq_self_eq_true, Nat.reduceMul, Nat.reduceSub, wpSp, Option.bind_some, Option.some.injEq, exists_eq_left', exists_eq_left, reduceIte, if_false, if_true, Nat.reduceEqDiff, Nat.reduceAdd, Nat.reduceLeDiff, Int.reduceEq, Int.reduceLT, Int.reduceLE, Int.reduceToNat, decide_true, decide_false, DV.bool.injEq, DV.int.injEq, DV.mp.injEq, DV.msl.injEq, DV.tup.injEq, DV.agg.injEq, DV.fn.injEq, true_implies, forall_const, reduceCtorEq, implies_true, ne_eq, DMem.mt]
    refine ⟨fun h => absurd h (by decide), fun _ b M1 hM1 => ?_⟩
    refine st9 (i := 6) (v := 1) (q := b) (by rw [hM1, DMem.ins_same]) rfl (by decide) fun M2 g2 _ => ?_
    refine st9 (i := 8) (v := 2) g2 rfl (by decide) fun M3 g3 _ => ?_
    replace g3 : M3 b = some ⟨28, 9, [.int .i64 0, .int .i64 0, .int .i64 0, .int .i64 0, .int .i64 0, .zsl, .int .i64 1, .int .i64 0, .int .i64 2]⟩ := g3
    have z0 : decide (((0 : Nat) : Int) = 0) = true := by decide
    have z3 : decide (((5 : Nat) : Int) = 3) = false := by decide
    have z5 : decide (((5 : Nat) : Int) = 5) = true := by decide
    simp only [g3, z0, z3, z5, ldnM, fz_agg, fz_zsl, fz_int, fz_ints, fz_two, List.map_cons, List.map_nil, SameIr_e0, SameIr_e2, grdTT, grdTF, grdFF, grdFT, grdU, SW, wpD, evDL, evDM, evD, bldLD, List.contains_cons, List.contains_nil, Nat.reduceBEq, beq_self_eq_true, Nat.reduceMul, Nat.reduceSub, wpSp, Option.bind_some, Option.some.injEq, exists_eq_left', exists_eq_left, reduceIte, if_false, if_true, Nat.reduceEqDiff, Nat.reduceAdd, Nat.reduceLeDiff, Int.reduceEq, Int.reduceLT, Int.reduceLE, Int.reduceToNat, decide_true, decide_false, DV.bool.injEq, DV.int.injEq, DV.mp.injEq, DV.msl.injEq, DV.tup.injEq, DV.agg.injEq, DV.fn.injEq, true_implies, forall_const, reduceCtorEq, implies_true, ne_eq, DMem.mt]
  · replace ek : wr64 ((which % 18446744073709551616).tmod 11) = 6 := ek
    have j2 := @ix_islJ 11 2 12 6 (by decide) (by decide) rfl
    have j9 := @ix_islJ 11 9 54 6 (by decide) (by decide) rfl
    have x0 : ixD 9 (slD Irc.c (codeK 6)) (.int .i64 0) = some (.ip ((⟨1, 1, 0, 0, 4, [], 1, 0, 0⟩ : Irc).c ++ ((codeK 6).drop 1).flatMap Irc.c)) := ix_lit (i := 0) rfl
    have x1 : ixD 9 (slD Irc.c (codeK 6)) (.int .i64 1) = some (.ip ((⟨1, 2, 0, 0, 5, [], 1, 0, 1⟩ : Irc).c ++ ((codeK 6).drop 2).flatMap Irc.c)) := ix_lit (i := 1) rfl
    have x2 : ixD 9 (slD Irc.c (codeK 6)) (.int .i64 2) = some (.ip ((⟨7, 0, 2, 0, 0, [], 1, 0, 2⟩ : Irc).c ++ ((codeK 6).drop 3).flatMap Irc.c)) := ix_lit (i := 2) rfl
    have hl : (codeK 6).length = 5 := rfl
    simp only [S_swagelaw11_LowerKinds, R_swagelaw11_LowerKinds, MU_swagelaw11_LowerKinds, awake_pf, ek, j2, j9, ldn2, ldn9, ldnI1, List.drop_succ_cons, List.drop_zero, SW, wpD, evDL, evDM, evD, bldLD, List.contains_cons, List.contains_nil, Nat.reduceBEq, beq_self_eq_true, Nat.reduceMul, Nat.reduceSub, wpSp, Option.bind_some, Option.some.injEq, exists_eq_left', exists_eq_left, reduceIte, if_false, if_true, Nat.reduceEqDiff, Nat.reduceAdd, Nat.reduceLeDiff, Int.reduceEq, Int.reduceLT, Int.reduceLE, Int.reduceToNat, decide_true, decide_false, DV.bool.injEq, DV.int.injEq, DV.mp.injEq, DV.msl.injEq, DV.tup.injEq, DV.agg.injEq, DV.fn.injEq, true_implies, forall_const, reduceCtorEq, implies_true, ne_eq, DMem.mt]
    refine Pt.pc (kinds_pt (k := 6) (by decide) rfl) ?_
    simp only [MU_swagelaw11_LowerKinds, S1_swagelaw11_LowerKinds, ek, j9, ldn2, ldn9, ldnI1, NumF_pf, hl, x0, x1, x2, fz_agg, fz_zsl, fz_int, fz_ints, List.map_cons, List.map_nil, SameIr_e0, SameIr_e2, List.drop_succ_cons, List.drop_zero, SW, wpD, evDL, evDM, evD, bldLD, List.contains_cons, List.contains_nil, Nat.reduceBEq, beq_self_eq_true, Nat.reduceMul, Nat.reduceSub, wpSp, Option.bind_some, Option.some.injEq, exists_eq_left', exists_eq_left, reduceIte, if_false, if_true, Nat.reduceEqDiff, Nat.reduceAdd, Nat.reduceLeDiff, Int.reduceEq, Int.reduceLT, Int.reduceLE, Int.reduceToNat, decide_true, decide_false, DV.bool.injEq, DV.int.injEq, DV.mp.injEq, DV.msl.injEq, DV.tup.injEq, DV.agg.injEq, DV.fn.injEq, true_implies, forall_const, reduceCtorEq, implies_true, ne_eq, DMem.mt]
    refine ⟨fun h => absurd h (by decide), fun _ b M1 hM1 => ?_⟩
    refine st9 (i := 6) (v := 1) (q := b) (by rw [hM1, DMem.ins_same]) rfl (by decide) fun M2 g2 _ => ?_
    refine st9 (i := 8) (v := 2) g2 rfl (by decide) fun M3 g3 _ => ?_
    replace g3 : M3 b = some ⟨28, 9, [.int .i64 7, .int .i64 0, .int .i64 2, .int .i64 0, .int .i64 0, .zsl, .int .i64 1, .int .i64 0, .int .i64 2]⟩ := g3
    have z0 : decide (((0 : Nat) : Int) = 0) = true := by decide
    have z3 : decide (((5 : Nat) : Int) = 3) = false := by decide
    have z5 : decide (((5 : Nat) : Int) = 5) = true := by decide
    simp only [g3, z0, z3, z5, ldnM, fz_agg, fz_zsl, fz_int, fz_ints, fz_two, List.map_cons, List.map_nil, SameIr_e0, SameIr_e2, grdTT, grdTF, grdFF, grdFT, grdU, SW, wpD, evDL, evDM, evD, bldLD, List.contains_cons, List.contains_nil, Nat.reduceBEq, beq_self_eq_true, Nat.reduceMul, Nat.reduceSub, wpSp, Option.bind_some, Option.some.injEq, exists_eq_left', exists_eq_left, reduceIte, if_false, if_true, Nat.reduceEqDiff, Nat.reduceAdd, Nat.reduceLeDiff, Int.reduceEq, Int.reduceLT, Int.reduceLE, Int.reduceToNat, decide_true, decide_false, DV.bool.injEq, DV.int.injEq, DV.mp.injEq, DV.msl.injEq, DV.tup.injEq, DV.agg.injEq, DV.fn.injEq, true_implies, forall_const, reduceCtorEq, implies_true, ne_eq, DMem.mt]
  · replace ek : wr64 ((which % 18446744073709551616).tmod 11) = 7 := ek
    have j2 := @ix_islJ 11 2 14 7 (by decide) (by decide) rfl
    have j9 := @ix_islJ 11 9 63 7 (by decide) (by decide) rfl
    have x0 : ixD 9 (slD Irc.c (codeK 7)) (.int .i64 0) = some (.ip ((⟨1, 1, 0, 0, 4, [], 1, 0, 0⟩ : Irc).c ++ ((codeK 7).drop 1).flatMap Irc.c)) := ix_lit (i := 0) rfl
    have x1 : ixD 9 (slD Irc.c (codeK 7)) (.int .i64 1) = some (.ip ((⟨1, 2, 0, 0, 5, [], 1, 0, 1⟩ : Irc).c ++ ((codeK 7).drop 2).flatMap Irc.c)) := ix_lit (i := 1) rfl
    have x2 : ixD 9 (slD Irc.c (codeK 7)) (.int .i64 2) = some (.ip ((⟨6, 1, 0, 0, 1, [1, 2], 1, 0, 2⟩ : Irc).c ++ ((codeK 7).drop 3).flatMap Irc.c)) := ix_lit (i := 2) rfl
    have hl : (codeK 7).length = 5 := rfl
    simp only [S_swagelaw11_LowerKinds, R_swagelaw11_LowerKinds, MU_swagelaw11_LowerKinds, awake_pf, ek, j2, j9, ldn2, ldn9, ldnI1, List.drop_succ_cons, List.drop_zero, SW, wpD, evDL, evDM, evD, bldLD, List.contains_cons, List.contains_nil, Nat.reduceBEq, beq_self_eq_true, Nat.reduceMul, Nat.reduceSub, wpSp, Option.bind_some, Option.some.injEq, exists_eq_left', exists_eq_left, reduceIte, if_false, if_true, Nat.reduceEqDiff, Nat.reduceAdd, Nat.reduceLeDiff, Int.reduceEq, Int.reduceLT, Int.reduceLE, Int.reduceToNat, decide_true, decide_false, DV.bool.injEq, DV.int.injEq, DV.mp.injEq, DV.msl.injEq, DV.tup.injEq, DV.agg.injEq, DV.fn.injEq, true_implies, forall_const, reduceCtorEq, implies_true, ne_eq, DMem.mt]
    refine Pt.pc (kinds_pt (k := 7) (by decide) rfl) ?_
    simp only [MU_swagelaw11_LowerKinds, S1_swagelaw11_LowerKinds, ek, j9, ldn2, ldn9, ldnI1, NumF_pf, hl, x0, x1, x2, fz_agg, fz_zsl, fz_int, fz_ints, List.map_cons, List.map_nil, SameIr_e0, SameIr_e2, List.drop_succ_cons, List.drop_zero, SW, wpD, evDL, evDM, evD, bldLD, List.contains_cons, List.contains_nil, Nat.reduceBEq, beq_self_eq_true, Nat.reduceMul, Nat.reduceSub, wpSp, Option.bind_some, Option.some.injEq, exists_eq_left', exists_eq_left, reduceIte, if_false, if_true, Nat.reduceEqDiff, Nat.reduceAdd, Nat.reduceLeDiff, Int.reduceEq, Int.reduceLT, Int.reduceLE, Int.reduceToNat, decide_true, decide_false, DV.bool.injEq, DV.int.injEq, DV.mp.injEq, DV.msl.injEq, DV.tup.injEq, DV.agg.injEq, DV.fn.injEq, true_implies, forall_const, reduceCtorEq, implies_true, ne_eq, DMem.mt]
    refine ⟨fun h => absurd h (by decide), fun _ b M1 hM1 => ?_⟩
    refine st9 (i := 6) (v := 1) (q := b) (by rw [hM1, DMem.ins_same]) rfl (by decide) fun M2 g2 _ => ?_
    refine st9 (i := 8) (v := 2) g2 rfl (by decide) fun M3 g3 _ => ?_
    replace g3 : M3 b = some ⟨28, 9, [.int .i64 6, .int .i64 1, .int .i64 0, .int .i64 0, .int .i64 1, .isl 2 [.int .i64 1, .int .i64 2], .int .i64 1, .int .i64 0, .int .i64 2]⟩ := g3
    have z0 : decide (((0 : Nat) : Int) = 0) = true := by decide
    have z3 : decide (((5 : Nat) : Int) = 3) = false := by decide
    have z5 : decide (((5 : Nat) : Int) = 5) = true := by decide
    simp only [g3, z0, z3, z5, ldnM, fz_agg, fz_zsl, fz_int, fz_ints, fz_two, List.map_cons, List.map_nil, SameIr_e0, SameIr_e2, grdTT, grdTF, grdFF, grdFT, grdU, SW, wpD, evDL, evDM, evD, bldLD, List.contains_cons, List.contains_nil, Nat.reduceBEq, beq_self_eq_true, Nat.reduceMul, Nat.reduceSub, wpSp, Option.bind_some, Option.some.injEq, exists_eq_left', exists_eq_left, reduceIte, if_false, if_true, Nat.reduceEqDiff, Nat.reduceAdd, Nat.reduceLeDiff, Int.reduceEq, Int.reduceLT, Int.reduceLE, Int.reduceToNat, decide_true, decide_false, DV.bool.injEq, DV.int.injEq, DV.mp.injEq, DV.msl.injEq, DV.tup.injEq, DV.agg.injEq, DV.fn.injEq, true_implies, forall_const, reduceCtorEq, implies_true, ne_eq, DMem.mt]
  · replace ek : wr64 ((which % 18446744073709551616).tmod 11) = 8 := ek
    have j2 := @ix_islJ 11 2 16 8 (by decide) (by decide) rfl
    have j9 := @ix_islJ 11 9 72 8 (by decide) (by decide) rfl
    have x0 : ixD 9 (slD Irc.c (codeK 8)) (.int .i64 0) = some (.ip ((⟨1, 1, 0, 0, 4, [], 1, 0, 0⟩ : Irc).c ++ ((codeK 8).drop 1).flatMap Irc.c)) := ix_lit (i := 0) rfl
    have x1 : ixD 9 (slD Irc.c (codeK 8)) (.int .i64 1) = some (.ip ((⟨1, 2, 0, 0, 5, [], 1, 0, 1⟩ : Irc).c ++ ((codeK 8).drop 2).flatMap Irc.c)) := ix_lit (i := 1) rfl
    have x2 : ixD 9 (slD Irc.c (codeK 8)) (.int .i64 2) = some (.ip ((⟨8, 0, 2, 0, 0, [], 1, 0, 2⟩ : Irc).c ++ ((codeK 8).drop 3).flatMap Irc.c)) := ix_lit (i := 2) rfl
    have hl : (codeK 8).length = 3 := rfl
    simp only [S_swagelaw11_LowerKinds, R_swagelaw11_LowerKinds, MU_swagelaw11_LowerKinds, awake_pf, ek, j2, j9, ldn2, ldn9, ldnI1, List.drop_succ_cons, List.drop_zero, SW, wpD, evDL, evDM, evD, bldLD, List.contains_cons, List.contains_nil, Nat.reduceBEq, beq_self_eq_true, Nat.reduceMul, Nat.reduceSub, wpSp, Option.bind_some, Option.some.injEq, exists_eq_left', exists_eq_left, reduceIte, if_false, if_true, Nat.reduceEqDiff, Nat.reduceAdd, Nat.reduceLeDiff, Int.reduceEq, Int.reduceLT, Int.reduceLE, Int.reduceToNat, decide_true, decide_false, DV.bool.injEq, DV.int.injEq, DV.mp.injEq, DV.msl.injEq, DV.tup.injEq, DV.agg.injEq, DV.fn.injEq, true_implies, forall_const, reduceCtorEq, implies_true, ne_eq, DMem.mt]
    refine Pt.pc (kinds_pt (k := 8) (by decide) rfl) ?_
    simp only [MU_swagelaw11_LowerKinds, S1_swagelaw11_LowerKinds, ek, j9, ldn2, ldn9, ldnI1, NumF_pf, hl, x0, x1, x2, fz_agg, fz_zsl, fz_int, fz_ints, List.map_cons, List.map_nil, SameIr_e0, SameIr_e2, List.drop_succ_cons, List.drop_zero, SW, wpD, evDL, evDM, evD, bldLD, List.contains_cons, List.contains_nil, Nat.reduceBEq, beq_self_eq_true, Nat.reduceMul, Nat.reduceSub, wpSp, Option.bind_some, Option.some.injEq, exists_eq_left', exists_eq_left, reduceIte, if_false, if_true, Nat.reduceEqDiff, Nat.reduceAdd, Nat.reduceLeDiff, Int.reduceEq, Int.reduceLT, Int.reduceLE, Int.reduceToNat, decide_true, decide_false, DV.bool.injEq, DV.int.injEq, DV.mp.injEq, DV.msl.injEq, DV.tup.injEq, DV.agg.injEq, DV.fn.injEq, true_implies, forall_const, reduceCtorEq, implies_true, ne_eq, DMem.mt]
    refine ⟨fun h => absurd h (by decide), fun _ b M1 hM1 => ?_⟩
    refine st9 (i := 6) (v := 1) (q := b) (by rw [hM1, DMem.ins_same]) rfl (by decide) fun M2 g2 _ => ?_
    refine st9 (i := 8) (v := 2) g2 rfl (by decide) fun M3 g3 _ => ?_
    replace g3 : M3 b = some ⟨28, 9, [.int .i64 8, .int .i64 0, .int .i64 2, .int .i64 0, .int .i64 0, .zsl, .int .i64 1, .int .i64 0, .int .i64 2]⟩ := g3
    have z0 : decide (((0 : Nat) : Int) = 0) = true := by decide
    have z3 : decide (((3 : Nat) : Int) = 3) = true := by decide
    have z5 : decide (((3 : Nat) : Int) = 5) = false := by decide
    simp only [g3, z0, z3, z5, ldnM, fz_agg, fz_zsl, fz_int, fz_ints, fz_two, List.map_cons, List.map_nil, SameIr_e0, SameIr_e2, grdTT, grdTF, grdFF, grdFT, grdU, SW, wpD, evDL, evDM, evD, bldLD, List.contains_cons, List.contains_nil, Nat.reduceBEq, beq_self_eq_true, Nat.reduceMul, Nat.reduceSub, wpSp, Option.bind_some, Option.some.injEq, exists_eq_left', exists_eq_left, reduceIte, if_false, if_true, Nat.reduceEqDiff, Nat.reduceAdd, Nat.reduceLeDiff, Int.reduceEq, Int.reduceLT, Int.reduceLE, Int.reduceToNat, decide_true, decide_false, DV.bool.injEq, DV.int.injEq, DV.mp.injEq, DV.msl.injEq, DV.tup.injEq, DV.agg.injEq, DV.fn.injEq, true_implies, forall_const, reduceCtorEq, implies_true, ne_eq, DMem.mt]
  · replace ek : wr64 ((which % 18446744073709551616).tmod 11) = 9 := ek
    have j2 := @ix_islJ 11 2 18 9 (by decide) (by decide) rfl
    have j9 := @ix_islJ 11 9 81 9 (by decide) (by decide) rfl
    have x0 : ixD 9 (slD Irc.c (codeK 9)) (.int .i64 0) = some (.ip ((⟨1, 1, 0, 0, 4, [], 1, 0, 0⟩ : Irc).c ++ ((codeK 9).drop 1).flatMap Irc.c)) := ix_lit (i := 0) rfl
    have x1 : ixD 9 (slD Irc.c (codeK 9)) (.int .i64 1) = some (.ip ((⟨1, 2, 0, 0, 5, [], 1, 0, 1⟩ : Irc).c ++ ((codeK 9).drop 2).flatMap Irc.c)) := ix_lit (i := 1) rfl
    have x2 : ixD 9 (slD Irc.c (codeK 9)) (.int .i64 2) = some (.ip ((⟨5, 0, 2, 0, 3, [], 1, 0, 2⟩ : Irc).c ++ ((codeK 9).drop 3).flatMap Irc.c)) := ix_lit (i := 2) rfl
    have hl : (codeK 9).length = 5 := rfl
    simp only [S_swagelaw11_LowerKinds, R_swagelaw11_LowerKinds, MU_swagelaw11_LowerKinds, awake_pf, ek, j2, j9, ldn2, ldn9, ldnI1, List.drop_succ_cons, List.drop_zero, SW, wpD, evDL, evDM, evD, bldLD, List.contains_cons, List.contains_nil, Nat.reduceBEq, beq_self_eq_true, Nat.reduceMul, Nat.reduceSub, wpSp, Option.bind_some, Option.some.injEq, exists_eq_left', exists_eq_left, reduceIte, if_false, if_true, Nat.reduceEqDiff, Nat.reduceAdd, Nat.reduceLeDiff, Int.reduceEq, Int.reduceLT, Int.reduceLE, Int.reduceToNat, decide_true, decide_false, DV.bool.injEq, DV.int.injEq, DV.mp.injEq, DV.msl.injEq, DV.tup.injEq, DV.agg.injEq, DV.fn.injEq, true_implies, forall_const, reduceCtorEq, implies_true, ne_eq, DMem.mt]
    refine Pt.pc (kinds_pt (k := 9) (by decide) rfl) ?_
    simp only [MU_swagelaw11_LowerKinds, S1_swagelaw11_LowerKinds, ek, j9, ldn2, ldn9, ldnI1, NumF_pf, hl, x0, x1, x2, fz_agg, fz_zsl, fz_int, fz_ints, List.map_cons, List.map_nil, SameIr_e0, SameIr_e2, List.drop_succ_cons, List.drop_zero, SW, wpD, evDL, evDM, evD, bldLD, List.contains_cons, List.contains_nil, Nat.reduceBEq, beq_self_eq_true, Nat.reduceMul, Nat.reduceSub, wpSp, Option.bind_some, Option.some.injEq, exists_eq_left', exists_eq_left, reduceIte, if_false, if_true, Nat.reduceEqDiff, Nat.reduceAdd, Nat.reduceLeDiff, Int.reduceEq, Int.reduceLT, Int.reduceLE, Int.reduceToNat, decide_true, decide_false, DV.bool.injEq, DV.int.injEq, DV.mp.injEq, DV.msl.injEq, DV.tup.injEq, DV.agg.injEq, DV.fn.injEq, true_implies, forall_const, reduceCtorEq, implies_true, ne_eq, DMem.mt]
    refine ⟨fun h => absurd h (by decide), fun _ b M1 hM1 => ?_⟩
    refine st9 (i := 6) (v := 1) (q := b) (by rw [hM1, DMem.ins_same]) rfl (by decide) fun M2 g2 _ => ?_
    refine st9 (i := 8) (v := 2) g2 rfl (by decide) fun M3 g3 _ => ?_
    replace g3 : M3 b = some ⟨28, 9, [.int .i64 5, .int .i64 0, .int .i64 2, .int .i64 0, .int .i64 3, .zsl, .int .i64 1, .int .i64 0, .int .i64 2]⟩ := g3
    have z0 : decide (((0 : Nat) : Int) = 0) = true := by decide
    have z3 : decide (((5 : Nat) : Int) = 3) = false := by decide
    have z5 : decide (((5 : Nat) : Int) = 5) = true := by decide
    simp only [g3, z0, z3, z5, ldnM, fz_agg, fz_zsl, fz_int, fz_ints, fz_two, List.map_cons, List.map_nil, SameIr_e0, SameIr_e2, grdTT, grdTF, grdFF, grdFT, grdU, SW, wpD, evDL, evDM, evD, bldLD, List.contains_cons, List.contains_nil, Nat.reduceBEq, beq_self_eq_true, Nat.reduceMul, Nat.reduceSub, wpSp, Option.bind_some, Option.some.injEq, exists_eq_left', exists_eq_left, reduceIte, if_false, if_true, Nat.reduceEqDiff, Nat.reduceAdd, Nat.reduceLeDiff, Int.reduceEq, Int.reduceLT, Int.reduceLE, Int.reduceToNat, decide_true, decide_false, DV.bool.injEq, DV.int.injEq, DV.mp.injEq, DV.msl.injEq, DV.tup.injEq, DV.agg.injEq, DV.fn.injEq, true_implies, forall_const, reduceCtorEq, implies_true, ne_eq, DMem.mt]
  · replace ek : wr64 ((which % 18446744073709551616).tmod 11) = 10 := ek
    have j2 := @ix_islJ 11 2 20 10 (by decide) (by decide) rfl
    have j9 := @ix_islJ 11 9 90 10 (by decide) (by decide) rfl
    have x0 : ixD 9 (slD Irc.c (codeK 10)) (.int .i64 0) = some (.ip ((⟨1, 1, 0, 0, 4, [], 1, 0, 0⟩ : Irc).c ++ ((codeK 10).drop 1).flatMap Irc.c)) := ix_lit (i := 0) rfl
    have x1 : ixD 9 (slD Irc.c (codeK 10)) (.int .i64 1) = some (.ip ((⟨1, 2, 0, 0, 5, [], 1, 0, 1⟩ : Irc).c ++ ((codeK 10).drop 2).flatMap Irc.c)) := ix_lit (i := 1) rfl
    have x2 : ixD 9 (slD Irc.c (codeK 10)) (.int .i64 2) = some (.ip ((⟨4, 0, 0, 0, 3, [], 1, 0, 2⟩ : Irc).c ++ ((codeK 10).drop 3).flatMap Irc.c)) := ix_lit (i := 2) rfl
    have hl : (codeK 10).length = 5 := rfl
    simp only [S_swagelaw11_LowerKinds, R_swagelaw11_LowerKinds, MU_swagelaw11_LowerKinds, awake_pf, ek, j2, j9, ldn2, ldn9, ldnI1, List.drop_succ_cons, List.drop_zero, SW, wpD, evDL, evDM, evD, bldLD, List.contains_cons, List.contains_nil, Nat.reduceBEq, beq_self_eq_true, Nat.reduceMul, Nat.reduceSub, wpSp, Option.bind_some, Option.some.injEq, exists_eq_left', exists_eq_left, reduceIte, if_false, if_true, Nat.reduceEqDiff, Nat.reduceAdd, Nat.reduceLeDiff, Int.reduceEq, Int.reduceLT, Int.reduceLE, Int.reduceToNat, decide_true, decide_false, DV.bool.injEq, DV.int.injEq, DV.mp.injEq, DV.msl.injEq, DV.tup.injEq, DV.agg.injEq, DV.fn.injEq, true_implies, forall_const, reduceCtorEq, implies_true, ne_eq, DMem.mt]
    refine Pt.pc (kinds_pt (k := 10) (by decide) rfl) ?_
    simp only [MU_swagelaw11_LowerKinds, S1_swagelaw11_LowerKinds, ek, j9, ldn2, ldn9, ldnI1, NumF_pf, hl, x0, x1, x2, fz_agg, fz_zsl, fz_int, fz_ints, List.map_cons, List.map_nil, SameIr_e0, SameIr_e2, List.drop_succ_cons, List.drop_zero, SW, wpD, evDL, evDM, evD, bldLD, List.contains_cons, List.contains_nil, Nat.reduceBEq, beq_self_eq_true, Nat.reduceMul, Nat.reduceSub, wpSp, Option.bind_some, Option.some.injEq, exists_eq_left', exists_eq_left, reduceIte, if_false, if_true, Nat.reduceEqDiff, Nat.reduceAdd, Nat.reduceLeDiff, Int.reduceEq, Int.reduceLT, Int.reduceLE, Int.reduceToNat, decide_true, decide_false, DV.bool.injEq, DV.int.injEq, DV.mp.injEq, DV.msl.injEq, DV.tup.injEq, DV.agg.injEq, DV.fn.injEq, true_implies, forall_const, reduceCtorEq, implies_true, ne_eq, DMem.mt]
    refine ⟨fun h => absurd h (by decide), fun _ b M1 hM1 => ?_⟩
    refine st9 (i := 6) (v := 1) (q := b) (by rw [hM1, DMem.ins_same]) rfl (by decide) fun M2 g2 _ => ?_
    refine st9 (i := 8) (v := 2) g2 rfl (by decide) fun M3 g3 _ => ?_
    replace g3 : M3 b = some ⟨28, 9, [.int .i64 4, .int .i64 0, .int .i64 0, .int .i64 0, .int .i64 3, .zsl, .int .i64 1, .int .i64 0, .int .i64 2]⟩ := g3
    have z0 : decide (((0 : Nat) : Int) = 0) = true := by decide
    have z3 : decide (((5 : Nat) : Int) = 3) = false := by decide
    have z5 : decide (((5 : Nat) : Int) = 5) = true := by decide
    simp only [g3, z0, z3, z5, ldnM, fz_agg, fz_zsl, fz_int, fz_ints, fz_two, List.map_cons, List.map_nil, SameIr_e0, SameIr_e2, grdTT, grdTF, grdFF, grdFT, grdU, SW, wpD, evDL, evDM, evD, bldLD, List.contains_cons, List.contains_nil, Nat.reduceBEq, beq_self_eq_true, Nat.reduceMul, Nat.reduceSub, wpSp, Option.bind_some, Option.some.injEq, exists_eq_left', exists_eq_left, reduceIte, if_false, if_true, Nat.reduceEqDiff, Nat.reduceAdd, Nat.reduceLeDiff, Int.reduceEq, Int.reduceLT, Int.reduceLE, Int.reduceToNat, decide_true, decide_false, DV.bool.injEq, DV.int.injEq, DV.mp.injEq, DV.msl.injEq, DV.tup.injEq, DV.agg.injEq, DV.fn.injEq, true_implies, forall_const, reduceCtorEq, implies_true, ne_eq, DMem.mt]
end Go.Proofs.YtpehdlobicocpaaDoor.Pf
/- What goes back has a poll ahead. No condition. -/
namespace Go.Proofs.YtpehdlobicocpaaDoor.Pf
open Go Go.RowKit Go.Proofs Go.Proofs.YtpehdlobicocpaaDoor.Mw Go.Proofs.YtpehdlobicocpaaDoor.Sx
set_option linter.unusedVariables false
set_option linter.unusedSimpArgs false
set_option maxRecDepth 16000
def backI (zero : Bool) : List Ins := if zero = true then [⟨0, 4⟩, ⟨0, 5⟩, ⟨2, 0⟩, ⟨13, 0⟩, ⟨0, 1⟩, ⟨16, 0⟩] else [⟨0, 4⟩, ⟨0, 5⟩, ⟨11, 0⟩, ⟨11, 0⟩, ⟨12, 0⟩]
def backC (zero : Bool) : List Irc := if zero = true then [⟨1, 1, 0, 0, 4, [], 1, 0, 0⟩, ⟨1, 2, 0, 0, 5, [], 1, 0, 1⟩, ⟨2, 0, 2, 0, 0, [], 1, 0, 2⟩, ⟨10, 0, 0, 0, 0, [], 0, 0, 3⟩, ⟨5, 0, 1, 0, 0, [], 1, 0, 3⟩, ⟨1, 1, 0, 0, 1, [], 1, 0, 4⟩, ⟨8, 0, 1, 0, 0, [], 1, 0, 5⟩]
  else [⟨1, 1, 0, 0, 4, [], 1, 0, 0⟩, ⟨1, 2, 0, 0, 5, [], 1, 0, 1⟩, ⟨0, 0, 0, 0, 0, [], 1, 0, 2⟩, ⟨0, 0, 0, 0, 0, [], 1, 0, 3⟩, ⟨10, 0, 0, 0, 0, [], 0, 0, 4⟩, ⟨4, 0, 0, 0, 0, [], 1, 0, 4⟩]
def backM (zero : Bool) : List (List Part) := if zero = true then [[⟨0, 3, [⟨false, 0⟩], [⟨false, 1⟩]⟩]] else [[⟨0, 4, [⟨false, 0⟩], []⟩]]
theorem low_back : ∀ z, lowerR [⟨0, 1, backI z⟩] 0 = (⟨0, 9, backC z, backM z⟩, 0) := by decide +kernel
theorem back_pt (z : Bool) {ds : List DV} (hd : ds = [.agg [slD Fnc.c [⟨0, 1, backI z⟩]], .int .i64 0]) : Pt Tryd.prog F_lower_Lower (ds.map (fz DMem.mt 4)) (.tup [.agg [.int .i64 0, .int .i64 9, slD Irc.c (backC z), slD metaC (backM z)], .int .i64 0]) := by
  subst hd
  have f1 : FrozL [DV.agg [slD Fnc.c [⟨0, 1, backI z⟩]], .int .i64 0] := (FrozL.nil.cons (Froz.int _ _)).cons (Froz.agg (FrozL.nil.cons (Froz.slD Fnc.froz _)))
  rw [fzmap_froz f1]
  have := Lower_pt [⟨0, 1, backI z⟩] 0
  rw [low_back z] at this
  exact this
theorem Srcs_one (v : Int) : pf Tryd.prog F_swagelaw0_SameSrcs [.isl 1 [.bool false, .int .i64 v], .isl 1 [.bool false, .int .i64 v]] = some (.bool true) :=
  (SameSrcs_pf [⟨false, v⟩] [⟨false, v⟩] (by simp [Big])).trans (by rw [decide_eq_true rfl])
theorem fz_one (M : DMem) (k : Nat) (v : Int) : fz M k (.isl 1 [.bool false, .int .i64 v]) = .isl 1 [.bool false, .int .i64 v] := fz_srcs M k [⟨false, v⟩]
set_option maxHeartbeats 2000000 in
theorem LowerBack_pc (zero : Bool) : PC Tryd.prog F_swagelaw11_LowerBack [.bool zero] (fun d' M' => d' = .bool true) DMem.mt := by
  refine pc_swagelaw11_LowerBack (by simp) ?_
  cases zero with
  | false =>
    simp only [S_swagelaw11_LowerBack, R_swagelaw11_LowerBack, MU_swagelaw11_LowerBack, awake_pf, SW, wpD, evDL, evDM, evD, bldLD, List.contains_cons, List.contains_nil, Nat.reduceBEq, beq_self_eq_true, Nat.reduceMul, Nat.reduceSub, wpSp, Option.bind_some, Option.some.injEq, exists_eq_left', exists_eq_left, reduceIte, if_false, if_true, Nat.reduceEqDiff, Nat.reduceAdd, Nat.reduceLeDiff, Int.reduceEq, Int.reduceLT, Int.reduceLE, Int.reduceToNat, decide_true, decide_false, DV.bool.injEq, DV.int.injEq, DV.mp.injEq, DV.msl.injEq, DV.tup.injEq, DV.agg.injEq, DV.fn.injEq, true_implies, forall_const, reduceCtorEq, implies_true, ne_eq, DMem.mt]
    refine Pu.pc (small_pu 0 1 (backI false)) ?_
    simp only [MU_swagelaw11_LowerBack, S1_swagelaw11_LowerBack, S2_swagelaw11_LowerBack, ldnI1, SW, wpD, evDL, evDM, evD, bldLD, List.contains_cons, List.contains_nil, Nat.reduceBEq, beq_self_eq_true, Nat.reduceMul, Nat.reduceSub, wpSp, Option.bind_some, Option.some.injEq, exists_eq_left', exists_eq_left, reduceIte, if_false, if_true, Nat.reduceEqDiff, Nat.reduceAdd, Nat.reduceLeDiff, Int.reduceEq, Int.reduceLT, Int.reduceLE, Int.reduceToNat, decide_true, decide_false, DV.bool.injEq, DV.int.injEq, DV.mp.injEq, DV.msl.injEq, DV.tup.injEq, DV.agg.injEq, DV.fn.injEq, true_implies, forall_const, reduceCtorEq, implies_true, ne_eq, DMem.mt]
    refine Pt.pc (back_pt false rfl) ?_
    have x4 : ixD 9 (slD Irc.c (backC false)) (.int .i64 4) = some (.ip ((⟨10, 0, 0, 0, 0, [], 0, 0, 4⟩ : Irc).c ++ ((backC false).drop 5).flatMap Irc.c)) := ix_lit (i := 4) rfl
    have x5 : ixD 9 (slD Irc.c (backC false)) (.int .i64 5) = some (.ip ((⟨4, 0, 0, 0, 0, [], 1, 0, 4⟩ : Irc).c ++ ((backC false).drop 6).flatMap Irc.c)) := ix_lit (i := 5) rfl
    have y0 : ixD 1 (slD metaC (backM false)) (.int .i64 0) = some (.ip [.isl 1 [.int .i64 0, .int .i64 4, .isl 1 [.bool false, .int .i64 0], .isl 0 []]]) := rfl
    have y1 : ixD 4 (.isl 1 [.int .i64 0, .int .i64 4, .isl 1 [.bool false, .int .i64 0], .isl 0 []]) (.int .i64 0) = some (.ip [.int .i64 0, .int .i64 4, .isl 1 [.bool false, .int .i64 0], .isl 0 []]) := rfl
    have y2 : ∀ K, ldnD K 4 (.ip [.int .i64 0, .int .i64 4, .isl 1 [.bool false, .int .i64 0], .isl 0 []]) = some (.agg [.int .i64 0, .int .i64 4, .isl 1 [.bool false, .int .i64 0], .isl 0 []]) := fun _ => rfl
    have hl : (backC false).length = 6 := rfl
    have hm : (backM false).length = 1 := rfl
    have z1 : decide (¬(((1 : Nat) : Int) = 1)) = false := by decide
    have z6 : decide (((6 : Nat) : Int) = 6) = true := by decide
    have z0 : decide (((0 : Nat) : Int) = 0) = true := by decide
    simp only [MU_swagelaw11_LowerBack, S1_swagelaw11_LowerBack, S2_swagelaw11_LowerBack, ldnI1, NumF_pf, hl, hm, z0, z1, z6, x4, x5, y0, y1, y2, ldn9, Srcs_one, fz_one, fz_agg, fz_zsl, fz_int, fz_ints, List.map_cons, List.map_nil, SameIr_e0, grdTT, grdTF, grdFF, grdFT, grdU, SW, wpD, evDL, evDM, evD, bldLD, List.contains_cons, List.contains_nil, Nat.reduceBEq, beq_self_eq_true, Nat.reduceMul, Nat.reduceSub, wpSp, Option.bind_some, Option.some.injEq, exists_eq_left', exists_eq_left, reduceIte, if_false, if_true, Nat.reduceEqDiff, Nat.reduceAdd, Nat.reduceLeDiff, Int.reduceEq, Int.reduceLT, Int.reduceLE, Int.reduceToNat, decide_true, decide_false, DV.bool.injEq, DV.int.injEq, DV.mp.injEq, DV.msl.injEq, DV.tup.injEq, DV.agg.injEq, DV.fn.injEq, true_implies, forall_const, reduceCtorEq, implies_true, ne_eq, DMem.mt]
  | true =>
    simp only [S_swagelaw11_LowerBack, R_swagelaw11_LowerBack, MU_swagelaw11_LowerBack, awake_pf, SW, wpD, evDL, evDM, evD, bldLD, List.contains_cons, List.contains_nil, Nat.reduceBEq, beq_self_eq_true, Nat.reduceMul, Nat.reduceSub, wpSp, Option.bind_some, Option.some.injEq, exists_eq_left', exists_eq_left, reduceIte, if_false, if_true, Nat.reduceEqDiff, Nat.reduceAdd, Nat.reduceLeDiff, Int.reduceEq, Int.reduceLT, Int.reduceLE, Int.reduceToNat, decide_true, decide_false, DV.bool.injEq, DV.int.injEq, DV.mp.injEq, DV.msl.injEq, DV.tup.injEq, DV.agg.injEq, DV.fn.injEq, true_implies, forall_const, reduceCtorEq, implies_true, ne_eq, DMem.mt]
    refine Pu.pc (small_pu 0 1 (backI true)) ?_
    simp only [MU_swagelaw11_LowerBack, S1_swagelaw11_LowerBack, S2_swagelaw11_LowerBack, ldnI1, SW, wpD, evDL, evDM, evD, bldLD, List.contains_cons, List.contains_nil, Nat.reduceBEq, beq_self_eq_true, Nat.reduceMul, Nat.reduceSub, wpSp, Option.bind_some, Option.some.injEq, exists_eq_left', exists_eq_left, reduceIte, if_false, if_true, Nat.reduceEqDiff, Nat.reduceAdd, Nat.reduceLeDiff, Int.reduceEq, Int.reduceLT, Int.reduceLE, Int.reduceToNat, decide_true, decide_false, DV.bool.injEq, DV.int.injEq, DV.mp.injEq, DV.msl.injEq, DV.tup.injEq, DV.agg.injEq, DV.fn.injEq, true_implies, forall_const, reduceCtorEq, implies_true, ne_eq, DMem.mt]
    refine Pt.pc (back_pt true rfl) ?_
    have x3 : ixD 9 (slD Irc.c (backC true)) (.int .i64 3) = some (.ip ((⟨10, 0, 0, 0, 0, [], 0, 0, 3⟩ : Irc).c ++ ((backC true).drop 4).flatMap Irc.c)) := ix_lit (i := 3) rfl
    have x4 : ixD 9 (slD Irc.c (backC true)) (.int .i64 4) = some (.ip ((⟨5, 0, 1, 0, 0, [], 1, 0, 3⟩ : Irc).c ++ ((backC true).drop 5).flatMap Irc.c)) := ix_lit (i := 4) rfl
    have y0 : ixD 1 (slD metaC (backM true)) (.int .i64 0) = some (.ip [.isl 1 [.int .i64 0, .int .i64 3, .isl 1 [.bool false, .int .i64 0], .isl 1 [.bool false, .int .i64 1]]]) := rfl
    have y1 : ixD 4 (.isl 1 [.int .i64 0, .int .i64 3, .isl 1 [.bool false, .int .i64 0], .isl 1 [.bool false, .int .i64 1]]) (.int .i64 0) = some (.ip [.int .i64 0, .int .i64 3, .isl 1 [.bool false, .int .i64 0], .isl 1 [.bool false, .int .i64 1]]) := rfl
    have y2 : ∀ K, ldnD K 4 (.ip [.int .i64 0, .int .i64 3, .isl 1 [.bool false, .int .i64 0], .isl 1 [.bool false, .int .i64 1]]) = some (.agg [.int .i64 0, .int .i64 3, .isl 1 [.bool false, .int .i64 0], .isl 1 [.bool false, .int .i64 1]]) := fun _ => rfl
    have hl : (backC true).length = 7 := rfl
    have hm : (backM true).length = 1 := rfl
    have z1 : decide (¬(((1 : Nat) : Int) = 1)) = false := by decide
    have z6 : decide (((7 : Nat) : Int) = 7) = true := by decide
    have z0 : decide (((0 : Nat) : Int) = 0) = true := by decide
    simp only [MU_swagelaw11_LowerBack, S1_swagelaw11_LowerBack, S2_swagelaw11_LowerBack, ldnI1, NumF_pf, hl, hm, z0, z1, z6, x3, x4, y0, y1, y2, ldn9, Srcs_one, fz_one, fz_agg, fz_zsl, fz_int, fz_ints, List.map_cons, List.map_nil, SameIr_e0, grdTT, grdTF, grdFF, grdFT, grdU, SW, wpD, evDL, evDM, evD, bldLD, List.contains_cons, List.contains_nil, Nat.reduceBEq, beq_self_eq_true, Nat.reduceMul, Nat.reduceSub, wpSp, Option.bind_some, Option.some.injEq, exists_eq_left', exists_eq_left, reduceIte, if_false, if_true, Nat.reduceEqDiff, Nat.reduceAdd, Nat.reduceLeDiff, Int.reduceEq, Int.reduceLT, Int.reduceLE, Int.reduceToNat, decide_true, decide_false, DV.bool.injEq, DV.int.injEq, DV.mp.injEq, DV.msl.injEq, DV.tup.injEq, DV.agg.injEq, DV.fn.injEq, true_implies, forall_const, reduceCtorEq, implies_true, ne_eq, DMem.mt]
end Go.Proofs.YtpehdlobicocpaaDoor.Pf
/- The row of a law that is true at every input: from the law's walk over a memory. No condition. -/
namespace Go.Proofs.YtpehdlobicocpaaDoor.Mw
open Go Go.RowKit Go.ChangeShapes Go.WideShapes Go.ChangeAt
set_option linter.unusedVariables false
theorem walk_of {P : Program} {f : FuncId} {args : List Value} {w : World} (h : MC P f args (fun v _ => v = .bool true) (snap w)) :
    Calls P f args.toArray w fun e w' => e = .returned (.bool true) ∧ Below w.heap.size w w' :=
  (h.2 w w (snap_sat w)).mono fun e w' ⟨v, m', he, hs, hv⟩ => ⟨by rw [he, hv], hs.below⟩
/-- Arguments read behind the call as they did before. -/
theorem args_stay {H : Type} {enc : TypeId × Value → H} {P : Program} (hl : laidOutB P = true) {W W' : World} (hb : Below W.heap.size W W') : ∀ (ts : List TypeId) (vs : List Value) (ds : List (DataW H)) (ps : List MemPlace),
    (∀ t ∈ ts, P.readableRec t = true ∧ t < P.types.size) → DataW.TrodAll enc P W 0 (fun _ => true) true ts vs ds ps → DataW.TrodAll enc P W' 0 (fun b => decide (b < W.heap.size)) true ts vs ds ps
  | [], [], [], ps, _, h => h
  | t :: ts, v :: vs, d :: ds, ps, ht, h => by
    have hlt := DataW.TrodAll.lt h
    obtain ⟨p, q, h1, h2, rfl⟩ := h
    exact ⟨p, q, Below.trod hl (ht t (by simp)).1 (ht t (by simp)).2 h1 hb (fun x hx => hlt x (by simp [hx])), args_stay hl hb ts vs ds q (fun t' h' => ht t' (by simp [h'])) h2, rfl⟩
  | [], [], _ :: _, _, _, h => h.elim
  | [], _ :: _, _, _, _, h => by cases h
  | _ :: _, [], _, _, _, h => by cases h
  | _ :: _, _ :: _, [], _, _, h => by cases h
theorem law_row {C : Checked} {os : Os} {H : Type} {enc : TypeId × Value → H} (own : ownKnob C.prog.godebug = none) (started : os.Started) {f : FuncId} {fn : Func} {s : ChangeSpec}
    (noInit : C.prog.inits.idxOf? f = none) (hfn : C.prog.funcs[f]? = some fn) (hvars : s.vars = [])
    (hspec : ∀ ds : List (DataW H), ds.length = fn.params.toList.length → s.fn H ds = { results := [.lit (.bool true)], args := ds })
    {tb : TypeId} (hres : fn.resultTypes = #[tb]) (htb : C.prog.underlying tb = some .bool)
    (hl : laidOutB C.prog = true) (hread : ∀ t ∈ fn.params.toList, C.prog.readableRec t = true ∧ t < C.prog.types.size)
    (witness : ∃ (w : World) (tape : Tape) (i : Input), w.os = os ∧ (w.forCall tape i).Shaped C.prog ∧ i.vars = [] ∧ Input.okWide C.prog (w.forCall tape i) .any w.heap.size f i ∧
      s.pre6 enc C.prog fn [] false (w.forCall tape i).memory i.args ∧ ({} : Assume).holds C.prog (lone (Frame.enter C.prog f i.args .normal) [] (w.forCall tape i)))
    (hmc : ∀ (W : World) (base : Nat) (args : List Value) (ds : List (DataW H)) (p : List MemPlace), DataW.TrodAll enc C.prog W 0 (fun _ => true) true fn.params.toList args ds p →
      (∀ (j : Nat) t v, fn.params[j]? = some t → args[j]? = some v → Value.okWide C.prog W .any base t v) →
      (DataW.weightsEach C.prog fn.params.toList ds).all (· ≤ reachBytes) = true → MC C.prog f args (fun v _ => v = .bool true) (snap W)) :
    ReturnsInHanded {} C os f .any (s.pre6 enc C.prog fn [] false) (s.post enc C.prog fn false true false false) := by
  refine returnsInHanded_of_change_sized own started noInit hfn witness ?_
  intro W base args ds gs before hval hW _ hsz _
  have hW' := hW
  obtain ⟨p, q, hA, hV, rfl, hfz, hnd⟩ := hW
  have hg : gs = [] := by
    rw [hvars] at hV
    cases gs with
    | nil => rfl
    | cons a b => exact hV.elim
  subst hg
  have hlen : ds.length = fn.params.toList.length := by
    have : ∀ (ts : List TypeId) (vs : List Value) (ds : List (DataW H)) (ps : List MemPlace), DataW.TrodAll enc C.prog W 0 (fun _ => true) true ts vs ds ps → ds.length = ts.length := by
      intro ts
      induction ts with
      | nil => intro vs ds ps h; cases vs <;> cases ds <;> first | rfl | exact h.elim | cases h
      | cons t ts ih =>
        intro vs ds ps h
        cases vs with
        | nil => cases h
        | cons v vs =>
          cases ds with
          | nil => cases h
          | cons d ds => obtain ⟨p, q, _, h2, _⟩ := h; simp [ih _ _ _ h2]
    exact this _ _ _ _ hA
  have hv0 : s.plain.varTypes C.prog = [] := by
    have : s.plain.vars = [] := hvars
    simp [DataSpec.varTypes, this]
  have hmc' := hmc W base args.toList ds p hA (fun j t v ht hv => hval j t v ht (by simpa using hv)) (by rw [hv0] at hsz; simpa using hsz)
  have hw := walk_of hmc'
  rw [Array.toArray_toList] at hw
  refine hw.mono fun e W' ⟨he, bel⟩ => ?_
  have hsp := hspec ds hlen
  refine ⟨_, he, ds, [], _, [], p, [], hW', ?_, ?_, ?_, bel.frame _, fun h => by cases h⟩
  · rw [List.append_nil, hsp, hres]
    exact trodAll_mk1 (shut_bool htb _)
  · rw [List.append_nil, hsp]
    exact args_stay hl bel _ _ _ _ hread hA
  · rw [List.append_nil, hsp, hvars]
    rfl
end Go.Proofs.YtpehdlobicocpaaDoor.Mw
/- The row of a law whose program reads a variable that is told: from the law's walk over a memory. No condition. -/
namespace Go.Proofs.YtpehdlobicocpaaDoor.Mw
open Go Go.RowKit Go.ChangeShapes Go.WideShapes Go.ChangeAt
set_option linter.unusedVariables false
theorem law_row_laid {C : Checked} {os : Os} {H : Type} {enc : TypeId × Value → H} (laid : List (String × DataW Unit)) (own : ownKnob C.prog.godebug = none) (started : os.Started) {f : FuncId} {fn : Func} {s : ChangeSpec}
    (noInit : C.prog.inits.idxOf? f = none) (hfn : C.prog.funcs[f]? = some fn) (hvars : s.vars = [])
    (hspec : ∀ ds : List (DataW H), ds.length = fn.params.toList.length → s.fn H ds = { results := [.lit (.bool true)], args := ds })
    {tb : TypeId} (hres : fn.resultTypes = #[tb]) (htb : C.prog.underlying tb = some .bool)
    (hl : laidOutB C.prog = true) (hread : ∀ t ∈ fn.params.toList, C.prog.readableRec t = true ∧ t < C.prog.types.size) {apart : Bool}
    (witness : ∃ (w : World) (tape : Tape) (i : Input), w.os = os ∧ (w.forCall tape i).Shaped C.prog ∧ i.vars = [] ∧ Input.okWide C.prog (w.forCall tape i) .any w.heap.size f i ∧
      ((s.pre enc C.prog fn [] apart (w.forCall tape i).memory i.args ∧ laidMetH C.prog laid (w.forCall tape i).memory) ∧ sizedMet enc C.prog fn (OpenSpec.ofChange s) apart (w.forCall tape i).memory i.args) ∧ ({} : Assume).holds C.prog (lone (Frame.enter C.prog f i.args .normal) [] (w.forCall tape i)))
    (hmc : ∀ (W : World) (base : Nat) (args : List Value) (ds : List (DataW H)) (p : List MemPlace), DataW.TrodAll enc C.prog W 0 (fun _ => true) true fn.params.toList args ds p →
      (∀ (j : Nat) t v, fn.params[j]? = some t → args[j]? = some v → Value.okWide C.prog W .any base t v) →
      (DataW.weightsEach C.prog fn.params.toList ds).all (· ≤ reachBytes) = true → laidMetH C.prog laid W → MC C.prog f args (fun v _ => v = .bool true) (snap W)) :
    ReturnsInHanded {} C os f .any (fun w args => (s.pre enc C.prog fn [] apart w args ∧ laidMetH C.prog laid w) ∧ sizedMet enc C.prog fn (OpenSpec.ofChange s) apart w args) (s.post enc C.prog fn apart true false false) := by
  refine returnsInHanded_of_change_and (X := fun w _ => laidMetH C.prog laid w) (fun _ _ _ hh h => h.of_heap hh) own started noInit hfn witness ?_
  intro W base args ds gs before hval hW _ hsz hL _
  have hW' := hW
  obtain ⟨p, q, hA, hV, rfl, hfz, hnd⟩ := hW
  have hg : gs = [] := by
    rw [hvars] at hV
    cases gs with
    | nil => rfl
    | cons a b => exact hV.elim
  subst hg
  have hlen : ds.length = fn.params.toList.length := by
    have : ∀ (ts : List TypeId) (vs : List Value) (ds : List (DataW H)) (ps : List MemPlace), DataW.TrodAll enc C.prog W 0 (fun _ => true) true ts vs ds ps → ds.length = ts.length := by
      intro ts
      induction ts with
      | nil => intro vs ds ps h; cases vs <;> cases ds <;> first | rfl | exact h.elim | cases h
      | cons t ts ih =>
        intro vs ds ps h
        cases vs with
        | nil => cases h
        | cons v vs =>
          cases ds with
          | nil => cases h
          | cons d ds => obtain ⟨p, q, _, h2, _⟩ := h; simp [ih _ _ _ h2]
    exact this _ _ _ _ hA
  have hv0 : s.plain.varTypes C.prog = [] := by
    have : s.plain.vars = [] := hvars
    simp [DataSpec.varTypes, this]
  have hmc' := hmc W base args.toList ds p hA (fun j t v ht hv => hval j t v ht (by simpa using hv)) (by rw [hv0] at hsz; simpa using hsz) hL
  have hw := walk_of hmc'
  rw [Array.toArray_toList] at hw
  refine hw.mono fun e W' ⟨he, bel⟩ => ?_
  have hsp := hspec ds hlen
  refine ⟨_, he, ds, [], _, [], p, [], hW', ?_, ?_, ?_, bel.frame _, fun h => by cases h⟩
  · rw [List.append_nil, hsp, hres]
    exact trodAll_mk1 (shut_bool htb _)
  · rw [List.append_nil, hsp]
    exact args_stay hl bel _ _ _ _ hread hA
  · rw [List.append_nil, hsp, hvars]
    rfl
end Go.Proofs.YtpehdlobicocpaaDoor.Mw
/- Arguments opened: what came in as data stands in the memory as it was found, a value that nobody writes. No condition. -/
namespace Go.Proofs.YtpehdlobicocpaaDoor.Mw
open Go Go.RowKit Go.ChangeShapes Go.WideShapes Go.ChangeAt Go.Deep
set_option linter.unusedVariables false
/-- Data of this type stands as one of these. -/
structure Opens (P : Program) (w : World) (t : TypeId) {α : Type} (c : α → List DV) : Prop where
  op : ∀ {H : Type} (enc : TypeId × Value → H) (base : Nat) (spare : Nat → Bool) (held : Bool) (fuel : Nat) (cs : List Value) (x : DataW H × List MemPlace),
    DataW.trod enc P w base spare held fuel t cs = some x → ∃ a, RepL (snap w) (c a) cs
structure OpensF (P : Program) (w : World) (tot : Nat) (fs : List Field) (o : Nat) {α : Type} (c : α → List DV) : Prop where
  op : ∀ {H : Type} (enc : TypeId × Value → H) (base : Nat) (spare : Nat → Bool) (held : Bool) (fuel : Nat) (cs : List Value), cs.length = tot →
    (∀ f ∈ fs, ∃ y, DataW.trod enc P w base spare held fuel f.type ((cs.drop f.offset).take (P.cellsOf f.type)) = some y) → ∃ a, RepL (snap w) (c a) (cs.drop o)
section
variable {P : Program} {w : World} {t : TypeId}
theorem RepL.one {m : Mem} {d : DV} {v : Value} (h : Rep m d v) : RepL m [d] [v] := RepL.cons h (RepL.nil m)
theorem Opens.int {k : IntKind} (ht : P.underlying t = some (.int k)) : Opens P w t (fun z : Int => [.int k z]) := by
  constructor
  intro _ enc base sp held fuel cs x h
  obtain ⟨n, rfl, _, _⟩ := DataW.trod_int ht h
  exact ⟨n, RepL.one (by simp only [Rep])⟩
theorem Opens.bool (ht : P.underlying t = some .bool) : Opens P w t (fun z : Bool => [.bool z]) := by
  constructor
  intro _ enc base sp held fuel cs x h
  obtain ⟨n, rfl, _⟩ := DataW.trod_bool ht h
  exact ⟨n, RepL.one (by simp only [Rep])⟩
theorem Opens.str (ht : P.underlying t = some .string) : Opens P w t (fun z : ByteArray => [.str z]) := by
  constructor
  intro _ enc base sp held fuel cs x h
  obtain ⟨n, rfl, _⟩ := DataW.trod_string ht h
  exact ⟨n, RepL.one (by simp only [Rep])⟩
theorem Opens.map {α β : Type} {c : α → List DV} {c' : β → List DV} (h : Opens P w t c) (f : α → β) (e : ∀ a, c' (f a) = c a) : Opens P w t c' := by
  constructor
  intro _ enc base sp held fuel cs x hx
  obtain ⟨a, ha⟩ := h.op enc base sp held fuel cs x hx
  exact ⟨f a, by rw [e]; exact ha⟩
theorem OpensF.nil {tot : Nat} : OpensF P w tot [] tot (fun _ : Unit => []) := by
  constructor
  intro _ enc base sp held fuel cs hl h
  exact ⟨(), by rw [List.drop_eq_nil_of_le (by omega)]; exact RepL.nil _⟩
theorem OpensF.cons {α β : Type} {c0 : α → List DV} {c1 : β → List DV} {tot o k : Nat} {f : Field} {fs : List Field} (h0 : Opens P w f.type c0) (ho : f.offset = o) (hk : P.cellsOf f.type = k) (h1 : OpensF P w tot fs (o + k) c1) :
    OpensF P w tot (f :: fs) o (fun p : α × β => c0 p.1 ++ c1 p.2) := by
  constructor
  intro _ enc base sp held fuel cs hl h
  obtain ⟨y, hy⟩ := h f (by simp)
  obtain ⟨a, ha⟩ := h0.op enc base sp held fuel _ _ hy
  obtain ⟨b, hb⟩ := h1.op enc base sp held fuel cs hl fun g hg => h g (by simp [hg])
  rw [ho, hk] at ha
  refine ⟨(a, b), ?_⟩
  have e : cs.drop o = (cs.drop o).take k ++ cs.drop (o + k) := by rw [← List.drop_drop, List.take_append_drop]
  rw [e]
  exact ha.append hb
theorem Opens.struct {α : Type} {c : α → List DV} {fs : Array Field} {tot : Nat} (ht : P.underlying t = some (.struct fs)) (hc : P.cellsOf t = tot) (h : OpensF P w tot fs.toList 0 c) : Opens P w t c := by
  constructor
  intro _ enc base sp held fuel cs x hx
  obtain ⟨xs, n, _, _, hl, hlen, hf⟩ := DataW.trod_struct ht hx
  have := h.op enc base sp held n cs (hl.trans hc) fun f hf' => by
    obtain ⟨i, hi, e⟩ := List.getElem_of_mem hf'
    have hi' : i < xs.length := by rw [hlen]; simpa using hi
    refine ⟨xs[i], ?_⟩
    rw [hf i f (by rw [← Array.getElem?_toList, List.getElem?_eq_getElem hi, e]), List.getElem?_eq_getElem hi']
  simpa using this
theorem snap_cell {a : Addr} {v : Value} (h : w.cell? a = some v) : ∃ b o ty N full, a = ⟨b, o, none⟩ ∧ snap w b = some (.cells ty N true full) ∧ full[o]? = some v := by
  obtain ⟨b, o, sp⟩ := a
  have hs := World.cell?_spot h
  simp only at hs; subst hs
  unfold World.cell? at h
  split at h
  · rename_i c ty fz hb
    simp only [Option.isSome_none, Bool.false_eq_true, if_false] at h
    refine ⟨b, o, ty, c.size, c.toList, rfl, ?_, by simpa using h⟩
    simp only at hb
    simp only [snap, hb]
  · cases h
theorem rep_cells {α : Type} {c : α → List DV} {n : Nat} {base b o : Nat} {ty : TypeId} {N : Nat} {full : List Value} (hm : snap w b = some (.cells ty N true full)) :
    ∀ (l : List α) (k : Nat), (∀ i (hi : i < l.length), ∃ cs', w.cells? base ((⟨b, o, none⟩ : Addr).add ((k + i) * n)) n = some cs' ∧ RepL (snap w) (c l[i]) cs') → RepP (snap w) (l.flatMap c) (full.drop (o + k * n))
  | [], k, h => by simp [RepP]
  | x :: l, k, h => by
    obtain ⟨cs', h1, h2⟩ := h 0 (by simp)
    obtain ⟨_, hlen, hcell⟩ := World.cells?_some h1
    have ih := rep_cells (base := base) hm l (k + 1) fun i hi => by
      have := h (i + 1) (by simpa using hi)
      simpa [Nat.add_assoc, Nat.add_comm 1 i] using this
    have e : cs' = (full.drop (o + k * n)).take n := by
      apply List.ext_getElem?
      intro i
      by_cases hi : i < n
      · rw [List.getElem?_take_of_lt hi, List.getElem?_drop, ← hcell i hi]
        simp only [Nat.add_zero, add_plain]
        unfold World.cell?
        unfold snap at hm
        split at hm
        · rename_i c' ty' fz hb
          cases hm
          simp only [hb]
          simp [Nat.add_assoc]
        · cases hm
      · rw [List.getElem?_eq_none (by omega), List.getElem?_eq_none (by simp; omega)]
    have e2 : full.drop (o + k * n) = cs' ++ full.drop (o + (k + 1) * n) := by
      rw [e, show o + (k + 1) * n = o + k * n + n by rw [Nat.add_mul]; omega, ← List.drop_drop (i := n), List.take_append_drop]
    rw [List.flatMap_cons, e2]
    exact h2.1.append h2.2 ih
theorem Opens.slice {α : Type} {c : α → List DV} {e : TypeId} {n : Nat} (h : Opens P w e c) (ht : P.underlying t = some (.slice e)) (hn : P.cellsOf e = n) (hpos : 0 < n) : Opens P w t (fun l : List α => [slD c l]) := by
  constructor
  intro _ enc base sp held fuel cs x hx
  rcases open_slice ht hx with ⟨rfl, _⟩ | ⟨a, len, cap, m, k, D, Pl, rfl, _, hl, _, hm, _, hel⟩
  · refine ⟨[], RepL.one ?_⟩
    simp only [slD, Rep, List.flatMap_nil, List.length_nil]
    exact ⟨none, 0, rfl, Nat.le_refl _, fun h => absurd h (by omega)⟩
  · have hlm : len ≤ m := by rw [hm]; split <;> omega
    have each : ∀ i, i < len → ∃ y : α, ∃ cs', w.cells? base (a.add (i * n)) n = some cs' ∧ RepL (snap w) (c y) cs' := fun i hi => by
      obtain ⟨cs', h1, h2⟩ := hel i (by omega)
      obtain ⟨y, hy⟩ := h.op enc base sp held k cs' _ h2
      rw [hn] at h1
      exact ⟨y, cs', h1, hy⟩
    have : ∃ l : List α, l.length = len ∧ ∀ i (hi : i < l.length), ∃ cs', w.cells? base (a.add (i * n)) n = some cs' ∧ RepL (snap w) (c l[i]) cs' := by
      clear hel hl hlm hm hx
      rename_i hxx
      clear hxx
      induction len with
      | zero => exact ⟨[], rfl, fun i hi => absurd hi (by simp)⟩
      | succ len ih =>
        obtain ⟨l, h1, h2⟩ := ih fun i hi => each i (by omega)
        obtain ⟨y, hy⟩ := each len (by omega)
        refine ⟨l ++ [y], by simp [h1], fun i hi => ?_⟩
        by_cases h' : i < l.length
        · simpa [List.getElem_append_left h'] using h2 i h'
        · have : i = len := by simp at hi; omega
          subst this
          simpa [h1] using hy
    obtain ⟨l, rfl, hlc⟩ := this
    refine ⟨l, RepL.one ?_⟩
    simp only [slD, Rep]
    refine ⟨some a, cap, rfl, hl, fun h0 => ?_⟩
    obtain ⟨cs', h1, h2⟩ := hlc 0 h0
    obtain ⟨_, hlen, hcell⟩ := World.cells?_some h1
    have h3 := hcell 0 hpos
    have h4 : 0 < cs'.length := by omega
    rw [List.getElem?_eq_getElem h4] at h3
    simp only [Nat.zero_mul] at h3
    obtain ⟨b, o, ty, N, full, e1, e2, _⟩ := snap_cell h3
    have ea : a = ⟨b, o, none⟩ := by simpa [Addr.add] using e1
    subst ea
    refine ⟨b, o, ty, N, full, rfl, e2, ?_⟩
    have := rep_cells (base := base) (n := n) e2 l 0 (by simpa using hlc)
    simpa using this
/-- One value of a flat list of one cell. -/
theorem Opens.val {α : Type} {d : α → DV} (h : Opens P w t (fun a => [d a])) {v : Value} (hc : v.cells = #[v]) {H : Type} {enc : TypeId × Value → H} {base : Nat} {sp : Nat → Bool} {held : Bool} {x : DataW H} {p : List MemPlace}
    (hx : DataW.Trod enc P w base sp held t v x p) : ∃ a, Rep (snap w) (d a) v := by
  obtain ⟨fuel, hf⟩ := hx
  obtain ⟨a, ha⟩ := h.op enc base sp held fuel _ _ hf
  rw [hc] at ha
  have h1 := ha.1
  simp only [RepP] at h1
  exact ⟨a, h1.1⟩
end
end Go.Proofs.YtpehdlobicocpaaDoor.Mw
/- Arguments opened, with what their sizes are. No condition. -/
namespace Go.Proofs.YtpehdlobicocpaaDoor.Mw
open Go Go.RowKit Go.ChangeShapes Go.WideShapes Go.ChangeAt Go.Deep
set_option linter.unusedVariables false
/-- Data of this type, of no more than what a machine bears, stands as one of these. -/
structure OpensS (P : Program) (w : World) (t : TypeId) {α : Type} (c : α → List DV) (S : α → Prop) : Prop where
  op : ∀ {H : Type} (enc : TypeId × Value → H) (base : Nat) (spare : Nat → Bool) (held : Bool) (fuel : Nat) (cs : List Value) (x : DataW H × List MemPlace),
    DataW.trod enc P w base spare held fuel t cs = some x → (∀ n ∈ x.1.weights P t, n ≤ reachBytes) → ∃ a, RepL (snap w) (c a) cs ∧ S a
structure OpensT (P : Program) (w : World) (tot : Nat) (fs : List Field) (o : Nat) {α : Type} (c : α → List DV) (S : α → Prop) : Prop where
  op : ∀ {H : Type} (enc : TypeId × Value → H) (base : Nat) (spare : Nat → Bool) (held : Bool) (fuel : Nat) (cs : List Value), cs.length = tot →
    (∀ f ∈ fs, ∃ y, DataW.trod enc P w base spare held fuel f.type ((cs.drop f.offset).take (P.cellsOf f.type)) = some y ∧ ∀ n ∈ y.1.weights P f.type, n ≤ reachBytes) → ∃ a, RepL (snap w) (c a) (cs.drop o) ∧ S a
section
variable {P : Program} {w : World} {t : TypeId}
def I64 (z : Int) : Prop := -9223372036854775808 ≤ z ∧ z ≤ 9223372036854775807
theorem OpensS.int (ht : P.underlying t = some (.int .i64)) : OpensS P w t (fun z : Int => [.int .i64 z]) I64 := by
  constructor
  intro _ enc base sp held fuel cs x h _
  obtain ⟨n, rfl, _, hw⟩ := DataW.trod_int ht h
  refine ⟨n, RepL.one (by simp only [Rep]), ?_⟩
  simp only [Lit.wf, Bool.and_eq_true, decide_eq_true_eq] at hw
  exact hw
theorem OpensS.bool (ht : P.underlying t = some .bool) : OpensS P w t (fun z : Bool => [.bool z]) (fun _ => True) := by
  constructor
  intro _ enc base sp held fuel cs x h _
  obtain ⟨n, rfl, _⟩ := DataW.trod_bool ht h
  exact ⟨n, RepL.one (by simp only [Rep]), trivial⟩
theorem OpensS.str (ht : P.underlying t = some .string) : OpensS P w t (fun z : ByteArray => [.str z]) (fun s => s.size ≤ reachBytes) := by
  constructor
  intro _ enc base sp held fuel cs x h hs
  obtain ⟨n, rfl, rfl, _⟩ := DataW.trod_string ht h
  refine ⟨n, RepL.one (by simp only [Rep]), ?_⟩
  have := hs n.data.toList.length (by simp [DataW.weights])
  simpa using this
theorem OpensS.map {α β : Type} {c : α → List DV} {c' : β → List DV} {S : α → Prop} {S' : β → Prop} (h : OpensS P w t c S) (f : α → β) (e : ∀ a, c' (f a) = c a) (hS : ∀ a, S a → S' (f a)) : OpensS P w t c' S' := by
  constructor
  intro _ enc base sp held fuel cs x hx hs
  obtain ⟨a, ha, h1⟩ := h.op enc base sp held fuel cs x hx hs
  exact ⟨f a, by rw [e]; exact ha, hS a h1⟩
theorem OpensT.nil {tot : Nat} : OpensT P w tot [] tot (fun _ : Unit => []) (fun _ => True) := by
  constructor
  intro _ enc base sp held fuel cs hl h
  exact ⟨(), by rw [List.drop_eq_nil_of_le (by omega)]; exact RepL.nil _, trivial⟩
theorem OpensT.cons {α β : Type} {c0 : α → List DV} {c1 : β → List DV} {S0 : α → Prop} {S1 : β → Prop} {tot o k : Nat} {f : Field} {fs : List Field} (h0 : OpensS P w f.type c0 S0) (ho : f.offset = o) (hk : P.cellsOf f.type = k) (h1 : OpensT P w tot fs (o + k) c1 S1) :
    OpensT P w tot (f :: fs) o (fun p : α × β => c0 p.1 ++ c1 p.2) (fun p => S0 p.1 ∧ S1 p.2) := by
  constructor
  intro _ enc base sp held fuel cs hl h
  obtain ⟨y, hy, hyw⟩ := h f (by simp)
  obtain ⟨a, ha, sa⟩ := h0.op enc base sp held fuel _ _ hy hyw
  obtain ⟨b, hb, sb⟩ := h1.op enc base sp held fuel cs hl fun g hg => h g (by simp [hg])
  rw [ho, hk] at ha
  refine ⟨(a, b), ?_, sa, sb⟩
  have e : cs.drop o = (cs.drop o).take k ++ cs.drop (o + k) := by rw [← List.drop_drop, List.take_append_drop]
  rw [e]
  exact ha.append hb
theorem OpensS.struct {α : Type} {c : α → List DV} {S : α → Prop} {fs : Array Field} {tot : Nat} (ht : P.underlying t = some (.struct fs)) (hc : P.cellsOf t = tot) (h : OpensT P w tot fs.toList 0 c S) : OpensS P w t c S := by
  constructor
  intro _ enc base sp held fuel cs x hx hs
  obtain ⟨xs, n, _, rfl, hl, hlen, hf⟩ := DataW.trod_struct ht hx
  have := h.op enc base sp held n cs (hl.trans hc) fun f hf' => by
    obtain ⟨i, hi, e⟩ := List.getElem_of_mem hf'
    have hi' : i < xs.length := by rw [hlen]; simpa using hi
    have hfi : fs[i]? = some f := by rw [← Array.getElem?_toList, List.getElem?_eq_getElem hi, e]
    refine ⟨xs[i], ?_, fun m hm => hs m ?_⟩
    · rw [hf i f hfi, List.getElem?_eq_getElem hi']
    · simp only [DataW.weights, ht]
      exact DataW.weights_mem_each (j := i) (t := f.type) (d := xs[i].1) (by rw [List.getElem?_map, Array.getElem?_toList, hfi]; rfl) (by simp [hi']) m hm
  simpa using this
theorem weights_all {H : Type} {e : TypeId} {n : Nat} : ∀ {ds : List (DataW H)} {d : DataW H}, d ∈ ds → n ∈ d.weights P e → n ∈ DataW.weightsAll P e ds
  | x :: ds, d, hd, hn => by
    simp only [DataW.weightsAll, List.mem_append]
    rcases List.mem_cons.1 hd with rfl | hd
    · exact .inl hn
    · exact .inr (weights_all hd hn)
theorem OpensS.slice {α : Type} {c : α → List DV} {S : α → Prop} {e : TypeId} {n bytes : Nat} (h : OpensS P w e c S) (ht : P.underlying t = some (.slice e)) (hn : P.cellsOf e = n) (hpos : 0 < n) (hb : P.bytesOf e = bytes) :
    OpensS P w t (fun l : List α => [slD c l]) (fun l => l.length * bytes ≤ reachBytes ∧ ∀ x ∈ l, S x) := by
  constructor
  intro _ enc base sp held fuel cs x hx hs
  rcases open_slice ht hx with ⟨rfl, _⟩ | ⟨a, len, cap, m, k, D, Pl, rfl, _, hl, _, hm, rfl, hel⟩
  · refine ⟨[], RepL.one ?_, by simp, fun _ h => by simp at h⟩
    simp only [slD, Rep, List.flatMap_nil, List.length_nil]
    exact ⟨none, 0, rfl, Nat.le_refl _, fun h => absurd h (by omega)⟩
  · have hlm : len ≤ m := by rw [hm]; split <;> omega
    simp only [DataW.weights, ht, List.mem_cons, List.mem_append] at hs
    have hsz : len * bytes ≤ reachBytes := by
      have := hs _ (.inl rfl)
      simp only [List.length_map, List.length_range, hb] at this
      exact Nat.le_trans (Nat.mul_le_mul_right _ (Nat.le_add_right _ _)) this
    have each : ∀ i, i < len → ∃ y : α, (∃ cs', w.cells? base (a.add (i * n)) n = some cs' ∧ RepL (snap w) (c y) cs') ∧ S y := fun i hi => by
      obtain ⟨cs', h1, h2⟩ := hel i (by omega)
      obtain ⟨y, hy, sy⟩ := h.op enc base sp held k cs' _ h2 fun q hq => hs q (.inr (.inl (weights_all (d := D i) (by simp; exact ⟨i, hi, rfl⟩) hq)))
      rw [hn] at h1
      exact ⟨y, ⟨cs', h1, hy⟩, sy⟩
    have : ∃ l : List α, l.length = len ∧ (∀ i (hi : i < l.length), ∃ cs', w.cells? base (a.add (i * n)) n = some cs' ∧ RepL (snap w) (c l[i]) cs') ∧ ∀ x ∈ l, S x := by
      clear hel hl hlm hm hx hs hsz
      induction len with
      | zero => exact ⟨[], rfl, fun i hi => absurd hi (by simp), fun _ h => by simp at h⟩
      | succ len ih =>
        obtain ⟨l, h1, h2, h3⟩ := ih fun i hi => each i (by omega)
        obtain ⟨y, hy, sy⟩ := each len (by omega)
        refine ⟨l ++ [y], by simp [h1], fun i hi => ?_, fun x hx => ?_⟩
        · by_cases h' : i < l.length
          · simpa [List.getElem_append_left h'] using h2 i h'
          · have : i = len := by simp at hi; omega
            subst this
            simpa [h1] using hy
        · rcases List.mem_append.1 hx with hx | hx
          · exact h3 x hx
          · simp at hx; subst hx; exact sy
    obtain ⟨l, rfl, hlc, hS⟩ := this
    refine ⟨l, RepL.one ?_, hsz, hS⟩
    simp only [slD, Rep]
    refine ⟨some a, cap, rfl, hl, fun h0 => ?_⟩
    obtain ⟨cs', h1, h2⟩ := hlc 0 h0
    obtain ⟨_, hlen, hcell⟩ := World.cells?_some h1
    have h3 := hcell 0 hpos
    have h4 : 0 < cs'.length := by omega
    rw [List.getElem?_eq_getElem h4] at h3
    simp only [Nat.zero_mul] at h3
    obtain ⟨b, o, ty, N, full, e1, e2, _⟩ := snap_cell h3
    have ea : a = ⟨b, o, none⟩ := by simpa [Addr.add] using e1
    subst ea
    refine ⟨b, o, ty, N, full, rfl, e2, ?_⟩
    have := rep_cells (base := base) (n := n) e2 l 0 (by simpa using hlc)
    simpa using this
/-- One value of one cell. -/
theorem OpensS.val {α : Type} {d : α → DV} {S : α → Prop} (h : OpensS P w t (fun a => [d a]) S) {v : Value} (hc : v.cells = #[v]) {H : Type} {enc : TypeId × Value → H} {base : Nat} {sp : Nat → Bool} {held : Bool} {x : DataW H} {p : List MemPlace}
    (hx : DataW.Trod enc P w base sp held t v x p) (hs : ∀ n ∈ x.weights P t, n ≤ reachBytes) : ∃ a, Rep (snap w) (d a) v ∧ S a := by
  obtain ⟨fuel, hf⟩ := hx
  obtain ⟨a, ha, sa⟩ := h.op enc base sp held fuel _ _ hf hs
  rw [hc] at ha
  have h1 := ha.1
  simp only [RepP] at h1
  exact ⟨a, h1.1, sa⟩
/-- A struct. -/
theorem OpensS.agg {α : Type} {c : α → List DV} {S : α → Prop} (h : OpensS P w t c S) {cs : Array Value} {H : Type} {enc : TypeId × Value → H} {base : Nat} {sp : Nat → Bool} {held : Bool} {x : DataW H} {p : List MemPlace}
    (hx : DataW.Trod enc P w base sp held t (.agg cs) x p) (hs : ∀ n ∈ x.weights P t, n ≤ reachBytes) : ∃ a, Rep (snap w) (.agg (c a)) (.agg cs) ∧ S a := by
  obtain ⟨fuel, hf⟩ := hx
  obtain ⟨a, ha, sa⟩ := h.op enc base sp held fuel _ _ hf hs
  refine ⟨a, ?_, sa⟩
  simp only [Rep]
  exact ⟨cs.toList, by simp, ha.1, ha.2⟩
theorem sized_mem {H : Type} {ts : List TypeId} {ds : List (DataW H)} (h : (DataW.weightsEach P ts ds).all (· ≤ reachBytes) = true) {j : Nat} {d : DataW H} (ht : ts[j]? = some t) (hd : ds[j]? = some d) : ∀ n ∈ d.weights P t, n ≤ reachBytes := fun n hn => by
  have := List.all_eq_true.1 h n (DataW.weights_mem_each ht hd n hn)
  simpa using this
end
end Go.Proofs.YtpehdlobicocpaaDoor.Mw
/- Rows and cards: lowered code, by hand. No condition. -/
namespace Go.Proofs.YtpehdlobicocpaaDoor
open Go Go.RowKit Go.Proofs.YtpehdlobicocpaaDoor.Mw Go.Proofs.YtpehdlobicocpaaDoor.Pf Go.ChangeShapes Go.WideShapes Go.ChangeAt
set_option linter.unusedVariables false
theorem own : ownKnob Tryd.prog.godebug = none := by kernel_rfl
theorem laid : laidOutB Tryd.prog = true := by kernel_rfl
theorem et : Tryd.prog.globalNamed "errors.errorType" = some 0 := by kernel_rfl
theorem rt : (Tryd.prog.cutTypes.find? (·.1 == "internal/reflectlite.rtype")).map (·.2) = some 189 := by kernel_rfl
theorem oneRow : ((List.range 231).filter fun t => Tryd.prog.rowNamed t [101, 114, 114, 111, 114]) = [126] := by kernel_rfl
theorem sizeT : Tryd.prog.types.size = 231 := by kernel_rfl
abbrev told : List (String × DataW Unit) := [("errors.errorType", Rows.laid_errors_errorType)]
theorem glob_told {W : World} (h : laidMetH Tryd.prog told W) : Glob (snap W) := by
  have h' : laidMet Tryd.prog [] W ∧ handlesMet Tryd.prog told W := h
  obtain ⟨name, u, ty, e1, e2, e3, e4, e5⟩ := h'.2 _ (List.mem_singleton.2 rfl)
  have en : name = [101, 114, 114, 111, 114] := (Option.some.inj e1).symm
  subst en
  obtain rfl := Option.some.inj (rt.symm.trans e2)
  have hm : ty ∈ (List.range 231).filter fun t => Tryd.prog.rowNamed t [101, 114, 114, 111, 114] := List.mem_filter.2 ⟨List.mem_range.2 (by rw [← sizeT]; exact e3), e4⟩
  rw [oneRow] at hm
  obtain rfl := List.mem_singleton.1 hm
  have hh : typeHandle Tryd.prog 126 = .pointer (some ⟨1, 126, none⟩) := by kernel_rfl
  rw [hh] at e5
  intro b v hb
  have hb0 : b = 0 ∧ v = .iface 189 (.agg #[.pointer (some ⟨1, 126, none⟩)]) := by
    unfold globs at hb
    simp only [List.lookup] at hb
    split at hb
    · rename_i hx
      exact ⟨by simpa using hx, (Option.some.inj hb).symm⟩
    · cases hb
  obtain ⟨rfl, rfl⟩ := hb0
  unfold World.var? at e5
  rw [et] at e5
  simp only [Option.bind_some] at e5
  split at e5
  · rename_i c t z hc
    cases e5
    exact ⟨t, by unfold snap; rw [hc]; rfl⟩
  · cases e5
noncomputable def toldWorld (os : Os) : World :=
  let w0 := World.holding Tryd.prog os ⟨#[], #[], []⟩
  { w0 with heap := w0.heap.modify 0 fun
      | .cells _ t frozen => .cells #[.iface 189 (.agg #[.pointer (some ⟨1, 126, none⟩)])] t frozen
      | o => o }
theorem toldWorld_met (os : Os) (args : Array Value) : laidMetH Tryd.prog told ((toldWorld os).forCall (fun _ _ => 0) ⟨#[], args, []⟩).memory :=
  laidMetH_of_parts (laidMet_nil _ _) (by kernel_rfl)
theorem cI : Tryd.prog.cellsOf 3 = 1 := by kernel_rfl
theorem opI (w : World) : OpensS Tryd.prog w 3 (fun z : Int => [.int .i64 z]) I64 := OpensS.int Tryd.underlying3
namespace lowerKinds
set_option maxRecDepth 100000 in
theorem lifted (os : Os) (started : os.Started) (H : Type) (enc : TypeId × Value → H) :
    ReturnsInHanded {} Tryd.checked os 3 .any (fun w args => (Rows.lowerKindsSpec.pre enc Tryd.prog Tryd.f3 [] false w args ∧ laidMetH Tryd.prog told w) ∧ sizedMet enc Tryd.prog Tryd.f3 (OpenSpec.ofChange Rows.lowerKindsSpec) false w args)
      (Rows.lowerKindsSpec.post enc Tryd.prog Tryd.f3 false true false false) := by
  refine law_row_laid (C := Tryd.checked) told own started (by kernel_rfl) Tryd.func3 rfl (fun ds h => ?_) rfl Tryd.underlying4 laid (of_decide_eq_true (by kernel_rfl))
    (ChangeSpec.witness_at (enc := enc) (C := Tryd.checked) (os := os) (X := fun w _ => laidMetH Tryd.prog told w) false (toldWorld os) #[.int .i64 0] 8 rfl (by kernel_rfl) (by kernel_rfl) (by kernel_rfl) (by kernel_rfl) (by kernel_rfl) (toldWorld_met os _)) (fun W base args ds p hA hval hsz hL => ?_)
  · match ds, h with
    | [_], _ => rfl
  · rw [show Tryd.f3.params.toList = [3] from rfl] at hA hsz
    obtain ⟨v0, vs0, d0, ds0, p0, q0, rfl, rfl, rfl, h0, r0⟩ := trodAll_cons hA
    obtain ⟨rfl, rfl, rfl⟩ := trodAll_nil r0
    obtain ⟨x0, rfl⟩ := okWide_int Tryd.underlying3 (hval 0 3 v0 rfl rfl)
    obtain ⟨a0, g0, s0⟩ := OpensS.val (d := fun z : Int => .int .i64 z) (OpensS.int Tryd.underlying3) rfl h0 (sized_mem (t := 3) (j := 0) hsz rfl rfl)
    exact law_mc (LowerKinds_pc a0) (glob_told hL) (RepL.cons g0 (RepL.nil _))
theorem over : Rows.lowerKindsRow.holds Tryd.pinned (OpenSpec.ofChange Rows.lowerKindsSpec) :=
  OpenClaim.holds_of_wide 3 Tryd.f3 rfl rfl rfl rfl rfl rfl rfl ⟨rfl, rfl, rfl, rfl, rfl⟩ rfl rfl rfl rfl rfl (by kernel_rfl) Tryd.func3 (by kernel_rfl)
    (of_decide_eq_true (by kernel_rfl)) (by unfold Func.isWrapper; first | (rw [if_pos (by decide +kernel)]; kernel_rfl) | (rw [if_neg (by decide +kernel)]; exact ⟨rfl, rfl⟩))
    (fun os started H enc _ => lifted os started H enc)
end lowerKinds
theorem lowerKinds_card : Rows.LowerKindsCardSaid :=
  Claim7.holds_tied_plain_at .later [] [.handle] true _ true
    lowerKinds.over (fun _ h => by cases h) (by kernel_rfl) (fun _ h => by cases h) lowerKinds_row_tie rfl ⟨rfl, rfl⟩ (by kernel_rfl) rfl
    (fun f fn hf hfn => by
      obtain rfl : f = 3 := Option.some.inj ((show Tryd.prog.funcNamed "swage/swagelaw11.LowerKinds" = some 3 by kernel_rfl).symm.trans hf) |>.symm
      obtain rfl : fn = Tryd.f3 := (Option.some.inj (Tryd.func3.symm.trans hfn)).symm
      have hall : (Tryd.f3.params.toList.all fun t => !Tryd.prog.wantsStandIn t) = true := by kernel_rfl
      refine ⟨by kernel_rfl, fun j t ht => ?_⟩
      have hm : t ∈ Tryd.f3.params.toList := List.mem_of_getElem? (i := j) (by rw [Array.getElem?_toList]; exact ht)
      exact (show Tryd.prog.wantsStandIn t = false by simpa using List.all_eq_true.1 hall t hm))
    (by kernel_rfl)
namespace lowerBack
set_option maxRecDepth 100000 in
theorem lifted (os : Os) (started : os.Started) (H : Type) (enc : TypeId × Value → H) :
    ReturnsInHanded {} Tryd.checked os 4 .any (fun w args => (Rows.lowerBackSpec.pre enc Tryd.prog Tryd.f4 [] false w args ∧ laidMetH Tryd.prog told w) ∧ sizedMet enc Tryd.prog Tryd.f4 (OpenSpec.ofChange Rows.lowerBackSpec) false w args)
      (Rows.lowerBackSpec.post enc Tryd.prog Tryd.f4 false true false false) := by
  refine law_row_laid (C := Tryd.checked) told own started (by kernel_rfl) Tryd.func4 rfl (fun ds h => ?_) rfl Tryd.underlying4 laid (of_decide_eq_true (by kernel_rfl))
    (ChangeSpec.witness_at (enc := enc) (C := Tryd.checked) (os := os) (X := fun w _ => laidMetH Tryd.prog told w) false (toldWorld os) #[.bool false] 8 rfl (by kernel_rfl) (by kernel_rfl) (by kernel_rfl) (by kernel_rfl) (by kernel_rfl) (toldWorld_met os _)) (fun W base args ds p hA hval hsz hL => ?_)
  · match ds, h with
    | [_], _ => rfl
  · rw [show Tryd.f4.params.toList = [4] from rfl] at hA hsz
    obtain ⟨v0, vs0, d0, ds0, p0, q0, rfl, rfl, rfl, h0, r0⟩ := trodAll_cons hA
    obtain ⟨rfl, rfl, rfl⟩ := trodAll_nil r0
    obtain ⟨x0, rfl⟩ := okWide_bool Tryd.underlying4 (hval 0 4 v0 rfl rfl)
    obtain ⟨a0, g0, s0⟩ := OpensS.val (d := fun z : Bool => .bool z) (OpensS.bool Tryd.underlying4) rfl h0 (sized_mem (t := 4) (j := 0) hsz rfl rfl)
    exact law_mc (LowerBack_pc a0) (glob_told hL) (RepL.cons g0 (RepL.nil _))
theorem over : Rows.lowerBackRow.holds Tryd.pinned (OpenSpec.ofChange Rows.lowerBackSpec) :=
  OpenClaim.holds_of_wide 4 Tryd.f4 rfl rfl rfl rfl rfl rfl rfl ⟨rfl, rfl, rfl, rfl, rfl⟩ rfl rfl rfl rfl rfl (by kernel_rfl) Tryd.func4 (by kernel_rfl)
    (of_decide_eq_true (by kernel_rfl)) (by unfold Func.isWrapper; first | (rw [if_pos (by decide +kernel)]; kernel_rfl) | (rw [if_neg (by decide +kernel)]; exact ⟨rfl, rfl⟩))
    (fun os started H enc _ => lifted os started H enc)
end lowerBack
theorem lowerBack_card : Rows.LowerBackCardSaid :=
  Claim7.holds_tied_plain_at .later [] [.handle] true _ true
    lowerBack.over (fun _ h => by cases h) (by kernel_rfl) (fun _ h => by cases h) lowerBack_row_tie rfl ⟨rfl, rfl⟩ (by kernel_rfl) rfl
    (fun f fn hf hfn => by
      obtain rfl : f = 4 := Option.some.inj ((show Tryd.prog.funcNamed "swage/swagelaw11.LowerBack" = some 4 by kernel_rfl).symm.trans hf) |>.symm
      obtain rfl : fn = Tryd.f4 := (Option.some.inj (Tryd.func4.symm.trans hfn)).symm
      have hall : (Tryd.f4.params.toList.all fun t => !Tryd.prog.wantsStandIn t) = true := by kernel_rfl
      refine ⟨by kernel_rfl, fun j t ht => ?_⟩
      have hm : t ∈ Tryd.f4.params.toList := List.mem_of_getElem? (i := j) (by rw [Array.getElem?_toList]; exact ht)
      exact (show Tryd.prog.wantsStandIn t = false by simpa using List.all_eq_true.1 hall t hm))
    (by kernel_rfl)
end Go.Proofs.YtpehdlobicocpaaDoor
