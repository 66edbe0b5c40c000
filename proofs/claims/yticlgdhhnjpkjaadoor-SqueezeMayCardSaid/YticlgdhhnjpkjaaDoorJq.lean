/- Xl Xm Mr Mt Do Dp Lv: joined texts of this claim. No condition. -/
import Derived.Test.YticlgdhhnjpkjaaDoorJqjj
import Derived.Test.YticlgdhhnjpkjaaDoorJqjk
import Derived.Test.YticlgdhhnjpkjaaDoorJqjd
import Derived.WalkKit
import Derived.ProofKit
import Derived.OpenShut
import Derived.ShutString
import Derived.ChangeOld
import Derived.Below
import Derived.Carry
import Derived.SizedLaws
import Derived.ChangeSame
import Derived.ChangeVars
import Derived.JoinedOf
import Derived.LaidLaws
import Derived.LaidHandle
import Derived.Handed
import Derived.Stop.Joined
import Derived.Deep.Slices
import Derived.Test.YticlgdhhnjpkjaaDoorRows
import Derived.Test.YticlgdhhnjpkjaaDoorTie
import Derived.Test.YticlgdhhnjpkjaaDoorCards
import Derived.Lib.SmallJoins
import Derived.SevenTiedAt
namespace Go.Proofs.YticlgdhhnjpkjaaDoor.Pf
open Go Go.RowKit Go.Proofs Go.Proofs.YticlgdhhnjpkjaaDoor.Mw Go.Proofs.YticlgdhhnjpkjaaDoor.Sx
set_option linter.unusedVariables false
set_option linter.unusedSimpArgs false
set_option maxRecDepth 8000
theorem Squeeze_pt (p : List Fnc) (c : Cod) (hz : SzC c) : Pt Tryd.prog F_squeeze_Squeeze [.agg [slD Fnc.c p], .agg c.c] (.tup [.agg (squeezeR p c).1.c, .int .i64 (squeezeR p c).2]) :=
  Pt.of (Squeeze_pc p c hz fun dc dm M' Sc Sm hc hm nd new sub => by
    obtain ⟨t1, t2⟩ := irE_th.sl hc
    obtain ⟨t3, t4⟩ := metaE_th.sl hm
    refine pt_only (S := Sc ++ Sm) (by simp only [thawed, thawedL, t1, t3] <;> rfl) (fun b hb => ?_) ?_
    · rcases List.mem_append.1 hb with hb | hb
      · exact t2 b hb
      · exact t4 b hb
    · have g1 := SlAt.only irE_ok hc (T := Sc ++ Sm) (fun b hb => by simp [hb])
      have g2 := SlAt.only metaE_ok hm (T := Sc ++ Sm) (fun b hb => by simp [hb])
      rw [fz_tup]
      simp only [List.map_cons, List.map_nil, fz_agg, fz_int]
      rw [g1.fz irE_ok (k := 3) (by decide), g2.fz metaE_ok (k := 3) (by decide)]
      rfl)
theorem may_szc {p : List Fnc} {c : Cod} (h : MayOk p c) (hs : ∀ m ∈ c.metas, SzM m) : SzC c :=
  ⟨by have := h.n; omega, fun x hx => by obtain ⟨i, hi, rfl⟩ := List.mem_iff_getElem.1 hx; have := (h.ir i hi).ar; omega, by have := h.m; omega, hs⟩
theorem total_pf (c : Cod) (hn : c.code.length ≤ 256) (h : ∀ x ∈ c.code, 0 ≤ x.cost ∧ x.cost ≤ 256) : pf Tryd.prog F_swagelaw18_total [.agg c.c] = some (.int .i64 (totC c.code)) := by
  refine pf_of (v := .int _ _) (pc_swagelaw18_total (by simp) ?_) (FrozL.nil.cons (Froz.agg (Cod.froz c))) rfl rfl
  have hb : ∀ i, i ≤ c.code.length → 0 ≤ totC (c.code.take i) ∧ totC (c.code.take i) ≤ 256 * i := fun i => by
    induction i with
    | zero => intro _; simp [totC]
    | succ i ih =>
      intro hi
      have := ih (by omega)
      rw [totC_take (by omega)]
      have := h c.code[i] (List.getElem_mem (by omega))
      omega
  simp only [S_swagelaw18_total, R_swagelaw18_total, MU_swagelaw18_total, SW, wpD, evDL, evDM, evD, bldLD, List.contains_cons, List.contains_nil, Nat.reduceBEq, beq_self_eq_true, Nat.reduceMul, Nat.reduceSub, wpSp, Option.bind_some, Option.some.injEq, exists_eq_left', exists_eq_left, reduceIte, if_false, if_true, Nat.reduceEqDiff, Nat.reduceAdd, Nat.reduceLeDiff, Int.reduceEq, Int.reduceLT, Int.reduceLE, Int.reduceToNat, decide_true, decide_false, DV.bool.injEq, DV.int.injEq, DV.mp.injEq, DV.msl.injEq, DV.tup.injEq, DV.agg.injEq, DV.fn.injEq, true_implies, forall_const, reduceCtorEq, implies_true, ne_eq, DMem.mt]
  refine ⟨fun n δ M => ∃ i : Nat, i ≤ c.code.length ∧ n = c.code.length - i ∧ M = DMem.mt ∧ δ 1 = cIp c ∧ δ 3 = .int .i64 (totC (c.code.take i)) ∧ δ 4 = .int .i64 i, c.code.length, ⟨0, Nat.zero_le _, rfl, rfl, rfl, rfl, rfl⟩, ?_⟩
  rintro n δ M ⟨i, hi, rfl, rfl, h1, h3, h4⟩
  simp only [S1_swagelaw18_total, MU_swagelaw18_total, h1, h3, h4, ld_ip2, SW, wpD, evDL, evDM, evD, bldLD, List.contains_cons, List.contains_nil, Nat.reduceBEq, beq_self_eq_true, Nat.reduceMul, Nat.reduceSub, wpSp, Option.bind_some, Option.some.injEq, exists_eq_left', exists_eq_left, reduceIte, if_false, if_true, Nat.reduceEqDiff, Nat.reduceAdd, Nat.reduceLeDiff, Int.reduceEq, Int.reduceLT, Int.reduceLE, Int.reduceToNat, decide_true, decide_false, DV.bool.injEq, DV.int.injEq, DV.mp.injEq, DV.msl.injEq, DV.tup.injEq, DV.agg.injEq, DV.fn.injEq, true_implies, forall_const, reduceCtorEq, implies_true, ne_eq, DMem.mt, decide_eq_true_eq, decide_eq_false_iff_not]
  refine ⟨fun hlt => ?_, fun hge => ?_⟩
  · have hil : i < c.code.length := by omega
    have hw : ((ixD 9 (slD Irc.c c.code) (.int .i64 i)).bind (faD 6)).bind (ldD DMem.mt) = some (.int .i64 c.code[i].cost) := by rw [ix_slD Irc.len hil] <;> rfl
    have b0 := hb i hi
    have b1 := hb (i + 1) (by omega)
    have et := totC_take hil
    have ew : wr64 (totC (c.code.take i) + c.code[i].cost) = totC (c.code.take (i + 1)) := by rw [w64 (by omega), et]
    simp only [h1, h3, h4, ld_ip2, hw, ew, SW, wpD, evDL, evDM, evD, bldLD, List.contains_cons, List.contains_nil, Nat.reduceBEq, beq_self_eq_true, Nat.reduceMul, Nat.reduceSub, wpSp, Option.bind_some, Option.some.injEq, exists_eq_left', exists_eq_left, reduceIte, if_false, if_true, Nat.reduceEqDiff, Nat.reduceAdd, Nat.reduceLeDiff, Int.reduceEq, Int.reduceLT, Int.reduceLE, Int.reduceToNat, decide_true, decide_false, DV.bool.injEq, DV.int.injEq, DV.mp.injEq, DV.msl.injEq, DV.tup.injEq, DV.agg.injEq, DV.fn.injEq, true_implies, forall_const, reduceCtorEq, implies_true, ne_eq, DMem.mt]
    exact ⟨c.code.length - (i + 1), DMem.mt, by omega, SubD.refl _, i + 1, by omega, rfl, rfl, rfl, w64s (by omega)⟩
  · have hie : i = c.code.length := by omega
    subst hie
    rw [List.take_length] at h3
    rw [List.take_length]
def awC : Cod := ⟨0, 2, [⟨0, 0, 0, 0, 0, [], 1, 0, 0⟩, ⟨0, 0, 0, 0, 0, [], 2, 0, 0⟩, ⟨5, 0, 0, 0, 4, [], 1, 0, 0⟩, ⟨0, 0, 0, 0, 0, [], 3, 0, 0⟩, ⟨8, 0, 0, 0, 0, [], 1, 0, 0⟩], []⟩
def awD : Cod := ⟨0, 2, [⟨5, 0, 0, 0, 2, [], 4, 0, 0⟩, ⟨0, 0, 0, 0, 0, [], 3, 0, 0⟩, ⟨8, 0, 0, 0, 0, [], 1, 0, 0⟩], []⟩
theorem sq_aw : squeezeR oneP awC = (awD, 0) := by decide +kernel
theorem sq_none : squeezeR oneP cod0 = (cod0, 1800) := by decide +kernel
theorem awake18_pf : pf Tryd.prog F_swagelaw18_awake [] = some (.bool true) := by
  refine pf_of (v := .bool _) (pc_swagelaw18_awake (by simp) ?_) FrozL.nil rfl rfl
  simp only [S_swagelaw18_awake, R_swagelaw18_awake, MU_swagelaw18_awake, MU_swagelaw18_awake, S1_swagelaw18_awake, S2_swagelaw18_awake, ldnI1, ldn4_ip, SW, wpD, evDL, evDM, evD, bldLD, List.contains_cons, List.contains_nil, Nat.reduceBEq, beq_self_eq_true, Nat.reduceMul, Nat.reduceSub, wpSp, Option.bind_some, Option.some.injEq, exists_eq_left', exists_eq_left, reduceIte, if_false, if_true, Nat.reduceEqDiff, Nat.reduceAdd, Nat.reduceLeDiff, Int.reduceEq, Int.reduceLT, Int.reduceLE, Int.reduceToNat, decide_true, decide_false, DV.bool.injEq, DV.int.injEq, DV.mp.injEq, DV.msl.injEq, DV.tup.injEq, DV.agg.injEq, DV.fn.injEq, true_implies, forall_const, reduceCtorEq, implies_true, ne_eq, DMem.mt]
  have z1 : SzC awC := ⟨by decide, by decide, by decide, by simp [awC]⟩
  have z0 : SzC cod0 := ⟨by decide, by simp [cod0], by decide, by simp [cod0]⟩
  refine Pt.pc (d := .tup [.agg awD.c, .int .i64 0]) (by simp only [List.map_cons, List.map_nil, fz_agg, fz_isl, fz_zsl, fz_int]; have h := Squeeze_pt oneP awC z1; rw [sq_aw] at h; exact h) ?_
  simp only [MU_swagelaw18_awake, S1_swagelaw18_awake, S2_swagelaw18_awake, ldnI1, ldn4_ip, SW, wpD, evDL, evDM, evD, bldLD, List.contains_cons, List.contains_nil, Nat.reduceBEq, beq_self_eq_true, Nat.reduceMul, Nat.reduceSub, wpSp, Option.bind_some, Option.some.injEq, exists_eq_left', exists_eq_left, reduceIte, if_false, if_true, Nat.reduceEqDiff, Nat.reduceAdd, Nat.reduceLeDiff, Int.reduceEq, Int.reduceLT, Int.reduceLE, Int.reduceToNat, decide_true, decide_false, DV.bool.injEq, DV.int.injEq, DV.mp.injEq, DV.msl.injEq, DV.tup.injEq, DV.agg.injEq, DV.fn.injEq, true_implies, forall_const, reduceCtorEq, implies_true, ne_eq, DMem.mt]
  refine Pt.pc (d := .tup [.agg cod0.c, .int .i64 1800]) (by simp only [List.map_cons, List.map_nil, fz_agg, fz_isl, fz_zsl, fz_int]; have h := Squeeze_pt oneP cod0 z0; rw [sq_none] at h; exact h) ?_
  have hs : pf Tryd.prog 14 [.agg [.int .i64 awD.fn, .int .i64 awD.regs, slD Irc.c awD.code, slD metaC awD.metas], .agg [.int .i64 0, .int .i64 2, .isl 3 [.int .i64 5, .int .i64 0, .int .i64 0, .int .i64 0, .int .i64 2, .isl 0 [], .int .i64 4, .int .i64 0, .int .i64 0, .int .i64 0, .int .i64 0, .int .i64 0, .int .i64 0, .int .i64 0, .isl 0 [], .int .i64 3, .int .i64 0, .int .i64 0, .int .i64 8, .int .i64 0, .int .i64 0, .int .i64 0, .int .i64 0, .isl 0 [], .int .i64 1, .int .i64 0, .int .i64 0], .isl 0 []]] = some (.bool true) := (SameCode_pf awD awD ⟨by decide, by decide, by decide, by simp [awD]⟩).trans (by rw [decide_eq_true rfl])
  simp only [MU_swagelaw18_awake, S1_swagelaw18_awake, S2_swagelaw18_awake, ldnI1, ldn4_ip, NumF_pf, fz_irs, fz_metas, hs, SW, wpD, evDL, evDM, evD, bldLD, List.contains_cons, List.contains_nil, Nat.reduceBEq, beq_self_eq_true, Nat.reduceMul, Nat.reduceSub, wpSp, Option.bind_some, Option.some.injEq, exists_eq_left', exists_eq_left, reduceIte, if_false, if_true, Nat.reduceEqDiff, Nat.reduceAdd, Nat.reduceLeDiff, Int.reduceEq, Int.reduceLT, Int.reduceLE, Int.reduceToNat, decide_true, decide_false, DV.bool.injEq, DV.int.injEq, DV.mp.injEq, DV.msl.injEq, DV.tup.injEq, DV.agg.injEq, DV.fn.injEq, true_implies, forall_const, reduceCtorEq, implies_true, ne_eq, DMem.mt]
theorem SqueezeMay_pc (p : List Fnc) (c : Cod) (hz : SzC c) : PC Tryd.prog F_swagelaw18_SqueezeMay [.agg [slD Fnc.c p], .agg c.c] (fun d' M' => d' = .bool true) DMem.mt := by
  refine pc_swagelaw18_SqueezeMay (by simp) ?_
  have f1 : FrozL [DV.agg [slD Fnc.c p], .agg c.c] := (FrozL.nil.cons (Froz.agg (Cod.froz c))).cons (Froz.agg (FrozL.nil.cons (Froz.slD Fnc.froz p)))
  have f2 : ∀ M k, fz M k (slD Fnc.c p) = slD Fnc.c p := fun M k => fz_prg M k p
  simp only [S_swagelaw18_SqueezeMay, R_swagelaw18_SqueezeMay, MU_swagelaw18_SqueezeMay, awake18_pf, ldnI1, ldn4_ip, SW, wpD, evDL, evDM, evD, bldLD, List.contains_cons, List.contains_nil, Nat.reduceBEq, beq_self_eq_true, Nat.reduceMul, Nat.reduceSub, wpSp, Option.bind_some, Option.some.injEq, exists_eq_left', exists_eq_left, reduceIte, if_false, if_true, Nat.reduceEqDiff, Nat.reduceAdd, Nat.reduceLeDiff, Int.reduceEq, Int.reduceLT, Int.reduceLE, Int.reduceToNat, decide_true, decide_false, DV.bool.injEq, DV.int.injEq, DV.mp.injEq, DV.msl.injEq, DV.tup.injEq, DV.agg.injEq, DV.fn.injEq, true_implies, forall_const, reduceCtorEq, implies_true, ne_eq, DMem.mt]
  refine Pt.pc (by rw [fzmap_froz f1]; exact Squeeze_pt p c hz) ?_
  have hmay := irMay_pf p c hz
  have ec : c.c = [.int .i64 c.fn, .int .i64 c.regs, slD Irc.c c.code, slD metaC c.metas] := rfl
  rw [ec] at hmay
  rcases squeeze_may p c with ⟨he, ha, hh⟩ | ⟨he, hm, hout, he2, hlen⟩
  · rw [he, ha]
    have e0 : decide (((cod0.code.length : Nat) : Int) = 0) = true := rfl
    rcases hh with hb | ⟨hb, ht⟩
    · rw [hb] at hmay
      simp only [S3_swagelaw18_SqueezeMay, MU_swagelaw18_SqueezeMay, ldnI1, ldn4_ip, NumF_pf, f2, fz_agg, fz_irs, fz_metas, fz_int, List.map_cons, List.map_nil, hmay, e0, SW, wpD, evDL, evDM, evD, bldLD, List.contains_cons, List.contains_nil, Nat.reduceBEq, beq_self_eq_true, Nat.reduceMul, Nat.reduceSub, wpSp, Option.bind_some, Option.some.injEq, exists_eq_left', exists_eq_left, reduceIte, if_false, if_true, Nat.reduceEqDiff, Nat.reduceAdd, Nat.reduceLeDiff, Int.reduceEq, Int.reduceLT, Int.reduceLE, Int.reduceToNat, decide_true, decide_false, DV.bool.injEq, DV.int.injEq, DV.mp.injEq, DV.msl.injEq, DV.tup.injEq, DV.agg.injEq, DV.fn.injEq, true_implies, forall_const, reduceCtorEq, implies_true, ne_eq, DMem.mt]
    · rw [hb] at hmay
      have hok := may_ok hb
      have htot := total_pf c hok.n.2 (fun x hx => by obtain ⟨i, hi, rfl⟩ := List.mem_iff_getElem.1 hx; exact (hok.ir i hi).c0)
      rw [ec] at htot
      simp only [S3_swagelaw18_SqueezeMay, MU_swagelaw18_SqueezeMay, ldnI1, ldn4_ip, NumF_pf, f2, fz_agg, fz_irs, fz_metas, fz_int, List.map_cons, List.map_nil, hmay, htot, e0, decide_eq_true ht, SW, wpD, evDL, evDM, evD, bldLD, List.contains_cons, List.contains_nil, Nat.reduceBEq, beq_self_eq_true, Nat.reduceMul, Nat.reduceSub, wpSp, Option.bind_some, Option.some.injEq, exists_eq_left', exists_eq_left, reduceIte, if_false, if_true, Nat.reduceEqDiff, Nat.reduceAdd, Nat.reduceLeDiff, Int.reduceEq, Int.reduceLT, Int.reduceLE, Int.reduceToNat, decide_true, decide_false, DV.bool.injEq, DV.int.injEq, DV.mp.injEq, DV.msl.injEq, DV.tup.injEq, DV.agg.injEq, DV.fn.injEq, true_implies, forall_const, reduceCtorEq, implies_true, ne_eq, DMem.mt]
  · rw [he]
    have hok := may_ok hm
    have hoka := may_ok hout.may
    have hza : SzC (squeezeR p c).1 := may_szc hoka (by rw [hout.metas]; exact hz.s)
    have hmaya := irMay_pf p (squeezeR p c).1 hza
    rw [hout.may] at hmaya
    have hta := total_pf (squeezeR p c).1 hoka.n.2 (fun x hx => by obtain ⟨i, hi, rfl⟩ := List.mem_iff_getElem.1 hx; exact (hoka.ir i hi).c0)
    have htc := total_pf c hok.n.2 (fun x hx => by obtain ⟨i, hi, rfl⟩ := List.mem_iff_getElem.1 hx; exact (hok.ir i hi).c0)
    have hlen1 := hout.len
    have htt := hout.tot
    have hnop := hout.nop
    have hsq := Squeeze_pt p (squeezeR p c).1 hza
    rw [he2] at hsq
    generalize (squeezeR p (squeezeR p c).1).1 = b at *
    generalize (squeezeR p c).1 = a at *
    have ea : a.c = [.int .i64 a.fn, .int .i64 a.regs, slD Irc.c a.code, slD metaC a.metas] := rfl
    have eb : b.c = [.int .i64 b.fn, .int .i64 b.regs, slD Irc.c b.code, slD metaC b.metas] := rfl
    have f1a : FrozL [DV.agg [slD Fnc.c p], .agg a.c] := (FrozL.nil.cons (Froz.agg (Cod.froz a))).cons (Froz.agg (FrozL.nil.cons (Froz.slD Fnc.froz p)))
    rw [ea] at hmaya hta
    rw [ec] at htc
    simp only [S3_swagelaw18_SqueezeMay, MU_swagelaw18_SqueezeMay, ldnI1, ldn4_ip, NumF_pf, SW, wpD, evDL, evDM, evD, bldLD, List.contains_cons, List.contains_nil, Nat.reduceBEq, beq_self_eq_true, Nat.reduceMul, Nat.reduceSub, wpSp, Option.bind_some, Option.some.injEq, exists_eq_left', exists_eq_left, reduceIte, if_false, if_true, Nat.reduceEqDiff, Nat.reduceAdd, Nat.reduceLeDiff, Int.reduceEq, Int.reduceLT, Int.reduceLE, Int.reduceToNat, decide_true, decide_false, DV.bool.injEq, DV.int.injEq, DV.mp.injEq, DV.msl.injEq, DV.tup.injEq, DV.agg.injEq, DV.fn.injEq, true_implies, forall_const, reduceCtorEq, implies_true, ne_eq, DMem.mt]
    refine Pt.pc (by rw [fzmap_froz f1a]; exact hsq) ?_
    have e1 : decide ((a.code.length : Int) > c.code.length) = false := decide_eq_false (by omega)
    have e1' : decide ((c.code.length : Int) < a.code.length) = false := decide_eq_false (by omega)
    have e2 : decide (¬ (totC a.code = totC c.code)) = false := by rw [htt]; simp
    have e3 : decide ((a.code.length : Int) < b.code.length) = false := decide_eq_false (by omega)
    simp only [S2_swagelaw18_SqueezeMay, MU_swagelaw18_SqueezeMay, ldnI1, ldn4_ip, ld_ip2, NumF_pf, f2, fz_agg, fz_irs, fz_metas, fz_int, List.map_cons, List.map_nil, hmaya, hta, htc, e1', e2, e3, SW, wpD, evDL, evDM, evD, bldLD, List.contains_cons, List.contains_nil, Nat.reduceBEq, beq_self_eq_true, Nat.reduceMul, Nat.reduceSub, wpSp, Option.bind_some, Option.some.injEq, exists_eq_left', exists_eq_left, reduceIte, if_false, if_true, Nat.reduceEqDiff, Nat.reduceAdd, Nat.reduceLeDiff, Int.reduceEq, Int.reduceLT, Int.reduceLE, Int.reduceToNat, decide_true, decide_false, DV.bool.injEq, DV.int.injEq, DV.mp.injEq, DV.msl.injEq, DV.tup.injEq, DV.agg.injEq, DV.fn.injEq, true_implies, forall_const, reduceCtorEq, implies_true, ne_eq, DMem.mt]
    have hna := hoka.n
    refine ⟨fun n δ M => ∃ j : Nat, j ≤ a.code.length ∧ n = a.code.length - j ∧ M = DMem.mt ∧ δ 5 = cIp a ∧ δ 9 = .int .i64 j, a.code.length, ⟨0, Nat.zero_le _, rfl, rfl, rfl, rfl⟩, ?_⟩
    rintro n δ M ⟨j, hj, rfl, rfl, h5, h9⟩
    simp only [S1_swagelaw18_SqueezeMay, MU_swagelaw18_SqueezeMay, h5, h9, ld_ip2, SW, wpD, evDL, evDM, evD, bldLD, List.contains_cons, List.contains_nil, Nat.reduceBEq, beq_self_eq_true, Nat.reduceMul, Nat.reduceSub, wpSp, Option.bind_some, Option.some.injEq, exists_eq_left', exists_eq_left, reduceIte, if_false, if_true, Nat.reduceEqDiff, Nat.reduceAdd, Nat.reduceLeDiff, Int.reduceEq, Int.reduceLT, Int.reduceLE, Int.reduceToNat, decide_true, decide_false, DV.bool.injEq, DV.int.injEq, DV.mp.injEq, DV.msl.injEq, DV.tup.injEq, DV.agg.injEq, DV.fn.injEq, true_implies, forall_const, reduceCtorEq, implies_true, ne_eq, DMem.mt, decide_eq_true_eq, decide_eq_false_iff_not]
    intro hlt
    have hjl : j < a.code.length := by omega
    have hk : ((ixD 9 (slD Irc.c a.code) (.int .i64 j)).bind (faD 0)).bind (ldD DMem.mt) = some (.int .i64 a.code[j].kind) := by rw [ix_slD Irc.len hjl] <;> rfl
    have hw : ((ixD 9 (slD Irc.c a.code) (.int .i64 j)).bind (faD 6)).bind (ldD DMem.mt) = some (.int .i64 a.code[j].cost) := by rw [ix_slD Irc.len hjl] <;> rfl
    have hx := hnop j _ (List.getElem?_eq_getElem hjl)
    have eb : (decide (a.code[j].kind = 0) && decide (a.code[j].cost = 0)) = false := by
      rw [Bool.and_eq_false_iff, decide_eq_false_iff_not, decide_eq_false_iff_not]
      by_cases h : a.code[j].kind = 0
      · right; have := (hx h).1; omega
      · exact .inl h
    simp only [h5, h9, ld_ip2, hk, hw, eb, SW, wpD, evDL, evDM, evD, bldLD, List.contains_cons, List.contains_nil, Nat.reduceBEq, beq_self_eq_true, Nat.reduceMul, Nat.reduceSub, wpSp, Option.bind_some, Option.some.injEq, exists_eq_left', exists_eq_left, reduceIte, if_false, if_true, Nat.reduceEqDiff, Nat.reduceAdd, Nat.reduceLeDiff, Int.reduceEq, Int.reduceLT, Int.reduceLE, Int.reduceToNat, decide_true, decide_false, DV.bool.injEq, DV.int.injEq, DV.mp.injEq, DV.msl.injEq, DV.tup.injEq, DV.agg.injEq, DV.fn.injEq, true_implies, forall_const, reduceCtorEq, implies_true, ne_eq, DMem.mt]
    exact ⟨a.code.length - (j + 1), DMem.mt, by omega, SubD.refl _, j + 1, by omega, rfl, rfl, w64s (by omega)⟩
end Go.Proofs.YticlgdhhnjpkjaaDoor.Pf
namespace Go.Proofs.YticlgdhhnjpkjaaDoor.Pf
open Go Go.RowKit Go.Proofs Go.Proofs.YticlgdhhnjpkjaaDoor.Mw Go.Proofs.YticlgdhhnjpkjaaDoor.Sx
set_option linter.unusedVariables false
set_option linter.unusedSimpArgs false
set_option maxRecDepth 8000
theorem SlAt.beside {α : Type} {E : El α} (hE : E.Ok) {M M9 : DMem} {d : DV} {xs : List α} {S S5 S' : List Nat} (h5 : SlAt E M d xs S5) (dis : ∀ x ∈ S, x ∉ S5) (g2 : ∀ x B, M x = some B → x ∉ S → M9 x = some B) (g3 : ∀ x ∈ S', x ∈ S ∨ x ∈ ([] : List Nat) ∨ M x = none) :
    SlAt E M9 d xs S5 ∧ ∀ x ∈ S', x ∉ S5 := by
  refine ⟨h5.frame hE fun y hy => ?_, fun x hx hh => ?_⟩
  · obtain ⟨B, hB⟩ := Option.ne_none_iff_exists'.1 (h5.here hE y hy)
    rw [hB]
    exact g2 y B hB fun h => dis y h hy
  · rcases g3 x hx with h | h | h
    · exact dis x h hh
    · simp at h
    · exact h5.here hE x hh h
theorem runW_len (rows : List Int) : ∀ i, (runW rows i).1.length ≤ i
  | 0 => by simp [runW]
  | i + 1 => by
    have ih := runW_len rows i
    simp only [runW]
    split
    · split
      · simp only; omega
      · simp only [List.length_append, List.length_cons, List.length_nil]; omega
    · omega
theorem runW_args (rows : List Int) : ∀ i, ∀ x ∈ (runW rows i).1, x.args = []
  | 0, x, h => by simp [runW] at h
  | i + 1, x, h => by
    have ih := runW_args rows i x
    simp only [runW] at h
    split at h
    · split at h
      · exact ih h
      · rcases List.mem_append.1 h with h | h
        · exact ih h
        · simp at h; subst h; rfl
    · exact ih h
set_option maxHeartbeats 4000000 in
theorem SqueezeRuns_pc (rows : List Int) (hz : rows.length ≤ 4611686018427387904) : PC Tryd.prog F_swagelaw18_SqueezeRuns [slI rows] (fun d' M' => d' = .bool true) DMem.mt := by
  refine pc_swagelaw18_SqueezeRuns (by simp) ?_
  simp only [S_swagelaw18_SqueezeRuns, R_swagelaw18_SqueezeRuns, MU_swagelaw18_SqueezeRuns, awake18_pf, SW, wpD, evDL, evDM, evD, bldLD, List.contains_cons, List.contains_nil, Nat.reduceBEq, beq_self_eq_true, Nat.reduceMul, Nat.reduceSub, wpSp, Option.bind_some, Option.some.injEq, exists_eq_left', exists_eq_left, reduceIte, if_false, if_true, Nat.reduceEqDiff, Nat.reduceAdd, Nat.reduceLeDiff, Int.reduceEq, Int.reduceLT, Int.reduceLE, Int.reduceToNat, decide_true, decide_false, DV.bool.injEq, DV.int.injEq, DV.mp.injEq, DV.msl.injEq, DV.tup.injEq, DV.agg.injEq, DV.fn.injEq, true_implies, forall_const, reduceCtorEq, implies_true, ne_eq, DMem.mt]
  refine ⟨fun f δ M => ∃ (i : Nat) (S4 S5 : List Nat), i ≤ min 30 rows.length ∧ f = min 30 rows.length - i ∧ δ 0 = slI rows ∧ δ 3 = .ip [slD Fnc.c oneP] ∧ δ 6 = .int .i64 (runW rows i).2 ∧ δ 7 = .int .i64 i ∧
      SlAt irG M (δ 4) ((rows.take i).map runI) S4 ∧ SlAt irG M (δ 5) (runW rows i).1 S5 ∧ S4.Nodup ∧ S5.Nodup ∧ (∀ x ∈ S4, x ∉ S5), min 30 rows.length,
    ⟨0, [], [], Nat.zero_le _, rfl, rfl, rfl, rfl, rfl, SlAt.nil, SlAt.nil, List.nodup_nil, List.nodup_nil, by simp⟩, ?_⟩
  rintro f δ M ⟨i, S4, S5, hi, rfl, h0, h3, h6, h7, hs4, hs5, nd4, nd5, dis⟩
  have hc := runW_cost rows i
  have hl5 := runW_len rows i
  have hl4 : ((rows.take i).map runI).length = i := by rw [List.length_map, List.length_take]; omega
  by_cases hlt : i < min 30 rows.length
  · have hil : i < rows.length := by omega
    have e1 : (decide ((i : Int) < rows.length) && decide ((i : Int) < 30)) = true := by rw [Bool.and_eq_true, decide_eq_true_eq, decide_eq_true_eq]; omega
    have eo : bits .and .i64 rows[i] 1 = roB rows[i] := rfl
    have ek : bits .and .i64 (rows[i].fdiv (2 ^ min 1 IntKind.i64.bits)) 3 = rkB rows[i] := rfl
    have hk := rkB_in rows[i]
    have et : wr64 ((i : Int) + 1) = ((i + 1 : Nat) : Int) := w64s (by omega)
    have htk : (rows.take (i + 1)).map runI = (rows.take i).map runI ++ [runI rows[i]] := by rw [List.take_succ_eq_append_getElem hil, List.map_append] <;> rfl
    by_cases hev : roB rows[i] = 0
    · have hir : runI rows[i] = ⟨0, 0, 0, 0, 0, [], rkB rows[i], 0, 0⟩ := by unfold runI; rw [if_pos hev]
      have hw : runW rows (i + 1) = ((runW rows i).1, (runW rows i).2 + rkB rows[i]) := by simp only [runW, List.getElem?_eq_getElem hil, if_pos hev]
      have ew : wr64 ((runW rows i).2 + rkB rows[i]) = (runW rows i).2 + rkB rows[i] := w64 (by omega)
      simp only [S1_swagelaw18_SqueezeRuns, MU_swagelaw18_SqueezeRuns, h0, h3, h6, h7, e1, ix_slI hil, eo, ek, hev, et, ew, SW, wpD, evDL, evDM, evD, bldLD, List.contains_cons, List.contains_nil, Nat.reduceBEq, beq_self_eq_true, Nat.reduceMul, Nat.reduceSub, wpSp, Option.bind_some, Option.some.injEq, exists_eq_left', exists_eq_left, reduceIte, if_false, if_true, Nat.reduceEqDiff, Nat.reduceAdd, Nat.reduceLeDiff, Int.reduceEq, Int.reduceLT, Int.reduceLE, Int.reduceToNat, decide_true, decide_false, DV.bool.injEq, DV.int.injEq, DV.mp.injEq, DV.msl.injEq, DV.tup.injEq, DV.agg.injEq, DV.fn.injEq, true_implies, forall_const, reduceCtorEq, implies_true, ne_eq, DMem.mt]
      refine hs4.app irG_ok nd4 (ys := [runI rows[i]]) (ds := [.int .i64 0, .int .i64 0, .int .i64 0, .int .i64 0, .int .i64 0, .zsl, .int .i64 (rkB rows[i]), .int .i64 0, .int .i64 0]) (T := []) (k := 1) (bytes := 88) (RowAt.one ⟨⟨.zsl, by rw [hir], .inr ⟨rfl, by rw [hir]⟩⟩, rfl⟩) (fun y hy => by simp at hy) rfl (by rw [hl4]; omega) (by rw [hl4]; omega) fun d' M9 S' g1 g2 g3 g4 => ?_
      obtain ⟨hb5, hd5⟩ := SlAt.beside irG_ok hs5 dis g2 g3
      try simp only [h0, h3, h6, h7, et, ew, SW, wpD, evDL, evDM, evD, bldLD, List.contains_cons, List.contains_nil, Nat.reduceBEq, beq_self_eq_true, Nat.reduceMul, Nat.reduceSub, wpSp, Option.bind_some, Option.some.injEq, exists_eq_left', exists_eq_left, reduceIte, if_false, if_true, Nat.reduceEqDiff, Nat.reduceAdd, Nat.reduceLeDiff, Int.reduceEq, Int.reduceLT, Int.reduceLE, Int.reduceToNat, decide_true, decide_false, DV.bool.injEq, DV.int.injEq, DV.mp.injEq, DV.msl.injEq, DV.tup.injEq, DV.agg.injEq, DV.fn.injEq, true_implies, forall_const, reduceCtorEq, implies_true, ne_eq, DMem.mt]
      exact ⟨min 30 rows.length - (i + 1), M9, by omega, SubD.refl _, i + 1, S', S5, by omega, rfl, by rw [hw], rfl, by rw [htk]; exact g1, by rw [hw]; exact hb5, g4 List.nodup_nil, nd5, hd5⟩
    · have hir : runI rows[i] = ⟨7, 0, 0, 0, 0, [], rkB rows[i] + 1, 0, 0⟩ := by unfold runI; rw [if_neg hev]
      have hw : runW rows (i + 1) = ((runW rows i).1 ++ [⟨7, 0, 0, 0, 0, [], rkB rows[i] + 1 + (runW rows i).2, 0, 0⟩], 0) := by simp only [runW, List.getElem?_eq_getElem hil, if_neg hev]
      have ew : wr64 (rkB rows[i] + 1 + (runW rows i).2) = rkB rows[i] + 1 + (runW rows i).2 := w64 (by omega)
      have ew1 : wr64 (rkB rows[i] + 1) = rkB rows[i] + 1 := w64 (by omega)
      have dv : decide (roB rows[i] = 0) = false := decide_eq_false hev
      simp only [S1_swagelaw18_SqueezeRuns, MU_swagelaw18_SqueezeRuns, h0, h3, h6, h7, e1, ix_slI hil, eo, ek, dv, et, ew1, ew, SW, wpD, evDL, evDM, evD, bldLD, List.contains_cons, List.contains_nil, Nat.reduceBEq, beq_self_eq_true, Nat.reduceMul, Nat.reduceSub, wpSp, Option.bind_some, Option.some.injEq, exists_eq_left', exists_eq_left, reduceIte, if_false, if_true, Nat.reduceEqDiff, Nat.reduceAdd, Nat.reduceLeDiff, Int.reduceEq, Int.reduceLT, Int.reduceLE, Int.reduceToNat, decide_true, decide_false, DV.bool.injEq, DV.int.injEq, DV.mp.injEq, DV.msl.injEq, DV.tup.injEq, DV.agg.injEq, DV.fn.injEq, true_implies, forall_const, reduceCtorEq, implies_true, ne_eq, DMem.mt]
      refine hs4.app irG_ok nd4 (ys := [runI rows[i]]) (ds := [.int .i64 7, .int .i64 0, .int .i64 0, .int .i64 0, .int .i64 0, .zsl, .int .i64 (rkB rows[i] + 1), .int .i64 0, .int .i64 0]) (T := []) (k := 1) (bytes := 88) (RowAt.one ⟨⟨.zsl, by rw [hir], .inr ⟨rfl, by rw [hir]⟩⟩, rfl⟩) (fun y hy => by simp at hy) rfl (by rw [hl4]; omega) (by rw [hl4]; omega) fun d' M9 S' g1 g2 g3 g4 => ?_
      obtain ⟨hb5, hd5⟩ := SlAt.beside irG_ok hs5 dis g2 g3
      have nd4' := g4 List.nodup_nil
      try simp only [h0, h3, h6, h7, et, ew1, ew, SW, wpD, evDL, evDM, evD, bldLD, List.contains_cons, List.contains_nil, Nat.reduceBEq, beq_self_eq_true, Nat.reduceMul, Nat.reduceSub, wpSp, Option.bind_some, Option.some.injEq, exists_eq_left', exists_eq_left, reduceIte, if_false, if_true, Nat.reduceEqDiff, Nat.reduceAdd, Nat.reduceLeDiff, Int.reduceEq, Int.reduceLT, Int.reduceLE, Int.reduceToNat, decide_true, decide_false, DV.bool.injEq, DV.int.injEq, DV.mp.injEq, DV.msl.injEq, DV.tup.injEq, DV.agg.injEq, DV.fn.injEq, true_implies, forall_const, reduceCtorEq, implies_true, ne_eq, DMem.mt]
      refine hb5.app irG_ok nd5 (ys := [⟨7, 0, 0, 0, 0, [], rkB rows[i] + 1 + (runW rows i).2, 0, 0⟩]) (ds := [.int .i64 7, .int .i64 0, .int .i64 0, .int .i64 0, .int .i64 0, .zsl, .int .i64 (rkB rows[i] + 1 + (runW rows i).2), .int .i64 0, .int .i64 0]) (T := []) (k := 1) (bytes := 88) (RowAt.one ⟨⟨.zsl, rfl, .inr ⟨rfl, rfl⟩⟩, rfl⟩) (fun y hy => by simp at hy) rfl (by omega) (by omega) fun d5 M10 S5' k1 k2 k3 k4 => ?_
      obtain ⟨hb4, hd4⟩ := SlAt.beside irG_ok g1 (fun x hx hh => hd5 x hh hx) k2 k3
      try simp only [h0, h3, h6, h7, et, ew1, ew, SW, wpD, evDL, evDM, evD, bldLD, List.contains_cons, List.contains_nil, Nat.reduceBEq, beq_self_eq_true, Nat.reduceMul, Nat.reduceSub, wpSp, Option.bind_some, Option.some.injEq, exists_eq_left', exists_eq_left, reduceIte, if_false, if_true, Nat.reduceEqDiff, Nat.reduceAdd, Nat.reduceLeDiff, Int.reduceEq, Int.reduceLT, Int.reduceLE, Int.reduceToNat, decide_true, decide_false, DV.bool.injEq, DV.int.injEq, DV.mp.injEq, DV.msl.injEq, DV.tup.injEq, DV.agg.injEq, DV.fn.injEq, true_implies, forall_const, reduceCtorEq, implies_true, ne_eq, DMem.mt]
      exact ⟨min 30 rows.length - (i + 1), M10, by omega, SubD.refl _, i + 1, S', S5', by omega, rfl, by rw [hw], rfl, by rw [htk]; exact hb4, by rw [hw]; exact k1, nd4', k4 List.nodup_nil, fun x hx hh => hd4 x hh hx⟩
  · have e1 : (decide ((i : Int) < rows.length) && decide ((i : Int) < 30)) = false := by rw [Bool.and_eq_false_iff, decide_eq_false_iff_not, decide_eq_false_iff_not]; omega
    have hie : i = min 30 rows.length := by omega
    have htk : rows.take i = rows.take 30 := by rw [hie, List.take_eq_take_iff]; omega
    have ew : wr64 (1 + (runW rows i).2) = 1 + (runW rows i).2 := w64 (by omega)
    simp only [S1_swagelaw18_SqueezeRuns, S3_swagelaw18_SqueezeRuns, MU_swagelaw18_SqueezeRuns, h0, h3, h6, h7, e1, ew, ldnI1, SW, wpD, evDL, evDM, evD, bldLD, List.contains_cons, List.contains_nil, Nat.reduceBEq, beq_self_eq_true, Nat.reduceMul, Nat.reduceSub, wpSp, Option.bind_some, Option.some.injEq, exists_eq_left', exists_eq_left, reduceIte, if_false, if_true, Nat.reduceEqDiff, Nat.reduceAdd, Nat.reduceLeDiff, Int.reduceEq, Int.reduceLT, Int.reduceLE, Int.reduceToNat, decide_true, decide_false, DV.bool.injEq, DV.int.injEq, DV.mp.injEq, DV.msl.injEq, DV.tup.injEq, DV.agg.injEq, DV.fn.injEq, true_implies, forall_const, reduceCtorEq, implies_true, ne_eq, DMem.mt]
    refine hs4.app irG_ok nd4 (ys := [retI 1]) (ds := [.int .i64 8, .int .i64 0, .int .i64 0, .int .i64 0, .int .i64 0, .zsl, .int .i64 1, .int .i64 0, .int .i64 0]) (T := []) (k := 1) (bytes := 88) (RowAt.one ⟨⟨.zsl, rfl, .inr ⟨rfl, rfl⟩⟩, rfl⟩) (fun y hy => by simp at hy) rfl (by rw [hl4]; omega) (by rw [hl4]; omega) fun d4 M9 S4' g1 g2 g3 g4 => ?_
    obtain ⟨hb5, hd5⟩ := SlAt.beside irG_ok hs5 dis g2 g3
    try simp only [h0, h3, h6, h7, ew, ldnI1, SW, wpD, evDL, evDM, evD, bldLD, List.contains_cons, List.contains_nil, Nat.reduceBEq, beq_self_eq_true, Nat.reduceMul, Nat.reduceSub, wpSp, Option.bind_some, Option.some.injEq, exists_eq_left', exists_eq_left, reduceIte, if_false, if_true, Nat.reduceEqDiff, Nat.reduceAdd, Nat.reduceLeDiff, Int.reduceEq, Int.reduceLT, Int.reduceLE, Int.reduceToNat, decide_true, decide_false, DV.bool.injEq, DV.int.injEq, DV.mp.injEq, DV.msl.injEq, DV.tup.injEq, DV.agg.injEq, DV.fn.injEq, true_implies, forall_const, reduceCtorEq, implies_true, ne_eq, DMem.mt]
    refine hb5.app irG_ok nd5 (ys := [retI (1 + (runW rows i).2)]) (ds := [.int .i64 8, .int .i64 0, .int .i64 0, .int .i64 0, .int .i64 0, .zsl, .int .i64 (1 + (runW rows i).2), .int .i64 0, .int .i64 0]) (T := []) (k := 1) (bytes := 88) (RowAt.one ⟨⟨.zsl, rfl, .inr ⟨rfl, rfl⟩⟩, rfl⟩) (fun y hy => by simp at hy) rfl (by omega) (by omega) fun d5 M10 S5' k1 k2 k3 k4 => ?_
    obtain ⟨hb4, hd4⟩ := SlAt.beside irG_ok g1 (fun x hx hh => hd5 x hh hx) k2 k3
    have z1 : SzC (runC rows i) := ⟨by show ((rows.take i).map runI ++ [retI 1]).length * 88 ≤ _; rw [List.length_append, hl4]; show (i + 1) * 88 ≤ _; omega, fun x hx => by
      have e : x.args = [] := by
        rcases List.mem_append.1 (show x ∈ (rows.take i).map runI ++ [retI 1] from hx) with h | h
        · obtain ⟨y, _, rfl⟩ := List.mem_map.1 h
          unfold runI; split <;> rfl
        · simp at h; subst h; rfl
      rw [e]; show (0 : Nat) * 8 ≤ _; omega, by show (0 : Nat) * 24 ≤ _; omega, fun m hm => absurd (show m ∈ ([] : List (List Part)) from hm) (by simp)⟩
    have hsq := Squeeze_pt oneP (runC rows i) z1
    rw [runC_squeeze rows i (by omega)] at hsq
    simp only [h0, h3, h6, h7, hb4.cell, hb4.plain, k1.cell, k1.plain, ldnI1, SW, wpD, evDL, evDM, evD, bldLD, List.contains_cons, List.contains_nil, Nat.reduceBEq, beq_self_eq_true, Nat.reduceMul, Nat.reduceSub, wpSp, Option.bind_some, Option.some.injEq, exists_eq_left', exists_eq_left, reduceIte, if_false, if_true, Nat.reduceEqDiff, Nat.reduceAdd, Nat.reduceLeDiff, Int.reduceEq, Int.reduceLT, Int.reduceLE, Int.reduceToNat, decide_true, decide_false, DV.bool.injEq, DV.int.injEq, DV.mp.injEq, DV.msl.injEq, DV.tup.injEq, DV.agg.injEq, DV.fn.injEq, true_implies, forall_const, reduceCtorEq, implies_true, ne_eq, DMem.mt]
    refine Pt.pc (by
      simp only [List.map_cons, List.map_nil, fz_agg, fz_prg, fz_zsl, fz_int]
      rw [hb4.fz irG_ok (k := 3) (by decide)]
      exact hsq) ?_
    have hf5 : fz M10 4 d5 = slD Irc.c ((runW rows i).1 ++ [retI (1 + (runW rows i).2)]) := k1.fz irG_ok (k := 3) (by decide)
    have hs : pf Tryd.prog 14 [.agg [.int .i64 0, .int .i64 1, slD Irc.c ((runW rows i).1 ++ [retI (1 + (runW rows i).2)]), slD metaC []], .agg [.int .i64 0, .int .i64 1, slD Irc.c ((runW rows i).1 ++ [retI (1 + (runW rows i).2)]), .isl 0 []]] = some (.bool true) := by
      have sz : SzCod ⟨0, 1, (runW rows i).1 ++ [retI (1 + (runW rows i).2)], []⟩ := by
        refine ⟨by show ((runW rows i).1 ++ [retI (1 + (runW rows i).2)]).length ≤ _; rw [List.length_append]; show (runW rows i).1.length + 1 ≤ Big; unfold Big; omega, fun x hx => ?_, by show (0 : Nat) ≤ _; omega, fun m hm => absurd (show m ∈ ([] : List (List Part)) from hm) (by simp)⟩
        have e : x.args = [] := by
          rcases List.mem_append.1 (show x ∈ (runW rows i).1 ++ [retI (1 + (runW rows i).2)] from hx) with h | h
          · exact runW_args rows i x h
          · simp at h; subst h; rfl
        rw [e]; show (0 : Nat) ≤ _; omega
      exact (SameCode_pf _ _ sz).trans (by rw [decide_eq_true rfl])
    simp only [S2_swagelaw18_SqueezeRuns, MU_swagelaw18_SqueezeRuns, NumF_pf, ldn4_ip, hf5, k1.cell, k1.plain, fz_agg, fz_int, fz_zsl, fz_irs, fz_metas, List.map_cons, List.map_nil, hs, SW, wpD, evDL, evDM, evD, bldLD, List.contains_cons, List.contains_nil, Nat.reduceBEq, beq_self_eq_true, Nat.reduceMul, Nat.reduceSub, wpSp, Option.bind_some, Option.some.injEq, exists_eq_left', exists_eq_left, reduceIte, if_false, if_true, Nat.reduceEqDiff, Nat.reduceAdd, Nat.reduceLeDiff, Int.reduceEq, Int.reduceLT, Int.reduceLE, Int.reduceToNat, decide_true, decide_false, DV.bool.injEq, DV.int.injEq, DV.mp.injEq, DV.msl.injEq, DV.tup.injEq, DV.agg.injEq, DV.fn.injEq, true_implies, forall_const, reduceCtorEq, implies_true, ne_eq, DMem.mt]
end Go.Proofs.YticlgdhhnjpkjaaDoor.Pf
namespace Go.Proofs.YticlgdhhnjpkjaaDoor.Mw
open Go Go.RowKit Go.ChangeShapes Go.WideShapes Go.ChangeAt
set_option linter.unusedVariables false
theorem walk_of {P : Program} {f : FuncId} {args : List Value} {w : World} (h : MC P f args (fun v _ => v = .bool true) (snap w)) :
    Calls P f args.toArray w fun e w' => e = .returned (.bool true) ∧ Below w.heap.size w w' :=
  (h.2 w w (snap_sat w)).mono fun e w' ⟨v, m', he, hs, hv⟩ => ⟨by rw [he, hv], hs.below⟩
theorem args_stay {H : Type} {enc : TypeId × Value → H} {P : Program} (hl : laidOutB P = true) {W W' : World} (hb : Below W.heap.size W W') : ∀ (ts : List TypeId) (vs : List Value) (ds : List (DataW H)) (ps : List MemPlace),
    (∀ t ∈ ts, P.readableRec t = true ∧ t < P.types.size) → DataW.TrodAll enc P W 0 (fun _ => true) true ts vs ds ps → DataW.TrodAll enc P W' 0 (fun b => decide (b < W.heap.size)) true ts vs ds ps
  | [], [], [], ps, _, h => h
  | t :: ts, v :: vs, d :: ds, ps, ht, h => by
    have hlt := DataW.TrodAll.lt h
    obtain ⟨p, q, h1, h2, rfl⟩ := h
    exact ⟨p, q, Below.trod hl (ht t (by simp)).1 (ht t (by simp)).2 h1 hb (fun x hx => hlt x (by simp [hx])), args_stay hl hb ts vs ds q (fun t' h' => ht t' (by simp [h'])) h2, rfl⟩
  | [], [], _ :: _, _, _, h => h.elim
  | [], _ :: _, _, _, _, h => by cases h
  | _ :: _, [], _, _, _, h => by cases h
  | _ :: _, _ :: _, [], _, _, h => by cases h
end Go.Proofs.YticlgdhhnjpkjaaDoor.Mw
namespace Go.Proofs.YticlgdhhnjpkjaaDoor.Mw
open Go Go.RowKit Go.ChangeShapes Go.WideShapes Go.ChangeAt
set_option linter.unusedVariables false
theorem law_row_laid {C : Checked} {os : Os} {H : Type} {enc : TypeId × Value → H} (laid : List (String × DataW Unit)) (own : ownKnob C.prog.godebug = none) (started : os.Started) {f : FuncId} {fn : Func} {s : ChangeSpec}
    (noInit : C.prog.inits.idxOf? f = none) (hfn : C.prog.funcs[f]? = some fn) (hvars : s.vars = [])
    (hspec : ∀ ds : List (DataW H), ds.length = fn.params.toList.length → s.fn H ds = { results := [.lit (.bool true)], args := ds })
    {tb : TypeId} (hres : fn.resultTypes = #[tb]) (htb : C.prog.underlying tb = some .bool)
    (hl : laidOutB C.prog = true) (hread : ∀ t ∈ fn.params.toList, C.prog.readableRec t = true ∧ t < C.prog.types.size) {apart : Bool}
    (witness : ∃ (w : World) (tape : Tape) (i : Input), w.os = os ∧ (w.forCall tape i).Shaped C.prog ∧ i.vars = [] ∧ Input.okWide C.prog (w.forCall tape i) .any w.heap.size f i ∧
      ((s.pre enc C.prog fn [] apart (w.forCall tape i).memory i.args ∧ laidMetH C.prog laid (w.forCall tape i).memory) ∧ sizedMet enc C.prog fn (OpenSpec.ofChange s) apart (w.forCall tape i).memory i.args) ∧ ({} : Assume).holds C.prog (lone (Frame.enter C.prog f i.args .normal) [] (w.forCall tape i)))
    (hmc : ∀ (W : World) (base : Nat) (args : List Value) (ds : List (DataW H)) (p : List MemPlace), DataW.TrodAll enc C.prog W 0 (fun _ => true) true fn.params.toList args ds p →
      (∀ (j : Nat) t v, fn.params[j]? = some t → args[j]? = some v → Value.okWide C.prog W .any base t v) →
      (DataW.weightsEach C.prog fn.params.toList ds).all (· ≤ reachBytes) = true → laidMetH C.prog laid W → MC C.prog f args (fun v _ => v = .bool true) (snap W)) :
    ReturnsInHanded {} C os f .any (fun w args => (s.pre enc C.prog fn [] apart w args ∧ laidMetH C.prog laid w) ∧ sizedMet enc C.prog fn (OpenSpec.ofChange s) apart w args) (s.post enc C.prog fn apart true false false) := by
  refine returnsInHanded_of_change_and (X := fun w _ => laidMetH C.prog laid w) (fun _ _ _ hh h => h.of_heap hh) own started noInit hfn witness ?_
  intro W base args ds gs before hval hW _ hsz hL _
  have hW' := hW
  obtain ⟨p, q, hA, hV, rfl, hfz, hnd⟩ := hW
  have hg : gs = [] := by
    rw [hvars] at hV
    cases gs with
    | nil => rfl
    | cons a b => exact hV.elim
  subst hg
  have hlen : ds.length = fn.params.toList.length := by
    have : ∀ (ts : List TypeId) (vs : List Value) (ds : List (DataW H)) (ps : List MemPlace), DataW.TrodAll enc C.prog W 0 (fun _ => true) true ts vs ds ps → ds.length = ts.length := by
      intro ts
      induction ts with
      | nil => intro vs ds ps h; cases vs <;> cases ds <;> first | rfl | exact h.elim | cases h
      | cons t ts ih =>
        intro vs ds ps h
        cases vs with
        | nil => cases h
        | cons v vs =>
          cases ds with
          | nil => cases h
          | cons d ds => obtain ⟨p, q, _, h2, _⟩ := h; simp [ih _ _ _ h2]
    exact this _ _ _ _ hA
  have hv0 : s.plain.varTypes C.prog = [] := by
    have : s.plain.vars = [] := hvars
    simp [DataSpec.varTypes, this]
  have hmc' := hmc W base args.toList ds p hA (fun j t v ht hv => hval j t v ht (by simpa using hv)) (by rw [hv0] at hsz; simpa using hsz) hL
  have hw := walk_of hmc'
  rw [Array.toArray_toList] at hw
  refine hw.mono fun e W' ⟨he, bel⟩ => ?_
  have hsp := hspec ds hlen
  refine ⟨_, he, ds, [], _, [], p, [], hW', ?_, ?_, ?_, bel.frame _, fun h => by cases h⟩
  · rw [List.append_nil, hsp, hres]
    exact trodAll_mk1 (shut_bool htb _)
  · rw [List.append_nil, hsp]
    exact args_stay hl bel _ _ _ _ hread hA
  · rw [List.append_nil, hsp, hvars]
    rfl
end Go.Proofs.YticlgdhhnjpkjaaDoor.Mw
namespace Go.Proofs.YticlgdhhnjpkjaaDoor.Mw
open Go Go.RowKit Go.ChangeShapes Go.WideShapes Go.ChangeAt Go.Deep
set_option linter.unusedVariables false
structure Opens (P : Program) (w : World) (t : TypeId) {α : Type} (c : α → List DV) : Prop where
  op : ∀ {H : Type} (enc : TypeId × Value → H) (base : Nat) (spare : Nat → Bool) (held : Bool) (fuel : Nat) (cs : List Value) (x : DataW H × List MemPlace),
    DataW.trod enc P w base spare held fuel t cs = some x → ∃ a, RepL (snap w) (c a) cs
structure OpensF (P : Program) (w : World) (tot : Nat) (fs : List Field) (o : Nat) {α : Type} (c : α → List DV) : Prop where
  op : ∀ {H : Type} (enc : TypeId × Value → H) (base : Nat) (spare : Nat → Bool) (held : Bool) (fuel : Nat) (cs : List Value), cs.length = tot →
    (∀ f ∈ fs, ∃ y, DataW.trod enc P w base spare held fuel f.type ((cs.drop f.offset).take (P.cellsOf f.type)) = some y) → ∃ a, RepL (snap w) (c a) (cs.drop o)
section
variable {P : Program} {w : World} {t : TypeId}
theorem RepL.one {m : Mem} {d : DV} {v : Value} (h : Rep m d v) : RepL m [d] [v] := RepL.cons h (RepL.nil m)
theorem Opens.int {k : IntKind} (ht : P.underlying t = some (.int k)) : Opens P w t (fun z : Int => [.int k z]) := by
  constructor
  intro _ enc base sp held fuel cs x h
  obtain ⟨n, rfl, _, _⟩ := DataW.trod_int ht h
  exact ⟨n, RepL.one (by simp only [Rep])⟩
theorem Opens.bool (ht : P.underlying t = some .bool) : Opens P w t (fun z : Bool => [.bool z]) := by
  constructor
  intro _ enc base sp held fuel cs x h
  obtain ⟨n, rfl, _⟩ := DataW.trod_bool ht h
  exact ⟨n, RepL.one (by simp only [Rep])⟩
theorem Opens.str (ht : P.underlying t = some .string) : Opens P w t (fun z : ByteArray => [.str z]) := by
  constructor
  intro _ enc base sp held fuel cs x h
  obtain ⟨n, rfl, _⟩ := DataW.trod_string ht h
  exact ⟨n, RepL.one (by simp only [Rep])⟩
theorem Opens.map {α β : Type} {c : α → List DV} {c' : β → List DV} (h : Opens P w t c) (f : α → β) (e : ∀ a, c' (f a) = c a) : Opens P w t c' := by
  constructor
  intro _ enc base sp held fuel cs x hx
  obtain ⟨a, ha⟩ := h.op enc base sp held fuel cs x hx
  exact ⟨f a, by rw [e]; exact ha⟩
theorem OpensF.nil {tot : Nat} : OpensF P w tot [] tot (fun _ : Unit => []) := by
  constructor
  intro _ enc base sp held fuel cs hl h
  exact ⟨(), by rw [List.drop_eq_nil_of_le (by omega)]; exact RepL.nil _⟩
theorem OpensF.cons {α β : Type} {c0 : α → List DV} {c1 : β → List DV} {tot o k : Nat} {f : Field} {fs : List Field} (h0 : Opens P w f.type c0) (ho : f.offset = o) (hk : P.cellsOf f.type = k) (h1 : OpensF P w tot fs (o + k) c1) :
    OpensF P w tot (f :: fs) o (fun p : α × β => c0 p.1 ++ c1 p.2) := by
  constructor
  intro _ enc base sp held fuel cs hl h
  obtain ⟨y, hy⟩ := h f (by simp)
  obtain ⟨a, ha⟩ := h0.op enc base sp held fuel _ _ hy
  obtain ⟨b, hb⟩ := h1.op enc base sp held fuel cs hl fun g hg => h g (by simp [hg])
  rw [ho, hk] at ha
  refine ⟨(a, b), ?_⟩
  have e : cs.drop o = (cs.drop o).take k ++ cs.drop (o + k) := by rw [← List.drop_drop, List.take_append_drop]
  rw [e]
  exact ha.append hb
theorem Opens.struct {α : Type} {c : α → List DV} {fs : Array Field} {tot : Nat} (ht : P.underlying t = some (.struct fs)) (hc : P.cellsOf t = tot) (h : OpensF P w tot fs.toList 0 c) : Opens P w t c := by
  constructor
  intro _ enc base sp held fuel cs x hx
  obtain ⟨xs, n, _, _, hl, hlen, hf⟩ := DataW.trod_struct ht hx
  have := h.op enc base sp held n cs (hl.trans hc) fun f hf' => by
    obtain ⟨i, hi, e⟩ := List.getElem_of_mem hf'
    have hi' : i < xs.length := by rw [hlen]; simpa using hi
    refine ⟨xs[i], ?_⟩
    rw [hf i f (by rw [← Array.getElem?_toList, List.getElem?_eq_getElem hi, e]), List.getElem?_eq_getElem hi']
  simpa using this
theorem snap_cell {a : Addr} {v : Value} (h : w.cell? a = some v) : ∃ b o ty N full, a = ⟨b, o, none⟩ ∧ snap w b = some (.cells ty N true full) ∧ full[o]? = some v := by
  obtain ⟨b, o, sp⟩ := a
  have hs := World.cell?_spot h
  simp only at hs; subst hs
  unfold World.cell? at h
  split at h
  · rename_i c ty fz hb
    simp only [Option.isSome_none, Bool.false_eq_true, if_false] at h
    refine ⟨b, o, ty, c.size, c.toList, rfl, ?_, by simpa using h⟩
    simp only at hb
    simp only [snap, hb]
  · cases h
theorem rep_cells {α : Type} {c : α → List DV} {n : Nat} {base b o : Nat} {ty : TypeId} {N : Nat} {full : List Value} (hm : snap w b = some (.cells ty N true full)) :
    ∀ (l : List α) (k : Nat), (∀ i (hi : i < l.length), ∃ cs', w.cells? base ((⟨b, o, none⟩ : Addr).add ((k + i) * n)) n = some cs' ∧ RepL (snap w) (c l[i]) cs') → RepP (snap w) (l.flatMap c) (full.drop (o + k * n))
  | [], k, h => by simp [RepP]
  | x :: l, k, h => by
    obtain ⟨cs', h1, h2⟩ := h 0 (by simp)
    obtain ⟨_, hlen, hcell⟩ := World.cells?_some h1
    have ih := rep_cells (base := base) hm l (k + 1) fun i hi => by
      have := h (i + 1) (by simpa using hi)
      simpa [Nat.add_assoc, Nat.add_comm 1 i] using this
    have e : cs' = (full.drop (o + k * n)).take n := by
      apply List.ext_getElem?
      intro i
      by_cases hi : i < n
      · rw [List.getElem?_take_of_lt hi, List.getElem?_drop, ← hcell i hi]
        simp only [Nat.add_zero, add_plain]
        unfold World.cell?
        unfold snap at hm
        split at hm
        · rename_i c' ty' fz hb
          cases hm
          simp only [hb]
          simp [Nat.add_assoc]
        · cases hm
      · rw [List.getElem?_eq_none (by omega), List.getElem?_eq_none (by simp; omega)]
    have e2 : full.drop (o + k * n) = cs' ++ full.drop (o + (k + 1) * n) := by
      rw [e, show o + (k + 1) * n = o + k * n + n by rw [Nat.add_mul]; omega, ← List.drop_drop (i := n), List.take_append_drop]
    rw [List.flatMap_cons, e2]
    exact h2.1.append h2.2 ih
theorem Opens.slice {α : Type} {c : α → List DV} {e : TypeId} {n : Nat} (h : Opens P w e c) (ht : P.underlying t = some (.slice e)) (hn : P.cellsOf e = n) (hpos : 0 < n) : Opens P w t (fun l : List α => [slD c l]) := by
  constructor
  intro _ enc base sp held fuel cs x hx
  rcases open_slice ht hx with ⟨rfl, _⟩ | ⟨a, len, cap, m, k, D, Pl, rfl, _, hl, _, hm, _, hel⟩
  · refine ⟨[], RepL.one ?_⟩
    simp only [slD, Rep, List.flatMap_nil, List.length_nil]
    exact ⟨none, 0, rfl, Nat.le_refl _, fun h => absurd h (by omega)⟩
  · have hlm : len ≤ m := by rw [hm]; split <;> omega
    have each : ∀ i, i < len → ∃ y : α, ∃ cs', w.cells? base (a.add (i * n)) n = some cs' ∧ RepL (snap w) (c y) cs' := fun i hi => by
      obtain ⟨cs', h1, h2⟩ := hel i (by omega)
      obtain ⟨y, hy⟩ := h.op enc base sp held k cs' _ h2
      rw [hn] at h1
      exact ⟨y, cs', h1, hy⟩
    have : ∃ l : List α, l.length = len ∧ ∀ i (hi : i < l.length), ∃ cs', w.cells? base (a.add (i * n)) n = some cs' ∧ RepL (snap w) (c l[i]) cs' := by
      clear hel hl hlm hm hx
      rename_i hxx
      clear hxx
      induction len with
      | zero => exact ⟨[], rfl, fun i hi => absurd hi (by simp)⟩
      | succ len ih =>
        obtain ⟨l, h1, h2⟩ := ih fun i hi => each i (by omega)
        obtain ⟨y, hy⟩ := each len (by omega)
        refine ⟨l ++ [y], by simp [h1], fun i hi => ?_⟩
        by_cases h' : i < l.length
        · simpa [List.getElem_append_left h'] using h2 i h'
        · have : i = len := by simp at hi; omega
          subst this
          simpa [h1] using hy
    obtain ⟨l, rfl, hlc⟩ := this
    refine ⟨l, RepL.one ?_⟩
    simp only [slD, Rep]
    refine ⟨some a, cap, rfl, hl, fun h0 => ?_⟩
    obtain ⟨cs', h1, h2⟩ := hlc 0 h0
    obtain ⟨_, hlen, hcell⟩ := World.cells?_some h1
    have h3 := hcell 0 hpos
    have h4 : 0 < cs'.length := by omega
    rw [List.getElem?_eq_getElem h4] at h3
    simp only [Nat.zero_mul] at h3
    obtain ⟨b, o, ty, N, full, e1, e2, _⟩ := snap_cell h3
    have ea : a = ⟨b, o, none⟩ := by simpa [Addr.add] using e1
    subst ea
    refine ⟨b, o, ty, N, full, rfl, e2, ?_⟩
    have := rep_cells (base := base) (n := n) e2 l 0 (by simpa using hlc)
    simpa using this
theorem Opens.val {α : Type} {d : α → DV} (h : Opens P w t (fun a => [d a])) {v : Value} (hc : v.cells = #[v]) {H : Type} {enc : TypeId × Value → H} {base : Nat} {sp : Nat → Bool} {held : Bool} {x : DataW H} {p : List MemPlace}
    (hx : DataW.Trod enc P w base sp held t v x p) : ∃ a, Rep (snap w) (d a) v := by
  obtain ⟨fuel, hf⟩ := hx
  obtain ⟨a, ha⟩ := h.op enc base sp held fuel _ _ hf
  rw [hc] at ha
  have h1 := ha.1
  simp only [RepP] at h1
  exact ⟨a, h1.1⟩
end
end Go.Proofs.YticlgdhhnjpkjaaDoor.Mw
namespace Go.Proofs.YticlgdhhnjpkjaaDoor.Mw
open Go Go.RowKit Go.ChangeShapes Go.WideShapes Go.ChangeAt Go.Deep
set_option linter.unusedVariables false
structure OpensS (P : Program) (w : World) (t : TypeId) {α : Type} (c : α → List DV) (S : α → Prop) : Prop where
  op : ∀ {H : Type} (enc : TypeId × Value → H) (base : Nat) (spare : Nat → Bool) (held : Bool) (fuel : Nat) (cs : List Value) (x : DataW H × List MemPlace),
    DataW.trod enc P w base spare held fuel t cs = some x → (∀ n ∈ x.1.weights P t, n ≤ reachBytes) → ∃ a, RepL (snap w) (c a) cs ∧ S a
structure OpensT (P : Program) (w : World) (tot : Nat) (fs : List Field) (o : Nat) {α : Type} (c : α → List DV) (S : α → Prop) : Prop where
  op : ∀ {H : Type} (enc : TypeId × Value → H) (base : Nat) (spare : Nat → Bool) (held : Bool) (fuel : Nat) (cs : List Value), cs.length = tot →
    (∀ f ∈ fs, ∃ y, DataW.trod enc P w base spare held fuel f.type ((cs.drop f.offset).take (P.cellsOf f.type)) = some y ∧ ∀ n ∈ y.1.weights P f.type, n ≤ reachBytes) → ∃ a, RepL (snap w) (c a) (cs.drop o) ∧ S a
section
variable {P : Program} {w : World} {t : TypeId}
def I64 (z : Int) : Prop := -9223372036854775808 ≤ z ∧ z ≤ 9223372036854775807
theorem OpensS.int (ht : P.underlying t = some (.int .i64)) : OpensS P w t (fun z : Int => [.int .i64 z]) I64 := by
  constructor
  intro _ enc base sp held fuel cs x h _
  obtain ⟨n, rfl, _, hw⟩ := DataW.trod_int ht h
  refine ⟨n, RepL.one (by simp only [Rep]), ?_⟩
  simp only [Lit.wf, Bool.and_eq_true, decide_eq_true_eq] at hw
  exact hw
theorem OpensS.bool (ht : P.underlying t = some .bool) : OpensS P w t (fun z : Bool => [.bool z]) (fun _ => True) := by
  constructor
  intro _ enc base sp held fuel cs x h _
  obtain ⟨n, rfl, _⟩ := DataW.trod_bool ht h
  exact ⟨n, RepL.one (by simp only [Rep]), trivial⟩
theorem OpensS.str (ht : P.underlying t = some .string) : OpensS P w t (fun z : ByteArray => [.str z]) (fun s => s.size ≤ reachBytes) := by
  constructor
  intro _ enc base sp held fuel cs x h hs
  obtain ⟨n, rfl, rfl, _⟩ := DataW.trod_string ht h
  refine ⟨n, RepL.one (by simp only [Rep]), ?_⟩
  have := hs n.data.toList.length (by simp [DataW.weights])
  simpa using this
theorem OpensS.map {α β : Type} {c : α → List DV} {c' : β → List DV} {S : α → Prop} {S' : β → Prop} (h : OpensS P w t c S) (f : α → β) (e : ∀ a, c' (f a) = c a) (hS : ∀ a, S a → S' (f a)) : OpensS P w t c' S' := by
  constructor
  intro _ enc base sp held fuel cs x hx hs
  obtain ⟨a, ha, h1⟩ := h.op enc base sp held fuel cs x hx hs
  exact ⟨f a, by rw [e]; exact ha, hS a h1⟩
theorem OpensT.nil {tot : Nat} : OpensT P w tot [] tot (fun _ : Unit => []) (fun _ => True) := by
  constructor
  intro _ enc base sp held fuel cs hl h
  exact ⟨(), by rw [List.drop_eq_nil_of_le (by omega)]; exact RepL.nil _, trivial⟩
theorem OpensT.cons {α β : Type} {c0 : α → List DV} {c1 : β → List DV} {S0 : α → Prop} {S1 : β → Prop} {tot o k : Nat} {f : Field} {fs : List Field} (h0 : OpensS P w f.type c0 S0) (ho : f.offset = o) (hk : P.cellsOf f.type = k) (h1 : OpensT P w tot fs (o + k) c1 S1) :
    OpensT P w tot (f :: fs) o (fun p : α × β => c0 p.1 ++ c1 p.2) (fun p => S0 p.1 ∧ S1 p.2) := by
  constructor
  intro _ enc base sp held fuel cs hl h
  obtain ⟨y, hy, hyw⟩ := h f (by simp)
  obtain ⟨a, ha, sa⟩ := h0.op enc base sp held fuel _ _ hy hyw
  obtain ⟨b, hb, sb⟩ := h1.op enc base sp held fuel cs hl fun g hg => h g (by simp [hg])
  rw [ho, hk] at ha
  refine ⟨(a, b), ?_, sa, sb⟩
  have e : cs.drop o = (cs.drop o).take k ++ cs.drop (o + k) := by rw [← List.drop_drop, List.take_append_drop]
  rw [e]
  exact ha.append hb
theorem OpensS.struct {α : Type} {c : α → List DV} {S : α → Prop} {fs : Array Field} {tot : Nat} (ht : P.underlying t = some (.struct fs)) (hc : P.cellsOf t = tot) (h : OpensT P w tot fs.toList 0 c S) : OpensS P w t c S := by
  constructor
  intro _ enc base sp held fuel cs x hx hs
  obtain ⟨xs, n, _, rfl, hl, hlen, hf⟩ := DataW.trod_struct ht hx
  have := h.op enc base sp held n cs (hl.trans hc) fun f hf' => by
    obtain ⟨i, hi, e⟩ := List.getElem_of_mem hf'
    have hi' : i < xs.length := by rw [hlen]; simpa using hi
    have hfi : fs[i]? = some f := by rw [← Array.getElem?_toList, List.getElem?_eq_getElem hi, e]
    refine ⟨xs[i], ?_, fun m hm => hs m ?_⟩
    · rw [hf i f hfi, List.getElem?_eq_getElem hi']
    · simp only [DataW.weights, ht]
      exact DataW.weights_mem_each (j := i) (t := f.type) (d := xs[i].1) (by rw [List.getElem?_map, Array.getElem?_toList, hfi]; rfl) (by simp [hi']) m hm
  simpa using this
theorem weights_all {H : Type} {e : TypeId} {n : Nat} : ∀ {ds : List (DataW H)} {d : DataW H}, d ∈ ds → n ∈ d.weights P e → n ∈ DataW.weightsAll P e ds
  | x :: ds, d, hd, hn => by
    simp only [DataW.weightsAll, List.mem_append]
    rcases List.mem_cons.1 hd with rfl | hd
    · exact .inl hn
    · exact .inr (weights_all hd hn)
theorem OpensS.slice {α : Type} {c : α → List DV} {S : α → Prop} {e : TypeId} {n bytes : Nat} (h : OpensS P w e c S) (ht : P.underlying t = some (.slice e)) (hn : P.cellsOf e = n) (hpos : 0 < n) (hb : P.bytesOf e = bytes) :
    OpensS P w t (fun l : List α => [slD c l]) (fun l => l.length * bytes ≤ reachBytes ∧ ∀ x ∈ l, S x) := by
  constructor
  intro _ enc base sp held fuel cs x hx hs
  rcases open_slice ht hx with ⟨rfl, _⟩ | ⟨a, len, cap, m, k, D, Pl, rfl, _, hl, _, hm, rfl, hel⟩
  · refine ⟨[], RepL.one ?_, by simp, fun _ h => by simp at h⟩
    simp only [slD, Rep, List.flatMap_nil, List.length_nil]
    exact ⟨none, 0, rfl, Nat.le_refl _, fun h => absurd h (by omega)⟩
  · have hlm : len ≤ m := by rw [hm]; split <;> omega
    simp only [DataW.weights, ht, List.mem_cons, List.mem_append] at hs
    have hsz : len * bytes ≤ reachBytes := by
      have := hs _ (.inl rfl)
      simp only [List.length_map, List.length_range, hb] at this
      exact Nat.le_trans (Nat.mul_le_mul_right _ (Nat.le_add_right _ _)) this
    have each : ∀ i, i < len → ∃ y : α, (∃ cs', w.cells? base (a.add (i * n)) n = some cs' ∧ RepL (snap w) (c y) cs') ∧ S y := fun i hi => by
      obtain ⟨cs', h1, h2⟩ := hel i (by omega)
      obtain ⟨y, hy, sy⟩ := h.op enc base sp held k cs' _ h2 fun q hq => hs q (.inr (.inl (weights_all (d := D i) (by simp; exact ⟨i, hi, rfl⟩) hq)))
      rw [hn] at h1
      exact ⟨y, ⟨cs', h1, hy⟩, sy⟩
    have : ∃ l : List α, l.length = len ∧ (∀ i (hi : i < l.length), ∃ cs', w.cells? base (a.add (i * n)) n = some cs' ∧ RepL (snap w) (c l[i]) cs') ∧ ∀ x ∈ l, S x := by
      clear hel hl hlm hm hx hs hsz
      induction len with
      | zero => exact ⟨[], rfl, fun i hi => absurd hi (by simp), fun _ h => by simp at h⟩
      | succ len ih =>
        obtain ⟨l, h1, h2, h3⟩ := ih fun i hi => each i (by omega)
        obtain ⟨y, hy, sy⟩ := each len (by omega)
        refine ⟨l ++ [y], by simp [h1], fun i hi => ?_, fun x hx => ?_⟩
        · by_cases h' : i < l.length
          · simpa [List.getElem_append_left h'] using h2 i h'
          · have : i = len := by simp at hi; omega
            subst this
            simpa [h1] using hy
        · rcases List.mem_append.1 hx with hx | hx
          · exact h3 x hx
          · simp at hx; subst hx; exact sy
    obtain ⟨l, rfl, hlc, hS⟩ := this
    refine ⟨l, RepL.one ?_, hsz, hS⟩
    simp only [slD, Rep]
    refine ⟨some a, cap, rfl, hl, fun h0 => ?_⟩
    obtain ⟨cs', h1, h2⟩ := hlc 0 h0
    obtain ⟨_, hlen, hcell⟩ := World.cells?_some h1
    have h3 := hcell 0 hpos
    have h4 : 0 < cs'.length := by omega
    rw [List.getElem?_eq_getElem h4] at h3
    simp only [Nat.zero_mul] at h3
    obtain ⟨b, o, ty, N, full, e1, e2, _⟩ := snap_cell h3
    have ea : a = ⟨b, o, none⟩ := by simpa [Addr.add] using e1
    subst ea
    refine ⟨b, o, ty, N, full, rfl, e2, ?_⟩
    have := rep_cells (base := base) (n := n) e2 l 0 (by simpa using hlc)
    simpa using this
theorem OpensS.val {α : Type} {d : α → DV} {S : α → Prop} (h : OpensS P w t (fun a => [d a]) S) {v : Value} (hc : v.cells = #[v]) {H : Type} {enc : TypeId × Value → H} {base : Nat} {sp : Nat → Bool} {held : Bool} {x : DataW H} {p : List MemPlace}
    (hx : DataW.Trod enc P w base sp held t v x p) (hs : ∀ n ∈ x.weights P t, n ≤ reachBytes) : ∃ a, Rep (snap w) (d a) v ∧ S a := by
  obtain ⟨fuel, hf⟩ := hx
  obtain ⟨a, ha, sa⟩ := h.op enc base sp held fuel _ _ hf hs
  rw [hc] at ha
  have h1 := ha.1
  simp only [RepP] at h1
  exact ⟨a, h1.1, sa⟩
theorem OpensS.agg {α : Type} {c : α → List DV} {S : α → Prop} (h : OpensS P w t c S) {cs : Array Value} {H : Type} {enc : TypeId × Value → H} {base : Nat} {sp : Nat → Bool} {held : Bool} {x : DataW H} {p : List MemPlace}
    (hx : DataW.Trod enc P w base sp held t (.agg cs) x p) (hs : ∀ n ∈ x.weights P t, n ≤ reachBytes) : ∃ a, Rep (snap w) (.agg (c a)) (.agg cs) ∧ S a := by
  obtain ⟨fuel, hf⟩ := hx
  obtain ⟨a, ha, sa⟩ := h.op enc base sp held fuel _ _ hf hs
  refine ⟨a, ?_, sa⟩
  simp only [Rep]
  exact ⟨cs.toList, by simp, ha.1, ha.2⟩
theorem sized_mem {H : Type} {ts : List TypeId} {ds : List (DataW H)} (h : (DataW.weightsEach P ts ds).all (· ≤ reachBytes) = true) {j : Nat} {d : DataW H} (ht : ts[j]? = some t) (hd : ds[j]? = some d) : ∀ n ∈ d.weights P t, n ≤ reachBytes := fun n hn => by
  have := List.all_eq_true.1 h n (DataW.weights_mem_each ht hd n hn)
  simpa using this
end
end Go.Proofs.YticlgdhhnjpkjaaDoor.Mw
namespace Go.Proofs.YticlgdhhnjpkjaaDoor
open Go Go.RowKit Go.Proofs.YticlgdhhnjpkjaaDoor.Mw Go.Proofs.YticlgdhhnjpkjaaDoor.Pf Go.ChangeShapes Go.WideShapes Go.ChangeAt
set_option linter.unusedVariables false
theorem own : ownKnob Tryd.prog.godebug = none := by kernel_rfl
theorem laid : laidOutB Tryd.prog = true := by kernel_rfl
theorem et : Tryd.prog.globalNamed "errors.errorType" = some 0 := by kernel_rfl
theorem rt : (Tryd.prog.cutTypes.find? (·.1 == "internal/reflectlite.rtype")).map (·.2) = some 185 := by kernel_rfl
theorem oneRow : ((List.range 227).filter fun t => Tryd.prog.rowNamed t [101, 114, 114, 111, 114]) = [132] := by kernel_rfl
theorem sizeT : Tryd.prog.types.size = 227 := by kernel_rfl
abbrev told : List (String × DataW Unit) := [("errors.errorType", Rows.laid_errors_errorType)]
theorem glob_told {W : World} (h : laidMetH Tryd.prog told W) : Glob (snap W) := by
  have h' : laidMet Tryd.prog [] W ∧ handlesMet Tryd.prog told W := h
  obtain ⟨name, u, ty, e1, e2, e3, e4, e5⟩ := h'.2 _ (List.mem_singleton.2 rfl)
  have en : name = [101, 114, 114, 111, 114] := (Option.some.inj e1).symm
  subst en
  obtain rfl := Option.some.inj (rt.symm.trans e2)
  have hm : ty ∈ (List.range 227).filter fun t => Tryd.prog.rowNamed t [101, 114, 114, 111, 114] := List.mem_filter.2 ⟨List.mem_range.2 (by rw [← sizeT]; exact e3), e4⟩
  rw [oneRow] at hm
  obtain rfl := List.mem_singleton.1 hm
  have hh : typeHandle Tryd.prog 132 = .pointer (some ⟨1, 132, none⟩) := by kernel_rfl
  rw [hh] at e5
  intro b v hb
  have hb0 : b = 0 ∧ v = .iface 185 (.agg #[.pointer (some ⟨1, 132, none⟩)]) := by
    unfold globs at hb
    simp only [List.lookup] at hb
    split at hb
    · rename_i hx
      exact ⟨by simpa using hx, (Option.some.inj hb).symm⟩
    · cases hb
  obtain ⟨rfl, rfl⟩ := hb0
  unfold World.var? at e5
  rw [et] at e5
  simp only [Option.bind_some] at e5
  split at e5
  · rename_i c t z hc
    cases e5
    exact ⟨t, by unfold snap; rw [hc] <;> rfl⟩
  · cases e5
noncomputable def toldWorld (os : Os) : World :=
  let w0 := World.holding Tryd.prog os ⟨#[], #[], []⟩
  { w0 with heap := w0.heap.modify 0 fun
      | .cells _ t frozen => .cells #[.iface 185 (.agg #[.pointer (some ⟨1, 132, none⟩)])] t frozen
      | o => o }
theorem toldWorld_met (os : Os) (args : Array Value) : laidMetH Tryd.prog told ((toldWorld os).forCall (fun _ _ => 0) ⟨#[], args, []⟩).memory :=
  laidMetH_of_parts (laidMet_nil _ _) (by kernel_rfl)
theorem cI : Tryd.prog.cellsOf 3 = 1 := by kernel_rfl
theorem opI (w : World) : OpensS Tryd.prog w 3 (fun z : Int => [.int .i64 z]) I64 := OpensS.int Tryd.underlying3
theorem cIns : Tryd.prog.cellsOf 40 = 2 := by kernel_rfl
theorem cInss : Tryd.prog.cellsOf 41 = 1 := by kernel_rfl
theorem cFnc : Tryd.prog.cellsOf 43 = 3 := by kernel_rfl
theorem cFncs : Tryd.prog.cellsOf 22 = 1 := by kernel_rfl
theorem cPrg : Tryd.prog.cellsOf 24 = 1 := by kernel_rfl
set_option maxRecDepth 100000 in
theorem opIns (w : World) : OpensS Tryd.prog w 40 Ins.c (fun x => I64 x.kind ∧ I64 x.a) :=
  (OpensS.struct Tryd.underlying40 cIns (OpensT.cons (opI w) rfl cI (OpensT.cons (opI w) rfl cI OpensT.nil))).map (fun p => ⟨p.1, p.2.1⟩) (fun a => rfl) (fun a h => ⟨h.1, h.2.1⟩)
set_option maxRecDepth 100000 in
theorem opInss (w : World) : OpensS Tryd.prog w 41 (fun l : List Ins => [slD Ins.c l]) (fun l => l.length * 16 ≤ reachBytes ∧ ∀ x ∈ l, I64 x.kind ∧ I64 x.a) :=
  OpensS.slice (opIns w) Tryd.underlying41 cIns (by decide) (by kernel_rfl)
set_option maxRecDepth 100000 in
theorem opFnc (w : World) : OpensS Tryd.prog w 43 Fnc.c (fun f => (I64 f.args ∧ I64 f.locals) ∧ f.code.length * 16 ≤ reachBytes ∧ ∀ x ∈ f.code, I64 x.kind ∧ I64 x.a) :=
  (OpensS.struct Tryd.underlying43 cFnc (OpensT.cons (opI w) rfl cI (OpensT.cons (opI w) rfl cI (OpensT.cons (opInss w) rfl cInss OpensT.nil)))).map (fun p => ⟨p.1, p.2.1, p.2.2.1⟩) (fun a => rfl) (fun a h => ⟨⟨h.1, h.2.1⟩, h.2.2.1⟩)
set_option maxRecDepth 100000 in
theorem opPrg (w : World) : OpensS Tryd.prog w 24 (fun l : List Fnc => [slD Fnc.c l]) (fun l => l.length * 40 ≤ reachBytes ∧ ∀ f ∈ l, (I64 f.args ∧ I64 f.locals) ∧ f.code.length * 16 ≤ reachBytes ∧ ∀ x ∈ f.code, I64 x.kind ∧ I64 x.a) :=
  (OpensS.struct Tryd.underlying24 cPrg (OpensT.cons (OpensS.slice (opFnc w) Tryd.underlying22 cFnc (by decide) (by kernel_rfl)) rfl cFncs OpensT.nil)).map (fun p => p.1) (fun a => rfl) (fun a h => h.1)
theorem cB : Tryd.prog.cellsOf 4 = 1 := by kernel_rfl
theorem cInts : Tryd.prog.cellsOf 36 = 1 := by kernel_rfl
theorem cSrc : Tryd.prog.cellsOf 58 = 2 := by kernel_rfl
theorem cSrcs : Tryd.prog.cellsOf 59 = 1 := by kernel_rfl
theorem cPart : Tryd.prog.cellsOf 61 = 4 := by kernel_rfl
theorem cParts : Tryd.prog.cellsOf 62 = 1 := by kernel_rfl
theorem cMeta : Tryd.prog.cellsOf 64 = 1 := by kernel_rfl
theorem cMetas : Tryd.prog.cellsOf 26 = 1 := by kernel_rfl
theorem cIr : Tryd.prog.cellsOf 38 = 9 := by kernel_rfl
theorem cIrs : Tryd.prog.cellsOf 25 = 1 := by kernel_rfl
theorem cCod : Tryd.prog.cellsOf 28 = 4 := by kernel_rfl
set_option maxRecDepth 100000 in
theorem opSrc (w : World) : OpensS Tryd.prog w 58 Src.c (fun _ => True) :=
  (OpensS.struct Tryd.underlying58 cSrc (OpensT.cons (OpensS.bool Tryd.underlying4) rfl cB (OpensT.cons (opI w) rfl cI OpensT.nil))).map (fun p => ⟨p.1, p.2.1⟩) (fun a => rfl) (fun a h => trivial)
set_option maxRecDepth 100000 in
theorem opSrcs (w : World) : OpensS Tryd.prog w 59 (fun l : List Src => [slD Src.c l]) (fun l => l.length * 16 ≤ reachBytes) :=
  (OpensS.slice (opSrc w) Tryd.underlying59 cSrc (by decide) (by kernel_rfl)).map id (fun a => rfl) (fun a h => h.1)
set_option maxRecDepth 100000 in
theorem opPart (w : World) : OpensS Tryd.prog w 61 Part.c (fun x => x.locals.length * 16 ≤ reachBytes ∧ x.stack.length * 16 ≤ reachBytes) :=
  (OpensS.struct Tryd.underlying61 cPart (OpensT.cons (opI w) rfl cI (OpensT.cons (opI w) rfl cI (OpensT.cons (opSrcs w) rfl cSrcs (OpensT.cons (opSrcs w) rfl cSrcs OpensT.nil))))).map (fun p => ⟨p.1, p.2.1, p.2.2.1, p.2.2.2.1⟩) (fun a => rfl) (fun a h => ⟨h.2.2.1, h.2.2.2.1⟩)
def PartsZ (l : List Part) : Prop := l.length * 64 ≤ reachBytes ∧ ∀ x ∈ l, x.locals.length * 16 ≤ reachBytes ∧ x.stack.length * 16 ≤ reachBytes
set_option maxRecDepth 100000 in
theorem opMeta (w : World) : OpensS Tryd.prog w 64 metaC PartsZ :=
  (OpensS.struct Tryd.underlying64 cMeta (OpensT.cons (OpensS.slice (opPart w) Tryd.underlying62 cPart (by decide) (by kernel_rfl)) rfl cParts OpensT.nil)).map (fun p => p.1) (fun a => rfl) (fun a h => h.1)
set_option maxRecDepth 100000 in
theorem slD_ints (l : List Int) : slD (fun z : Int => [.int .i64 z]) l = slI l := by simp [slD, slI, ← List.map_eq_flatMap]
set_option maxRecDepth 100000 in
theorem opInts (w : World) : OpensS Tryd.prog w 36 (fun l : List Int => [slI l]) (fun l => l.length * 8 ≤ reachBytes ∧ ∀ x ∈ l, I64 x) :=
  (OpensS.slice (opI w) Tryd.underlying36 cI (by decide) (by kernel_rfl)).map id (fun l => by simp only [id, slD_ints]) (fun _ h => h)
def IrcI (x : Irc) : Prop := I64 x.kind ∧ I64 x.r ∧ I64 x.a ∧ I64 x.b ∧ I64 x.k ∧ (x.args.length * 8 ≤ reachBytes ∧ ∀ y ∈ x.args, I64 y) ∧ I64 x.cost ∧ I64 x.mt ∧ I64 x.pc
set_option maxRecDepth 100000 in
theorem opIr (w : World) : OpensS Tryd.prog w 38 Irc.c IrcI :=
  (OpensS.struct Tryd.underlying38 cIr (OpensT.cons (opI w) rfl cI (OpensT.cons (opI w) rfl cI (OpensT.cons (opI w) rfl cI (OpensT.cons (opI w) rfl cI (OpensT.cons (opI w) rfl cI (OpensT.cons (opInts w) rfl cInts (OpensT.cons (opI w) rfl cI (OpensT.cons (opI w) rfl cI (OpensT.cons (opI w) rfl cI OpensT.nil)))))))))).map
    (fun p => ⟨p.1, p.2.1, p.2.2.1, p.2.2.2.1, p.2.2.2.2.1, p.2.2.2.2.2.1, p.2.2.2.2.2.2.1, p.2.2.2.2.2.2.2.1, p.2.2.2.2.2.2.2.2.1⟩) (fun a => rfl) (fun a h => ⟨h.1, h.2.1, h.2.2.1, h.2.2.2.1, h.2.2.2.2.1, h.2.2.2.2.2.1, h.2.2.2.2.2.2.1, h.2.2.2.2.2.2.2.1, h.2.2.2.2.2.2.2.2.1⟩)
def CodI (c : Cod) : Prop := I64 c.fn ∧ I64 c.regs ∧ (c.code.length * 88 ≤ reachBytes ∧ ∀ x ∈ c.code, IrcI x) ∧ (c.metas.length * 24 ≤ reachBytes ∧ ∀ m ∈ c.metas, PartsZ m)
set_option maxRecDepth 100000 in
theorem opCod (w : World) : OpensS Tryd.prog w 28 Cod.c CodI :=
  (OpensS.struct Tryd.underlying28 cCod (OpensT.cons (opI w) rfl cI (OpensT.cons (opI w) rfl cI (OpensT.cons (OpensS.slice (opIr w) Tryd.underlying25 cIr (by decide) (by kernel_rfl)) rfl cIrs (OpensT.cons (OpensS.slice (opMeta w) Tryd.underlying26 cMeta (by decide) (by kernel_rfl)) rfl cMetas OpensT.nil))))).map (fun p => ⟨p.1, p.2.1, p.2.2.1, p.2.2.2.1⟩) (fun a => rfl) (fun a h => ⟨h.1, h.2.1, h.2.2.1, h.2.2.2.1⟩)
theorem CodI.sz {c : Cod} (h : CodI c) : SzC c := by
  obtain ⟨_, _, ⟨h1, h2⟩, h3, h4⟩ := h
  unfold reachBytes at h1 h3
  refine ⟨h1, fun x hx => ?_, h3, fun m hm y hy => ?_⟩
  · have := (h2 x hx).2.2.2.2.2.1.1
    unfold reachBytes at this
    exact this
  · have := (h4 m hm).2 y hy
    unfold reachBytes at this
    omega
namespace squeezeMay
set_option maxRecDepth 100000 in
theorem lifted (os : Os) (started : os.Started) (H : Type) (enc : TypeId × Value → H) :
    ReturnsInHanded {} Tryd.checked os 3 .any (fun w args => (Rows.squeezeMaySpec.pre enc Tryd.prog Tryd.f3 [] false w args ∧ laidMetH Tryd.prog told w) ∧ sizedMet enc Tryd.prog Tryd.f3 (OpenSpec.ofChange Rows.squeezeMaySpec) false w args)
      (Rows.squeezeMaySpec.post enc Tryd.prog Tryd.f3 false true false false) := by
  refine law_row_laid (C := Tryd.checked) told own started (by kernel_rfl) Tryd.func3 rfl (fun ds h => ?_) rfl Tryd.underlying4 laid (of_decide_eq_true (by kernel_rfl))
    (ChangeSpec.witness_at (enc := enc) (C := Tryd.checked) (os := os) (X := fun w _ => laidMetH Tryd.prog told w) false (toldWorld os) #[.agg #[.slice none 0 0], .agg #[.int .i64 0, .int .i64 0, .slice none 0 0, .slice none 0 0]] 8 rfl (by kernel_rfl) (by kernel_rfl) (by kernel_rfl) (by kernel_rfl) (by kernel_rfl) (toldWorld_met os _)) (fun W base args ds p hA hval hsz hL => ?_)
  · match ds, h with
    | [_, _], _ => rfl
  · rw [show Tryd.f3.params.toList = [24, 28] from rfl] at hA hsz
    obtain ⟨v0, vs0, d0, ds0, p0, q0, rfl, rfl, rfl, h0, r0⟩ := trodAll_cons hA
    obtain ⟨v1, vs1, d1, ds1, p1, q1, rfl, rfl, rfl, h1, r1⟩ := trodAll_cons r0
    obtain ⟨rfl, rfl, rfl⟩ := trodAll_nil r1
    obtain ⟨x0, rfl, z0⟩ := okWide_struct Tryd.underlying24 (hval 0 24 v0 rfl rfl)
    obtain ⟨a0, g0, s0⟩ := OpensS.agg (opPrg W) h0 (sized_mem (t := 24) (j := 0) hsz rfl rfl)
    obtain ⟨x1, rfl, z1⟩ := okWide_struct Tryd.underlying28 (hval 1 28 v1 rfl rfl)
    obtain ⟨a1, g1, s1⟩ := OpensS.agg (opCod W) h1 (sized_mem (t := 28) (j := 1) hsz rfl rfl)
    exact law_mc (SqueezeMay_pc a0 a1 s1.sz) (glob_told hL) (RepL.cons g0 (RepL.cons g1 (RepL.nil _)))
theorem over : Rows.squeezeMayRow.holds Tryd.pinned (OpenSpec.ofChange Rows.squeezeMaySpec) :=
  OpenClaim.holds_of_wide 3 Tryd.f3 rfl rfl rfl rfl rfl rfl rfl ⟨rfl, rfl, rfl, rfl, rfl⟩ rfl rfl rfl rfl rfl (by kernel_rfl) Tryd.func3 (by kernel_rfl)
    (of_decide_eq_true (by kernel_rfl)) (by unfold Func.isWrapper; first | (rw [if_pos (by decide +kernel)]; kernel_rfl) | (rw [if_neg (by decide +kernel)]; exact ⟨rfl, rfl⟩))
    (fun os started H enc _ => lifted os started H enc)
end squeezeMay
theorem squeezeMay_card : Rows.SqueezeMayCardSaid :=
  Claim7.holds_tied_plain_at .later [] [.handle] true _ true
    squeezeMay.over (fun _ h => by cases h) (by kernel_rfl) (fun _ h => by cases h) squeezeMay_row_tie rfl ⟨rfl, rfl⟩ (by kernel_rfl) rfl
    (fun f fn hf hfn => by
      obtain rfl : f = 3 := Option.some.inj ((show Tryd.prog.funcNamed "swage/swagelaw18.SqueezeMay" = some 3 by kernel_rfl).symm.trans hf) |>.symm
      obtain rfl : fn = Tryd.f3 := (Option.some.inj (Tryd.func3.symm.trans hfn)).symm
      have hall : (Tryd.f3.params.toList.all fun t => !Tryd.prog.wantsStandIn t) = true := by kernel_rfl
      refine ⟨by kernel_rfl, fun j t ht => ?_⟩
      have hm : t ∈ Tryd.f3.params.toList := List.mem_of_getElem? (i := j) (by rw [Array.getElem?_toList]; exact ht)
      exact (show Tryd.prog.wantsStandIn t = false by simpa using List.all_eq_true.1 hall t hm))
    (by kernel_rfl)
namespace squeezeRuns
set_option maxRecDepth 100000 in
theorem lifted (os : Os) (started : os.Started) (H : Type) (enc : TypeId × Value → H) :
    ReturnsInHanded {} Tryd.checked os 4 .any (fun w args => (Rows.squeezeRunsSpec.pre enc Tryd.prog Tryd.f4 [] false w args ∧ laidMetH Tryd.prog told w) ∧ sizedMet enc Tryd.prog Tryd.f4 (OpenSpec.ofChange Rows.squeezeRunsSpec) false w args)
      (Rows.squeezeRunsSpec.post enc Tryd.prog Tryd.f4 false true false false) := by
  refine law_row_laid (C := Tryd.checked) told own started (by kernel_rfl) Tryd.func4 rfl (fun ds h => ?_) rfl Tryd.underlying4 laid (of_decide_eq_true (by kernel_rfl))
    (ChangeSpec.witness_at (enc := enc) (C := Tryd.checked) (os := os) (X := fun w _ => laidMetH Tryd.prog told w) false (toldWorld os) #[.slice none 0 0] 8 rfl (by kernel_rfl) (by kernel_rfl) (by kernel_rfl) (by kernel_rfl) (by kernel_rfl) (toldWorld_met os _)) (fun W base args ds p hA hval hsz hL => ?_)
  · match ds, h with
    | [_], _ => rfl
  · rw [show Tryd.f4.params.toList = [36] from rfl] at hA hsz
    obtain ⟨v0, vs0, d0, ds0, p0, q0, rfl, rfl, rfl, h0, r0⟩ := trodAll_cons hA
    obtain ⟨rfl, rfl, rfl⟩ := trodAll_nil r0
    obtain ⟨x0, y0, z0, rfl⟩ := okWide_slice Tryd.underlying36 (hval 0 36 v0 rfl rfl)
    obtain ⟨a0, g0, s0⟩ := OpensS.val (opInts W) rfl h0 (sized_mem (t := 36) (j := 0) hsz rfl rfl)
    exact law_mc (SqueezeRuns_pc a0 (by have h := s0.1; unfold reachBytes at h; omega)) (glob_told hL) (RepL.cons g0 (RepL.nil _))
theorem over : Rows.squeezeRunsRow.holds Tryd.pinned (OpenSpec.ofChange Rows.squeezeRunsSpec) :=
  OpenClaim.holds_of_wide 4 Tryd.f4 rfl rfl rfl rfl rfl rfl rfl ⟨rfl, rfl, rfl, rfl, rfl⟩ rfl rfl rfl rfl rfl (by kernel_rfl) Tryd.func4 (by kernel_rfl)
    (of_decide_eq_true (by kernel_rfl)) (by unfold Func.isWrapper; first | (rw [if_pos (by decide +kernel)]; kernel_rfl) | (rw [if_neg (by decide +kernel)]; exact ⟨rfl, rfl⟩))
    (fun os started H enc _ => lifted os started H enc)
end squeezeRuns
theorem squeezeRuns_card : Rows.SqueezeRunsCardSaid :=
  Claim7.holds_tied_plain_at .later [] [.handle] true _ true
    squeezeRuns.over (fun _ h => by cases h) (by kernel_rfl) (fun _ h => by cases h) squeezeRuns_row_tie rfl ⟨rfl, rfl⟩ (by kernel_rfl) rfl
    (fun f fn hf hfn => by
      obtain rfl : f = 4 := Option.some.inj ((show Tryd.prog.funcNamed "swage/swagelaw18.SqueezeRuns" = some 4 by kernel_rfl).symm.trans hf) |>.symm
      obtain rfl : fn = Tryd.f4 := (Option.some.inj (Tryd.func4.symm.trans hfn)).symm
      have hall : (Tryd.f4.params.toList.all fun t => !Tryd.prog.wantsStandIn t) = true := by kernel_rfl
      refine ⟨by kernel_rfl, fun j t ht => ?_⟩
      have hm : t ∈ Tryd.f4.params.toList := List.mem_of_getElem? (i := j) (by rw [Array.getElem?_toList]; exact ht)
      exact (show Tryd.prog.wantsStandIn t = false by simpa using List.all_eq_true.1 hall t hm))
    (by kernel_rfl)
end Go.Proofs.YticlgdhhnjpkjaaDoor
