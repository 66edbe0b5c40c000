/- Zi Zk Zl Zm Zn Mr Mt Do Dp Lu: joined texts of this claim. No condition. -/
import Derived.Test.YtpehdlobicocpaaDoorLwjh
import Derived.Test.YtpehdlobicocpaaDoorLwji
import Derived.Test.YtpehdlobicocpaaDoorLwjj
import Derived.Test.YtpehdlobicocpaaDoorLwjd
import Derived.WalkKit
import Derived.ProofKit
import Derived.OpenShut
import Derived.ShutString
import Derived.ChangeOld
import Derived.Below
import Derived.Carry
import Derived.SizedLaws
import Derived.ChangeSame
import Derived.ChangeVars
import Derived.JoinedOf
import Derived.LaidLaws
import Derived.LaidHandle
import Derived.Handed
import Derived.Stop.Joined
import Derived.Deep.Slices
import Derived.Test.YtpehdlobicocpaaDoorRows
import Derived.Test.YtpehdlobicocpaaDoorTie
import Derived.Test.YtpehdlobicocpaaDoorCards
import Derived.Lib.SmallJoins
import Derived.SevenTiedAt
namespace Go.Proofs.YtpehdlobicocpaaDoor.Pf
open Go Go.RowKit Go.Proofs Go.Proofs.YtpehdlobicocpaaDoor.Mw Go.Proofs.YtpehdlobicocpaaDoor.Sx
set_option linter.unusedVariables false
set_option linter.unusedSimpArgs false
set_option maxRecDepth 8000
theorem CopyCode_fz {M : DMem} {d0 : DV} (c : Cod) (hz : SzC c) (hsrc : ∀ m ∈ c.metas, m.length ≤ 100000000 ∧ ∀ x ∈ m, x.locals.length ≤ 100000000 ∧ x.stack.length ≤ 100000000) (hf : fz M 4 d0 = .agg c.c) {R : DV → DMem → Prop}
    (hR : ∀ dc dm M' Sc Sm, SlAt irE M' dc c.code Sc → SlAt metaE M' dm c.metas Sm → (Sc ++ Sm).Nodup → (∀ y ∈ Sc ++ Sm, M y = none) → SubD M M' → R (.agg [.int .i64 c.fn, .int .i64 c.regs, dc, dm]) M') : PC Tryd.prog F_swagelaw0_CopyCode [d0] R M := by
  have h1 : PC Tryd.prog F_swagelaw0_CopyCode [.agg c.c] (fun d M2 => Thaw d M2 ∧ ∃ dc dm Sc Sm, d = .agg [.int .i64 c.fn, .int .i64 c.regs, dc, dm] ∧ SlAt irE M2 dc c.code Sc ∧ SlAt metaE M2 dm c.metas Sm ∧ (Sc ++ Sm).Nodup) DMem.mt := by
    refine PC.drop (R := fun d M' => ∃ dc dm Sc Sm, d = .agg [.int .i64 c.fn, .int .i64 c.regs, dc, dm] ∧ SlAt irE M' dc c.code Sc ∧ SlAt metaE M' dm c.metas Sm ∧ (Sc ++ Sm).Nodup) (CopyCode_pc c hz hsrc fun dc dm M' Sc Sm g1 g2 g3 _ _ => ⟨dc, dm, Sc, Sm, rfl, g1, g2, g3⟩) ?_
    rintro d M' ⟨dc, dm, Sc, Sm, rfl, g1, g2, g3⟩
    obtain ⟨t1, t2⟩ := irE_th.sl g1
    obtain ⟨t3, t4⟩ := metaE_th.sl g2
    refine ⟨DMem.only M' (Sc ++ Sm), DMem.only_sub _ _, ⟨by simp only [thawed, thawedL, t1, t3] <;> rfl, fun b B hb => ?_⟩, dc, dm, Sc, Sm, rfl, SlAt.only irE_ok g1 (fun b hb => by simp [hb]), SlAt.only metaE_ok g2 (fun b hb => by simp [hb]), g3⟩
    unfold DMem.only at hb
    split at hb
    · rename_i hm
      rcases List.mem_append.1 hm with hm | hm
      · exact t2 b hm B hb
      · exact t4 b hm B hb
    · cases hb
  refine PC.seal (R := fun d M2 => Thaw d M2 ∧ ∃ dc dm Sc Sm, d = .agg [.int .i64 c.fn, .int .i64 c.regs, dc, dm] ∧ SlAt irE M2 dc c.code Sc ∧ SlAt metaE M2 dm c.metas Sm ∧ (Sc ++ Sm).Nodup) (by simp only [List.map_cons, List.map_nil, hf]; exact h1) (fun d M2 h => h.1) ?_
  rintro d M2 ⟨_, dc, dm, Sc, Sm, rfl, g1, g2, g3⟩ hd
  obtain ⟨a1, a2⟩ := g1.or irE_ok hd
  obtain ⟨b1, b2⟩ := g2.or metaE_ok hd
  exact hR dc dm _ Sc Sm a1 b1 g3 (fun y hy => by
    rcases List.mem_append.1 hy with hy | hy
    · exact a2 y hy
    · exact b2 y hy) (SubD.or_left _ _)
def twoQ : List Fnc := [⟨1, 1, [⟨1, 0⟩, ⟨0, 2⟩, ⟨14, 1⟩, ⟨10, 0⟩, ⟨15, 0⟩, ⟨16, 0⟩]⟩, ⟨2, 2, [⟨1, 0⟩, ⟨1, 1⟩, ⟨3, 0⟩, ⟨16, 0⟩]⟩]
theorem twoQ_pu : Pu Tryd.prog F_swagelaw10_two [] (.agg [slD Fnc.c twoQ]) := by
  refine Pu.of (pc_swagelaw10_two (by simp) ?_)
  simp only [S_swagelaw10_two, R_swagelaw10_two, MU_swagelaw10_two, MU_swagelaw10_two, SW, wpD, evDL, evDM, evD, bldLD, List.contains_cons, List.contains_nil, Nat.reduceBEq, beq_self_eq_true, Nat.reduceMul, Nat.reduceSub, wpSp, Option.bind_some, Option.some.injEq, exists_eq_left', exists_eq_left, reduceIte, if_false, if_true, Nat.reduceEqDiff, Nat.reduceAdd, Nat.reduceLeDiff, Int.reduceEq, Int.reduceLT, Int.reduceLE, Int.reduceToNat, decide_true, decide_false, DV.bool.injEq, DV.int.injEq, DV.mp.injEq, DV.msl.injEq, DV.tup.injEq, DV.agg.injEq, DV.fn.injEq, true_implies, forall_const, reduceCtorEq, implies_true, ne_eq, DMem.mt]
  intro b M1 hM1
  refine stD (by rw [hM1, DMem.ins_same]) rfl rfl (by simp) (by simp) rfl fun M2 hM2 => ?_
  refine ⟨.agg [slD Fnc.c twoQ], ?_, ?_⟩
  · rw [hM2, DMem.ins_same] <;> rfl
  · exact fz_of (Froz.agg (FrozL.nil.cons (Froz.slD Fnc.froz twoQ))) _ _
def addC : List Irc := [⟨2, 2, 0, 0, 0, [], 1, 0, 0⟩, ⟨2, 3, 1, 0, 0, [], 1, 0, 1⟩, ⟨3, 2, 2, 3, 3, [], 1, 0, 2⟩, ⟨8, 0, 2, 0, 0, [], 1, 0, 3⟩]
def addX : List Irc := [⟨2, 2, 0, 0, 0, [], 1, 0, 0⟩, ⟨2, 3, 1, 0, 0, [], 1, 0, 1⟩, ⟨3, 2, 2, 3, 3, [], -1, 0, 2⟩, ⟨8, 0, 2, 0, 0, [], 1, 0, 3⟩]
theorem low_two1 : lowerR twoQ 1 = (⟨1, 10, addC, []⟩, 0) := by decide +kernel
theorem may_add : codeMayB twoQ ⟨1, 10, addC, []⟩ = true := by decide +kernel
theorem may_bad : codeMayB twoQ ⟨1, 10, addX, []⟩ = false := by decide +kernel
theorem may_none : codeMayB twoQ ⟨0, 0, [], []⟩ = false := by decide +kernel
def leadC : List Irc := [⟨5, 0, 0, 0, 2, [], 1, 0, 0⟩, ⟨0, 0, 0, 0, 0, [], 0, 0, 0⟩, ⟨8, 0, 0, 0, 0, [], 0, 0, 0⟩, ⟨8, 0, 0, 0, 0, [], 0, 0, 0⟩]
theorem lead_all : leadersF leadC = [true, true, true, true] := by decide +kernel
theorem awake10_pf : pf Tryd.prog F_swagelaw10_awake [] = some (.bool true) := by
  refine pf_of (v := .bool _) (pc_swagelaw10_awake (by simp) ?_) FrozL.nil rfl rfl
  simp only [S_swagelaw10_awake, R_swagelaw10_awake, MU_swagelaw10_awake, SW, wpD, evDL, evDM, evD, bldLD, List.contains_cons, List.contains_nil, Nat.reduceBEq, beq_self_eq_true, Nat.reduceMul, Nat.reduceSub, wpSp, Option.bind_some, Option.some.injEq, exists_eq_left', exists_eq_left, reduceIte, if_false, if_true, Nat.reduceEqDiff, Nat.reduceAdd, Nat.reduceLeDiff, Int.reduceEq, Int.reduceLT, Int.reduceLE, Int.reduceToNat, decide_true, decide_false, DV.bool.injEq, DV.int.injEq, DV.mp.injEq, DV.msl.injEq, DV.tup.injEq, DV.agg.injEq, DV.fn.injEq, true_implies, forall_const, reduceCtorEq, implies_true, ne_eq, DMem.mt]
  refine Pu.pc twoQ_pu ?_
  simp only [S4_swagelaw10_awake, MU_swagelaw10_awake, ldnI1, SW, wpD, evDL, evDM, evD, bldLD, List.contains_cons, List.contains_nil, Nat.reduceBEq, beq_self_eq_true, Nat.reduceMul, Nat.reduceSub, wpSp, Option.bind_some, Option.some.injEq, exists_eq_left', exists_eq_left, reduceIte, if_false, if_true, Nat.reduceEqDiff, Nat.reduceAdd, Nat.reduceLeDiff, Int.reduceEq, Int.reduceLT, Int.reduceLE, Int.reduceToNat, decide_true, decide_false, DV.bool.injEq, DV.int.injEq, DV.mp.injEq, DV.msl.injEq, DV.tup.injEq, DV.agg.injEq, DV.fn.injEq, true_implies, forall_const, reduceCtorEq, implies_true, ne_eq, DMem.mt]
  refine LowerR_pc twoQ 1 ?_
  rw [low_two1]
  intro dc dm M Sc Sm hc hm nd _ _
  simp only [S3_swagelaw10_awake, MU_swagelaw10_awake, hc.cell, hm.cell, hc.plain, hm.plain, SW, wpD, evDL, evDM, evD, bldLD, List.contains_cons, List.contains_nil, Nat.reduceBEq, beq_self_eq_true, Nat.reduceMul, Nat.reduceSub, wpSp, Option.bind_some, Option.some.injEq, exists_eq_left', exists_eq_left, reduceIte, if_false, if_true, Nat.reduceEqDiff, Nat.reduceAdd, Nat.reduceLeDiff, Int.reduceEq, Int.reduceLT, Int.reduceLE, Int.reduceToNat, decide_true, decide_false, DV.bool.injEq, DV.int.injEq, DV.mp.injEq, DV.msl.injEq, DV.tup.injEq, DV.agg.injEq, DV.fn.injEq, true_implies, forall_const, reduceCtorEq, implies_true, ne_eq, DMem.mt]
  have hl4 : ∀ K : DMem, ∀ a b : DV, ldnD K 4 (.ip [.int .i64 1, .int .i64 10, a, b]) = some (.agg [.int .i64 1, .int .i64 10, a, b]) := fun K a b => rfl
  have hz1 : SzC ⟨1, 10, addC, []⟩ := ⟨by decide, by decide, by decide, by simp⟩
  have hf1 : fz M 4 (.agg [.int .i64 1, .int .i64 10, dc, dm]) = .agg (⟨1, 10, addC, []⟩ : Cod).c := by
    rw [fz_agg]
    simp only [List.map_cons, List.map_nil, fz_int]
    rw [hc.fz irG_ok (k := 3) (by decide), hm.fz metaG_ok (k := 3) (by decide)] <;> rfl
  simp only [hl4, SW, wpD, evDL, evDM, evD, bldLD, List.contains_cons, List.contains_nil, Nat.reduceBEq, beq_self_eq_true, Nat.reduceMul, Nat.reduceSub, wpSp, Option.bind_some, Option.some.injEq, exists_eq_left', exists_eq_left, reduceIte, if_false, if_true, Nat.reduceEqDiff, Nat.reduceAdd, Nat.reduceLeDiff, Int.reduceEq, Int.reduceLT, Int.reduceLE, Int.reduceToNat, decide_true, decide_false, DV.bool.injEq, DV.int.injEq, DV.mp.injEq, DV.msl.injEq, DV.tup.injEq, DV.agg.injEq, DV.fn.injEq, true_implies, forall_const, reduceCtorEq, implies_true, ne_eq, DMem.mt]
  refine CopyCode_fz ⟨1, 10, addC, []⟩ hz1 (by simp) hf1 fun dc2 dm2 M2 Sc2 Sm2 hc2 hm2 nd2 new2 sub2 => ?_
  have hln : dc2 ≠ .zsl := by
    rcases hc2 with ⟨_, h, _⟩ | ⟨b, c, ty, cs, S', h, _⟩
    · cases h
    · rw [h]; simp
  obtain ⟨hn1, hn2, hn3⟩ := List.nodup_append.1 nd2
  have hle := hc2.lenD
  obtain ⟨b, cc, ty, c1, cx, c2, S1, Sx, S2, hd, hMb, hl1, hlx, ⟨da, hcx, hda⟩, hSe, hcl, _, hput⟩ := hc2.inner irE_ok hn1 (i := 2) (by decide)
  have hl1 : c1.length = 2 * 9 := hl1
  have hcl : 4 ≤ cc := hcl
  have hix : ixD 9 dc2 (.int .i64 2) = some (.mp b 18) := by rw [hd]; exact ixM (show (2 : Nat) < 4 by decide)
  have e4 : decide (¬(((addC.length : Nat) : Int) = 4)) = false := by decide
  simp only [S2_swagelaw10_awake, MU_swagelaw10_awake, hc2.cell, hm2.cell, hc2.plain, hm2.plain, hle, hix, e4, SW, wpD, evDL, evDM, evD, bldLD, List.contains_cons, List.contains_nil, Nat.reduceBEq, beq_self_eq_true, Nat.reduceMul, Nat.reduceSub, wpSp, Option.bind_some, Option.some.injEq, exists_eq_left', exists_eq_left, reduceIte, if_false, if_true, Nat.reduceEqDiff, Nat.reduceAdd, Nat.reduceLeDiff, Int.reduceEq, Int.reduceLT, Int.reduceLE, Int.reduceToNat, decide_true, decide_false, DV.bool.injEq, DV.int.injEq, DV.mp.injEq, DV.msl.injEq, DV.tup.injEq, DV.agg.injEq, DV.fn.injEq, true_implies, forall_const, reduceCtorEq, implies_true, ne_eq, DMem.mt]
  refine stD hMb rfl rfl (by rw [List.length_append, List.length_append, hl1]; omega) (by show 18 + 6 + 1 ≤ cc * 9; omega) rfl fun M3 hM3 => ?_
  subst hcx
  rw [show (24 : Nat) = 2 * 9 + 6 from rfl, splD_field hl1 (by simp)] at hM3
  have hx3 : SlAt irE M3 dc2 addX Sc2 := hput M3 ⟨3, 2, 2, 3, 3, [], -1, 0, 2⟩ _ ⟨da, rfl, hda⟩ hM3
  have hbS : b ∈ Sc2 := by rw [hSe]; simp
  have n3 : ∀ y, y ≠ b → M3 y = M2 y := fun y hy => by rw [hM3, DMem.ins_ne _ _ hy]
  have hm3 : SlAt metaE M3 dm2 [] Sm2 := hm2.frame metaE_ok fun y hy => n3 y (by rintro rfl; exact hn3 y hbS y hy rfl)
  have hbn : ∀ y B, M y = some B → y ≠ b := fun y B hB => by rintro rfl; rw [new2 y (by simp [hbS])] at hB; cases hB
  have hcM : SlAt irG M3 dc addC Sc := hc.frame irG_ok fun y hy => by
    obtain ⟨B, hB⟩ := Option.ne_none_iff_exists'.1 (hc.here irG_ok y hy)
    rw [n3 y (hbn y B hB), hB, sub2 y B hB]
  have hmM : SlAt metaG M3 dm [] Sm := hm.frame metaG_ok fun y hy => by
    obtain ⟨B, hB⟩ := Option.ne_none_iff_exists'.1 (hm.here metaG_ok y hy)
    rw [n3 y (hbn y B hB), hB, sub2 y B hB]
  refine Pt.pc (d := slB (leadersF leadC)) (by simp only [fz_agg, fz_isl, fz_zsl, fz_int, List.map_cons, List.map_nil]; exact Leaders_pt ⟨0, 0, leadC, []⟩ (by decide)) ?_
  rw [lead_all]
  have hfa : fz M3 4 dc = slD Irc.c addC := hcM.fz irG_ok (k := 3) (by decide)
  have hfb : fz M3 4 dm = slD metaC [] := hmM.fz metaG_ok (k := 3) (by decide)
  have hfc : fz M3 4 dc2 = slD Irc.c addX := hx3.fz irE_ok (k := 3) (by decide)
  have hfd : fz M3 4 dm2 = slD metaC [] := hm3.fz metaE_ok (k := 3) (by decide)
  have m1 : pf Tryd.prog F_ir_May [.agg [slD Fnc.c twoQ], .agg [.int .i64 1, .int .i64 10, slD Irc.c addC, slD metaC []]] = some (.bool true) := (irMay_pf twoQ ⟨1, 10, addC, []⟩ hz1).trans (by rw [may_add])
  have m2 : pf Tryd.prog F_ir_May [.agg [slD Fnc.c twoQ], .agg [.int .i64 1, .int .i64 10, slD Irc.c addX, slD metaC []]] = some (.bool false) := (irMay_pf twoQ ⟨1, 10, addX, []⟩ ⟨by decide, by decide, by decide, by simp⟩).trans (by rw [may_bad])
  have m3 : pf Tryd.prog F_ir_May [.agg [slD Fnc.c twoQ], .agg [.int .i64 0, .int .i64 0, .isl 0 [], .isl 0 []]] = some (.bool false) := (irMay_pf twoQ ⟨0, 0, [], []⟩ ⟨by decide, by simp, by decide, by simp⟩).trans (by rw [may_none])
  have f2 : ∀ M k, fz M k (slD Fnc.c twoQ) = slD Fnc.c twoQ := fun M k => fz_prg M k twoQ
  have sb : pf Tryd.prog F_swagelaw0_SameBools [slB [true, true, true, true], .isl 4 [.bool true, .bool true, .bool true, .bool true]] = some (.bool true) := (SameBools_pf [true, true, true, true] [true, true, true, true] (by decide)).trans (by rw [decide_eq_true rfl])
  have sf : ∀ M k, fz M k (.isl 4 [.bool true, .bool true, .bool true, .bool true]) = .isl 4 [.bool true, .bool true, .bool true, .bool true] := fun M k => fz_slB M k [true, true, true, true]
  simp only [S1_swagelaw10_awake, MU_swagelaw10_awake, ldnI1, hl4, f2, fz_agg, fz_int, fz_zsl, hfa, hfb, hfc, hfd, m1, m2, m3, fz_slB, sf, sb, grdTT, List.map_cons, List.map_nil, SW, wpD, evDL, evDM, evD, bldLD, List.contains_cons, List.contains_nil, Nat.reduceBEq, beq_self_eq_true, Nat.reduceMul, Nat.reduceSub, wpSp, Option.bind_some, Option.some.injEq, exists_eq_left', exists_eq_left, reduceIte, if_false, if_true, Nat.reduceEqDiff, Nat.reduceAdd, Nat.reduceLeDiff, Int.reduceEq, Int.reduceLT, Int.reduceLE, Int.reduceToNat, decide_true, decide_false, DV.bool.injEq, DV.int.injEq, DV.mp.injEq, DV.msl.injEq, DV.tup.injEq, DV.agg.injEq, DV.fn.injEq, true_implies, forall_const, reduceCtorEq, implies_true, ne_eq, DMem.mt]
end Go.Proofs.YtpehdlobicocpaaDoor.Pf
namespace Go.Proofs.YtpehdlobicocpaaDoor.Pf
open Go Go.RowKit Go.Proofs Go.Proofs.YtpehdlobicocpaaDoor.Mw Go.Proofs.YtpehdlobicocpaaDoor.Sx
set_option linter.unusedVariables false
set_option linter.unusedSimpArgs false
set_option maxRecDepth 16000
def formC : List Irc := [⟨10, 0, 0, 0, 0, [], 0, 0, 0⟩, ⟨1, 1, 0, 0, 4, [], 0, 0, 0⟩, ⟨3, 2, 1, 0, 3, [], 0, 0, 0⟩, ⟨9, 0, 2, 1, 5, [], 0, 0, 0⟩, ⟨5, 0, 2, 0, 0, [], 1, 0, 0⟩, ⟨6, 1, 0, 0, 1, [0, 1], 1, 0, 0⟩, ⟨7, 0, 1, 0, 0, [], 1, 0, 0⟩, ⟨11, 0, 0, 0, 0, [], 0, 0, 0⟩, ⟨2, 0, 1, 0, 0, [], 0, 0, 0⟩, ⟨0, 0, 0, 0, 0, [], 0, 0, 0⟩, ⟨8, 0, 0, 0, 0, [], 0, 0, 0⟩]
structure FormIn (M : DMem) (bC bP bS : Nat) (code : List Irc) (pfn ppc v : Int) : Prop where
  c : SlAt irG M (.msl bC 0 11 11) code [bC]
  p : M bP = some ⟨51, 4, [.int .i64 pfn, .int .i64 ppc, .msl bS 0 1 1, .isl 1 [.bool true, .int .i64 7]]⟩
  s : M bS = some ⟨54, 2, [.bool false, .int .i64 v]⟩
def formM (pfn ppc v : Int) : List (List Part) := [[⟨pfn, ppc, [⟨false, v⟩], [⟨true, 7⟩]⟩]]
theorem FormIn.fzc {M : DMem} {bC bP bS : Nat} {pfn ppc v : Int} {code : List Irc} (h : FormIn M bC bP bS code pfn ppc v) : fz M 4 (.msl bC 0 11 11) = slD Irc.c code := h.c.fz irG_ok (k := 3) (by decide)
theorem FormIn.fzm {M : DMem} {bC bP bS : Nat} {pfn ppc v : Int} {code : List Irc} (h : FormIn M bC bP bS code pfn ppc v) : fz M 4 (.isl 1 [.msl bP 0 1 1]) = slD metaC (formM pfn ppc v) := by
  rw [fz_isl]
  simp only [List.map_cons, List.map_nil]
  rw [fz_msl h.p 3 0 _ _ (Nat.le_refl _)]
  simp only [List.map_cons, List.map_nil, fz_int, List.drop_zero]
  rw [fz_msl h.s 2 0 _ _ (Nat.le_refl _), fz_isl]
  simp only [List.map_cons, List.map_nil, fz_int, fz_bool, List.drop_zero] <;> rfl
theorem FormIn.fz {M : DMem} {bC bP bS : Nat} {fn regs pfn ppc v : Int} {code : List Irc} (h : FormIn M bC bP bS code pfn ppc v) :
    fz M 4 (.agg [.int .i64 fn, .int .i64 regs, .msl bC 0 11 11, .isl 1 [.msl bP 0 1 1]]) = .agg (⟨fn, regs, code, formM pfn ppc v⟩ : Cod).c := by
  rw [fz_agg]
  simp only [List.map_cons, List.map_nil, fz_int]
  rw [h.fzc, h.fzm]
theorem FormIn.put {M : DMem} {bC bP bS : Nat} {pfn ppc v : Int} {code : List Irc} (h : FormIn M bC bP bS code pfn ppc v) (n2 : bP ≠ bC) (n3 : bS ≠ bC) {i off : Nat} (hl : code.length = 11) (hi : i < code.length) (ho : off < 9) {w : DV} (hw : cellsD w = some [w]) (hpl : plainD w = true) (y : Irc)
    (hrep : ∀ cx, irG.rep M code[i] cx [] → irG.rep M y (cx.set off w) []) {Post : DV → DMem → Prop} (hP : ∀ M', FormIn M' bC bP bS (code.set i y) pfn ppc v → (∀ y, y ≠ bC → M' y = M y) → Post (.raw undef) M') : StoreD M 1 (.mp bC (i * 9 + off)) w Post := by
  obtain ⟨b, c, ty, c1, cx, c2, S1, Sx, S2, hd, hMb, hl1, hlx, hcx, hSe, hcl, _, hput⟩ := h.c.inner irG_ok (by simp) hi
  have hb : bC = b ∧ (11 : Nat) = c := by
    have := hd; rw [hl] at this; cases this; exact ⟨rfl, rfl⟩
  obtain ⟨rfl, rfl⟩ := hb
  have hS0 : S1 = [] ∧ Sx = [] ∧ S2 = [] := by
    have : S1 ++ Sx ++ S2 = [] := by simpa using hSe.symm
    simpa using this
  obtain ⟨rfl, rfl, rfl⟩ := hS0
  have hl1 : c1.length = i * 9 := hl1
  have hlx : cx.length = 9 := hlx
  refine stD hMb hw rfl (by rw [List.length_append, List.length_append, hl1, hlx]; omega) (by show i * 9 + off + 1 ≤ 11 * 9; omega) (by simp [hpl]) fun M' hM' => ?_
  rw [splD_field hl1 (by omega)] at hM'
  have hne : ∀ y, y ≠ bC → M' y = M y := fun y hy => by rw [hM', DMem.ins_ne _ _ hy]
  exact hP M' ⟨hput M' y _ (hrep cx hcx) hM', by rw [hne bP n2]; exact h.p, by rw [hne bS n3]; exact h.s⟩ hne
theorem FormIn.keep {M M' : DMem} {bC bP bS : Nat} {pfn ppc v : Int} {code : List Irc} (h : FormIn M bC bP bS code pfn ppc v) (h1 : M' bC = M bC) (h2 : M' bP = M bP) (h3 : M' bS = M bS) : FormIn M' bC bP bS code pfn ppc v :=
  ⟨h.c.frame irG_ok fun b hb => by rw [List.mem_singleton] at hb; rw [hb, h1], by rw [h2]; exact h.p, by rw [h3]; exact h.s⟩
theorem st_cell {M : DMem} {b off n ty : Nat} {cs : List DV} (hM : M b = some ⟨ty, n, cs⟩) (hl : cs.length = n) (ho : off < n) {w : DV} (hw : cellsD w = some [w]) (hpl : plainD w = true) {Post : DV → DMem → Prop} (hP : ∀ M', M' b = some ⟨ty, n, cs.set off w⟩ → (∀ y, y ≠ b → M' y = M y) → Post (.raw undef) M') : StoreD M 1 (.mp b off) w Post := by
  refine stD hM hw rfl (by omega) (by omega) (by simp [hpl]) fun M' hM' => ?_
  rw [splD_one (by omega)] at hM'
  exact hP M' (by rw [hM', DMem.ins_same]) fun y hy => by rw [hM', DMem.ins_ne _ _ hy]
theorem may_form : codeMayB twoQ ⟨0, 3, formC, formM 0 1 0⟩ = true := by decide +kernel
theorem form_szc {fn regs pfn ppc v : Int} {code : List Irc} (h : code.length ≤ 100) (ha : ∀ x ∈ code, x.args.length ≤ 100) : SzC ⟨fn, regs, code, formM pfn ppc v⟩ :=
  ⟨by show code.length ≤ _; omega, fun x hx => by have := ha x hx; omega, by show (formM pfn ppc v).length ≤ _; simp [formM], by simp [formM, SzM]⟩
theorem form_args {i : Nat} {y : Irc} (hy : y.args.length ≤ 100) : ∀ x ∈ formC.set i y, x.args.length ≤ 100 := by
  intro x hx
  have hf : ∀ x ∈ formC, x.args.length ≤ 100 := by decide
  rcases List.mem_or_eq_of_mem_set hx with h | h
  · exact hf x h
  · rw [h]; exact hy
def Bad (M : DMem) (q8 : Nat) : Prop := ∃ a b c d e, ∃ c' : Cod, M q8 = some ⟨38, 4, [a, b, c, d]⟩ ∧ fz M 4 (.agg [a, b, c, d]) = .agg e ∧ FrozL e ∧ ImpL e c'.c ∧ SzC c' ∧ codeMayB twoQ c' = false
theorem Bad.eq {M : DMem} {q8 : Nat} {a b c d : DV} {c' : Cod} (hq : M q8 = some ⟨38, 4, [a, b, c, d]⟩) (hf : fz M 4 (.agg [a, b, c, d]) = .agg c'.c) (hz : SzC c') (hb : codeMayB twoQ c' = false) : Bad M q8 := ⟨a, b, c, d, c'.c, c', hq, hf, Cod.froz c', ImpL.refl _, hz, hb⟩
theorem Bad.of {M : DMem} {q8 bC bP bS : Nat} {fn regs pfn ppc v : Int} {code : List Irc} (hq : M q8 = some ⟨38, 4, [.int .i64 fn, .int .i64 regs, .msl bC 0 11 11, .isl 1 [.msl bP 0 1 1]]⟩) (h : FormIn M bC bP bS code pfn ppc v) (hl : code.length ≤ 100) (ha : ∀ x ∈ code, x.args.length ≤ 100) (hb : codeMayB twoQ ⟨fn, regs, code, formM pfn ppc v⟩ = false) : Bad M q8 :=
  Bad.eq hq h.fz (form_szc hl ha) hb
theorem bad_head {p : List Fnc} {c : Cod} (h : headB p c = false) : codeMayB p c = false := by unfold codeMayB; rw [h] <;> rfl
theorem bad_ir {p : List Fnc} {c : Cod} {i : Nat} {x : Irc} (hx : c.code[i]? = some x) (h : irMayB p c.regs c.code.length c.metas.length i x = false) : codeMayB p c = false := by
  have : irsB p c = false := by
    rw [Bool.eq_false_iff]
    intro h2
    unfold irsB at h2
    rw [List.all_eq_true] at h2
    have hi : i < c.code.length := by
      rcases Nat.lt_or_ge i c.code.length with h | h
      · exact h
      · rw [List.getElem?_eq_none h] at hx; cases hx
    have := h2 i (List.mem_range.2 hi)
    rw [hx] at this
    replace this : irMayB p c.regs c.code.length c.metas.length i x = true := this
    rw [h] at this
    cases this
  unfold codeMayB; rw [this]; simp
theorem bad_set {p : List Fnc} {fn regs pfn ppc v : Int} {i : Nat} {y : Irc} (hi : i < 11) (h : irMayB p regs 11 1 i y = false) : codeMayB p ⟨fn, regs, formC.set i y, formM pfn ppc v⟩ = false :=
  bad_ir (i := i) (x := y) (by rw [List.getElem?_set_self (by exact hi)]) (by
    show irMayB p regs (formC.set i y).length 1 i y = false
    rw [List.length_set]; exact h)
theorem bad_meta {p : List Fnc} {c : Cod} (h : c.metas.all (metaB p c.fn c.regs) = false) : codeMayB p c = false := by unfold codeMayB; rw [h]; simp
theorem bad_cost {p : List Fnc} {regs : Int} {n m i : Nat} {x : Irc} (h : 256 < x.cost) : irMayB p regs n m i x = false := by
  unfold irMayB; rw [show decide (0 ≤ x.cost ∧ x.cost ≤ 256) = false from decide_eq_false (by omega)] <;> rfl
theorem bad_pc {p : List Fnc} {regs : Int} {n m i : Nat} {x : Irc} (h : 64 ≤ x.pc) : irMayB p regs n m i x = false := by
  unfold irMayB; rw [show decide (0 ≤ x.pc ∧ x.pc < 64) = false from decide_eq_false (by omega)]; simp
theorem bad_kind {p : List Fnc} {regs : Int} {n m i : Nat} {x : Irc} (h : 12 ≤ x.kind) : irMayB p regs n m i x = false := by
  unfold irMayB
  rw [if_neg (by omega), if_neg (by omega), if_neg (by omega), if_neg (by omega), if_neg (by omega), if_neg (by omega), if_neg (by omega), if_neg (by omega), if_neg (by omega), if_neg (by omega), if_neg (by omega)]
  simp
theorem reg_out {regs x : Int} (h : regs ≤ x) : regB regs x = false := by unfold regB; rw [show decide (x < regs) = false from decide_eq_false (by omega)]; simp
theorem bad9 {d : Int} (hd : 1 ≤ d ∧ d ≤ 1024) : irMayB twoQ 3 11 1 1 ⟨1, 1, 0, 0, 2147483647 + d, [], 0, 0, 0⟩ = false := by
  have : isB (2147483647 + d) = false := by unfold isB; simp; omega
  simp [irMayB, this]
theorem bad10 {d : Int} (hd : 1 ≤ d ∧ d ≤ 1024) : irMayB twoQ 3 11 1 1 ⟨1, 1, d, 0, 4, [], 0, 0, 0⟩ = false := by
  have : d ≠ 0 := by omega
  simp [irMayB, this]
theorem bad11 {d : Int} (hd : 1 ≤ d ∧ d ≤ 1024) : irMayB twoQ 3 11 1 2 ⟨3, 2, 1, 0, 9 + d, [], 0, 0, 0⟩ = false := by
  have : ¬(9 + d ≤ 9) := by omega
  simp [irMayB, this]
theorem bad12 {d : Int} (hd : 1 ≤ d ∧ d ≤ 1024) : irMayB twoQ 3 11 1 2 ⟨3, 2 + d, 1, 0, 3, [], 0, 0, 0⟩ = false := by
  have : regB 3 (2 + d) = false := reg_out (by omega)
  simp [irMayB, this]
theorem bad13 {d : Int} (hd : 1 ≤ d ∧ d ≤ 1024) : irMayB twoQ 3 11 1 3 ⟨9, 0, 2, 1 + d, 5, [], 0, 0, 0⟩ = false := by
  have h1 : ¬(1 + d = 0) := by omega
  have h2 : ¬(1 + d = 1) := by omega
  simp [irMayB, h1, h2]
theorem bad14 {d : Int} (hd : 1 ≤ d ∧ d ≤ 1024) : irMayB twoQ 3 11 1 3 ⟨9, 0, 2, 1, 5, [], 0, d, 0⟩ = false := by
  have h1 : ¬(d < 1) := by omega
  simp [irMayB, h1]
theorem bad16 {d : Int} (hd : 1 ≤ d ∧ d ≤ 1024) : irMayB twoQ 3 11 1 4 ⟨5, 0, 2, 0, 10 + d, [], 1, 0, 0⟩ = false := by
  have h1 : ¬(10 + d < 11) := by omega
  simp [irMayB, h1]
theorem bad2 {d : Int} (hd : 1 ≤ d ∧ d ≤ 1024) : codeMayB twoQ ⟨0, 64 + d, formC, formM 0 1 0⟩ = false :=
  bad_head (decide_eq_false fun h => by have := h.2.2.2.2.2.1; simp only at this; omega)
theorem bad20 {d : Int} (hd : 1 ≤ d ∧ d ≤ 1024) : codeMayB twoQ ⟨0, 3, formC, formM 0 (6 + d) 0⟩ = false := by
  have hl : (heightsR twoQ 0).1.length = 6 := by decide +kernel
  have : heightF twoQ 0 (6 + d) = -1 := by
    unfold heightF; rw [if_neg]; rintro ⟨_, _, h⟩; rw [hl] at h; omega
  refine bad_meta ?_
  simp [formM, metaB, partB, this]
theorem bad22 {d : Int} (hd : 1 ≤ d ∧ d ≤ 1024) : codeMayB twoQ ⟨0, 3, formC, formM 0 1 (2 + d)⟩ = false := by
  have : regB 3 (2 + d) = false := reg_out (by omega)
  refine bad_meta ?_
  simp [formM, metaB, partB, srcB, this]
theorem may_form0 : codeMayB twoQ ⟨2, 3, formC, formM 0 1 0⟩ = false := by decide +kernel
theorem may_form1 : codeMayB twoQ ⟨0, 0, formC, formM 0 1 0⟩ = false := by decide +kernel
theorem may_form3 : codeMayB twoQ ⟨0, 3, [], formM 0 1 0⟩ = false := by decide +kernel
theorem may_form4 : codeMayB twoQ ⟨0, 3, formC.take 10, formM 0 1 0⟩ = false := by decide +kernel
theorem may_form5 : codeMayB twoQ ⟨0, 3, formC, []⟩ = false := by decide +kernel
theorem may_form15 : codeMayB twoQ ⟨0, 3, formC.set 4 ⟨5, 0, 2, 0, 0, [], 0, 0, 0⟩, formM 0 1 0⟩ = false := by decide +kernel
theorem may_form17 : codeMayB twoQ ⟨0, 3, formC.set 5 ⟨6, 1, 0, 0, 1, [0], 1, 0, 0⟩, formM 0 1 0⟩ = false := by decide +kernel
theorem may_form18 : codeMayB twoQ ⟨0, 3, formC.set 5 ⟨6, 1, 0, 0, 1, [0, 1], 0, 0, 0⟩, formM 0 1 0⟩ = false := by decide +kernel
theorem may_form19 : codeMayB twoQ ⟨0, 3, formC.set 6 ⟨7, 0, 1, 0, 0, [], 0, 0, 0⟩, formM 0 1 0⟩ = false := by decide +kernel
theorem may_form21 : codeMayB twoQ ⟨0, 3, formC, [[⟨0, 1, [⟨false, 0⟩], []⟩]]⟩ = false := by decide +kernel
theorem may_form23 : codeMayB twoQ ⟨0, 3, formC, formM 1 1 0⟩ = false := by decide +kernel
theorem fz_two (M : DMem) (k : Nat) : fz M k (.agg [slD Fnc.c twoQ]) = .agg [slD Fnc.c twoQ] := fz_of (Froz.agg (FrozL.nil.cons (Froz.slD Fnc.froz twoQ))) _ _
theorem ix_1 (b : Nat) : ixD 9 (.msl b 0 11 11) (.int .i64 1) = some (.mp b 9) := rfl
theorem ix_2 (b : Nat) : ixD 9 (.msl b 0 11 11) (.int .i64 2) = some (.mp b 18) := rfl
theorem ix_3 (b : Nat) : ixD 9 (.msl b 0 11 11) (.int .i64 3) = some (.mp b 27) := rfl
theorem ix_4 (b : Nat) : ixD 9 (.msl b 0 11 11) (.int .i64 4) = some (.mp b 36) := rfl
theorem ix_5 (b : Nat) : ixD 9 (.msl b 0 11 11) (.int .i64 5) = some (.mp b 45) := rfl
theorem ix_6 (b : Nat) : ixD 9 (.msl b 0 11 11) (.int .i64 6) = some (.mp b 54) := rfl
end Go.Proofs.YtpehdlobicocpaaDoor.Pf
namespace Go.Proofs.YtpehdlobicocpaaDoor.Pf
open Go Go.RowKit Go.Proofs Go.Proofs.YtpehdlobicocpaaDoor.Mw Go.Proofs.YtpehdlobicocpaaDoor.Sx
set_option linter.unusedVariables false
set_option linter.unusedSimpArgs false
set_option maxRecDepth 16000
theorem bad_pf {M : DMem} {q8 : Nat} (h : Bad M q8) : ∃ a b c d e, M q8 = some ⟨38, 4, [a, b, c, d]⟩ ∧ fz M 4 (.agg [a, b, c, d]) = .agg e ∧ pf Tryd.prog 18 [.agg [slD Fnc.c twoQ], .agg e] = some (.bool false) := by
  obtain ⟨a, b, c, d, e, c', h1, h2, h3, h5, h4, h6⟩ := h
  refine ⟨a, b, c, d, e, h1, h2, ?_⟩
  exact pf_weak ((irMay_pf twoQ c' h4).trans (by rw [h6])) ((FrozL.nil.cons (Froz.agg h3)).cons (Froz.agg (FrozL.nil.cons (Froz.slD Fnc.froz twoQ)))) (ImpL.cons (Imp.refl _) (ImpL.cons (Imp.agg h5) (ImpL.refl _)))
theorem form_a : ∀ x ∈ formC, x.args.length ≤ 100 := by decide
theorem bad_3 {M : DMem} {q8 bC bP bS : Nat} (hq : M q8 = some ⟨38, 4, [.int .i64 0, .int .i64 3, .zsl, .isl 1 [.msl bP 0 1 1]]⟩) (h : FormIn M bC bP bS formC 0 1 0) : Bad M q8 :=
  Bad.eq (c' := ⟨0, 3, [], formM 0 1 0⟩) hq (by rw [fz_agg]; simp only [List.map_cons, List.map_nil, fz_int]; rw [h.fzm] <;> rfl) (form_szc (by decide) (by simp)) may_form3
theorem bad_4 {M : DMem} {q8 bC bP bS : Nat} (hq : M q8 = some ⟨38, 4, [.int .i64 0, .int .i64 3, .msl bC 0 10 11, .isl 1 [.msl bP 0 1 1]]⟩) (h : FormIn M bC bP bS formC 0 1 0) : Bad M q8 := by
  have e : fz M 4 (.msl bC 0 10 11) = .isl 10 (formC.flatMap Irc.c) := by
    obtain ⟨b, c, ty, cs, S', hd, hM, hrow, hS, hcl⟩ := h.c.at (by decide)
    cases hd
    rw [fz_msl hM 3 0 _ _ (by decide)]
    rw [hrow.fz irG_ok (k := 3) (by decide)] <;> rfl
  refine ⟨_, _, _, _, [.int .i64 0, .int .i64 3, .isl 10 (formC.flatMap Irc.c), slD metaC (formM 0 1 0)], ⟨0, 3, formC.take 10, formM 0 1 0⟩, hq, ?_, ?_, ?_, form_szc (by decide) (by decide), may_form4⟩
  · rw [fz_agg]; simp only [List.map_cons, List.map_nil, fz_int]; rw [h.fzm, e]
  · exact (((FrozL.nil.cons (Froz.slD metaC_froz _)).cons (Froz.isl (FrozL.flatMap Irc.froz _))).cons (Froz.int _ _)).cons (Froz.int _ _)
  · refine ImpL.cons (Imp.refl _) (ImpL.cons (Imp.refl _) (ImpL.cons ?_ (ImpL.refl _)))
    exact Imp.isl (cs := (formC.take 10).flatMap Irc.c) (rest := (formC.drop 10).flatMap Irc.c)
theorem bad_5 {M : DMem} {q8 bC bP bS : Nat} (hq : M q8 = some ⟨38, 4, [.int .i64 0, .int .i64 3, .msl bC 0 11 11, .zsl]⟩) (h : FormIn M bC bP bS formC 0 1 0) : Bad M q8 :=
  Bad.eq (c' := ⟨0, 3, formC, []⟩) hq (by rw [fz_agg]; simp only [List.map_cons, List.map_nil, fz_int]; rw [h.fzc] <;> rfl) ⟨by decide, by decide, by decide, by simp⟩ may_form5
theorem slc_10 (b : Nat) : slcD 9 (.msl b 0 11 11) (.tup []) (.tup [.int .i64 10]) (.tup []) = some (.msl b 0 10 11) := rfl
theorem form_end {KK XX RR δ} {M : DMem} {q8 : Nat} (h6 : δ 6 = .ip [slD Fnc.c twoQ]) (h8 : δ 8 = .mp q8 0) (h : Bad M q8) (hR : RR (δ.upd 4 (.bool true)) M) :
    wpD Tryd.prog MU_swagelaw10_IrForms (fun f => roL.contains f) (fun t => G_swagelaw10_IrForms.contains t) 176 S1_swagelaw10_IrForms KK XX RR δ M := by
  obtain ⟨a, b, c, d, e, h1, h2, h4⟩ := bad_pf h
  have h3 : ldnD M 1 (.ip [slD Fnc.c twoQ]) = some (.agg [slD Fnc.c twoQ]) := rfl
  have h5 : (List.map (fz M 4) [.agg [slD Fnc.c twoQ], .agg [a, b, c, d]]) = [.agg [slD Fnc.c twoQ], .agg e] := by
    rw [List.map_cons, List.map_cons, List.map_nil, fz_two, h2]
  simp (config := { failIfUnchanged := false }) only [List.map_cons, List.map_nil, fz_agg] at h5
  simp only [S1_swagelaw10_IrForms, h6, h8, h1, h3, SW, wpD, evDL, evDM, evD, bldLD, List.contains_cons, List.contains_nil, Nat.reduceBEq, beq_self_eq_true, Nat.reduceMul, Nat.reduceSub, wpSp, Option.bind_some, Option.some.injEq, exists_eq_left', exists_eq_left, reduceIte, if_false, if_true, Nat.reduceEqDiff, Nat.reduceAdd, Nat.reduceLeDiff, Int.reduceEq, Int.reduceLT, Int.reduceLE, Int.reduceToNat, decide_true, decide_false, DV.bool.injEq, DV.int.injEq, DV.mp.injEq, DV.msl.injEq, DV.tup.injEq, DV.agg.injEq, DV.fn.injEq, true_implies, forall_const, reduceCtorEq, implies_true, ne_eq, DMem.mt]
  rw [h5, h4]
  exact ⟨_, rfl, hR⟩
-- CASES
set_option maxHeartbeats 4000000 in
theorem form_w0 {KK XX RR δ} {M : DMem} {q8 bC bP bS jn : Nat} {which d : Int} (hq : M q8 = some ⟨38, 4, [.int .i64 0, .int .i64 3, .msl bC 0 11 11, .isl 1 [.msl bP 0 1 1]]⟩) (hI : FormIn M bC bP bS formC 0 1 0) (n1 : q8 ≠ bC) (n2 : bP ≠ bC) (n3 : bS ≠ bC) (n4 : bP ≠ q8) (n5 : bS ≠ q8) (hd : 1 ≤ d ∧ d ≤ 1024) (hj : jn < 11)
    (h0 : δ 0 = .int .i64 which) (h5 : δ 5 = .int .i64 d) (h6 : δ 6 = .ip [slD Fnc.c twoQ]) (h8 : δ 8 = .mp q8 0) (h9 : δ 9 = .mp bC (jn * 9)) (h52 : δ 52 = .int .u64 0) (hR : ∀ δ' M', δ' 4 = .bool true → RR δ' M') :
    wpD Tryd.prog MU_swagelaw10_IrForms (fun f => roL.contains f) (fun t => G_swagelaw10_IrForms.contains t) 176 (.seq (.block 0 S116_swagelaw10_IrForms) S1_swagelaw10_IrForms) KK XX RR δ M := by
    simp (config := { maxSteps := 1000000 }) only [S116_swagelaw10_IrForms, h0, h5, h6, h8, h9, h52, hq, MU_swagelaw10_IrForms, ix_1, ix_2, ix_3, ix_4, ix_5, ix_6, slc_10, SW, wpD, evDL, evDM, evD, bldLD, List.contains_cons, List.contains_nil, Nat.reduceBEq, beq_self_eq_true, Nat.reduceMul, Nat.reduceSub, wpSp, Option.bind_some, Option.some.injEq, exists_eq_left', exists_eq_left, reduceIte, if_false, if_true, Nat.reduceEqDiff, Nat.reduceAdd, Nat.reduceLeDiff, Int.reduceEq, Int.reduceLT, Int.reduceLE, Int.reduceToNat, decide_true, decide_false, DV.bool.injEq, DV.int.injEq, DV.mp.injEq, DV.msl.injEq, DV.tup.injEq, DV.agg.injEq, DV.fn.injEq, true_implies, forall_const, reduceCtorEq, implies_true, ne_eq, DMem.mt]
    refine st_cell hq rfl (show 0 < 4 by decide) (w := .int .i64 2) rfl rfl fun M' g1 g2 => ?_
    have hI' := hI.keep (g2 bC n1.symm) (g2 bP n4) (g2 bS n5)
    exact form_end h6 h8 (Bad.of g1 hI' (by decide) form_a may_form0) (hR _ _ rfl)
set_option maxHeartbeats 4000000 in
theorem form_w1 {KK XX RR δ} {M : DMem} {q8 bC bP bS jn : Nat} {which d : Int} (hq : M q8 = some ⟨38, 4, [.int .i64 0, .int .i64 3, .msl bC 0 11 11, .isl 1 [.msl bP 0 1 1]]⟩) (hI : FormIn M bC bP bS formC 0 1 0) (n1 : q8 ≠ bC) (n2 : bP ≠ bC) (n3 : bS ≠ bC) (n4 : bP ≠ q8) (n5 : bS ≠ q8) (hd : 1 ≤ d ∧ d ≤ 1024) (hj : jn < 11)
    (h0 : δ 0 = .int .i64 which) (h5 : δ 5 = .int .i64 d) (h6 : δ 6 = .ip [slD Fnc.c twoQ]) (h8 : δ 8 = .mp q8 0) (h9 : δ 9 = .mp bC (jn * 9)) (h52 : δ 52 = .int .u64 1) (hR : ∀ δ' M', δ' 4 = .bool true → RR δ' M') :
    wpD Tryd.prog MU_swagelaw10_IrForms (fun f => roL.contains f) (fun t => G_swagelaw10_IrForms.contains t) 176 (.seq (.block 0 S116_swagelaw10_IrForms) S1_swagelaw10_IrForms) KK XX RR δ M := by
    simp (config := { maxSteps := 1000000 }) only [S116_swagelaw10_IrForms, h0, h5, h6, h8, h9, h52, hq, MU_swagelaw10_IrForms, ix_1, ix_2, ix_3, ix_4, ix_5, ix_6, slc_10, SW, wpD, evDL, evDM, evD, bldLD, List.contains_cons, List.contains_nil, Nat.reduceBEq, beq_self_eq_true, Nat.reduceMul, Nat.reduceSub, wpSp, Option.bind_some, Option.some.injEq, exists_eq_left', exists_eq_left, reduceIte, if_false, if_true, Nat.reduceEqDiff, Nat.reduceAdd, Nat.reduceLeDiff, Int.reduceEq, Int.reduceLT, Int.reduceLE, Int.reduceToNat, decide_true, decide_false, DV.bool.injEq, DV.int.injEq, DV.mp.injEq, DV.msl.injEq, DV.tup.injEq, DV.agg.injEq, DV.fn.injEq, true_implies, forall_const, reduceCtorEq, implies_true, ne_eq, DMem.mt]
    refine st_cell hq rfl (show 1 < 4 by decide) (w := .int .i64 0) rfl rfl fun M' g1 g2 => ?_
    have hI' := hI.keep (g2 bC n1.symm) (g2 bP n4) (g2 bS n5)
    exact form_end h6 h8 (Bad.of g1 hI' (by decide) form_a may_form1) (hR _ _ rfl)
set_option maxHeartbeats 4000000 in
theorem form_w2 {KK XX RR δ} {M : DMem} {q8 bC bP bS jn : Nat} {which d : Int} (hq : M q8 = some ⟨38, 4, [.int .i64 0, .int .i64 3, .msl bC 0 11 11, .isl 1 [.msl bP 0 1 1]]⟩) (hI : FormIn M bC bP bS formC 0 1 0) (n1 : q8 ≠ bC) (n2 : bP ≠ bC) (n3 : bS ≠ bC) (n4 : bP ≠ q8) (n5 : bS ≠ q8) (hd : 1 ≤ d ∧ d ≤ 1024) (hj : jn < 11)
    (h0 : δ 0 = .int .i64 which) (h5 : δ 5 = .int .i64 d) (h6 : δ 6 = .ip [slD Fnc.c twoQ]) (h8 : δ 8 = .mp q8 0) (h9 : δ 9 = .mp bC (jn * 9)) (h52 : δ 52 = .int .u64 2) (hR : ∀ δ' M', δ' 4 = .bool true → RR δ' M') :
    wpD Tryd.prog MU_swagelaw10_IrForms (fun f => roL.contains f) (fun t => G_swagelaw10_IrForms.contains t) 176 (.seq (.block 0 S116_swagelaw10_IrForms) S1_swagelaw10_IrForms) KK XX RR δ M := by
    have ew : wr64 (64 + d) = 64 + d := w64 (by omega)
    simp (config := { maxSteps := 1000000 }) only [S116_swagelaw10_IrForms, S115_swagelaw10_IrForms, ew, h0, h5, h6, h8, h9, h52, hq, MU_swagelaw10_IrForms, ix_1, ix_2, ix_3, ix_4, ix_5, ix_6, slc_10, SW, wpD, evDL, evDM, evD, bldLD, List.contains_cons, List.contains_nil, Nat.reduceBEq, beq_self_eq_true, Nat.reduceMul, Nat.reduceSub, wpSp, Option.bind_some, Option.some.injEq, exists_eq_left', exists_eq_left, reduceIte, if_false, if_true, Nat.reduceEqDiff, Nat.reduceAdd, Nat.reduceLeDiff, Int.reduceEq, Int.reduceLT, Int.reduceLE, Int.reduceToNat, decide_true, decide_false, DV.bool.injEq, DV.int.injEq, DV.mp.injEq, DV.msl.injEq, DV.tup.injEq, DV.agg.injEq, DV.fn.injEq, true_implies, forall_const, reduceCtorEq, implies_true, ne_eq, DMem.mt]
    refine st_cell hq rfl (show 1 < 4 by decide) (w := .int .i64 (64 + d)) rfl rfl fun M' g1 g2 => ?_
    have hI' := hI.keep (g2 bC n1.symm) (g2 bP n4) (g2 bS n5)
    exact form_end h6 h8 (Bad.of g1 hI' (by decide) form_a (bad2 hd)) (hR _ _ rfl)
set_option maxHeartbeats 4000000 in
theorem form_w3 {KK XX RR δ} {M : DMem} {q8 bC bP bS jn : Nat} {which d : Int} (hq : M q8 = some ⟨38, 4, [.int .i64 0, .int .i64 3, .msl bC 0 11 11, .isl 1 [.msl bP 0 1 1]]⟩) (hI : FormIn M bC bP bS formC 0 1 0) (n1 : q8 ≠ bC) (n2 : bP ≠ bC) (n3 : bS ≠ bC) (n4 : bP ≠ q8) (n5 : bS ≠ q8) (hd : 1 ≤ d ∧ d ≤ 1024) (hj : jn < 11)
    (h0 : δ 0 = .int .i64 which) (h5 : δ 5 = .int .i64 d) (h6 : δ 6 = .ip [slD Fnc.c twoQ]) (h8 : δ 8 = .mp q8 0) (h9 : δ 9 = .mp bC (jn * 9)) (h52 : δ 52 = .int .u64 3) (hR : ∀ δ' M', δ' 4 = .bool true → RR δ' M') :
    wpD Tryd.prog MU_swagelaw10_IrForms (fun f => roL.contains f) (fun t => G_swagelaw10_IrForms.contains t) 176 (.seq (.block 0 S116_swagelaw10_IrForms) S1_swagelaw10_IrForms) KK XX RR δ M := by
    simp (config := { maxSteps := 1000000 }) only [S116_swagelaw10_IrForms, S115_swagelaw10_IrForms, h0, h5, h6, h8, h9, h52, hq, MU_swagelaw10_IrForms, ix_1, ix_2, ix_3, ix_4, ix_5, ix_6, slc_10, SW, wpD, evDL, evDM, evD, bldLD, List.contains_cons, List.contains_nil, Nat.reduceBEq, beq_self_eq_true, Nat.reduceMul, Nat.reduceSub, wpSp, Option.bind_some, Option.some.injEq, exists_eq_left', exists_eq_left, reduceIte, if_false, if_true, Nat.reduceEqDiff, Nat.reduceAdd, Nat.reduceLeDiff, Int.reduceEq, Int.reduceLT, Int.reduceLE, Int.reduceToNat, decide_true, decide_false, DV.bool.injEq, DV.int.injEq, DV.mp.injEq, DV.msl.injEq, DV.tup.injEq, DV.agg.injEq, DV.fn.injEq, true_implies, forall_const, reduceCtorEq, implies_true, ne_eq, DMem.mt]
    refine st_cell hq rfl (show 2 < 4 by decide) (w := .zsl) rfl rfl fun M' g1 g2 => ?_
    have hI' := hI.keep (g2 bC n1.symm) (g2 bP n4) (g2 bS n5)
    exact form_end h6 h8 (bad_3 g1 hI') (hR _ _ rfl)
set_option maxHeartbeats 4000000 in
theorem form_w4 {KK XX RR δ} {M : DMem} {q8 bC bP bS jn : Nat} {which d : Int} (hq : M q8 = some ⟨38, 4, [.int .i64 0, .int .i64 3, .msl bC 0 11 11, .isl 1 [.msl bP 0 1 1]]⟩) (hI : FormIn M bC bP bS formC 0 1 0) (n1 : q8 ≠ bC) (n2 : bP ≠ bC) (n3 : bS ≠ bC) (n4 : bP ≠ q8) (n5 : bS ≠ q8) (hd : 1 ≤ d ∧ d ≤ 1024) (hj : jn < 11)
    (h0 : δ 0 = .int .i64 which) (h5 : δ 5 = .int .i64 d) (h6 : δ 6 = .ip [slD Fnc.c twoQ]) (h8 : δ 8 = .mp q8 0) (h9 : δ 9 = .mp bC (jn * 9)) (h52 : δ 52 = .int .u64 4) (hR : ∀ δ' M', δ' 4 = .bool true → RR δ' M') :
    wpD Tryd.prog MU_swagelaw10_IrForms (fun f => roL.contains f) (fun t => G_swagelaw10_IrForms.contains t) 176 (.seq (.block 0 S116_swagelaw10_IrForms) S1_swagelaw10_IrForms) KK XX RR δ M := by
    simp (config := { maxSteps := 1000000 }) only [S116_swagelaw10_IrForms, S115_swagelaw10_IrForms, S114_swagelaw10_IrForms, h0, h5, h6, h8, h9, h52, hq, MU_swagelaw10_IrForms, ix_1, ix_2, ix_3, ix_4, ix_5, ix_6, slc_10, SW, wpD, evDL, evDM, evD, bldLD, List.contains_cons, List.contains_nil, Nat.reduceBEq, beq_self_eq_true, Nat.reduceMul, Nat.reduceSub, wpSp, Option.bind_some, Option.some.injEq, exists_eq_left', exists_eq_left, reduceIte, if_false, if_true, Nat.reduceEqDiff, Nat.reduceAdd, Nat.reduceLeDiff, Int.reduceEq, Int.reduceLT, Int.reduceLE, Int.reduceToNat, decide_true, decide_false, DV.bool.injEq, DV.int.injEq, DV.mp.injEq, DV.msl.injEq, DV.tup.injEq, DV.agg.injEq, DV.fn.injEq, true_implies, forall_const, reduceCtorEq, implies_true, ne_eq, DMem.mt]
    refine st_cell hq rfl (show 2 < 4 by decide) (w := .msl bC 0 10 11) rfl rfl fun M' g1 g2 => ?_
    have hI' := hI.keep (g2 bC n1.symm) (g2 bP n4) (g2 bS n5)
    exact form_end h6 h8 (bad_4 g1 hI') (hR _ _ rfl)
set_option maxHeartbeats 4000000 in
theorem form_w5 {KK XX RR δ} {M : DMem} {q8 bC bP bS jn : Nat} {which d : Int} (hq : M q8 = some ⟨38, 4, [.int .i64 0, .int .i64 3, .msl bC 0 11 11, .isl 1 [.msl bP 0 1 1]]⟩) (hI : FormIn M bC bP bS formC 0 1 0) (n1 : q8 ≠ bC) (n2 : bP ≠ bC) (n3 : bS ≠ bC) (n4 : bP ≠ q8) (n5 : bS ≠ q8) (hd : 1 ≤ d ∧ d ≤ 1024) (hj : jn < 11)
    (h0 : δ 0 = .int .i64 which) (h5 : δ 5 = .int .i64 d) (h6 : δ 6 = .ip [slD Fnc.c twoQ]) (h8 : δ 8 = .mp q8 0) (h9 : δ 9 = .mp bC (jn * 9)) (h52 : δ 52 = .int .u64 5) (hR : ∀ δ' M', δ' 4 = .bool true → RR δ' M') :
    wpD Tryd.prog MU_swagelaw10_IrForms (fun f => roL.contains f) (fun t => G_swagelaw10_IrForms.contains t) 176 (.seq (.block 0 S116_swagelaw10_IrForms) S1_swagelaw10_IrForms) KK XX RR δ M := by
    simp (config := { maxSteps := 1000000 }) only [S116_swagelaw10_IrForms, S115_swagelaw10_IrForms, S114_swagelaw10_IrForms, h0, h5, h6, h8, h9, h52, hq, MU_swagelaw10_IrForms, ix_1, ix_2, ix_3, ix_4, ix_5, ix_6, slc_10, SW, wpD, evDL, evDM, evD, bldLD, List.contains_cons, List.contains_nil, Nat.reduceBEq, beq_self_eq_true, Nat.reduceMul, Nat.reduceSub, wpSp, Option.bind_some, Option.some.injEq, exists_eq_left', exists_eq_left, reduceIte, if_false, if_true, Nat.reduceEqDiff, Nat.reduceAdd, Nat.reduceLeDiff, Int.reduceEq, Int.reduceLT, Int.reduceLE, Int.reduceToNat, decide_true, decide_false, DV.bool.injEq, DV.int.injEq, DV.mp.injEq, DV.msl.injEq, DV.tup.injEq, DV.agg.injEq, DV.fn.injEq, true_implies, forall_const, reduceCtorEq, implies_true, ne_eq, DMem.mt]
    refine st_cell hq rfl (show 3 < 4 by decide) (w := .zsl) rfl rfl fun M' g1 g2 => ?_
    have hI' := hI.keep (g2 bC n1.symm) (g2 bP n4) (g2 bS n5)
    exact form_end h6 h8 (bad_5 g1 hI') (hR _ _ rfl)
set_option maxHeartbeats 4000000 in
theorem form_w6 {KK XX RR δ} {M : DMem} {q8 bC bP bS jn : Nat} {which d : Int} (hq : M q8 = some ⟨38, 4, [.int .i64 0, .int .i64 3, .msl bC 0 11 11, .isl 1 [.msl bP 0 1 1]]⟩) (hI : FormIn M bC bP bS formC 0 1 0) (n1 : q8 ≠ bC) (n2 : bP ≠ bC) (n3 : bS ≠ bC) (n4 : bP ≠ q8) (n5 : bS ≠ q8) (hd : 1 ≤ d ∧ d ≤ 1024) (hj : jn < 11)
    (h0 : δ 0 = .int .i64 which) (h5 : δ 5 = .int .i64 d) (h6 : δ 6 = .ip [slD Fnc.c twoQ]) (h8 : δ 8 = .mp q8 0) (h9 : δ 9 = .mp bC (jn * 9)) (h52 : δ 52 = .int .u64 6) (hR : ∀ δ' M', δ' 4 = .bool true → RR δ' M') :
    wpD Tryd.prog MU_swagelaw10_IrForms (fun f => roL.contains f) (fun t => G_swagelaw10_IrForms.contains t) 176 (.seq (.block 0 S116_swagelaw10_IrForms) S1_swagelaw10_IrForms) KK XX RR δ M := by
    have ew : wr64 (256 + d) = 256 + d := w64 (by omega)
    simp (config := { maxSteps := 1000000 }) only [S116_swagelaw10_IrForms, S115_swagelaw10_IrForms, S114_swagelaw10_IrForms, S113_swagelaw10_IrForms, ew, h0, h5, h6, h8, h9, h52, hq, MU_swagelaw10_IrForms, ix_1, ix_2, ix_3, ix_4, ix_5, ix_6, slc_10, SW, wpD, evDL, evDM, evD, bldLD, List.contains_cons, List.contains_nil, Nat.reduceBEq, beq_self_eq_true, Nat.reduceMul, Nat.reduceSub, wpSp, Option.bind_some, Option.some.injEq, exists_eq_left', exists_eq_left, reduceIte, if_false, if_true, Nat.reduceEqDiff, Nat.reduceAdd, Nat.reduceLeDiff, Int.reduceEq, Int.reduceLT, Int.reduceLE, Int.reduceToNat, decide_true, decide_false, DV.bool.injEq, DV.int.injEq, DV.mp.injEq, DV.msl.injEq, DV.tup.injEq, DV.agg.injEq, DV.fn.injEq, true_implies, forall_const, reduceCtorEq, implies_true, ne_eq, DMem.mt]
    refine hI.put n2 n3 (i := jn) (off := 6) rfl hj (by decide) (w := .int .i64 (256 + d)) rfl rfl { formC[jn]'hj with cost := 256 + d } (fun cx hcx => ?_) fun M' g1 g2 => ?_
    · obtain ⟨⟨d0, hd0, hz⟩, _⟩ := hcx
      rw [hd0]
      exact ⟨⟨d0, rfl, hz⟩, rfl⟩
    exact form_end h6 h8 (Bad.of (by rw [g2 q8 n1]; exact hq) g1 (by rw [List.length_set]; decide) (form_args (form_a (formC[jn]'hj) (List.getElem_mem hj))) (bad_set hj (bad_cost (by show _ ≤ 256 + d <;> omega)))) (hR _ _ rfl)
set_option maxHeartbeats 4000000 in
theorem form_w7 {KK XX RR δ} {M : DMem} {q8 bC bP bS jn : Nat} {which d : Int} (hq : M q8 = some ⟨38, 4, [.int .i64 0, .int .i64 3, .msl bC 0 11 11, .isl 1 [.msl bP 0 1 1]]⟩) (hI : FormIn M bC bP bS formC 0 1 0) (n1 : q8 ≠ bC) (n2 : bP ≠ bC) (n3 : bS ≠ bC) (n4 : bP ≠ q8) (n5 : bS ≠ q8) (hd : 1 ≤ d ∧ d ≤ 1024) (hj : jn < 11)
    (h0 : δ 0 = .int .i64 which) (h5 : δ 5 = .int .i64 d) (h6 : δ 6 = .ip [slD Fnc.c twoQ]) (h8 : δ 8 = .mp q8 0) (h9 : δ 9 = .mp bC (jn * 9)) (h52 : δ 52 = .int .u64 7) (hR : ∀ δ' M', δ' 4 = .bool true → RR δ' M') :
    wpD Tryd.prog MU_swagelaw10_IrForms (fun f => roL.contains f) (fun t => G_swagelaw10_IrForms.contains t) 176 (.seq (.block 0 S116_swagelaw10_IrForms) S1_swagelaw10_IrForms) KK XX RR δ M := by
    have ew : wr64 (63 + d) = 63 + d := w64 (by omega)
    simp (config := { maxSteps := 1000000 }) only [S116_swagelaw10_IrForms, S115_swagelaw10_IrForms, S114_swagelaw10_IrForms, S113_swagelaw10_IrForms, S112_swagelaw10_IrForms, ew, h0, h5, h6, h8, h9, h52, hq, MU_swagelaw10_IrForms, ix_1, ix_2, ix_3, ix_4, ix_5, ix_6, slc_10, SW, wpD, evDL, evDM, evD, bldLD, List.contains_cons, List.contains_nil, Nat.reduceBEq, beq_self_eq_true, Nat.reduceMul, Nat.reduceSub, wpSp, Option.bind_some, Option.some.injEq, exists_eq_left', exists_eq_left, reduceIte, if_false, if_true, Nat.reduceEqDiff, Nat.reduceAdd, Nat.reduceLeDiff, Int.reduceEq, Int.reduceLT, Int.reduceLE, Int.reduceToNat, decide_true, decide_false, DV.bool.injEq, DV.int.injEq, DV.mp.injEq, DV.msl.injEq, DV.tup.injEq, DV.agg.injEq, DV.fn.injEq, true_implies, forall_const, reduceCtorEq, implies_true, ne_eq, DMem.mt]
    refine hI.put n2 n3 (i := jn) (off := 8) rfl hj (by decide) (w := .int .i64 (63 + d)) rfl rfl { formC[jn]'hj with pc := 63 + d } (fun cx hcx => ?_) fun M' g1 g2 => ?_
    · obtain ⟨⟨d0, hd0, hz⟩, _⟩ := hcx
      rw [hd0]
      exact ⟨⟨d0, rfl, hz⟩, rfl⟩
    exact form_end h6 h8 (Bad.of (by rw [g2 q8 n1]; exact hq) g1 (by rw [List.length_set]; decide) (form_args (form_a (formC[jn]'hj) (List.getElem_mem hj))) (bad_set hj (bad_pc (by show _ ≤ 63 + d <;> omega)))) (hR _ _ rfl)
set_option maxHeartbeats 4000000 in
theorem form_w8 {KK XX RR δ} {M : DMem} {q8 bC bP bS jn : Nat} {which d : Int} (hq : M q8 = some ⟨38, 4, [.int .i64 0, .int .i64 3, .msl bC 0 11 11, .isl 1 [.msl bP 0 1 1]]⟩) (hI : FormIn M bC bP bS formC 0 1 0) (n1 : q8 ≠ bC) (n2 : bP ≠ bC) (n3 : bS ≠ bC) (n4 : bP ≠ q8) (n5 : bS ≠ q8) (hd : 1 ≤ d ∧ d ≤ 1024) (hj : jn < 11)
    (h0 : δ 0 = .int .i64 which) (h5 : δ 5 = .int .i64 d) (h6 : δ 6 = .ip [slD Fnc.c twoQ]) (h8 : δ 8 = .mp q8 0) (h9 : δ 9 = .mp bC (jn * 9)) (h52 : δ 52 = .int .u64 8) (hR : ∀ δ' M', δ' 4 = .bool true → RR δ' M') :
    wpD Tryd.prog MU_swagelaw10_IrForms (fun f => roL.contains f) (fun t => G_swagelaw10_IrForms.contains t) 176 (.seq (.block 0 S116_swagelaw10_IrForms) S1_swagelaw10_IrForms) KK XX RR δ M := by
    have ew : wr64 (11 + d) = 11 + d := w64 (by omega)
    simp (config := { maxSteps := 1000000 }) only [S116_swagelaw10_IrForms, S115_swagelaw10_IrForms, S114_swagelaw10_IrForms, S113_swagelaw10_IrForms, S112_swagelaw10_IrForms, S111_swagelaw10_IrForms, ew, h0, h5, h6, h8, h9, h52, hq, MU_swagelaw10_IrForms, ix_1, ix_2, ix_3, ix_4, ix_5, ix_6, slc_10, SW, wpD, evDL, evDM, evD, bldLD, List.contains_cons, List.contains_nil, Nat.reduceBEq, beq_self_eq_true, Nat.reduceMul, Nat.reduceSub, wpSp, Option.bind_some, Option.some.injEq, exists_eq_left', exists_eq_left, reduceIte, if_false, if_true, Nat.reduceEqDiff, Nat.reduceAdd, Nat.reduceLeDiff, Int.reduceEq, Int.reduceLT, Int.reduceLE, Int.reduceToNat, decide_true, decide_false, DV.bool.injEq, DV.int.injEq, DV.mp.injEq, DV.msl.injEq, DV.tup.injEq, DV.agg.injEq, DV.fn.injEq, true_implies, forall_const, reduceCtorEq, implies_true, ne_eq, DMem.mt]
    refine hI.put n2 n3 (i := jn) (off := 0) rfl hj (by decide) (w := .int .i64 (11 + d)) rfl rfl { formC[jn]'hj with kind := 11 + d } (fun cx hcx => ?_) fun M' g1 g2 => ?_
    · obtain ⟨⟨d0, hd0, hz⟩, _⟩ := hcx
      rw [hd0]
      exact ⟨⟨d0, rfl, hz⟩, rfl⟩
    exact form_end h6 h8 (Bad.of (by rw [g2 q8 n1]; exact hq) g1 (by rw [List.length_set]; decide) (form_args (form_a (formC[jn]'hj) (List.getElem_mem hj))) (bad_set hj (bad_kind (by show _ ≤ 11 + d <;> omega)))) (hR _ _ rfl)
set_option maxHeartbeats 4000000 in
theorem form_w9 {KK XX RR δ} {M : DMem} {q8 bC bP bS jn : Nat} {which d : Int} (hq : M q8 = some ⟨38, 4, [.int .i64 0, .int .i64 3, .msl bC 0 11 11, .isl 1 [.msl bP 0 1 1]]⟩) (hI : FormIn M bC bP bS formC 0 1 0) (n1 : q8 ≠ bC) (n2 : bP ≠ bC) (n3 : bS ≠ bC) (n4 : bP ≠ q8) (n5 : bS ≠ q8) (hd : 1 ≤ d ∧ d ≤ 1024) (hj : jn < 11)
    (h0 : δ 0 = .int .i64 which) (h5 : δ 5 = .int .i64 d) (h6 : δ 6 = .ip [slD Fnc.c twoQ]) (h8 : δ 8 = .mp q8 0) (h9 : δ 9 = .mp bC (jn * 9)) (h52 : δ 52 = .int .u64 9) (hR : ∀ δ' M', δ' 4 = .bool true → RR δ' M') :
    wpD Tryd.prog MU_swagelaw10_IrForms (fun f => roL.contains f) (fun t => G_swagelaw10_IrForms.contains t) 176 (.seq (.block 0 S116_swagelaw10_IrForms) S1_swagelaw10_IrForms) KK XX RR δ M := by
    have ew : wr64 (2147483647 + d) = 2147483647 + d := w64 (by omega)
    simp (config := { maxSteps := 1000000 }) only [S116_swagelaw10_IrForms, S115_swagelaw10_IrForms, S114_swagelaw10_IrForms, S113_swagelaw10_IrForms, S112_swagelaw10_IrForms, S111_swagelaw10_IrForms, S110_swagelaw10_IrForms, ew, h0, h5, h6, h8, h9, h52, hq, MU_swagelaw10_IrForms, ix_1, ix_2, ix_3, ix_4, ix_5, ix_6, slc_10, SW, wpD, evDL, evDM, evD, bldLD, List.contains_cons, List.contains_nil, Nat.reduceBEq, beq_self_eq_true, Nat.reduceMul, Nat.reduceSub, wpSp, Option.bind_some, Option.some.injEq, exists_eq_left', exists_eq_left, reduceIte, if_false, if_true, Nat.reduceEqDiff, Nat.reduceAdd, Nat.reduceLeDiff, Int.reduceEq, Int.reduceLT, Int.reduceLE, Int.reduceToNat, decide_true, decide_false, DV.bool.injEq, DV.int.injEq, DV.mp.injEq, DV.msl.injEq, DV.tup.injEq, DV.agg.injEq, DV.fn.injEq, true_implies, forall_const, reduceCtorEq, implies_true, ne_eq, DMem.mt]
    refine hI.put n2 n3 (i := 1) (off := 4) rfl (by decide) (by decide) (w := .int .i64 (2147483647 + d)) rfl rfl ⟨1, 1, 0, 0, 2147483647 + d, [], 0, 0, 0⟩ (fun cx hcx => ?_) fun M' g1 g2 => ?_
    · obtain ⟨⟨d0, hd0, hz⟩, _⟩ := hcx
      rw [hd0]
      exact ⟨⟨d0, rfl, hz⟩, rfl⟩
    exact form_end h6 h8 (Bad.of (by rw [g2 q8 n1]; exact hq) g1 (by rw [List.length_set]; decide) (form_args (by first | exact Nat.zero_le _ | decide)) (bad_set (by decide) (bad9 hd))) (hR _ _ rfl)
set_option maxHeartbeats 4000000 in
theorem form_w10 {KK XX RR δ} {M : DMem} {q8 bC bP bS jn : Nat} {which d : Int} (hq : M q8 = some ⟨38, 4, [.int .i64 0, .int .i64 3, .msl bC 0 11 11, .isl 1 [.msl bP 0 1 1]]⟩) (hI : FormIn M bC bP bS formC 0 1 0) (n1 : q8 ≠ bC) (n2 : bP ≠ bC) (n3 : bS ≠ bC) (n4 : bP ≠ q8) (n5 : bS ≠ q8) (hd : 1 ≤ d ∧ d ≤ 1024) (hj : jn < 11)
    (h0 : δ 0 = .int .i64 which) (h5 : δ 5 = .int .i64 d) (h6 : δ 6 = .ip [slD Fnc.c twoQ]) (h8 : δ 8 = .mp q8 0) (h9 : δ 9 = .mp bC (jn * 9)) (h52 : δ 52 = .int .u64 10) (hR : ∀ δ' M', δ' 4 = .bool true → RR δ' M') :
    wpD Tryd.prog MU_swagelaw10_IrForms (fun f => roL.contains f) (fun t => G_swagelaw10_IrForms.contains t) 176 (.seq (.block 0 S116_swagelaw10_IrForms) S1_swagelaw10_IrForms) KK XX RR δ M := by
    simp (config := { maxSteps := 1000000 }) only [S116_swagelaw10_IrForms, S115_swagelaw10_IrForms, S114_swagelaw10_IrForms, S113_swagelaw10_IrForms, S112_swagelaw10_IrForms, S111_swagelaw10_IrForms, S110_swagelaw10_IrForms, S109_swagelaw10_IrForms, h0, h5, h6, h8, h9, h52, hq, MU_swagelaw10_IrForms, ix_1, ix_2, ix_3, ix_4, ix_5, ix_6, slc_10, SW, wpD, evDL, evDM, evD, bldLD, List.contains_cons, List.contains_nil, Nat.reduceBEq, beq_self_eq_true, Nat.reduceMul, Nat.reduceSub, wpSp, Option.bind_some, Option.some.injEq, exists_eq_left', exists_eq_left, reduceIte, if_false, if_true, Nat.reduceEqDiff, Nat.reduceAdd, Nat.reduceLeDiff, Int.reduceEq, Int.reduceLT, Int.reduceLE, Int.reduceToNat, decide_true, decide_false, DV.bool.injEq, DV.int.injEq, DV.mp.injEq, DV.msl.injEq, DV.tup.injEq, DV.agg.injEq, DV.fn.injEq, true_implies, forall_const, reduceCtorEq, implies_true, ne_eq, DMem.mt]
    refine hI.put n2 n3 (i := 1) (off := 2) rfl (by decide) (by decide) (w := .int .i64 d) rfl rfl ⟨1, 1, d, 0, 4, [], 0, 0, 0⟩ (fun cx hcx => ?_) fun M' g1 g2 => ?_
    · obtain ⟨⟨d0, hd0, hz⟩, _⟩ := hcx
      rw [hd0]
      exact ⟨⟨d0, rfl, hz⟩, rfl⟩
    exact form_end h6 h8 (Bad.of (by rw [g2 q8 n1]; exact hq) g1 (by rw [List.length_set]; decide) (form_args (by first | exact Nat.zero_le _ | decide)) (bad_set (by decide) (bad10 hd))) (hR _ _ rfl)
set_option maxHeartbeats 4000000 in
theorem form_w11 {KK XX RR δ} {M : DMem} {q8 bC bP bS jn : Nat} {which d : Int} (hq : M q8 = some ⟨38, 4, [.int .i64 0, .int .i64 3, .msl bC 0 11 11, .isl 1 [.msl bP 0 1 1]]⟩) (hI : FormIn M bC bP bS formC 0 1 0) (n1 : q8 ≠ bC) (n2 : bP ≠ bC) (n3 : bS ≠ bC) (n4 : bP ≠ q8) (n5 : bS ≠ q8) (hd : 1 ≤ d ∧ d ≤ 1024) (hj : jn < 11)
    (h0 : δ 0 = .int .i64 which) (h5 : δ 5 = .int .i64 d) (h6 : δ 6 = .ip [slD Fnc.c twoQ]) (h8 : δ 8 = .mp q8 0) (h9 : δ 9 = .mp bC (jn * 9)) (h52 : δ 52 = .int .u64 11) (hR : ∀ δ' M', δ' 4 = .bool true → RR δ' M') :
    wpD Tryd.prog MU_swagelaw10_IrForms (fun f => roL.contains f) (fun t => G_swagelaw10_IrForms.contains t) 176 (.seq (.block 0 S116_swagelaw10_IrForms) S1_swagelaw10_IrForms) KK XX RR δ M := by
    have ew : wr64 (9 + d) = 9 + d := w64 (by omega)
    simp (config := { maxSteps := 1000000 }) only [S116_swagelaw10_IrForms, S115_swagelaw10_IrForms, S114_swagelaw10_IrForms, S113_swagelaw10_IrForms, S112_swagelaw10_IrForms, S111_swagelaw10_IrForms, S110_swagelaw10_IrForms, S109_swagelaw10_IrForms, S108_swagelaw10_IrForms, ew, h0, h5, h6, h8, h9, h52, hq, MU_swagelaw10_IrForms, ix_1, ix_2, ix_3, ix_4, ix_5, ix_6, slc_10, SW, wpD, evDL, evDM, evD, bldLD, List.contains_cons, List.contains_nil, Nat.reduceBEq, beq_self_eq_true, Nat.reduceMul, Nat.reduceSub, wpSp, Option.bind_some, Option.some.injEq, exists_eq_left', exists_eq_left, reduceIte, if_false, if_true, Nat.reduceEqDiff, Nat.reduceAdd, Nat.reduceLeDiff, Int.reduceEq, Int.reduceLT, Int.reduceLE, Int.reduceToNat, decide_true, decide_false, DV.bool.injEq, DV.int.injEq, DV.mp.injEq, DV.msl.injEq, DV.tup.injEq, DV.agg.injEq, DV.fn.injEq, true_implies, forall_const, reduceCtorEq, implies_true, ne_eq, DMem.mt]
    refine hI.put n2 n3 (i := 2) (off := 4) rfl (by decide) (by decide) (w := .int .i64 (9 + d)) rfl rfl ⟨3, 2, 1, 0, 9 + d, [], 0, 0, 0⟩ (fun cx hcx => ?_) fun M' g1 g2 => ?_
    · obtain ⟨⟨d0, hd0, hz⟩, _⟩ := hcx
      rw [hd0]
      exact ⟨⟨d0, rfl, hz⟩, rfl⟩
    exact form_end h6 h8 (Bad.of (by rw [g2 q8 n1]; exact hq) g1 (by rw [List.length_set]; decide) (form_args (by first | exact Nat.zero_le _ | decide)) (bad_set (by decide) (bad11 hd))) (hR _ _ rfl)
set_option maxHeartbeats 4000000 in
theorem form_w12 {KK XX RR δ} {M : DMem} {q8 bC bP bS jn : Nat} {which d : Int} (hq : M q8 = some ⟨38, 4, [.int .i64 0, .int .i64 3, .msl bC 0 11 11, .isl 1 [.msl bP 0 1 1]]⟩) (hI : FormIn M bC bP bS formC 0 1 0) (n1 : q8 ≠ bC) (n2 : bP ≠ bC) (n3 : bS ≠ bC) (n4 : bP ≠ q8) (n5 : bS ≠ q8) (hd : 1 ≤ d ∧ d ≤ 1024) (hj : jn < 11)
    (h0 : δ 0 = .int .i64 which) (h5 : δ 5 = .int .i64 d) (h6 : δ 6 = .ip [slD Fnc.c twoQ]) (h8 : δ 8 = .mp q8 0) (h9 : δ 9 = .mp bC (jn * 9)) (h52 : δ 52 = .int .u64 12) (hR : ∀ δ' M', δ' 4 = .bool true → RR δ' M') :
    wpD Tryd.prog MU_swagelaw10_IrForms (fun f => roL.contains f) (fun t => G_swagelaw10_IrForms.contains t) 176 (.seq (.block 0 S116_swagelaw10_IrForms) S1_swagelaw10_IrForms) KK XX RR δ M := by
    have ew : wr64 (2 + d) = 2 + d := w64 (by omega)
    simp (config := { maxSteps := 1000000 }) only [S116_swagelaw10_IrForms, S115_swagelaw10_IrForms, S114_swagelaw10_IrForms, S113_swagelaw10_IrForms, S112_swagelaw10_IrForms, S111_swagelaw10_IrForms, S110_swagelaw10_IrForms, S109_swagelaw10_IrForms, S108_swagelaw10_IrForms, S107_swagelaw10_IrForms, ew, h0, h5, h6, h8, h9, h52, hq, MU_swagelaw10_IrForms, ix_1, ix_2, ix_3, ix_4, ix_5, ix_6, slc_10, SW, wpD, evDL, evDM, evD, bldLD, List.contains_cons, List.contains_nil, Nat.reduceBEq, beq_self_eq_true, Nat.reduceMul, Nat.reduceSub, wpSp, Option.bind_some, Option.some.injEq, exists_eq_left', exists_eq_left, reduceIte, if_false, if_true, Nat.reduceEqDiff, Nat.reduceAdd, Nat.reduceLeDiff, Int.reduceEq, Int.reduceLT, Int.reduceLE, Int.reduceToNat, decide_true, decide_false, DV.bool.injEq, DV.int.injEq, DV.mp.injEq, DV.msl.injEq, DV.tup.injEq, DV.agg.injEq, DV.fn.injEq, true_implies, forall_const, reduceCtorEq, implies_true, ne_eq, DMem.mt]
    refine hI.put n2 n3 (i := 2) (off := 1) rfl (by decide) (by decide) (w := .int .i64 (2 + d)) rfl rfl ⟨3, 2 + d, 1, 0, 3, [], 0, 0, 0⟩ (fun cx hcx => ?_) fun M' g1 g2 => ?_
    · obtain ⟨⟨d0, hd0, hz⟩, _⟩ := hcx
      rw [hd0]
      exact ⟨⟨d0, rfl, hz⟩, rfl⟩
    exact form_end h6 h8 (Bad.of (by rw [g2 q8 n1]; exact hq) g1 (by rw [List.length_set]; decide) (form_args (by first | exact Nat.zero_le _ | decide)) (bad_set (by decide) (bad12 hd))) (hR _ _ rfl)
set_option maxHeartbeats 4000000 in
theorem form_w13 {KK XX RR δ} {M : DMem} {q8 bC bP bS jn : Nat} {which d : Int} (hq : M q8 = some ⟨38, 4, [.int .i64 0, .int .i64 3, .msl bC 0 11 11, .isl 1 [.msl bP 0 1 1]]⟩) (hI : FormIn M bC bP bS formC 0 1 0) (n1 : q8 ≠ bC) (n2 : bP ≠ bC) (n3 : bS ≠ bC) (n4 : bP ≠ q8) (n5 : bS ≠ q8) (hd : 1 ≤ d ∧ d ≤ 1024) (hj : jn < 11)
    (h0 : δ 0 = .int .i64 which) (h5 : δ 5 = .int .i64 d) (h6 : δ 6 = .ip [slD Fnc.c twoQ]) (h8 : δ 8 = .mp q8 0) (h9 : δ 9 = .mp bC (jn * 9)) (h52 : δ 52 = .int .u64 13) (hR : ∀ δ' M', δ' 4 = .bool true → RR δ' M') :
    wpD Tryd.prog MU_swagelaw10_IrForms (fun f => roL.contains f) (fun t => G_swagelaw10_IrForms.contains t) 176 (.seq (.block 0 S116_swagelaw10_IrForms) S1_swagelaw10_IrForms) KK XX RR δ M := by
    have ew : wr64 (1 + d) = 1 + d := w64 (by omega)
    simp (config := { maxSteps := 1000000 }) only [S116_swagelaw10_IrForms, S115_swagelaw10_IrForms, S114_swagelaw10_IrForms, S113_swagelaw10_IrForms, S112_swagelaw10_IrForms, S111_swagelaw10_IrForms, S110_swagelaw10_IrForms, S109_swagelaw10_IrForms, S108_swagelaw10_IrForms, S107_swagelaw10_IrForms, S106_swagelaw10_IrForms, ew, h0, h5, h6, h8, h9, h52, hq, MU_swagelaw10_IrForms, ix_1, ix_2, ix_3, ix_4, ix_5, ix_6, slc_10, SW, wpD, evDL, evDM, evD, bldLD, List.contains_cons, List.contains_nil, Nat.reduceBEq, beq_self_eq_true, Nat.reduceMul, Nat.reduceSub, wpSp, Option.bind_some, Option.some.injEq, exists_eq_left', exists_eq_left, reduceIte, if_false, if_true, Nat.reduceEqDiff, Nat.reduceAdd, Nat.reduceLeDiff, Int.reduceEq, Int.reduceLT, Int.reduceLE, Int.reduceToNat, decide_true, decide_false, DV.bool.injEq, DV.int.injEq, DV.mp.injEq, DV.msl.injEq, DV.tup.injEq, DV.agg.injEq, DV.fn.injEq, true_implies, forall_const, reduceCtorEq, implies_true, ne_eq, DMem.mt]
    refine hI.put n2 n3 (i := 3) (off := 3) rfl (by decide) (by decide) (w := .int .i64 (1 + d)) rfl rfl ⟨9, 0, 2, 1 + d, 5, [], 0, 0, 0⟩ (fun cx hcx => ?_) fun M' g1 g2 => ?_
    · obtain ⟨⟨d0, hd0, hz⟩, _⟩ := hcx
      rw [hd0]
      exact ⟨⟨d0, rfl, hz⟩, rfl⟩
    exact form_end h6 h8 (Bad.of (by rw [g2 q8 n1]; exact hq) g1 (by rw [List.length_set]; decide) (form_args (by first | exact Nat.zero_le _ | decide)) (bad_set (by decide) (bad13 hd))) (hR _ _ rfl)
set_option maxHeartbeats 4000000 in
theorem form_w14 {KK XX RR δ} {M : DMem} {q8 bC bP bS jn : Nat} {which d : Int} (hq : M q8 = some ⟨38, 4, [.int .i64 0, .int .i64 3, .msl bC 0 11 11, .isl 1 [.msl bP 0 1 1]]⟩) (hI : FormIn M bC bP bS formC 0 1 0) (n1 : q8 ≠ bC) (n2 : bP ≠ bC) (n3 : bS ≠ bC) (n4 : bP ≠ q8) (n5 : bS ≠ q8) (hd : 1 ≤ d ∧ d ≤ 1024) (hj : jn < 11)
    (h0 : δ 0 = .int .i64 which) (h5 : δ 5 = .int .i64 d) (h6 : δ 6 = .ip [slD Fnc.c twoQ]) (h8 : δ 8 = .mp q8 0) (h9 : δ 9 = .mp bC (jn * 9)) (h52 : δ 52 = .int .u64 14) (hR : ∀ δ' M', δ' 4 = .bool true → RR δ' M') :
    wpD Tryd.prog MU_swagelaw10_IrForms (fun f => roL.contains f) (fun t => G_swagelaw10_IrForms.contains t) 176 (.seq (.block 0 S116_swagelaw10_IrForms) S1_swagelaw10_IrForms) KK XX RR δ M := by
    simp (config := { maxSteps := 1000000 }) only [S116_swagelaw10_IrForms, S115_swagelaw10_IrForms, S114_swagelaw10_IrForms, S113_swagelaw10_IrForms, S112_swagelaw10_IrForms, S111_swagelaw10_IrForms, S110_swagelaw10_IrForms, S109_swagelaw10_IrForms, S108_swagelaw10_IrForms, S107_swagelaw10_IrForms, S106_swagelaw10_IrForms, S105_swagelaw10_IrForms, h0, h5, h6, h8, h9, h52, hq, MU_swagelaw10_IrForms, ix_1, ix_2, ix_3, ix_4, ix_5, ix_6, slc_10, SW, wpD, evDL, evDM, evD, bldLD, List.contains_cons, List.contains_nil, Nat.reduceBEq, beq_self_eq_true, Nat.reduceMul, Nat.reduceSub, wpSp, Option.bind_some, Option.some.injEq, exists_eq_left', exists_eq_left, reduceIte, if_false, if_true, Nat.reduceEqDiff, Nat.reduceAdd, Nat.reduceLeDiff, Int.reduceEq, Int.reduceLT, Int.reduceLE, Int.reduceToNat, decide_true, decide_false, DV.bool.injEq, DV.int.injEq, DV.mp.injEq, DV.msl.injEq, DV.tup.injEq, DV.agg.injEq, DV.fn.injEq, true_implies, forall_const, reduceCtorEq, implies_true, ne_eq, DMem.mt]
    refine hI.put n2 n3 (i := 3) (off := 7) rfl (by decide) (by decide) (w := .int .i64 d) rfl rfl ⟨9, 0, 2, 1, 5, [], 0, d, 0⟩ (fun cx hcx => ?_) fun M' g1 g2 => ?_
    · obtain ⟨⟨d0, hd0, hz⟩, _⟩ := hcx
      rw [hd0]
      exact ⟨⟨d0, rfl, hz⟩, rfl⟩
    exact form_end h6 h8 (Bad.of (by rw [g2 q8 n1]; exact hq) g1 (by rw [List.length_set]; decide) (form_args (by first | exact Nat.zero_le _ | decide)) (bad_set (by decide) (bad14 hd))) (hR _ _ rfl)
set_option maxHeartbeats 4000000 in
theorem form_w15 {KK XX RR δ} {M : DMem} {q8 bC bP bS jn : Nat} {which d : Int} (hq : M q8 = some ⟨38, 4, [.int .i64 0, .int .i64 3, .msl bC 0 11 11, .isl 1 [.msl bP 0 1 1]]⟩) (hI : FormIn M bC bP bS formC 0 1 0) (n1 : q8 ≠ bC) (n2 : bP ≠ bC) (n3 : bS ≠ bC) (n4 : bP ≠ q8) (n5 : bS ≠ q8) (hd : 1 ≤ d ∧ d ≤ 1024) (hj : jn < 11)
    (h0 : δ 0 = .int .i64 which) (h5 : δ 5 = .int .i64 d) (h6 : δ 6 = .ip [slD Fnc.c twoQ]) (h8 : δ 8 = .mp q8 0) (h9 : δ 9 = .mp bC (jn * 9)) (h52 : δ 52 = .int .u64 15) (hR : ∀ δ' M', δ' 4 = .bool true → RR δ' M') :
    wpD Tryd.prog MU_swagelaw10_IrForms (fun f => roL.contains f) (fun t => G_swagelaw10_IrForms.contains t) 176 (.seq (.block 0 S116_swagelaw10_IrForms) S1_swagelaw10_IrForms) KK XX RR δ M := by
    simp (config := { maxSteps := 1000000 }) only [S116_swagelaw10_IrForms, S115_swagelaw10_IrForms, S114_swagelaw10_IrForms, S113_swagelaw10_IrForms, S112_swagelaw10_IrForms, S111_swagelaw10_IrForms, S110_swagelaw10_IrForms, S109_swagelaw10_IrForms, S108_swagelaw10_IrForms, S107_swagelaw10_IrForms, S106_swagelaw10_IrForms, S105_swagelaw10_IrForms, S104_swagelaw10_IrForms, h0, h5, h6, h8, h9, h52, hq, MU_swagelaw10_IrForms, ix_1, ix_2, ix_3, ix_4, ix_5, ix_6, slc_10, SW, wpD, evDL, evDM, evD, bldLD, List.contains_cons, List.contains_nil, Nat.reduceBEq, beq_self_eq_true, Nat.reduceMul, Nat.reduceSub, wpSp, Option.bind_some, Option.some.injEq, exists_eq_left', exists_eq_left, reduceIte, if_false, if_true, Nat.reduceEqDiff, Nat.reduceAdd, Nat.reduceLeDiff, Int.reduceEq, Int.reduceLT, Int.reduceLE, Int.reduceToNat, decide_true, decide_false, DV.bool.injEq, DV.int.injEq, DV.mp.injEq, DV.msl.injEq, DV.tup.injEq, DV.agg.injEq, DV.fn.injEq, true_implies, forall_const, reduceCtorEq, implies_true, ne_eq, DMem.mt]
    refine hI.put n2 n3 (i := 4) (off := 6) rfl (by decide) (by decide) (w := .int .i64 0) rfl rfl ⟨5, 0, 2, 0, 0, [], 0, 0, 0⟩ (fun cx hcx => ?_) fun M' g1 g2 => ?_
    · obtain ⟨⟨d0, hd0, hz⟩, _⟩ := hcx
      rw [hd0]
      exact ⟨⟨d0, rfl, hz⟩, rfl⟩
    exact form_end h6 h8 (Bad.of (by rw [g2 q8 n1]; exact hq) g1 (by rw [List.length_set]; decide) (form_args (by first | exact Nat.zero_le _ | decide)) (may_form15)) (hR _ _ rfl)
set_option maxHeartbeats 4000000 in
theorem form_w16 {KK XX RR δ} {M : DMem} {q8 bC bP bS jn : Nat} {which d : Int} (hq : M q8 = some ⟨38, 4, [.int .i64 0, .int .i64 3, .msl bC 0 11 11, .isl 1 [.msl bP 0 1 1]]⟩) (hI : FormIn M bC bP bS formC 0 1 0) (n1 : q8 ≠ bC) (n2 : bP ≠ bC) (n3 : bS ≠ bC) (n4 : bP ≠ q8) (n5 : bS ≠ q8) (hd : 1 ≤ d ∧ d ≤ 1024) (hj : jn < 11)
    (h0 : δ 0 = .int .i64 which) (h5 : δ 5 = .int .i64 d) (h6 : δ 6 = .ip [slD Fnc.c twoQ]) (h8 : δ 8 = .mp q8 0) (h9 : δ 9 = .mp bC (jn * 9)) (h52 : δ 52 = .int .u64 16) (hR : ∀ δ' M', δ' 4 = .bool true → RR δ' M') :
    wpD Tryd.prog MU_swagelaw10_IrForms (fun f => roL.contains f) (fun t => G_swagelaw10_IrForms.contains t) 176 (.seq (.block 0 S116_swagelaw10_IrForms) S1_swagelaw10_IrForms) KK XX RR δ M := by
    have ew : wr64 (10 + d) = 10 + d := w64 (by omega)
    simp (config := { maxSteps := 1000000 }) only [S116_swagelaw10_IrForms, S115_swagelaw10_IrForms, S114_swagelaw10_IrForms, S113_swagelaw10_IrForms, S112_swagelaw10_IrForms, S111_swagelaw10_IrForms, S110_swagelaw10_IrForms, S109_swagelaw10_IrForms, S108_swagelaw10_IrForms, S107_swagelaw10_IrForms, S106_swagelaw10_IrForms, S105_swagelaw10_IrForms, S104_swagelaw10_IrForms, S103_swagelaw10_IrForms, ew, h0, h5, h6, h8, h9, h52, hq, MU_swagelaw10_IrForms, ix_1, ix_2, ix_3, ix_4, ix_5, ix_6, slc_10, SW, wpD, evDL, evDM, evD, bldLD, List.contains_cons, List.contains_nil, Nat.reduceBEq, beq_self_eq_true, Nat.reduceMul, Nat.reduceSub, wpSp, Option.bind_some, Option.some.injEq, exists_eq_left', exists_eq_left, reduceIte, if_false, if_true, Nat.reduceEqDiff, Nat.reduceAdd, Nat.reduceLeDiff, Int.reduceEq, Int.reduceLT, Int.reduceLE, Int.reduceToNat, decide_true, decide_false, DV.bool.injEq, DV.int.injEq, DV.mp.injEq, DV.msl.injEq, DV.tup.injEq, DV.agg.injEq, DV.fn.injEq, true_implies, forall_const, reduceCtorEq, implies_true, ne_eq, DMem.mt]
    refine hI.put n2 n3 (i := 4) (off := 4) rfl (by decide) (by decide) (w := .int .i64 (10 + d)) rfl rfl ⟨5, 0, 2, 0, 10 + d, [], 1, 0, 0⟩ (fun cx hcx => ?_) fun M' g1 g2 => ?_
    · obtain ⟨⟨d0, hd0, hz⟩, _⟩ := hcx
      rw [hd0]
      exact ⟨⟨d0, rfl, hz⟩, rfl⟩
    exact form_end h6 h8 (Bad.of (by rw [g2 q8 n1]; exact hq) g1 (by rw [List.length_set]; decide) (form_args (by first | exact Nat.zero_le _ | decide)) (bad_set (by decide) (bad16 hd))) (hR _ _ rfl)
set_option maxHeartbeats 4000000 in
theorem form_w17 {KK XX RR δ} {M : DMem} {q8 bC bP bS jn : Nat} {which d : Int} (hq : M q8 = some ⟨38, 4, [.int .i64 0, .int .i64 3, .msl bC 0 11 11, .isl 1 [.msl bP 0 1 1]]⟩) (hI : FormIn M bC bP bS formC 0 1 0) (n1 : q8 ≠ bC) (n2 : bP ≠ bC) (n3 : bS ≠ bC) (n4 : bP ≠ q8) (n5 : bS ≠ q8) (hd : 1 ≤ d ∧ d ≤ 1024) (hj : jn < 11)
    (h0 : δ 0 = .int .i64 which) (h5 : δ 5 = .int .i64 d) (h6 : δ 6 = .ip [slD Fnc.c twoQ]) (h8 : δ 8 = .mp q8 0) (h9 : δ 9 = .mp bC (jn * 9)) (h52 : δ 52 = .int .u64 17) (hR : ∀ δ' M', δ' 4 = .bool true → RR δ' M') :
    wpD Tryd.prog MU_swagelaw10_IrForms (fun f => roL.contains f) (fun t => G_swagelaw10_IrForms.contains t) 176 (.seq (.block 0 S116_swagelaw10_IrForms) S1_swagelaw10_IrForms) KK XX RR δ M := by
    simp (config := { maxSteps := 1000000 }) only [S116_swagelaw10_IrForms, S115_swagelaw10_IrForms, S114_swagelaw10_IrForms, S113_swagelaw10_IrForms, S112_swagelaw10_IrForms, S111_swagelaw10_IrForms, S110_swagelaw10_IrForms, S109_swagelaw10_IrForms, S108_swagelaw10_IrForms, S107_swagelaw10_IrForms, S106_swagelaw10_IrForms, S105_swagelaw10_IrForms, S104_swagelaw10_IrForms, S103_swagelaw10_IrForms, S102_swagelaw10_IrForms, h0, h5, h6, h8, h9, h52, hq, MU_swagelaw10_IrForms, ix_1, ix_2, ix_3, ix_4, ix_5, ix_6, slc_10, SW, wpD, evDL, evDM, evD, bldLD, List.contains_cons, List.contains_nil, Nat.reduceBEq, beq_self_eq_true, Nat.reduceMul, Nat.reduceSub, wpSp, Option.bind_some, Option.some.injEq, exists_eq_left', exists_eq_left, reduceIte, if_false, if_true, Nat.reduceEqDiff, Nat.reduceAdd, Nat.reduceLeDiff, Int.reduceEq, Int.reduceLT, Int.reduceLE, Int.reduceToNat, decide_true, decide_false, DV.bool.injEq, DV.int.injEq, DV.mp.injEq, DV.msl.injEq, DV.tup.injEq, DV.agg.injEq, DV.fn.injEq, true_implies, forall_const, reduceCtorEq, implies_true, ne_eq, DMem.mt]
    refine hI.put n2 n3 (i := 5) (off := 5) rfl (by decide) (by decide) (w := .isl 1 [.int .i64 0]) rfl rfl ⟨6, 1, 0, 0, 1, [0], 1, 0, 0⟩ (fun cx hcx => ?_) fun M' g1 g2 => ?_
    · obtain ⟨⟨d0, hd0, hz⟩, _⟩ := hcx
      rw [hd0]
      exact ⟨⟨slI [0], rfl, .inl rfl⟩, rfl⟩
    exact form_end h6 h8 (Bad.of (by rw [g2 q8 n1]; exact hq) g1 (by rw [List.length_set]; decide) (form_args (by first | exact Nat.zero_le _ | decide)) (may_form17)) (hR _ _ rfl)
-- END
end Go.Proofs.YtpehdlobicocpaaDoor.Pf
namespace Go.Proofs.YtpehdlobicocpaaDoor.Pf
open Go Go.RowKit Go.Proofs Go.Proofs.YtpehdlobicocpaaDoor.Mw Go.Proofs.YtpehdlobicocpaaDoor.Sx
set_option linter.unusedVariables false
set_option linter.unusedSimpArgs false
set_option maxRecDepth 16000
theorem wrong_pf {M : DMem} {a b c d : DV} {c' : Cod} (hf : fz M 4 (.agg [a, b, c, d]) = .agg c'.c) (hb : codeMayB twoQ c' = false) (hz : SzC c') : pf Tryd.prog 18 (List.map (fz M 4) [.agg [slD Fnc.c twoQ], .agg [a, b, c, d]]) = some (.bool false) := by
  rw [List.map_cons, List.map_cons, List.map_nil, fz_two, hf]
  exact (irMay_pf twoQ c' hz).trans (by rw [hb])
theorem nil_fz {M : DMem} {bC bP bS : Nat} (hc : SlAt irG M (.msl bC 0 11 11) formC [bC]) (hp : M bP = some ⟨51, 4, [.int .i64 0, .int .i64 1, .msl bS 0 1 1, .zsl]⟩) (hs : M bS = some ⟨54, 2, [.bool false, .int .i64 0]⟩) :
    fz M 4 (.agg [.int .i64 0, .int .i64 3, .msl bC 0 11 11, .isl 1 [.msl bP 0 1 1]]) = .agg (⟨0, 3, formC, [[⟨0, 1, [⟨false, 0⟩], []⟩]]⟩ : Cod).c := by
  have h1 : fz M 4 (.msl bC 0 11 11) = slD Irc.c formC := hc.fz irG_ok (k := 3) (by decide)
  have h2 : fz M 4 (.isl 1 [.msl bP 0 1 1]) = slD metaC [[⟨0, 1, [⟨false, 0⟩], []⟩]] := by
    rw [fz_isl]
    simp only [List.map_cons, List.map_nil]
    rw [fz_msl hp 3 0 _ _ (Nat.le_refl _)]
    simp only [List.map_cons, List.map_nil, fz_int, List.drop_zero]
    rw [fz_msl hs 2 0 _ _ (Nat.le_refl _)]
    simp only [List.map_cons, List.map_nil, fz_int, fz_bool, List.drop_zero] <;> rfl
  rw [fz_agg]
  simp only [List.map_cons, List.map_nil, fz_int]
  rw [h1, h2]
theorem ix_m (b : Nat) : ixD 1 (.isl 1 [.msl b 0 1 1]) (.int .i64 0) = some (.ip [.msl b 0 1 1]) := rfl
theorem ix_p (b : Nat) : ixD 4 (.msl b 0 1 1) (.int .i64 0) = some (.mp b 0) := rfl
theorem ix_s (b : Nat) : ixD 2 (.msl b 0 1 1) (.int .i64 0) = some (.mp b 0) := rfl
theorem ld_m (M : DMem) (b : Nat) : ldD M (.ip [.msl b 0 1 1]) = some (.msl b 0 1 1) := rfl
-- CASES
set_option maxHeartbeats 4000000 in
theorem wrong_18 {M : DMem} {bC bP bS : Nat} {d : Int} {R : DV → DMem → Prop} (hI : FormIn M bC bP bS formC 0 1 0) (n2 : bP ≠ bC) (n3 : bS ≠ bC) (n6 : bP ≠ bS) (hd : 1 ≤ d ∧ d ≤ 1024) (hR : ∀ M', R (.bool true) M') :
    PC Tryd.prog F_swagelaw10_wrong [.agg [slD Fnc.c twoQ], .agg [.int .i64 0, .int .i64 3, .msl bC 0 11 11, .isl 1 [.msl bP 0 1 1]], .int .i64 18, .int .i64 d] R M := by
  refine pc_swagelaw10_wrong (by simp) ?_
  have hp0 : ((M bP).bind fun B => B.cs[2]?) = some (.msl bS 0 1 1) := by rw [hI.p] <;> rfl
  simp (config := { maxSteps := 1000000 }) only [S_swagelaw10_wrong, R_swagelaw10_wrong, MU_swagelaw10_wrong, ix_5, ix_6, ix_m, ix_p, ix_s, ld_m, hp0, hI.p, SW, wpD, evDL, evDM, evD, bldLD, List.contains_cons, List.contains_nil, Nat.reduceBEq, beq_self_eq_true, Nat.reduceMul, Nat.reduceSub, wpSp, Option.bind_some, Option.some.injEq, exists_eq_left', exists_eq_left, reduceIte, if_false, if_true, Nat.reduceEqDiff, Nat.reduceAdd, Nat.reduceLeDiff, Int.reduceEq, Int.reduceLT, Int.reduceLE, Int.reduceToNat, decide_true, decide_false, DV.bool.injEq, DV.int.injEq, DV.mp.injEq, DV.msl.injEq, DV.tup.injEq, DV.agg.injEq, DV.fn.injEq, true_implies, forall_const, reduceCtorEq, implies_true, ne_eq, DMem.mt]
  refine hI.put n2 n3 (i := 5) (off := 6) rfl (by decide) (by decide) (w := .int .i64 0) rfl rfl ⟨6, 1, 0, 0, 1, [0, 1], 0, 0, 0⟩ (fun cx hcx => ?_) fun M' g1 g2 => ?_
  · obtain ⟨⟨d0, hd0, hz⟩, _⟩ := hcx
    rw [hd0]
    exact ⟨⟨d0, rfl, hz⟩, rfl⟩
  have h4 := wrong_pf g1.fz (may_form18) (form_szc (by rw [List.length_set]; decide) (form_args (by decide)))
  have h3 : ∀ M, ldnD M 1 (.ip [slD Fnc.c twoQ]) = some (.agg [slD Fnc.c twoQ]) := fun _ => rfl
  have h3' : ∀ M, ldnD M 4 (.ip [.int .i64 0, .int .i64 3, .msl bC 0 11 11, .isl 1 [.msl bP 0 1 1]]) = some (.agg [.int .i64 0, .int .i64 3, .msl bC 0 11 11, .isl 1 [.msl bP 0 1 1]]) := fun _ => rfl
  simp (config := { failIfUnchanged := false }) only [List.map_cons, List.map_nil, fz_agg, fz_isl, fz_int] at h4
  try simp only [h3, h3', SW, wpD, evDL, evDM, evD, bldLD, List.contains_cons, List.contains_nil, Nat.reduceBEq, beq_self_eq_true, Nat.reduceMul, Nat.reduceSub, wpSp, Option.bind_some, Option.some.injEq, exists_eq_left', exists_eq_left, reduceIte, if_false, if_true, Nat.reduceEqDiff, Nat.reduceAdd, Nat.reduceLeDiff, Int.reduceEq, Int.reduceLT, Int.reduceLE, Int.reduceToNat, decide_true, decide_false, DV.bool.injEq, DV.int.injEq, DV.mp.injEq, DV.msl.injEq, DV.tup.injEq, DV.agg.injEq, DV.fn.injEq, true_implies, forall_const, reduceCtorEq, implies_true, ne_eq, DMem.mt]
  rw [h4]
  exact ⟨_, rfl, hR _⟩
set_option maxHeartbeats 4000000 in
theorem wrong_19 {M : DMem} {bC bP bS : Nat} {d : Int} {R : DV → DMem → Prop} (hI : FormIn M bC bP bS formC 0 1 0) (n2 : bP ≠ bC) (n3 : bS ≠ bC) (n6 : bP ≠ bS) (hd : 1 ≤ d ∧ d ≤ 1024) (hR : ∀ M', R (.bool true) M') :
    PC Tryd.prog F_swagelaw10_wrong [.agg [slD Fnc.c twoQ], .agg [.int .i64 0, .int .i64 3, .msl bC 0 11 11, .isl 1 [.msl bP 0 1 1]], .int .i64 19, .int .i64 d] R M := by
  refine pc_swagelaw10_wrong (by simp) ?_
  have hp0 : ((M bP).bind fun B => B.cs[2]?) = some (.msl bS 0 1 1) := by rw [hI.p] <;> rfl
  simp (config := { maxSteps := 1000000 }) only [S_swagelaw10_wrong, S104_swagelaw10_wrong, R_swagelaw10_wrong, MU_swagelaw10_wrong, ix_5, ix_6, ix_m, ix_p, ix_s, ld_m, hp0, hI.p, SW, wpD, evDL, evDM, evD, bldLD, List.contains_cons, List.contains_nil, Nat.reduceBEq, beq_self_eq_true, Nat.reduceMul, Nat.reduceSub, wpSp, Option.bind_some, Option.some.injEq, exists_eq_left', exists_eq_left, reduceIte, if_false, if_true, Nat.reduceEqDiff, Nat.reduceAdd, Nat.reduceLeDiff, Int.reduceEq, Int.reduceLT, Int.reduceLE, Int.reduceToNat, decide_true, decide_false, DV.bool.injEq, DV.int.injEq, DV.mp.injEq, DV.msl.injEq, DV.tup.injEq, DV.agg.injEq, DV.fn.injEq, true_implies, forall_const, reduceCtorEq, implies_true, ne_eq, DMem.mt]
  refine hI.put n2 n3 (i := 6) (off := 6) rfl (by decide) (by decide) (w := .int .i64 0) rfl rfl ⟨7, 0, 1, 0, 0, [], 0, 0, 0⟩ (fun cx hcx => ?_) fun M' g1 g2 => ?_
  · obtain ⟨⟨d0, hd0, hz⟩, _⟩ := hcx
    rw [hd0]
    exact ⟨⟨d0, rfl, hz⟩, rfl⟩
  have h4 := wrong_pf g1.fz (may_form19) (form_szc (by rw [List.length_set]; decide) (form_args (by decide)))
  have h3 : ∀ M, ldnD M 1 (.ip [slD Fnc.c twoQ]) = some (.agg [slD Fnc.c twoQ]) := fun _ => rfl
  have h3' : ∀ M, ldnD M 4 (.ip [.int .i64 0, .int .i64 3, .msl bC 0 11 11, .isl 1 [.msl bP 0 1 1]]) = some (.agg [.int .i64 0, .int .i64 3, .msl bC 0 11 11, .isl 1 [.msl bP 0 1 1]]) := fun _ => rfl
  simp (config := { failIfUnchanged := false }) only [List.map_cons, List.map_nil, fz_agg, fz_isl, fz_int] at h4
  try simp only [h3, h3', SW, wpD, evDL, evDM, evD, bldLD, List.contains_cons, List.contains_nil, Nat.reduceBEq, beq_self_eq_true, Nat.reduceMul, Nat.reduceSub, wpSp, Option.bind_some, Option.some.injEq, exists_eq_left', exists_eq_left, reduceIte, if_false, if_true, Nat.reduceEqDiff, Nat.reduceAdd, Nat.reduceLeDiff, Int.reduceEq, Int.reduceLT, Int.reduceLE, Int.reduceToNat, decide_true, decide_false, DV.bool.injEq, DV.int.injEq, DV.mp.injEq, DV.msl.injEq, DV.tup.injEq, DV.agg.injEq, DV.fn.injEq, true_implies, forall_const, reduceCtorEq, implies_true, ne_eq, DMem.mt]
  rw [h4]
  exact ⟨_, rfl, hR _⟩
set_option maxHeartbeats 4000000 in
theorem wrong_20 {M : DMem} {bC bP bS : Nat} {d : Int} {R : DV → DMem → Prop} (hI : FormIn M bC bP bS formC 0 1 0) (n2 : bP ≠ bC) (n3 : bS ≠ bC) (n6 : bP ≠ bS) (hd : 1 ≤ d ∧ d ≤ 1024) (hR : ∀ M', R (.bool true) M') :
    PC Tryd.prog F_swagelaw10_wrong [.agg [slD Fnc.c twoQ], .agg [.int .i64 0, .int .i64 3, .msl bC 0 11 11, .isl 1 [.msl bP 0 1 1]], .int .i64 20, .int .i64 d] R M := by
  refine pc_swagelaw10_wrong (by simp) ?_
  have hp0 : ((M bP).bind fun B => B.cs[2]?) = some (.msl bS 0 1 1) := by rw [hI.p] <;> rfl
  have ew : wr64 (6 + d) = 6 + d := w64 (by omega)
  simp (config := { maxSteps := 1000000 }) only [S_swagelaw10_wrong, S104_swagelaw10_wrong, S103_swagelaw10_wrong, R_swagelaw10_wrong, MU_swagelaw10_wrong, ew, ix_5, ix_6, ix_m, ix_p, ix_s, ld_m, hp0, hI.p, SW, wpD, evDL, evDM, evD, bldLD, List.contains_cons, List.contains_nil, Nat.reduceBEq, beq_self_eq_true, Nat.reduceMul, Nat.reduceSub, wpSp, Option.bind_some, Option.some.injEq, exists_eq_left', exists_eq_left, reduceIte, if_false, if_true, Nat.reduceEqDiff, Nat.reduceAdd, Nat.reduceLeDiff, Int.reduceEq, Int.reduceLT, Int.reduceLE, Int.reduceToNat, decide_true, decide_false, DV.bool.injEq, DV.int.injEq, DV.mp.injEq, DV.msl.injEq, DV.tup.injEq, DV.agg.injEq, DV.fn.injEq, true_implies, forall_const, reduceCtorEq, implies_true, ne_eq, DMem.mt]
  refine st_cell hI.p rfl (show 1 < 4 by decide) (w := .int .i64 (6 + d)) rfl rfl fun M' g1 g2 => ?_
  have h4 := wrong_pf (FormIn.mk (hI.c.frame irG_ok fun b hb => by rw [List.mem_singleton] at hb; rw [hb, g2 bC n2.symm]) g1 (by rw [g2 bS n6.symm]; exact hI.s)).fz (bad20 hd) (form_szc (by decide) (by decide))
  have h3 : ∀ M, ldnD M 1 (.ip [slD Fnc.c twoQ]) = some (.agg [slD Fnc.c twoQ]) := fun _ => rfl
  have h3' : ∀ M, ldnD M 4 (.ip [.int .i64 0, .int .i64 3, .msl bC 0 11 11, .isl 1 [.msl bP 0 1 1]]) = some (.agg [.int .i64 0, .int .i64 3, .msl bC 0 11 11, .isl 1 [.msl bP 0 1 1]]) := fun _ => rfl
  simp (config := { failIfUnchanged := false }) only [List.map_cons, List.map_nil, fz_agg, fz_isl, fz_int] at h4
  try simp only [h3, h3', SW, wpD, evDL, evDM, evD, bldLD, List.contains_cons, List.contains_nil, Nat.reduceBEq, beq_self_eq_true, Nat.reduceMul, Nat.reduceSub, wpSp, Option.bind_some, Option.some.injEq, exists_eq_left', exists_eq_left, reduceIte, if_false, if_true, Nat.reduceEqDiff, Nat.reduceAdd, Nat.reduceLeDiff, Int.reduceEq, Int.reduceLT, Int.reduceLE, Int.reduceToNat, decide_true, decide_false, DV.bool.injEq, DV.int.injEq, DV.mp.injEq, DV.msl.injEq, DV.tup.injEq, DV.agg.injEq, DV.fn.injEq, true_implies, forall_const, reduceCtorEq, implies_true, ne_eq, DMem.mt]
  rw [h4]
  exact ⟨_, rfl, hR _⟩
set_option maxHeartbeats 4000000 in
theorem wrong_21 {M : DMem} {bC bP bS : Nat} {d : Int} {R : DV → DMem → Prop} (hI : FormIn M bC bP bS formC 0 1 0) (n2 : bP ≠ bC) (n3 : bS ≠ bC) (n6 : bP ≠ bS) (hd : 1 ≤ d ∧ d ≤ 1024) (hR : ∀ M', R (.bool true) M') :
    PC Tryd.prog F_swagelaw10_wrong [.agg [slD Fnc.c twoQ], .agg [.int .i64 0, .int .i64 3, .msl bC 0 11 11, .isl 1 [.msl bP 0 1 1]], .int .i64 21, .int .i64 d] R M := by
  refine pc_swagelaw10_wrong (by simp) ?_
  have hp0 : ((M bP).bind fun B => B.cs[2]?) = some (.msl bS 0 1 1) := by rw [hI.p] <;> rfl
  simp (config := { maxSteps := 1000000 }) only [S_swagelaw10_wrong, S104_swagelaw10_wrong, S103_swagelaw10_wrong, S102_swagelaw10_wrong, R_swagelaw10_wrong, MU_swagelaw10_wrong, ix_5, ix_6, ix_m, ix_p, ix_s, ld_m, hp0, hI.p, SW, wpD, evDL, evDM, evD, bldLD, List.contains_cons, List.contains_nil, Nat.reduceBEq, beq_self_eq_true, Nat.reduceMul, Nat.reduceSub, wpSp, Option.bind_some, Option.some.injEq, exists_eq_left', exists_eq_left, reduceIte, if_false, if_true, Nat.reduceEqDiff, Nat.reduceAdd, Nat.reduceLeDiff, Int.reduceEq, Int.reduceLT, Int.reduceLE, Int.reduceToNat, decide_true, decide_false, DV.bool.injEq, DV.int.injEq, DV.mp.injEq, DV.msl.injEq, DV.tup.injEq, DV.agg.injEq, DV.fn.injEq, true_implies, forall_const, reduceCtorEq, implies_true, ne_eq, DMem.mt]
  refine st_cell hI.p rfl (show 3 < 4 by decide) (w := .zsl) rfl rfl fun M' g1 g2 => ?_
  have h4 := wrong_pf (nil_fz (hI.c.frame irG_ok fun b hb => by rw [List.mem_singleton] at hb; rw [hb, g2 bC n2.symm]) g1 (by rw [g2 bS n6.symm]; exact hI.s)) (may_form21) (⟨by decide, by decide, by decide, by simp [SzM]⟩)
  have h3 : ∀ M, ldnD M 1 (.ip [slD Fnc.c twoQ]) = some (.agg [slD Fnc.c twoQ]) := fun _ => rfl
  have h3' : ∀ M, ldnD M 4 (.ip [.int .i64 0, .int .i64 3, .msl bC 0 11 11, .isl 1 [.msl bP 0 1 1]]) = some (.agg [.int .i64 0, .int .i64 3, .msl bC 0 11 11, .isl 1 [.msl bP 0 1 1]]) := fun _ => rfl
  simp (config := { failIfUnchanged := false }) only [List.map_cons, List.map_nil, fz_agg, fz_isl, fz_int] at h4
  try simp only [h3, h3', SW, wpD, evDL, evDM, evD, bldLD, List.contains_cons, List.contains_nil, Nat.reduceBEq, beq_self_eq_true, Nat.reduceMul, Nat.reduceSub, wpSp, Option.bind_some, Option.some.injEq, exists_eq_left', exists_eq_left, reduceIte, if_false, if_true, Nat.reduceEqDiff, Nat.reduceAdd, Nat.reduceLeDiff, Int.reduceEq, Int.reduceLT, Int.reduceLE, Int.reduceToNat, decide_true, decide_false, DV.bool.injEq, DV.int.injEq, DV.mp.injEq, DV.msl.injEq, DV.tup.injEq, DV.agg.injEq, DV.fn.injEq, true_implies, forall_const, reduceCtorEq, implies_true, ne_eq, DMem.mt]
  rw [h4]
  exact ⟨_, rfl, hR _⟩
set_option maxHeartbeats 4000000 in
theorem wrong_22 {M : DMem} {bC bP bS : Nat} {d : Int} {R : DV → DMem → Prop} (hI : FormIn M bC bP bS formC 0 1 0) (n2 : bP ≠ bC) (n3 : bS ≠ bC) (n6 : bP ≠ bS) (hd : 1 ≤ d ∧ d ≤ 1024) (hR : ∀ M', R (.bool true) M') :
    PC Tryd.prog F_swagelaw10_wrong [.agg [slD Fnc.c twoQ], .agg [.int .i64 0, .int .i64 3, .msl bC 0 11 11, .isl 1 [.msl bP 0 1 1]], .int .i64 22, .int .i64 d] R M := by
  refine pc_swagelaw10_wrong (by simp) ?_
  have hp0 : ((M bP).bind fun B => B.cs[2]?) = some (.msl bS 0 1 1) := by rw [hI.p] <;> rfl
  have ew : wr64 (2 + d) = 2 + d := w64 (by omega)
  simp (config := { maxSteps := 1000000 }) only [S_swagelaw10_wrong, S104_swagelaw10_wrong, S103_swagelaw10_wrong, S102_swagelaw10_wrong, S101_swagelaw10_wrong, R_swagelaw10_wrong, MU_swagelaw10_wrong, ew, ix_5, ix_6, ix_m, ix_p, ix_s, ld_m, hp0, hI.p, SW, wpD, evDL, evDM, evD, bldLD, List.contains_cons, List.contains_nil, Nat.reduceBEq, beq_self_eq_true, Nat.reduceMul, Nat.reduceSub, wpSp, Option.bind_some, Option.some.injEq, exists_eq_left', exists_eq_left, reduceIte, if_false, if_true, Nat.reduceEqDiff, Nat.reduceAdd, Nat.reduceLeDiff, Int.reduceEq, Int.reduceLT, Int.reduceLE, Int.reduceToNat, decide_true, decide_false, DV.bool.injEq, DV.int.injEq, DV.mp.injEq, DV.msl.injEq, DV.tup.injEq, DV.agg.injEq, DV.fn.injEq, true_implies, forall_const, reduceCtorEq, implies_true, ne_eq, DMem.mt]
  refine st_cell hI.s rfl (show 1 < 2 by decide) (w := .int .i64 (2 + d)) rfl rfl fun M' g1 g2 => ?_
  have h4 := wrong_pf (FormIn.mk (hI.c.frame irG_ok fun b hb => by rw [List.mem_singleton] at hb; rw [hb, g2 bC n3.symm]) (by rw [g2 bP n6]; exact hI.p) g1).fz (bad22 hd) (form_szc (by decide) (by decide))
  have h3 : ∀ M, ldnD M 1 (.ip [slD Fnc.c twoQ]) = some (.agg [slD Fnc.c twoQ]) := fun _ => rfl
  have h3' : ∀ M, ldnD M 4 (.ip [.int .i64 0, .int .i64 3, .msl bC 0 11 11, .isl 1 [.msl bP 0 1 1]]) = some (.agg [.int .i64 0, .int .i64 3, .msl bC 0 11 11, .isl 1 [.msl bP 0 1 1]]) := fun _ => rfl
  simp (config := { failIfUnchanged := false }) only [List.map_cons, List.map_nil, fz_agg, fz_isl, fz_int] at h4
  try simp only [h3, h3', SW, wpD, evDL, evDM, evD, bldLD, List.contains_cons, List.contains_nil, Nat.reduceBEq, beq_self_eq_true, Nat.reduceMul, Nat.reduceSub, wpSp, Option.bind_some, Option.some.injEq, exists_eq_left', exists_eq_left, reduceIte, if_false, if_true, Nat.reduceEqDiff, Nat.reduceAdd, Nat.reduceLeDiff, Int.reduceEq, Int.reduceLT, Int.reduceLE, Int.reduceToNat, decide_true, decide_false, DV.bool.injEq, DV.int.injEq, DV.mp.injEq, DV.msl.injEq, DV.tup.injEq, DV.agg.injEq, DV.fn.injEq, true_implies, forall_const, reduceCtorEq, implies_true, ne_eq, DMem.mt]
  rw [h4]
  exact ⟨_, rfl, hR _⟩
set_option maxHeartbeats 4000000 in
theorem wrong_23 {M : DMem} {bC bP bS : Nat} {d : Int} {R : DV → DMem → Prop} (hI : FormIn M bC bP bS formC 0 1 0) (n2 : bP ≠ bC) (n3 : bS ≠ bC) (n6 : bP ≠ bS) (hd : 1 ≤ d ∧ d ≤ 1024) (hR : ∀ M', R (.bool true) M') :
    PC Tryd.prog F_swagelaw10_wrong [.agg [slD Fnc.c twoQ], .agg [.int .i64 0, .int .i64 3, .msl bC 0 11 11, .isl 1 [.msl bP 0 1 1]], .int .i64 23, .int .i64 d] R M := by
  refine pc_swagelaw10_wrong (by simp) ?_
  have hp0 : ((M bP).bind fun B => B.cs[2]?) = some (.msl bS 0 1 1) := by rw [hI.p] <;> rfl
  simp (config := { maxSteps := 1000000 }) only [S_swagelaw10_wrong, S104_swagelaw10_wrong, S103_swagelaw10_wrong, S102_swagelaw10_wrong, S101_swagelaw10_wrong, R_swagelaw10_wrong, MU_swagelaw10_wrong, ix_5, ix_6, ix_m, ix_p, ix_s, ld_m, hp0, hI.p, SW, wpD, evDL, evDM, evD, bldLD, List.contains_cons, List.contains_nil, Nat.reduceBEq, beq_self_eq_true, Nat.reduceMul, Nat.reduceSub, wpSp, Option.bind_some, Option.some.injEq, exists_eq_left', exists_eq_left, reduceIte, if_false, if_true, Nat.reduceEqDiff, Nat.reduceAdd, Nat.reduceLeDiff, Int.reduceEq, Int.reduceLT, Int.reduceLE, Int.reduceToNat, decide_true, decide_false, DV.bool.injEq, DV.int.injEq, DV.mp.injEq, DV.msl.injEq, DV.tup.injEq, DV.agg.injEq, DV.fn.injEq, true_implies, forall_const, reduceCtorEq, implies_true, ne_eq, DMem.mt]
  refine st_cell hI.p rfl (show 0 < 4 by decide) (w := .int .i64 1) rfl rfl fun M' g1 g2 => ?_
  have h4 := wrong_pf (FormIn.mk (hI.c.frame irG_ok fun b hb => by rw [List.mem_singleton] at hb; rw [hb, g2 bC n2.symm]) g1 (by rw [g2 bS n6.symm]; exact hI.s)).fz (may_form23) (form_szc (by decide) (by decide))
  have h3 : ∀ M, ldnD M 1 (.ip [slD Fnc.c twoQ]) = some (.agg [slD Fnc.c twoQ]) := fun _ => rfl
  have h3' : ∀ M, ldnD M 4 (.ip [.int .i64 0, .int .i64 3, .msl bC 0 11 11, .isl 1 [.msl bP 0 1 1]]) = some (.agg [.int .i64 0, .int .i64 3, .msl bC 0 11 11, .isl 1 [.msl bP 0 1 1]]) := fun _ => rfl
  simp (config := { failIfUnchanged := false }) only [List.map_cons, List.map_nil, fz_agg, fz_isl, fz_int] at h4
  try simp only [h3, h3', SW, wpD, evDL, evDM, evD, bldLD, List.contains_cons, List.contains_nil, Nat.reduceBEq, beq_self_eq_true, Nat.reduceMul, Nat.reduceSub, wpSp, Option.bind_some, Option.some.injEq, exists_eq_left', exists_eq_left, reduceIte, if_false, if_true, Nat.reduceEqDiff, Nat.reduceAdd, Nat.reduceLeDiff, Int.reduceEq, Int.reduceLT, Int.reduceLE, Int.reduceToNat, decide_true, decide_false, DV.bool.injEq, DV.int.injEq, DV.mp.injEq, DV.msl.injEq, DV.tup.injEq, DV.agg.injEq, DV.fn.injEq, true_implies, forall_const, reduceCtorEq, implies_true, ne_eq, DMem.mt]
  rw [h4]
  exact ⟨_, rfl, hR _⟩
-- END
end Go.Proofs.YtpehdlobicocpaaDoor.Pf
namespace Go.Proofs.YtpehdlobicocpaaDoor.Pf
open Go Go.RowKit Go.Proofs Go.Proofs.YtpehdlobicocpaaDoor.Mw Go.Proofs.YtpehdlobicocpaaDoor.Sx
set_option linter.unusedVariables false
set_option linter.unusedSimpArgs false
set_option maxRecDepth 16000
set_option maxHeartbeats 4000000 in
theorem form_rest {KK XX RR δ} {M : DMem} {q8 bC bP bS jn : Nat} {which d r : Int} (hq : M q8 = some ⟨38, 4, [.int .i64 0, .int .i64 3, .msl bC 0 11 11, .isl 1 [.msl bP 0 1 1]]⟩) (hI : FormIn M bC bP bS formC 0 1 0) (n1 : q8 ≠ bC) (n2 : bP ≠ bC) (n3 : bS ≠ bC) (n4 : bP ≠ q8) (n5 : bS ≠ q8) (n6 : bP ≠ bS) (hd : 1 ≤ d ∧ d ≤ 1024) (hj : jn < 11)
    (h0 : δ 0 = .int .i64 which)(hw : (which % 18446744073709551616).tmod 24 = r) (h5 : δ 5 = .int .i64 d) (h6 : δ 6 = .ip [slD Fnc.c twoQ]) (h8 : δ 8 = .mp q8 0) (h9 : δ 9 = .mp bC (jn * 9)) (h52 : δ 52 = .int .u64 r) (h18 : 18 ≤ r ∧ r < 24) (hR : ∀ δ' M', δ' 4 = .bool true → RR δ' M') :
    wpD Tryd.prog MU_swagelaw10_IrForms (fun f => roL.contains f) (fun t => G_swagelaw10_IrForms.contains t) 176 (.seq (.block 0 S116_swagelaw10_IrForms) S1_swagelaw10_IrForms) KK XX RR δ M := by
  have ne : ∀ k : Int, k < 18 → (decide (r = k)) = false := fun k hk => decide_eq_false (by omega)
  have q0 := ne 0 (by decide)
  have q1 := ne 1 (by decide)
  have q2 := ne 2 (by decide)
  have q3 := ne 3 (by decide)
  have q4 := ne 4 (by decide)
  have q5 := ne 5 (by decide)
  have q6 := ne 6 (by decide)
  have q7 := ne 7 (by decide)
  have q8 := ne 8 (by decide)
  have q9 := ne 9 (by decide)
  have q10 := ne 10 (by decide)
  have q11 := ne 11 (by decide)
  have q12 := ne 12 (by decide)
  have q13 := ne 13 (by decide)
  have q14 := ne 14 (by decide)
  have q15 := ne 15 (by decide)
  have q16 := ne 16 (by decide)
  have q17 := ne 17 (by decide)
  have hr : wr64 r = r := w64 (by omega)
  simp (config := { maxSteps := 1000000 }) only [S116_swagelaw10_IrForms, S115_swagelaw10_IrForms, S114_swagelaw10_IrForms, S113_swagelaw10_IrForms, S112_swagelaw10_IrForms, S111_swagelaw10_IrForms, S110_swagelaw10_IrForms, S109_swagelaw10_IrForms, S108_swagelaw10_IrForms, S107_swagelaw10_IrForms, S106_swagelaw10_IrForms, S105_swagelaw10_IrForms, S104_swagelaw10_IrForms, S103_swagelaw10_IrForms, S102_swagelaw10_IrForms, S101_swagelaw10_IrForms, q0, q1, q2, q3, q4, q5, q6, q7, q8, q9, q10, q11, q12, q13, q14, q15, q16, q17, hw, hr, h0, h5, h6, h8, h9, h52, hq, SW, wpD, evDL, evDM, evD, bldLD, List.contains_cons, List.contains_nil, Nat.reduceBEq, beq_self_eq_true, Nat.reduceMul, Nat.reduceSub, wpSp, Option.bind_some, Option.some.injEq, exists_eq_left', exists_eq_left, reduceIte, if_false, if_true, Nat.reduceEqDiff, Nat.reduceAdd, Nat.reduceLeDiff, Int.reduceEq, Int.reduceLT, Int.reduceLE, Int.reduceToNat, decide_true, decide_false, DV.bool.injEq, DV.int.injEq, DV.mp.injEq, DV.msl.injEq, DV.tup.injEq, DV.agg.injEq, DV.fn.injEq, true_implies, forall_const, reduceCtorEq, implies_true, ne_eq, DMem.mt]
  refine ⟨_, rfl, ?_⟩
  have hc : r = 18 ∨ r = 19 ∨ r = 20 ∨ r = 21 ∨ r = 22 ∨ r = 23 := by omega
  rcases hc with h | h | h | h | h | h
  · subst h; exact wrong_18 hI n2 n3 n6 hd fun _ => hR _ _ rfl
  · subst h; exact wrong_19 hI n2 n3 n6 hd fun _ => hR _ _ rfl
  · subst h; exact wrong_20 hI n2 n3 n6 hd fun _ => hR _ _ rfl
  · subst h; exact wrong_21 hI n2 n3 n6 hd fun _ => hR _ _ rfl
  · subst h; exact wrong_22 hI n2 n3 n6 hd fun _ => hR _ _ rfl
  · subst h; exact wrong_23 hI n2 n3 n6 hd fun _ => hR _ _ rfl
set_option maxHeartbeats 4000000 in
theorem IrForms_pc (which x : Int) : PC Tryd.prog F_swagelaw10_IrForms [.int .i64 which, .int .i64 x] (fun d' M' => d' = .bool true) DMem.mt := by
  refine pc_swagelaw10_IrForms (by simp) ?_
  have hd := and_bnd x 10 (by decide)
  rw [show bits .and .i64 x ((2 ^ 10 - 1 : Nat) : Int) = bits .and .i64 x 1023 from rfl] at hd
  replace hd : 0 ≤ bits .and .i64 x 1023 ∧ bits .and .i64 x 1023 < 1024 := hd
  simp only [S_swagelaw10_IrForms, R_swagelaw10_IrForms, MU_swagelaw10_IrForms, awake10_pf, SW, wpD, evDL, evDM, evD, bldLD, List.contains_cons, List.contains_nil, Nat.reduceBEq, beq_self_eq_true, Nat.reduceMul, Nat.reduceSub, wpSp, Option.bind_some, Option.some.injEq, exists_eq_left', exists_eq_left, reduceIte, if_false, if_true, Nat.reduceEqDiff, Nat.reduceAdd, Nat.reduceLeDiff, Int.reduceEq, Int.reduceLT, Int.reduceLE, Int.reduceToNat, decide_true, decide_false, DV.bool.injEq, DV.int.injEq, DV.mp.injEq, DV.msl.injEq, DV.tup.injEq, DV.agg.injEq, DV.fn.injEq, true_implies, forall_const, reduceCtorEq, implies_true, ne_eq, DMem.mt]
  generalize bits .and .i64 x 1023 = y at *
  have ed : wr64 (1 + y) = 1 + y := w64 (by omega)
  generalize hdd : 1 + y = d at *
  simp only [ed]
  refine Pu.pc twoQ_pu ?_
  simp (config := { maxSteps := 5000000 }) only [S2_swagelaw10_IrForms, MU_swagelaw10_IrForms, SW, wpD, evDL, evDM, evD, bldLD, List.contains_cons, List.contains_nil, Nat.reduceBEq, beq_self_eq_true, Nat.reduceMul, Nat.reduceSub, wpSp, Option.bind_some, Option.some.injEq, exists_eq_left', exists_eq_left, reduceIte, if_false, if_true, Nat.reduceEqDiff, Nat.reduceAdd, Nat.reduceLeDiff, Int.reduceEq, Int.reduceLT, Int.reduceLE, Int.reduceToNat, decide_true, decide_false, DV.bool.injEq, DV.int.injEq, DV.mp.injEq, DV.msl.injEq, DV.tup.injEq, DV.agg.injEq, DV.fn.injEq, true_implies, forall_const, reduceCtorEq, implies_true, ne_eq, DMem.mt]
  intro bS M1 hM1 bC M2 hC0 hM2 bP M3 hP0 hM3 q8 M4 hq0 hM4
  have nSC : bS ≠ bC := by rintro rfl; rw [hM1, DMem.ins_same] at hC0; cases hC0
  have e2S : M2 bS = M1 bS := by rw [hM2, DMem.ins_ne _ _ nSC]
  have nSP : bS ≠ bP := by rintro rfl; rw [e2S, hM1, DMem.ins_same] at hP0; cases hP0
  have nCP : bC ≠ bP := by rintro rfl; rw [hM2, DMem.ins_same] at hP0; cases hP0
  have nPq : bP ≠ q8 := by rintro rfl; rw [hM3, DMem.ins_same] at hq0; cases hq0
  have nCq : bC ≠ q8 := by rintro rfl; rw [hM3, DMem.ins_ne _ _ nCP, hM2, DMem.ins_same] at hq0; cases hq0
  have nSq : bS ≠ q8 := by rintro rfl; rw [hM3, DMem.ins_ne _ _ nSP, e2S, hM1, DMem.ins_same] at hq0; cases hq0
  have hq : M4 q8 = some ⟨38, 4, [.int .i64 0, .int .i64 3, .msl bC 0 11 11, .isl 1 [.msl bP 0 1 1]]⟩ := by rw [hM4, DMem.ins_same]
  have hI : FormIn M4 bC bP bS formC 0 1 0 := by
    refine ⟨.inr ⟨bC, 11, 28, _, [], rfl, by rw [hM4, DMem.ins_ne _ _ nCq, hM3, DMem.ins_ne _ _ nCP, hM2, DMem.ins_same] <;> rfl, ?_, rfl, by decide, by decide⟩, by rw [hM4, DMem.ins_ne _ _ nPq, hM3, DMem.ins_same], by rw [hM4, DMem.ins_ne _ _ nSq, hM3, DMem.ins_ne _ _ nSP, e2S, hM1, DMem.ins_same]⟩
    have z : ∀ (M : DMem) (k r a b kk c m pc : Int), irG.rep M ⟨k, r, a, b, kk, [], c, m, pc⟩ [.int .i64 k, .int .i64 r, .int .i64 a, .int .i64 b, .int .i64 kk, .zsl, .int .i64 c, .int .i64 m, .int .i64 pc] [] := fun M k r a b kk c m pc => ⟨⟨.zsl, rfl, .inr ⟨rfl, rfl⟩⟩, rfl⟩
    have e : ∀ (x : Irc) (xs : List Irc) (cx cs : List DV), irG.rep M4 x cx [] → RowAt irG M4 xs cs [] → RowAt irG M4 (x :: xs) (cx ++ cs) [] := fun x xs cx cs h1 h2 => ⟨cx, cs, [], [], rfl, rfl, h1, h2⟩
    exact e _ _ _ _ (z _ 10 0 0 0 0 0 0 0) <| e _ _ _ _ (z _ 1 1 0 0 4 0 0 0) <| e _ _ _ _ (z _ 3 2 1 0 3 0 0 0) <| e _ _ _ _ (z _ 9 0 2 1 5 0 0 0) <| e _ _ _ _ (z _ 5 0 2 0 0 1 0 0) <| e _ _ [.int .i64 6, .int .i64 1, .int .i64 0, .int .i64 0, .int .i64 1, .isl 2 [.int .i64 0, .int .i64 1], .int .i64 1, .int .i64 0, .int .i64 0] _ ⟨⟨_, rfl, .inl rfl⟩, rfl⟩ <| e _ _ _ _ (z _ 7 0 1 0 0 1 0 0) <| e _ _ _ _ (z _ 11 0 0 0 0 0 0 0) <| e _ _ _ _ (z _ 2 0 1 0 0 0 0 0) <| e _ _ _ _ (z _ 0 0 0 0 0 0 0 0) <| e _ _ _ _ (z _ 8 0 0 0 0 0 0 0) RowAt.nil
  clear hM1 hM2 hM3 hM4 hC0 hP0 hq0 e2S
  have h4 : pf Tryd.prog 18 (List.map (fz M4 4) [.agg [slD Fnc.c twoQ], .agg [.int .i64 0, .int .i64 3, .msl bC 0 11 11, .isl 1 [.msl bP 0 1 1]]]) = some (.bool true) := by
    rw [List.map_cons, List.map_cons, List.map_nil, fz_two, hI.fz]
    exact (irMay_pf twoQ _ (form_szc (by decide) (by decide))).trans (by rw [may_form])
  simp (config := { failIfUnchanged := false }) only [List.map_cons, List.map_nil, fz_agg, fz_isl, fz_int] at h4
  have h3 : ∀ M, ldnD M 1 (.ip [slD Fnc.c twoQ]) = some (.agg [slD Fnc.c twoQ]) := fun _ => rfl
  have hjn : 0 ≤ (x % 18446744073709551616).tmod 11 ∧ (x % 18446744073709551616).tmod 11 < 11 := by
    have h1 : 0 ≤ x % 18446744073709551616 := by omega
    rw [Int.tmod_eq_emod_of_nonneg h1]; omega
  have hjr : 0 ≤ (which % 18446744073709551616).tmod 24 ∧ (which % 18446744073709551616).tmod 24 < 24 := by
    have h1 : 0 ≤ which % 18446744073709551616 := by omega
    rw [Int.tmod_eq_emod_of_nonneg h1]; omega
  obtain ⟨jn, ejn⟩ := Int.eq_ofNat_of_zero_le hjn.1
  rw [ejn] at hjn
  have hj : jn < 11 := by omega
  have ew : wr64 ((x % 18446744073709551616).tmod 11) = (jn : Int) := by rw [ejn]; exact w64 (by omega)
  have hix : ixD 9 (.msl bC 0 11 11) (.int .i64 (jn : Int)) = some (.mp bC (jn * 9)) := by
    simp only [ixD]
    rw [if_pos ⟨by omega, by omega⟩, Int.toNat_natCast, Nat.zero_add]
  simp (config := { maxSteps := 1000000 }) only [h3, hq, h4, ew, hix, SW, wpD, evDL, evDM, evD, bldLD, List.contains_cons, List.contains_nil, Nat.reduceBEq, beq_self_eq_true, Nat.reduceMul, Nat.reduceSub, wpSp, Option.bind_some, Option.some.injEq, exists_eq_left', exists_eq_left, reduceIte, if_false, if_true, Nat.reduceEqDiff, Nat.reduceAdd, Nat.reduceLeDiff, Int.reduceEq, Int.reduceLT, Int.reduceLE, Int.reduceToNat, decide_true, decide_false, DV.bool.injEq, DV.int.injEq, DV.mp.injEq, DV.msl.injEq, DV.tup.injEq, DV.agg.injEq, DV.fn.injEq, true_implies, forall_const, reduceCtorEq, implies_true, ne_eq, DMem.mt]
  generalize hrr : (which % 18446744073709551616).tmod 24 = r at *
  have hdd2 : 1 ≤ d ∧ d ≤ 1024 := by omega
  have hc : r = 0 ∨ r = 1 ∨ r = 2 ∨ r = 3 ∨ r = 4 ∨ r = 5 ∨ r = 6 ∨ r = 7 ∨ r = 8 ∨ r = 9 ∨ r = 10 ∨ r = 11 ∨ r = 12 ∨ r = 13 ∨ r = 14 ∨ r = 15 ∨ r = 16 ∨ r = 17 ∨ 18 ≤ r := by omega
  rcases hc with h | h | h | h | h | h | h | h | h | h | h | h | h | h | h | h | h | h | h
  · subst h; exact form_w0 hq hI nCq.symm nCP.symm nSC nPq nSq hdd2 hj rfl rfl rfl rfl rfl rfl (fun _ _ h => h)
  · subst h; exact form_w1 hq hI nCq.symm nCP.symm nSC nPq nSq hdd2 hj rfl rfl rfl rfl rfl rfl (fun _ _ h => h)
  · subst h; exact form_w2 hq hI nCq.symm nCP.symm nSC nPq nSq hdd2 hj rfl rfl rfl rfl rfl rfl (fun _ _ h => h)
  · subst h; exact form_w3 hq hI nCq.symm nCP.symm nSC nPq nSq hdd2 hj rfl rfl rfl rfl rfl rfl (fun _ _ h => h)
  · subst h; exact form_w4 hq hI nCq.symm nCP.symm nSC nPq nSq hdd2 hj rfl rfl rfl rfl rfl rfl (fun _ _ h => h)
  · subst h; exact form_w5 hq hI nCq.symm nCP.symm nSC nPq nSq hdd2 hj rfl rfl rfl rfl rfl rfl (fun _ _ h => h)
  · subst h; exact form_w6 hq hI nCq.symm nCP.symm nSC nPq nSq hdd2 hj rfl rfl rfl rfl rfl rfl (fun _ _ h => h)
  · subst h; exact form_w7 hq hI nCq.symm nCP.symm nSC nPq nSq hdd2 hj rfl rfl rfl rfl rfl rfl (fun _ _ h => h)
  · subst h; exact form_w8 hq hI nCq.symm nCP.symm nSC nPq nSq hdd2 hj rfl rfl rfl rfl rfl rfl (fun _ _ h => h)
  · subst h; exact form_w9 hq hI nCq.symm nCP.symm nSC nPq nSq hdd2 hj rfl rfl rfl rfl rfl rfl (fun _ _ h => h)
  · subst h; exact form_w10 hq hI nCq.symm nCP.symm nSC nPq nSq hdd2 hj rfl rfl rfl rfl rfl rfl (fun _ _ h => h)
  · subst h; exact form_w11 hq hI nCq.symm nCP.symm nSC nPq nSq hdd2 hj rfl rfl rfl rfl rfl rfl (fun _ _ h => h)
  · subst h; exact form_w12 hq hI nCq.symm nCP.symm nSC nPq nSq hdd2 hj rfl rfl rfl rfl rfl rfl (fun _ _ h => h)
  · subst h; exact form_w13 hq hI nCq.symm nCP.symm nSC nPq nSq hdd2 hj rfl rfl rfl rfl rfl rfl (fun _ _ h => h)
  · subst h; exact form_w14 hq hI nCq.symm nCP.symm nSC nPq nSq hdd2 hj rfl rfl rfl rfl rfl rfl (fun _ _ h => h)
  · subst h; exact form_w15 hq hI nCq.symm nCP.symm nSC nPq nSq hdd2 hj rfl rfl rfl rfl rfl rfl (fun _ _ h => h)
  · subst h; exact form_w16 hq hI nCq.symm nCP.symm nSC nPq nSq hdd2 hj rfl rfl rfl rfl rfl rfl (fun _ _ h => h)
  · subst h; exact form_w17 hq hI nCq.symm nCP.symm nSC nPq nSq hdd2 hj rfl rfl rfl rfl rfl rfl (fun _ _ h => h)
  · exact form_rest hq hI nCq.symm nCP.symm nSC nPq nSq nSP.symm hdd2 hj rfl hrr rfl rfl rfl rfl rfl ⟨h, hjr.2⟩ (fun _ _ h => h)
end Go.Proofs.YtpehdlobicocpaaDoor.Pf
namespace Go.Proofs.YtpehdlobicocpaaDoor.Mw
open Go Go.RowKit Go.ChangeShapes Go.WideShapes Go.ChangeAt
set_option linter.unusedVariables false
theorem walk_of {P : Program} {f : FuncId} {args : List Value} {w : World} (h : MC P f args (fun v _ => v = .bool true) (snap w)) :
    Calls P f args.toArray w fun e w' => e = .returned (.bool true) ∧ Below w.heap.size w w' :=
  (h.2 w w (snap_sat w)).mono fun e w' ⟨v, m', he, hs, hv⟩ => ⟨by rw [he, hv], hs.below⟩
theorem args_stay {H : Type} {enc : TypeId × Value → H} {P : Program} (hl : laidOutB P = true) {W W' : World} (hb : Below W.heap.size W W') : ∀ (ts : List TypeId) (vs : List Value) (ds : List (DataW H)) (ps : List MemPlace),
    (∀ t ∈ ts, P.readableRec t = true ∧ t < P.types.size) → DataW.TrodAll enc P W 0 (fun _ => true) true ts vs ds ps → DataW.TrodAll enc P W' 0 (fun b => decide (b < W.heap.size)) true ts vs ds ps
  | [], [], [], ps, _, h => h
  | t :: ts, v :: vs, d :: ds, ps, ht, h => by
    have hlt := DataW.TrodAll.lt h
    obtain ⟨p, q, h1, h2, rfl⟩ := h
    exact ⟨p, q, Below.trod hl (ht t (by simp)).1 (ht t (by simp)).2 h1 hb (fun x hx => hlt x (by simp [hx])), args_stay hl hb ts vs ds q (fun t' h' => ht t' (by simp [h'])) h2, rfl⟩
  | [], [], _ :: _, _, _, h => h.elim
  | [], _ :: _, _, _, _, h => by cases h
  | _ :: _, [], _, _, _, h => by cases h
  | _ :: _, _ :: _, [], _, _, h => by cases h
end Go.Proofs.YtpehdlobicocpaaDoor.Mw
namespace Go.Proofs.YtpehdlobicocpaaDoor.Mw
open Go Go.RowKit Go.ChangeShapes Go.WideShapes Go.ChangeAt
set_option linter.unusedVariables false
theorem law_row_laid {C : Checked} {os : Os} {H : Type} {enc : TypeId × Value → H} (laid : List (String × DataW Unit)) (own : ownKnob C.prog.godebug = none) (started : os.Started) {f : FuncId} {fn : Func} {s : ChangeSpec}
    (noInit : C.prog.inits.idxOf? f = none) (hfn : C.prog.funcs[f]? = some fn) (hvars : s.vars = [])
    (hspec : ∀ ds : List (DataW H), ds.length = fn.params.toList.length → s.fn H ds = { results := [.lit (.bool true)], args := ds })
    {tb : TypeId} (hres : fn.resultTypes = #[tb]) (htb : C.prog.underlying tb = some .bool)
    (hl : laidOutB C.prog = true) (hread : ∀ t ∈ fn.params.toList, C.prog.readableRec t = true ∧ t < C.prog.types.size) {apart : Bool}
    (witness : ∃ (w : World) (tape : Tape) (i : Input), w.os = os ∧ (w.forCall tape i).Shaped C.prog ∧ i.vars = [] ∧ Input.okWide C.prog (w.forCall tape i) .any w.heap.size f i ∧
      ((s.pre enc C.prog fn [] apart (w.forCall tape i).memory i.args ∧ laidMetH C.prog laid (w.forCall tape i).memory) ∧ sizedMet enc C.prog fn (OpenSpec.ofChange s) apart (w.forCall tape i).memory i.args) ∧ ({} : Assume).holds C.prog (lone (Frame.enter C.prog f i.args .normal) [] (w.forCall tape i)))
    (hmc : ∀ (W : World) (base : Nat) (args : List Value) (ds : List (DataW H)) (p : List MemPlace), DataW.TrodAll enc C.prog W 0 (fun _ => true) true fn.params.toList args ds p →
      (∀ (j : Nat) t v, fn.params[j]? = some t → args[j]? = some v → Value.okWide C.prog W .any base t v) →
      (DataW.weightsEach C.prog fn.params.toList ds).all (· ≤ reachBytes) = true → laidMetH C.prog laid W → MC C.prog f args (fun v _ => v = .bool true) (snap W)) :
    ReturnsInHanded {} C os f .any (fun w args => (s.pre enc C.prog fn [] apart w args ∧ laidMetH C.prog laid w) ∧ sizedMet enc C.prog fn (OpenSpec.ofChange s) apart w args) (s.post enc C.prog fn apart true false false) := by
  refine returnsInHanded_of_change_and (X := fun w _ => laidMetH C.prog laid w) (fun _ _ _ hh h => h.of_heap hh) own started noInit hfn witness ?_
  intro W base args ds gs before hval hW _ hsz hL _
  have hW' := hW
  obtain ⟨p, q, hA, hV, rfl, hfz, hnd⟩ := hW
  have hg : gs = [] := by
    rw [hvars] at hV
    cases gs with
    | nil => rfl
    | cons a b => exact hV.elim
  subst hg
  have hlen : ds.length = fn.params.toList.length := by
    have : ∀ (ts : List TypeId) (vs : List Value) (ds : List (DataW H)) (ps : List MemPlace), DataW.TrodAll enc C.prog W 0 (fun _ => true) true ts vs ds ps → ds.length = ts.length := by
      intro ts
      induction ts with
      | nil => intro vs ds ps h; cases vs <;> cases ds <;> first | rfl | exact h.elim | cases h
      | cons t ts ih =>
        intro vs ds ps h
        cases vs with
        | nil => cases h
        | cons v vs =>
          cases ds with
          | nil => cases h
          | cons d ds => obtain ⟨p, q, _, h2, _⟩ := h; simp [ih _ _ _ h2]
    exact this _ _ _ _ hA
  have hv0 : s.plain.varTypes C.prog = [] := by
    have : s.plain.vars = [] := hvars
    simp [DataSpec.varTypes, this]
  have hmc' := hmc W base args.toList ds p hA (fun j t v ht hv => hval j t v ht (by simpa using hv)) (by rw [hv0] at hsz; simpa using hsz) hL
  have hw := walk_of hmc'
  rw [Array.toArray_toList] at hw
  refine hw.mono fun e W' ⟨he, bel⟩ => ?_
  have hsp := hspec ds hlen
  refine ⟨_, he, ds, [], _, [], p, [], hW', ?_, ?_, ?_, bel.frame _, fun h => by cases h⟩
  · rw [List.append_nil, hsp, hres]
    exact trodAll_mk1 (shut_bool htb _)
  · rw [List.append_nil, hsp]
    exact args_stay hl bel _ _ _ _ hread hA
  · rw [List.append_nil, hsp, hvars]
    rfl
end Go.Proofs.YtpehdlobicocpaaDoor.Mw
namespace Go.Proofs.YtpehdlobicocpaaDoor.Mw
open Go Go.RowKit Go.ChangeShapes Go.WideShapes Go.ChangeAt Go.Deep
set_option linter.unusedVariables false
structure Opens (P : Program) (w : World) (t : TypeId) {α : Type} (c : α → List DV) : Prop where
  op : ∀ {H : Type} (enc : TypeId × Value → H) (base : Nat) (spare : Nat → Bool) (held : Bool) (fuel : Nat) (cs : List Value) (x : DataW H × List MemPlace),
    DataW.trod enc P w base spare held fuel t cs = some x → ∃ a, RepL (snap w) (c a) cs
structure OpensF (P : Program) (w : World) (tot : Nat) (fs : List Field) (o : Nat) {α : Type} (c : α → List DV) : Prop where
  op : ∀ {H : Type} (enc : TypeId × Value → H) (base : Nat) (spare : Nat → Bool) (held : Bool) (fuel : Nat) (cs : List Value), cs.length = tot →
    (∀ f ∈ fs, ∃ y, DataW.trod enc P w base spare held fuel f.type ((cs.drop f.offset).take (P.cellsOf f.type)) = some y) → ∃ a, RepL (snap w) (c a) (cs.drop o)
section
variable {P : Program} {w : World} {t : TypeId}
theorem RepL.one {m : Mem} {d : DV} {v : Value} (h : Rep m d v) : RepL m [d] [v] := RepL.cons h (RepL.nil m)
theorem Opens.int {k : IntKind} (ht : P.underlying t = some (.int k)) : Opens P w t (fun z : Int => [.int k z]) := by
  constructor
  intro _ enc base sp held fuel cs x h
  obtain ⟨n, rfl, _, _⟩ := DataW.trod_int ht h
  exact ⟨n, RepL.one (by simp only [Rep])⟩
theorem Opens.bool (ht : P.underlying t = some .bool) : Opens P w t (fun z : Bool => [.bool z]) := by
  constructor
  intro _ enc base sp held fuel cs x h
  obtain ⟨n, rfl, _⟩ := DataW.trod_bool ht h
  exact ⟨n, RepL.one (by simp only [Rep])⟩
theorem Opens.str (ht : P.underlying t = some .string) : Opens P w t (fun z : ByteArray => [.str z]) := by
  constructor
  intro _ enc base sp held fuel cs x h
  obtain ⟨n, rfl, _⟩ := DataW.trod_string ht h
  exact ⟨n, RepL.one (by simp only [Rep])⟩
theorem Opens.map {α β : Type} {c : α → List DV} {c' : β → List DV} (h : Opens P w t c) (f : α → β) (e : ∀ a, c' (f a) = c a) : Opens P w t c' := by
  constructor
  intro _ enc base sp held fuel cs x hx
  obtain ⟨a, ha⟩ := h.op enc base sp held fuel cs x hx
  exact ⟨f a, by rw [e]; exact ha⟩
theorem OpensF.nil {tot : Nat} : OpensF P w tot [] tot (fun _ : Unit => []) := by
  constructor
  intro _ enc base sp held fuel cs hl h
  exact ⟨(), by rw [List.drop_eq_nil_of_le (by omega)]; exact RepL.nil _⟩
theorem OpensF.cons {α β : Type} {c0 : α → List DV} {c1 : β → List DV} {tot o k : Nat} {f : Field} {fs : List Field} (h0 : Opens P w f.type c0) (ho : f.offset = o) (hk : P.cellsOf f.type = k) (h1 : OpensF P w tot fs (o + k) c1) :
    OpensF P w tot (f :: fs) o (fun p : α × β => c0 p.1 ++ c1 p.2) := by
  constructor
  intro _ enc base sp held fuel cs hl h
  obtain ⟨y, hy⟩ := h f (by simp)
  obtain ⟨a, ha⟩ := h0.op enc base sp held fuel _ _ hy
  obtain ⟨b, hb⟩ := h1.op enc base sp held fuel cs hl fun g hg => h g (by simp [hg])
  rw [ho, hk] at ha
  refine ⟨(a, b), ?_⟩
  have e : cs.drop o = (cs.drop o).take k ++ cs.drop (o + k) := by rw [← List.drop_drop, List.take_append_drop]
  rw [e]
  exact ha.append hb
theorem Opens.struct {α : Type} {c : α → List DV} {fs : Array Field} {tot : Nat} (ht : P.underlying t = some (.struct fs)) (hc : P.cellsOf t = tot) (h : OpensF P w tot fs.toList 0 c) : Opens P w t c := by
  constructor
  intro _ enc base sp held fuel cs x hx
  obtain ⟨xs, n, _, _, hl, hlen, hf⟩ := DataW.trod_struct ht hx
  have := h.op enc base sp held n cs (hl.trans hc) fun f hf' => by
    obtain ⟨i, hi, e⟩ := List.getElem_of_mem hf'
    have hi' : i < xs.length := by rw [hlen]; simpa using hi
    refine ⟨xs[i], ?_⟩
    rw [hf i f (by rw [← Array.getElem?_toList, List.getElem?_eq_getElem hi, e]), List.getElem?_eq_getElem hi']
  simpa using this
theorem snap_cell {a : Addr} {v : Value} (h : w.cell? a = some v) : ∃ b o ty N full, a = ⟨b, o, none⟩ ∧ snap w b = some (.cells ty N true full) ∧ full[o]? = some v := by
  obtain ⟨b, o, sp⟩ := a
  have hs := World.cell?_spot h
  simp only at hs; subst hs
  unfold World.cell? at h
  split at h
  · rename_i c ty fz hb
    simp only [Option.isSome_none, Bool.false_eq_true, if_false] at h
    refine ⟨b, o, ty, c.size, c.toList, rfl, ?_, by simpa using h⟩
    simp only at hb
    simp only [snap, hb]
  · cases h
theorem rep_cells {α : Type} {c : α → List DV} {n : Nat} {base b o : Nat} {ty : TypeId} {N : Nat} {full : List Value} (hm : snap w b = some (.cells ty N true full)) :
    ∀ (l : List α) (k : Nat), (∀ i (hi : i < l.length), ∃ cs', w.cells? base ((⟨b, o, none⟩ : Addr).add ((k + i) * n)) n = some cs' ∧ RepL (snap w) (c l[i]) cs') → RepP (snap w) (l.flatMap c) (full.drop (o + k * n))
  | [], k, h => by simp [RepP]
  | x :: l, k, h => by
    obtain ⟨cs', h1, h2⟩ := h 0 (by simp)
    obtain ⟨_, hlen, hcell⟩ := World.cells?_some h1
    have ih := rep_cells (base := base) hm l (k + 1) fun i hi => by
      have := h (i + 1) (by simpa using hi)
      simpa [Nat.add_assoc, Nat.add_comm 1 i] using this
    have e : cs' = (full.drop (o + k * n)).take n := by
      apply List.ext_getElem?
      intro i
      by_cases hi : i < n
      · rw [List.getElem?_take_of_lt hi, List.getElem?_drop, ← hcell i hi]
        simp only [Nat.add_zero, add_plain]
        unfold World.cell?
        unfold snap at hm
        split at hm
        · rename_i c' ty' fz hb
          cases hm
          simp only [hb]
          simp [Nat.add_assoc]
        · cases hm
      · rw [List.getElem?_eq_none (by omega), List.getElem?_eq_none (by simp; omega)]
    have e2 : full.drop (o + k * n) = cs' ++ full.drop (o + (k + 1) * n) := by
      rw [e, show o + (k + 1) * n = o + k * n + n by rw [Nat.add_mul]; omega, ← List.drop_drop (i := n), List.take_append_drop]
    rw [List.flatMap_cons, e2]
    exact h2.1.append h2.2 ih
theorem Opens.slice {α : Type} {c : α → List DV} {e : TypeId} {n : Nat} (h : Opens P w e c) (ht : P.underlying t = some (.slice e)) (hn : P.cellsOf e = n) (hpos : 0 < n) : Opens P w t (fun l : List α => [slD c l]) := by
  constructor
  intro _ enc base sp held fuel cs x hx
  rcases open_slice ht hx with ⟨rfl, _⟩ | ⟨a, len, cap, m, k, D, Pl, rfl, _, hl, _, hm, _, hel⟩
  · refine ⟨[], RepL.one ?_⟩
    simp only [slD, Rep, List.flatMap_nil, List.length_nil]
    exact ⟨none, 0, rfl, Nat.le_refl _, fun h => absurd h (by omega)⟩
  · have hlm : len ≤ m := by rw [hm]; split <;> omega
    have each : ∀ i, i < len → ∃ y : α, ∃ cs', w.cells? base (a.add (i * n)) n = some cs' ∧ RepL (snap w) (c y) cs' := fun i hi => by
      obtain ⟨cs', h1, h2⟩ := hel i (by omega)
      obtain ⟨y, hy⟩ := h.op enc base sp held k cs' _ h2
      rw [hn] at h1
      exact ⟨y, cs', h1, hy⟩
    have : ∃ l : List α, l.length = len ∧ ∀ i (hi : i < l.length), ∃ cs', w.cells? base (a.add (i * n)) n = some cs' ∧ RepL (snap w) (c l[i]) cs' := by
      clear hel hl hlm hm hx
      rename_i hxx
      clear hxx
      induction len with
      | zero => exact ⟨[], rfl, fun i hi => absurd hi (by simp)⟩
      | succ len ih =>
        obtain ⟨l, h1, h2⟩ := ih fun i hi => each i (by omega)
        obtain ⟨y, hy⟩ := each len (by omega)
        refine ⟨l ++ [y], by simp [h1], fun i hi => ?_⟩
        by_cases h' : i < l.length
        · simpa [List.getElem_append_left h'] using h2 i h'
        · have : i = len := by simp at hi; omega
          subst this
          simpa [h1] using hy
    obtain ⟨l, rfl, hlc⟩ := this
    refine ⟨l, RepL.one ?_⟩
    simp only [slD, Rep]
    refine ⟨some a, cap, rfl, hl, fun h0 => ?_⟩
    obtain ⟨cs', h1, h2⟩ := hlc 0 h0
    obtain ⟨_, hlen, hcell⟩ := World.cells?_some h1
    have h3 := hcell 0 hpos
    have h4 : 0 < cs'.length := by omega
    rw [List.getElem?_eq_getElem h4] at h3
    simp only [Nat.zero_mul] at h3
    obtain ⟨b, o, ty, N, full, e1, e2, _⟩ := snap_cell h3
    have ea : a = ⟨b, o, none⟩ := by simpa [Addr.add] using e1
    subst ea
    refine ⟨b, o, ty, N, full, rfl, e2, ?_⟩
    have := rep_cells (base := base) (n := n) e2 l 0 (by simpa using hlc)
    simpa using this
theorem Opens.val {α : Type} {d : α → DV} (h : Opens P w t (fun a => [d a])) {v : Value} (hc : v.cells = #[v]) {H : Type} {enc : TypeId × Value → H} {base : Nat} {sp : Nat → Bool} {held : Bool} {x : DataW H} {p : List MemPlace}
    (hx : DataW.Trod enc P w base sp held t v x p) : ∃ a, Rep (snap w) (d a) v := by
  obtain ⟨fuel, hf⟩ := hx
  obtain ⟨a, ha⟩ := h.op enc base sp held fuel _ _ hf
  rw [hc] at ha
  have h1 := ha.1
  simp only [RepP] at h1
  exact ⟨a, h1.1⟩
end
end Go.Proofs.YtpehdlobicocpaaDoor.Mw
namespace Go.Proofs.YtpehdlobicocpaaDoor.Mw
open Go Go.RowKit Go.ChangeShapes Go.WideShapes Go.ChangeAt Go.Deep
set_option linter.unusedVariables false
structure OpensS (P : Program) (w : World) (t : TypeId) {α : Type} (c : α → List DV) (S : α → Prop) : Prop where
  op : ∀ {H : Type} (enc : TypeId × Value → H) (base : Nat) (spare : Nat → Bool) (held : Bool) (fuel : Nat) (cs : List Value) (x : DataW H × List MemPlace),
    DataW.trod enc P w base spare held fuel t cs = some x → (∀ n ∈ x.1.weights P t, n ≤ reachBytes) → ∃ a, RepL (snap w) (c a) cs ∧ S a
structure OpensT (P : Program) (w : World) (tot : Nat) (fs : List Field) (o : Nat) {α : Type} (c : α → List DV) (S : α → Prop) : Prop where
  op : ∀ {H : Type} (enc : TypeId × Value → H) (base : Nat) (spare : Nat → Bool) (held : Bool) (fuel : Nat) (cs : List Value), cs.length = tot →
    (∀ f ∈ fs, ∃ y, DataW.trod enc P w base spare held fuel f.type ((cs.drop f.offset).take (P.cellsOf f.type)) = some y ∧ ∀ n ∈ y.1.weights P f.type, n ≤ reachBytes) → ∃ a, RepL (snap w) (c a) (cs.drop o) ∧ S a
section
variable {P : Program} {w : World} {t : TypeId}
def I64 (z : Int) : Prop := -9223372036854775808 ≤ z ∧ z ≤ 9223372036854775807
theorem OpensS.int (ht : P.underlying t = some (.int .i64)) : OpensS P w t (fun z : Int => [.int .i64 z]) I64 := by
  constructor
  intro _ enc base sp held fuel cs x h _
  obtain ⟨n, rfl, _, hw⟩ := DataW.trod_int ht h
  refine ⟨n, RepL.one (by simp only [Rep]), ?_⟩
  simp only [Lit.wf, Bool.and_eq_true, decide_eq_true_eq] at hw
  exact hw
theorem OpensS.bool (ht : P.underlying t = some .bool) : OpensS P w t (fun z : Bool => [.bool z]) (fun _ => True) := by
  constructor
  intro _ enc base sp held fuel cs x h _
  obtain ⟨n, rfl, _⟩ := DataW.trod_bool ht h
  exact ⟨n, RepL.one (by simp only [Rep]), trivial⟩
theorem OpensS.str (ht : P.underlying t = some .string) : OpensS P w t (fun z : ByteArray => [.str z]) (fun s => s.size ≤ reachBytes) := by
  constructor
  intro _ enc base sp held fuel cs x h hs
  obtain ⟨n, rfl, rfl, _⟩ := DataW.trod_string ht h
  refine ⟨n, RepL.one (by simp only [Rep]), ?_⟩
  have := hs n.data.toList.length (by simp [DataW.weights])
  simpa using this
theorem OpensS.map {α β : Type} {c : α → List DV} {c' : β → List DV} {S : α → Prop} {S' : β → Prop} (h : OpensS P w t c S) (f : α → β) (e : ∀ a, c' (f a) = c a) (hS : ∀ a, S a → S' (f a)) : OpensS P w t c' S' := by
  constructor
  intro _ enc base sp held fuel cs x hx hs
  obtain ⟨a, ha, h1⟩ := h.op enc base sp held fuel cs x hx hs
  exact ⟨f a, by rw [e]; exact ha, hS a h1⟩
theorem OpensT.nil {tot : Nat} : OpensT P w tot [] tot (fun _ : Unit => []) (fun _ => True) := by
  constructor
  intro _ enc base sp held fuel cs hl h
  exact ⟨(), by rw [List.drop_eq_nil_of_le (by omega)]; exact RepL.nil _, trivial⟩
theorem OpensT.cons {α β : Type} {c0 : α → List DV} {c1 : β → List DV} {S0 : α → Prop} {S1 : β → Prop} {tot o k : Nat} {f : Field} {fs : List Field} (h0 : OpensS P w f.type c0 S0) (ho : f.offset = o) (hk : P.cellsOf f.type = k) (h1 : OpensT P w tot fs (o + k) c1 S1) :
    OpensT P w tot (f :: fs) o (fun p : α × β => c0 p.1 ++ c1 p.2) (fun p => S0 p.1 ∧ S1 p.2) := by
  constructor
  intro _ enc base sp held fuel cs hl h
  obtain ⟨y, hy, hyw⟩ := h f (by simp)
  obtain ⟨a, ha, sa⟩ := h0.op enc base sp held fuel _ _ hy hyw
  obtain ⟨b, hb, sb⟩ := h1.op enc base sp held fuel cs hl fun g hg => h g (by simp [hg])
  rw [ho, hk] at ha
  refine ⟨(a, b), ?_, sa, sb⟩
  have e : cs.drop o = (cs.drop o).take k ++ cs.drop (o + k) := by rw [← List.drop_drop, List.take_append_drop]
  rw [e]
  exact ha.append hb
theorem OpensS.struct {α : Type} {c : α → List DV} {S : α → Prop} {fs : Array Field} {tot : Nat} (ht : P.underlying t = some (.struct fs)) (hc : P.cellsOf t = tot) (h : OpensT P w tot fs.toList 0 c S) : OpensS P w t c S := by
  constructor
  intro _ enc base sp held fuel cs x hx hs
  obtain ⟨xs, n, _, rfl, hl, hlen, hf⟩ := DataW.trod_struct ht hx
  have := h.op enc base sp held n cs (hl.trans hc) fun f hf' => by
    obtain ⟨i, hi, e⟩ := List.getElem_of_mem hf'
    have hi' : i < xs.length := by rw [hlen]; simpa using hi
    have hfi : fs[i]? = some f := by rw [← Array.getElem?_toList, List.getElem?_eq_getElem hi, e]
    refine ⟨xs[i], ?_, fun m hm => hs m ?_⟩
    · rw [hf i f hfi, List.getElem?_eq_getElem hi']
    · simp only [DataW.weights, ht]
      exact DataW.weights_mem_each (j := i) (t := f.type) (d := xs[i].1) (by rw [List.getElem?_map, Array.getElem?_toList, hfi]; rfl) (by simp [hi']) m hm
  simpa using this
theorem weights_all {H : Type} {e : TypeId} {n : Nat} : ∀ {ds : List (DataW H)} {d : DataW H}, d ∈ ds → n ∈ d.weights P e → n ∈ DataW.weightsAll P e ds
  | x :: ds, d, hd, hn => by
    simp only [DataW.weightsAll, List.mem_append]
    rcases List.mem_cons.1 hd with rfl | hd
    · exact .inl hn
    · exact .inr (weights_all hd hn)
theorem OpensS.slice {α : Type} {c : α → List DV} {S : α → Prop} {e : TypeId} {n bytes : Nat} (h : OpensS P w e c S) (ht : P.underlying t = some (.slice e)) (hn : P.cellsOf e = n) (hpos : 0 < n) (hb : P.bytesOf e = bytes) :
    OpensS P w t (fun l : List α => [slD c l]) (fun l => l.length * bytes ≤ reachBytes ∧ ∀ x ∈ l, S x) := by
  constructor
  intro _ enc base sp held fuel cs x hx hs
  rcases open_slice ht hx with ⟨rfl, _⟩ | ⟨a, len, cap, m, k, D, Pl, rfl, _, hl, _, hm, rfl, hel⟩
  · refine ⟨[], RepL.one ?_, by simp, fun _ h => by simp at h⟩
    simp only [slD, Rep, List.flatMap_nil, List.length_nil]
    exact ⟨none, 0, rfl, Nat.le_refl _, fun h => absurd h (by omega)⟩
  · have hlm : len ≤ m := by rw [hm]; split <;> omega
    simp only [DataW.weights, ht, List.mem_cons, List.mem_append] at hs
    have hsz : len * bytes ≤ reachBytes := by
      have := hs _ (.inl rfl)
      simp only [List.length_map, List.length_range, hb] at this
      exact Nat.le_trans (Nat.mul_le_mul_right _ (Nat.le_add_right _ _)) this
    have each : ∀ i, i < len → ∃ y : α, (∃ cs', w.cells? base (a.add (i * n)) n = some cs' ∧ RepL (snap w) (c y) cs') ∧ S y := fun i hi => by
      obtain ⟨cs', h1, h2⟩ := hel i (by omega)
      obtain ⟨y, hy, sy⟩ := h.op enc base sp held k cs' _ h2 fun q hq => hs q (.inr (.inl (weights_all (d := D i) (by simp; exact ⟨i, hi, rfl⟩) hq)))
      rw [hn] at h1
      exact ⟨y, ⟨cs', h1, hy⟩, sy⟩
    have : ∃ l : List α, l.length = len ∧ (∀ i (hi : i < l.length), ∃ cs', w.cells? base (a.add (i * n)) n = some cs' ∧ RepL (snap w) (c l[i]) cs') ∧ ∀ x ∈ l, S x := by
      clear hel hl hlm hm hx hs hsz
      induction len with
      | zero => exact ⟨[], rfl, fun i hi => absurd hi (by simp), fun _ h => by simp at h⟩
      | succ len ih =>
        obtain ⟨l, h1, h2, h3⟩ := ih fun i hi => each i (by omega)
        obtain ⟨y, hy, sy⟩ := each len (by omega)
        refine ⟨l ++ [y], by simp [h1], fun i hi => ?_, fun x hx => ?_⟩
        · by_cases h' : i < l.length
          · simpa [List.getElem_append_left h'] using h2 i h'
          · have : i = len := by simp at hi; omega
            subst this
            simpa [h1] using hy
        · rcases List.mem_append.1 hx with hx | hx
          · exact h3 x hx
          · simp at hx; subst hx; exact sy
    obtain ⟨l, rfl, hlc, hS⟩ := this
    refine ⟨l, RepL.one ?_, hsz, hS⟩
    simp only [slD, Rep]
    refine ⟨some a, cap, rfl, hl, fun h0 => ?_⟩
    obtain ⟨cs', h1, h2⟩ := hlc 0 h0
    obtain ⟨_, hlen, hcell⟩ := World.cells?_some h1
    have h3 := hcell 0 hpos
    have h4 : 0 < cs'.length := by omega
    rw [List.getElem?_eq_getElem h4] at h3
    simp only [Nat.zero_mul] at h3
    obtain ⟨b, o, ty, N, full, e1, e2, _⟩ := snap_cell h3
    have ea : a = ⟨b, o, none⟩ := by simpa [Addr.add] using e1
    subst ea
    refine ⟨b, o, ty, N, full, rfl, e2, ?_⟩
    have := rep_cells (base := base) (n := n) e2 l 0 (by simpa using hlc)
    simpa using this
theorem OpensS.val {α : Type} {d : α → DV} {S : α → Prop} (h : OpensS P w t (fun a => [d a]) S) {v : Value} (hc : v.cells = #[v]) {H : Type} {enc : TypeId × Value → H} {base : Nat} {sp : Nat → Bool} {held : Bool} {x : DataW H} {p : List MemPlace}
    (hx : DataW.Trod enc P w base sp held t v x p) (hs : ∀ n ∈ x.weights P t, n ≤ reachBytes) : ∃ a, Rep (snap w) (d a) v ∧ S a := by
  obtain ⟨fuel, hf⟩ := hx
  obtain ⟨a, ha, sa⟩ := h.op enc base sp held fuel _ _ hf hs
  rw [hc] at ha
  have h1 := ha.1
  simp only [RepP] at h1
  exact ⟨a, h1.1, sa⟩
theorem OpensS.agg {α : Type} {c : α → List DV} {S : α → Prop} (h : OpensS P w t c S) {cs : Array Value} {H : Type} {enc : TypeId × Value → H} {base : Nat} {sp : Nat → Bool} {held : Bool} {x : DataW H} {p : List MemPlace}
    (hx : DataW.Trod enc P w base sp held t (.agg cs) x p) (hs : ∀ n ∈ x.weights P t, n ≤ reachBytes) : ∃ a, Rep (snap w) (.agg (c a)) (.agg cs) ∧ S a := by
  obtain ⟨fuel, hf⟩ := hx
  obtain ⟨a, ha, sa⟩ := h.op enc base sp held fuel _ _ hf hs
  refine ⟨a, ?_, sa⟩
  simp only [Rep]
  exact ⟨cs.toList, by simp, ha.1, ha.2⟩
theorem sized_mem {H : Type} {ts : List TypeId} {ds : List (DataW H)} (h : (DataW.weightsEach P ts ds).all (· ≤ reachBytes) = true) {j : Nat} {d : DataW H} (ht : ts[j]? = some t) (hd : ds[j]? = some d) : ∀ n ∈ d.weights P t, n ≤ reachBytes := fun n hn => by
  have := List.all_eq_true.1 h n (DataW.weights_mem_each ht hd n hn)
  simpa using this
end
end Go.Proofs.YtpehdlobicocpaaDoor.Mw
namespace Go.Proofs.YtpehdlobicocpaaDoor
open Go Go.RowKit Go.Proofs.YtpehdlobicocpaaDoor.Mw Go.Proofs.YtpehdlobicocpaaDoor.Pf Go.ChangeShapes Go.WideShapes Go.ChangeAt
set_option linter.unusedVariables false
theorem own : ownKnob Tryd.prog.godebug = none := by kernel_rfl
theorem laid : laidOutB Tryd.prog = true := by kernel_rfl
theorem et : Tryd.prog.globalNamed "errors.errorType" = some 0 := by kernel_rfl
theorem rt : (Tryd.prog.cutTypes.find? (·.1 == "internal/reflectlite.rtype")).map (·.2) = some 189 := by kernel_rfl
theorem oneRow : ((List.range 231).filter fun t => Tryd.prog.rowNamed t [101, 114, 114, 111, 114]) = [126] := by kernel_rfl
theorem sizeT : Tryd.prog.types.size = 231 := by kernel_rfl
abbrev told : List (String × DataW Unit) := [("errors.errorType", Rows.laid_errors_errorType)]
theorem glob_told {W : World} (h : laidMetH Tryd.prog told W) : Glob (snap W) := by
  have h' : laidMet Tryd.prog [] W ∧ handlesMet Tryd.prog told W := h
  obtain ⟨name, u, ty, e1, e2, e3, e4, e5⟩ := h'.2 _ (List.mem_singleton.2 rfl)
  have en : name = [101, 114, 114, 111, 114] := (Option.some.inj e1).symm
  subst en
  obtain rfl := Option.some.inj (rt.symm.trans e2)
  have hm : ty ∈ (List.range 231).filter fun t => Tryd.prog.rowNamed t [101, 114, 114, 111, 114] := List.mem_filter.2 ⟨List.mem_range.2 (by rw [← sizeT]; exact e3), e4⟩
  rw [oneRow] at hm
  obtain rfl := List.mem_singleton.1 hm
  have hh : typeHandle Tryd.prog 126 = .pointer (some ⟨1, 126, none⟩) := by kernel_rfl
  rw [hh] at e5
  intro b v hb
  have hb0 : b = 0 ∧ v = .iface 189 (.agg #[.pointer (some ⟨1, 126, none⟩)]) := by
    unfold globs at hb
    simp only [List.lookup] at hb
    split at hb
    · rename_i hx
      exact ⟨by simpa using hx, (Option.some.inj hb).symm⟩
    · cases hb
  obtain ⟨rfl, rfl⟩ := hb0
  unfold World.var? at e5
  rw [et] at e5
  simp only [Option.bind_some] at e5
  split at e5
  · rename_i c t z hc
    cases e5
    exact ⟨t, by unfold snap; rw [hc] <;> rfl⟩
  · cases e5
noncomputable def toldWorld (os : Os) : World :=
  let w0 := World.holding Tryd.prog os ⟨#[], #[], []⟩
  { w0 with heap := w0.heap.modify 0 fun
      | .cells _ t frozen => .cells #[.iface 189 (.agg #[.pointer (some ⟨1, 126, none⟩)])] t frozen
      | o => o }
theorem toldWorld_met (os : Os) (args : Array Value) : laidMetH Tryd.prog told ((toldWorld os).forCall (fun _ _ => 0) ⟨#[], args, []⟩).memory :=
  laidMetH_of_parts (laidMet_nil _ _) (by kernel_rfl)
theorem cI : Tryd.prog.cellsOf 3 = 1 := by kernel_rfl
theorem opI (w : World) : OpensS Tryd.prog w 3 (fun z : Int => [.int .i64 z]) I64 := OpensS.int Tryd.underlying3
namespace irForms
set_option maxRecDepth 100000 in
theorem lifted (os : Os) (started : os.Started) (H : Type) (enc : TypeId × Value → H) :
    ReturnsInHanded {} Tryd.checked os 5 .any (fun w args => (Rows.irFormsSpec.pre enc Tryd.prog Tryd.f5 [] false w args ∧ laidMetH Tryd.prog told w) ∧ sizedMet enc Tryd.prog Tryd.f5 (OpenSpec.ofChange Rows.irFormsSpec) false w args)
      (Rows.irFormsSpec.post enc Tryd.prog Tryd.f5 false true false false) := by
  refine law_row_laid (C := Tryd.checked) told own started (by kernel_rfl) Tryd.func5 rfl (fun ds h => ?_) rfl Tryd.underlying4 laid (of_decide_eq_true (by kernel_rfl))
    (ChangeSpec.witness_at (enc := enc) (C := Tryd.checked) (os := os) (X := fun w _ => laidMetH Tryd.prog told w) false (toldWorld os) #[.int .i64 0, .int .i64 0] 8 rfl (by kernel_rfl) (by kernel_rfl) (by kernel_rfl) (by kernel_rfl) (by kernel_rfl) (toldWorld_met os _)) (fun W base args ds p hA hval hsz hL => ?_)
  · match ds, h with
    | [_, _], _ => rfl
  · rw [show Tryd.f5.params.toList = [3, 3] from rfl] at hA hsz
    obtain ⟨v0, vs0, d0, ds0, p0, q0, rfl, rfl, rfl, h0, r0⟩ := trodAll_cons hA
    obtain ⟨v1, vs1, d1, ds1, p1, q1, rfl, rfl, rfl, h1, r1⟩ := trodAll_cons r0
    obtain ⟨rfl, rfl, rfl⟩ := trodAll_nil r1
    obtain ⟨x0, rfl⟩ := okWide_int Tryd.underlying3 (hval 0 3 v0 rfl rfl)
    obtain ⟨a0, g0, s0⟩ := OpensS.val (d := fun z : Int => .int .i64 z) (OpensS.int Tryd.underlying3) rfl h0 (sized_mem (t := 3) (j := 0) hsz rfl rfl)
    obtain ⟨x1, rfl⟩ := okWide_int Tryd.underlying3 (hval 1 3 v1 rfl rfl)
    obtain ⟨a1, g1, s1⟩ := OpensS.val (d := fun z : Int => .int .i64 z) (OpensS.int Tryd.underlying3) rfl h1 (sized_mem (t := 3) (j := 1) hsz rfl rfl)
    exact law_mc (IrForms_pc a0 a1) (glob_told hL) (RepL.cons g0 (RepL.cons g1 (RepL.nil _)))
theorem over : Rows.irFormsRow.holds Tryd.pinned (OpenSpec.ofChange Rows.irFormsSpec) :=
  OpenClaim.holds_of_wide 5 Tryd.f5 rfl rfl rfl rfl rfl rfl rfl ⟨rfl, rfl, rfl, rfl, rfl⟩ rfl rfl rfl rfl rfl (by kernel_rfl) Tryd.func5 (by kernel_rfl)
    (of_decide_eq_true (by kernel_rfl)) (by unfold Func.isWrapper; first | (rw [if_pos (by decide +kernel)]; kernel_rfl) | (rw [if_neg (by decide +kernel)]; exact ⟨rfl, rfl⟩))
    (fun os started H enc _ => lifted os started H enc)
end irForms
theorem irForms_card : Rows.IrFormsCardSaid :=
  Claim7.holds_tied_plain_at .later [] [.handle] true _ true
    irForms.over (fun _ h => by cases h) (by kernel_rfl) (fun _ h => by cases h) irForms_row_tie rfl ⟨rfl, rfl⟩ (by kernel_rfl) rfl
    (fun f fn hf hfn => by
      obtain rfl : f = 5 := Option.some.inj ((show Tryd.prog.funcNamed "swage/swagelaw10.IrForms" = some 5 by kernel_rfl).symm.trans hf) |>.symm
      obtain rfl : fn = Tryd.f5 := (Option.some.inj (Tryd.func5.symm.trans hfn)).symm
      have hall : (Tryd.f5.params.toList.all fun t => !Tryd.prog.wantsStandIn t) = true := by kernel_rfl
      refine ⟨by kernel_rfl, fun j t ht => ?_⟩
      have hm : t ∈ Tryd.f5.params.toList := List.mem_of_getElem? (i := j) (by rw [Array.getElem?_toList]; exact ht)
      exact (show Tryd.prog.wantsStandIn t = false by simpa using List.all_eq_true.1 hall t hm))
    (by kernel_rfl)
end Go.Proofs.YtpehdlobicocpaaDoor
