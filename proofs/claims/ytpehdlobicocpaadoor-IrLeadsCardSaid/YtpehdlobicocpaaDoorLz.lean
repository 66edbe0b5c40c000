/- Zi Zj Mr Mt Do Dp Lt: joined texts of this claim. No condition. -/
import Derived.Test.YtpehdlobicocpaaDoorLzjh
import Derived.Test.YtpehdlobicocpaaDoorLzji
import Derived.Test.YtpehdlobicocpaaDoorLzjj
import Derived.Test.YtpehdlobicocpaaDoorLzjd
import Derived.WalkKit
import Derived.ProofKit
import Derived.OpenShut
import Derived.ShutString
import Derived.ChangeOld
import Derived.Below
import Derived.Carry
import Derived.SizedLaws
import Derived.ChangeSame
import Derived.ChangeVars
import Derived.JoinedOf
import Derived.LaidLaws
import Derived.LaidHandle
import Derived.Handed
import Derived.Stop.Joined
import Derived.Deep.Slices
import Derived.Test.YtpehdlobicocpaaDoorRows
import Derived.Test.YtpehdlobicocpaaDoorTie
import Derived.Test.YtpehdlobicocpaaDoorCards
import Derived.Lib.SmallJoins
import Derived.SevenTiedAt
/- Code that may be: what every program answers (the law's own look). No condition. -/
namespace Go.Proofs.YtpehdlobicocpaaDoor.Pf
open Go Go.RowKit Go.Proofs Go.Proofs.YtpehdlobicocpaaDoor.Mw Go.Proofs.YtpehdlobicocpaaDoor.Sx
set_option linter.unusedVariables false
set_option linter.unusedSimpArgs false
set_option maxRecDepth 8000
theorem CopyCode_fz {M : DMem} {d0 : DV} (c : Cod) (hz : SzC c) (hsrc : ∀ m ∈ c.metas, m.length ≤ 100000000 ∧ ∀ x ∈ m, x.locals.length ≤ 100000000 ∧ x.stack.length ≤ 100000000) (hf : fz M 4 d0 = .agg c.c) {R : DV → DMem → Prop}
    (hR : ∀ dc dm M' Sc Sm, SlAt irE M' dc c.code Sc → SlAt metaE M' dm c.metas Sm → (Sc ++ Sm).Nodup → (∀ y ∈ Sc ++ Sm, M y = none) → SubD M M' → R (.agg [.int .i64 c.fn, .int .i64 c.regs, dc, dm]) M') : PC Tryd.prog F_swagelaw0_CopyCode [d0] R M := by
  have h1 : PC Tryd.prog F_swagelaw0_CopyCode [.agg c.c] (fun d M2 => Thaw d M2 ∧ ∃ dc dm Sc Sm, d = .agg [.int .i64 c.fn, .int .i64 c.regs, dc, dm] ∧ SlAt irE M2 dc c.code Sc ∧ SlAt metaE M2 dm c.metas Sm ∧ (Sc ++ Sm).Nodup) DMem.mt := by
    refine PC.drop (R := fun d M' => ∃ dc dm Sc Sm, d = .agg [.int .i64 c.fn, .int .i64 c.regs, dc, dm] ∧ SlAt irE M' dc c.code Sc ∧ SlAt metaE M' dm c.metas Sm ∧ (Sc ++ Sm).Nodup) (CopyCode_pc c hz hsrc fun dc dm M' Sc Sm g1 g2 g3 _ _ => ⟨dc, dm, Sc, Sm, rfl, g1, g2, g3⟩) ?_
    rintro d M' ⟨dc, dm, Sc, Sm, rfl, g1, g2, g3⟩
    obtain ⟨t1, t2⟩ := irE_th.sl g1
    obtain ⟨t3, t4⟩ := metaE_th.sl g2
    refine ⟨DMem.only M' (Sc ++ Sm), DMem.only_sub _ _, ⟨by simp only [thawed, thawedL, t1, t3] <;> rfl, fun b B hb => ?_⟩, dc, dm, Sc, Sm, rfl, SlAt.only irE_ok g1 (fun b hb => by simp [hb]), SlAt.only metaE_ok g2 (fun b hb => by simp [hb]), g3⟩
    unfold DMem.only at hb
    split at hb
    · rename_i hm
      rcases List.mem_append.1 hm with hm | hm
      · exact t2 b hm B hb
      · exact t4 b hm B hb
    · cases hb
  refine PC.seal (R := fun d M2 => Thaw d M2 ∧ ∃ dc dm Sc Sm, d = .agg [.int .i64 c.fn, .int .i64 c.regs, dc, dm] ∧ SlAt irE M2 dc c.code Sc ∧ SlAt metaE M2 dm c.metas Sm ∧ (Sc ++ Sm).Nodup) (by simp only [List.map_cons, List.map_nil, hf]; exact h1) (fun d M2 h => h.1) ?_
  rintro d M2 ⟨_, dc, dm, Sc, Sm, rfl, g1, g2, g3⟩ hd
  obtain ⟨a1, a2⟩ := g1.or irE_ok hd
  obtain ⟨b1, b2⟩ := g2.or metaE_ok hd
  exact hR dc dm _ Sc Sm a1 b1 g3 (fun y hy => by
    rcases List.mem_append.1 hy with hy | hy
    · exact a2 y hy
    · exact b2 y hy) (SubD.or_left _ _)
def twoQ : List Fnc := [⟨1, 1, [⟨1, 0⟩, ⟨0, 2⟩, ⟨14, 1⟩, ⟨10, 0⟩, ⟨15, 0⟩, ⟨16, 0⟩]⟩, ⟨2, 2, [⟨1, 0⟩, ⟨1, 1⟩, ⟨3, 0⟩, ⟨16, 0⟩]⟩]
theorem twoQ_pu : Pu Tryd.prog F_swagelaw10_two [] (.agg [slD Fnc.c twoQ]) := by
  refine Pu.of (pc_swagelaw10_two (by simp) ?_)
  simp only [S_swagelaw10_two, R_swagelaw10_two, MU_swagelaw10_two, MU_swagelaw10_two, SW, wpD, evDL, evDM, evD, bldLD, List.contains_cons, List.contains_nil, Nat.reduceBEq, beq_self_eq_true, Nat.reduceMul, Nat.reduceSub, wpSp, Option.bind_some, Option.some.injEq, exists_eq_left', exists_eq_left, reduceIte, if_false, if_true, Nat.reduceEqDiff, Nat.reduceAdd, Nat.reduceLeDiff, Int.reduceEq, Int.reduceLT, Int.reduceLE, Int.reduceToNat, decide_true, decide_false, DV.bool.injEq, DV.int.injEq, DV.mp.injEq, DV.msl.injEq, DV.tup.injEq, DV.agg.injEq, DV.fn.injEq, true_implies, forall_const, reduceCtorEq, implies_true, ne_eq, DMem.mt]
  intro b M1 hM1
  refine stD (by rw [hM1, DMem.ins_same]) rfl rfl (by simp) (by simp) rfl fun M2 hM2 => ?_
  refine ⟨.agg [slD Fnc.c twoQ], ?_, ?_⟩
  · rw [hM2, DMem.ins_same] <;> rfl
  · exact fz_of (Froz.agg (FrozL.nil.cons (Froz.slD Fnc.froz twoQ))) _ _
def addC : List Irc := [⟨2, 2, 0, 0, 0, [], 1, 0, 0⟩, ⟨2, 3, 1, 0, 0, [], 1, 0, 1⟩, ⟨3, 2, 2, 3, 3, [], 1, 0, 2⟩, ⟨8, 0, 2, 0, 0, [], 1, 0, 3⟩]
def addX : List Irc := [⟨2, 2, 0, 0, 0, [], 1, 0, 0⟩, ⟨2, 3, 1, 0, 0, [], 1, 0, 1⟩, ⟨3, 2, 2, 3, 3, [], -1, 0, 2⟩, ⟨8, 0, 2, 0, 0, [], 1, 0, 3⟩]
theorem low_two1 : lowerR twoQ 1 = (⟨1, 10, addC, []⟩, 0) := by decide +kernel
theorem may_add : codeMayB twoQ ⟨1, 10, addC, []⟩ = true := by decide +kernel
theorem may_bad : codeMayB twoQ ⟨1, 10, addX, []⟩ = false := by decide +kernel
theorem may_none : codeMayB twoQ ⟨0, 0, [], []⟩ = false := by decide +kernel
def leadC : List Irc := [⟨5, 0, 0, 0, 2, [], 1, 0, 0⟩, ⟨0, 0, 0, 0, 0, [], 0, 0, 0⟩, ⟨8, 0, 0, 0, 0, [], 0, 0, 0⟩, ⟨8, 0, 0, 0, 0, [], 0, 0, 0⟩]
theorem lead_all : leadersF leadC = [true, true, true, true] := by decide +kernel
theorem awake10_pf : pf Tryd.prog F_swagelaw10_awake [] = some (.bool true) := by
  refine pf_of (v := .bool _) (pc_swagelaw10_awake (by simp) ?_) FrozL.nil rfl rfl
  simp only [S_swagelaw10_awake, R_swagelaw10_awake, MU_swagelaw10_awake, SW, wpD, evDL, evDM, evD, bldLD, List.contains_cons, List.contains_nil, Nat.reduceBEq, beq_self_eq_true, Nat.reduceMul, Nat.reduceSub, wpSp, Option.bind_some, Option.some.injEq, exists_eq_left', exists_eq_left, reduceIte, if_false, if_true, Nat.reduceEqDiff, Nat.reduceAdd, Nat.reduceLeDiff, Int.reduceEq, Int.reduceLT, Int.reduceLE, Int.reduceToNat, decide_true, decide_false, DV.bool.injEq, DV.int.injEq, DV.mp.injEq, DV.msl.injEq, DV.tup.injEq, DV.agg.injEq, DV.fn.injEq, true_implies, forall_const, reduceCtorEq, implies_true, ne_eq, DMem.mt]
  refine Pu.pc twoQ_pu ?_
  simp only [S4_swagelaw10_awake, MU_swagelaw10_awake, ldnI1, SW, wpD, evDL, evDM, evD, bldLD, List.contains_cons, List.contains_nil, Nat.reduceBEq, beq_self_eq_true, Nat.reduceMul, Nat.reduceSub, wpSp, Option.bind_some, Option.some.injEq, exists_eq_left', exists_eq_left, reduceIte, if_false, if_true, Nat.reduceEqDiff, Nat.reduceAdd, Nat.reduceLeDiff, Int.reduceEq, Int.reduceLT, Int.reduceLE, Int.reduceToNat, decide_true, decide_false, DV.bool.injEq, DV.int.injEq, DV.mp.injEq, DV.msl.injEq, DV.tup.injEq, DV.agg.injEq, DV.fn.injEq, true_implies, forall_const, reduceCtorEq, implies_true, ne_eq, DMem.mt]
  refine LowerR_pc twoQ 1 ?_
  rw [low_two1]
  intro dc dm M Sc Sm hc hm nd _ _
  simp only [S3_swagelaw10_awake, MU_swagelaw10_awake, hc.cell, hm.cell, hc.plain, hm.plain, SW, wpD, evDL, evDM, evD, bldLD, List.contains_cons, List.contains_nil, Nat.reduceBEq, beq_self_eq_true, Nat.reduceMul, Nat.reduceSub, wpSp, Option.bind_some, Option.some.injEq, exists_eq_left', exists_eq_left, reduceIte, if_false, if_true, Nat.reduceEqDiff, Nat.reduceAdd, Nat.reduceLeDiff, Int.reduceEq, Int.reduceLT, Int.reduceLE, Int.reduceToNat, decide_true, decide_false, DV.bool.injEq, DV.int.injEq, DV.mp.injEq, DV.msl.injEq, DV.tup.injEq, DV.agg.injEq, DV.fn.injEq, true_implies, forall_const, reduceCtorEq, implies_true, ne_eq, DMem.mt]
  have hl4 : ∀ K : DMem, ∀ a b : DV, ldnD K 4 (.ip [.int .i64 1, .int .i64 10, a, b]) = some (.agg [.int .i64 1, .int .i64 10, a, b]) := fun K a b => rfl
  have hz1 : SzC ⟨1, 10, addC, []⟩ := ⟨by decide, by decide, by decide, by simp⟩
  have hf1 : fz M 4 (.agg [.int .i64 1, .int .i64 10, dc, dm]) = .agg (⟨1, 10, addC, []⟩ : Cod).c := by
    rw [fz_agg]
    simp only [List.map_cons, List.map_nil, fz_int]
    rw [hc.fz irG_ok (k := 3) (by decide), hm.fz metaG_ok (k := 3) (by decide)] <;> rfl
  simp only [hl4, SW, wpD, evDL, evDM, evD, bldLD, List.contains_cons, List.contains_nil, Nat.reduceBEq, beq_self_eq_true, Nat.reduceMul, Nat.reduceSub, wpSp, Option.bind_some, Option.some.injEq, exists_eq_left', exists_eq_left, reduceIte, if_false, if_true, Nat.reduceEqDiff, Nat.reduceAdd, Nat.reduceLeDiff, Int.reduceEq, Int.reduceLT, Int.reduceLE, Int.reduceToNat, decide_true, decide_false, DV.bool.injEq, DV.int.injEq, DV.mp.injEq, DV.msl.injEq, DV.tup.injEq, DV.agg.injEq, DV.fn.injEq, true_implies, forall_const, reduceCtorEq, implies_true, ne_eq, DMem.mt]
  refine CopyCode_fz ⟨1, 10, addC, []⟩ hz1 (by simp) hf1 fun dc2 dm2 M2 Sc2 Sm2 hc2 hm2 nd2 new2 sub2 => ?_
  have hln : dc2 ≠ .zsl := by
    rcases hc2 with ⟨_, h, _⟩ | ⟨b, c, ty, cs, S', h, _⟩
    · cases h
    · rw [h]; simp
  obtain ⟨hn1, hn2, hn3⟩ := List.nodup_append.1 nd2
  have hle := hc2.lenD
  obtain ⟨b, cc, ty, c1, cx, c2, S1, Sx, S2, hd, hMb, hl1, hlx, ⟨da, hcx, hda⟩, hSe, hcl, _, hput⟩ := hc2.inner irE_ok hn1 (i := 2) (by decide)
  have hl1 : c1.length = 2 * 9 := hl1
  have hcl : 4 ≤ cc := hcl
  have hix : ixD 9 dc2 (.int .i64 2) = some (.mp b 18) := by rw [hd]; exact ixM (show (2 : Nat) < 4 by decide)
  have e4 : decide (¬(((addC.length : Nat) : Int) = 4)) = false := by decide
  simp only [S2_swagelaw10_awake, MU_swagelaw10_awake, hc2.cell, hm2.cell, hc2.plain, hm2.plain, hle, hix, e4, SW, wpD, evDL, evDM, evD, bldLD, List.contains_cons, List.contains_nil, Nat.reduceBEq, beq_self_eq_true, Nat.reduceMul, Nat.reduceSub, wpSp, Option.bind_some, Option.some.injEq, exists_eq_left', exists_eq_left, reduceIte, if_false, if_true, Nat.reduceEqDiff, Nat.reduceAdd, Nat.reduceLeDiff, Int.reduceEq, Int.reduceLT, Int.reduceLE, Int.reduceToNat, decide_true, decide_false, DV.bool.injEq, DV.int.injEq, DV.mp.injEq, DV.msl.injEq, DV.tup.injEq, DV.agg.injEq, DV.fn.injEq, true_implies, forall_const, reduceCtorEq, implies_true, ne_eq, DMem.mt]
  refine stD hMb rfl rfl (by rw [List.length_append, List.length_append, hl1]; omega) (by show 18 + 6 + 1 ≤ cc * 9; omega) rfl fun M3 hM3 => ?_
  subst hcx
  rw [show (24 : Nat) = 2 * 9 + 6 from rfl, splD_field hl1 (by simp)] at hM3
  have hx3 : SlAt irE M3 dc2 addX Sc2 := hput M3 ⟨3, 2, 2, 3, 3, [], -1, 0, 2⟩ _ ⟨da, rfl, hda⟩ hM3
  have hbS : b ∈ Sc2 := by rw [hSe]; simp
  have n3 : ∀ y, y ≠ b → M3 y = M2 y := fun y hy => by rw [hM3, DMem.ins_ne _ _ hy]
  have hm3 : SlAt metaE M3 dm2 [] Sm2 := hm2.frame metaE_ok fun y hy => n3 y (by rintro rfl; exact hn3 y hbS y hy rfl)
  have hbn : ∀ y B, M y = some B → y ≠ b := fun y B hB => by rintro rfl; rw [new2 y (by simp [hbS])] at hB; cases hB
  have hcM : SlAt irG M3 dc addC Sc := hc.frame irG_ok fun y hy => by
    obtain ⟨B, hB⟩ := Option.ne_none_iff_exists'.1 (hc.here irG_ok y hy)
    rw [n3 y (hbn y B hB), hB, sub2 y B hB]
  have hmM : SlAt metaG M3 dm [] Sm := hm.frame metaG_ok fun y hy => by
    obtain ⟨B, hB⟩ := Option.ne_none_iff_exists'.1 (hm.here metaG_ok y hy)
    rw [n3 y (hbn y B hB), hB, sub2 y B hB]
  refine Pt.pc (d := slB (leadersF leadC)) (by simp only [fz_agg, fz_isl, fz_zsl, fz_int, List.map_cons, List.map_nil]; exact Leaders_pt ⟨0, 0, leadC, []⟩ (by decide)) ?_
  rw [lead_all]
  have hfa : fz M3 4 dc = slD Irc.c addC := hcM.fz irG_ok (k := 3) (by decide)
  have hfb : fz M3 4 dm = slD metaC [] := hmM.fz metaG_ok (k := 3) (by decide)
  have hfc : fz M3 4 dc2 = slD Irc.c addX := hx3.fz irE_ok (k := 3) (by decide)
  have hfd : fz M3 4 dm2 = slD metaC [] := hm3.fz metaE_ok (k := 3) (by decide)
  have m1 : pf Tryd.prog F_ir_May [.agg [slD Fnc.c twoQ], .agg [.int .i64 1, .int .i64 10, slD Irc.c addC, slD metaC []]] = some (.bool true) := (irMay_pf twoQ ⟨1, 10, addC, []⟩ hz1).trans (by rw [may_add])
  have m2 : pf Tryd.prog F_ir_May [.agg [slD Fnc.c twoQ], .agg [.int .i64 1, .int .i64 10, slD Irc.c addX, slD metaC []]] = some (.bool false) := (irMay_pf twoQ ⟨1, 10, addX, []⟩ ⟨by decide, by decide, by decide, by simp⟩).trans (by rw [may_bad])
  have m3 : pf Tryd.prog F_ir_May [.agg [slD Fnc.c twoQ], .agg [.int .i64 0, .int .i64 0, .isl 0 [], .isl 0 []]] = some (.bool false) := (irMay_pf twoQ ⟨0, 0, [], []⟩ ⟨by decide, by simp, by decide, by simp⟩).trans (by rw [may_none])
  have f2 : ∀ M k, fz M k (slD Fnc.c twoQ) = slD Fnc.c twoQ := fun M k => fz_prg M k twoQ
  have sb : pf Tryd.prog F_swagelaw0_SameBools [slB [true, true, true, true], .isl 4 [.bool true, .bool true, .bool true, .bool true]] = some (.bool true) := (SameBools_pf [true, true, true, true] [true, true, true, true] (by decide)).trans (by rw [decide_eq_true rfl])
  have sf : ∀ M k, fz M k (.isl 4 [.bool true, .bool true, .bool true, .bool true]) = .isl 4 [.bool true, .bool true, .bool true, .bool true] := fun M k => fz_slB M k [true, true, true, true]
  simp only [S1_swagelaw10_awake, MU_swagelaw10_awake, ldnI1, hl4, f2, fz_agg, fz_int, fz_zsl, hfa, hfb, hfc, hfd, m1, m2, m3, fz_slB, sf, sb, grdTT, List.map_cons, List.map_nil, SW, wpD, evDL, evDM, evD, bldLD, List.contains_cons, List.contains_nil, Nat.reduceBEq, beq_self_eq_true, Nat.reduceMul, Nat.reduceSub, wpSp, Option.bind_some, Option.some.injEq, exists_eq_left', exists_eq_left, reduceIte, if_false, if_true, Nat.reduceEqDiff, Nat.reduceAdd, Nat.reduceLeDiff, Int.reduceEq, Int.reduceLT, Int.reduceLE, Int.reduceToNat, decide_true, decide_false, DV.bool.injEq, DV.int.injEq, DV.mp.injEq, DV.msl.injEq, DV.tup.injEq, DV.agg.injEq, DV.fn.injEq, true_implies, forall_const, reduceCtorEq, implies_true, ne_eq, DMem.mt]
end Go.Proofs.YtpehdlobicocpaaDoor.Pf
/- Rows of jumps: where straight rows begin (a law). No condition. -/
namespace Go.Proofs.YtpehdlobicocpaaDoor.Pf
open Go Go.RowKit Go.Proofs Go.Proofs.YtpehdlobicocpaaDoor.Mw Go.Proofs.YtpehdlobicocpaaDoor.Sx
set_option linter.unusedVariables false
set_option linter.unusedSimpArgs false
set_option maxRecDepth 8000
def qL (x : Int) : Int := bits .and .i64 x 3
def tL (k : Nat) (x : Int) : Int := ((x.fdiv (2 ^ min 2 IntKind.i64.bits)) % 18446744073709551616).tmod ((k : Int) + 1)
theorem qL_in (x : Int) : qL x = 0 ∨ qL x = 1 ∨ qL x = 2 ∨ qL x = 3 := by
  have h := and_bnd x 2 (by decide)
  have e : bits .and .i64 x ((2 ^ 2 - 1 : Nat) : Int) = qL x := rfl
  rw [e] at h
  have h2 : (0 : Int) ≤ qL x ∧ qL x < 4 := h
  omega
theorem tL_in (k : Nat) (x : Int) : 0 ≤ tL k x ∧ tL k x < k + 1 := tmod_bnd _ _ (by omega)
def irK (k : Nat) (x : Int) : Irc :=
  if qL x = 0 then ⟨4, 0, 0, 0, tL k x, [], 1, 0, 0⟩ else if qL x = 1 then ⟨5, 0, 0, 0, tL k x, [], 1, 0, 0⟩ else if qL x = 2 then ⟨8, 0, 0, 0, 0, [], 0, 0, 0⟩ else ⟨1, 0, 0, 0, tL k x, [], 0, 0, 0⟩
def wK (k : Nat) (w : List Bool) (i : Nat) (x : Int) : List Bool :=
  let w1 := if qL x < 2 then w.set (tL k x).toNat true else w
  w1.set (i + 1) (w1.getD (i + 1) false || decide (qL x < 3))
def wL (tos : List Int) (k : Nat) : Nat → List Bool
  | 0 => (List.replicate (k + 1) false).set 0 true
  | i + 1 => match tos[i]? with
    | some x => wK k (wL tos k i) i x
    | none => wL tos k i
theorem wL_len (tos : List Int) (k : Nat) : ∀ i, (wL tos k i).length = k + 1
  | 0 => by simp [wL]
  | i + 1 => by
    have ih := wL_len tos k i
    simp only [wL]
    split
    · unfold wK; simp only; split <;> simp [ih]
    · exact ih
/-- The rows as code. -/
def rowC (tos : List Int) (k : Nat) : List Irc := (tos.take k).map (irK k) ++ [⟨8, 0, 0, 0, 0, [], 0, 0, 0⟩]
theorem row_lead (tos : List Int) (k : Nat) (hk : k ≤ tos.length) : leadersF (rowC tos k) = wL tos k k := by
  have hl : (rowC tos k).length = k + 1 := by simp [rowC]; omega
  have key : ∀ i, i ≤ k → (ldF (rowC tos k) i).take (k + 1) = wL tos k i := by
    intro i
    induction i with
    | zero =>
      intro _
      simp only [ldF, wL, hl]
      rw [List.take_set]
      congr 1
      rw [List.take_replicate]
      congr 1
      omega
    | succ i ih =>
      intro hi
      have ih := ih (by omega)
      have hlt : i < tos.length := by omega
      have hg : (rowC tos k)[i]? = some (irK k tos[i]) := by
        unfold rowC
        rw [List.getElem?_append_left (by simp; omega), List.getElem?_map, List.getElem?_take_of_lt (by omega), List.getElem?_eq_getElem hlt] <;> rfl
      have hlen := ldF_len (rowC tos k) i
      rw [hl] at hlen
      simp only [ldF, wL, hg, List.getElem?_eq_getElem hlt, hl]
      rw [← ih]
      generalize ldF (rowC tos k) i = o at *
      have ht := tL_in k tos[i]
      have hq := qL_in tos[i]
      unfold ldS irK wK
      rcases hq with h | h | h | h <;> simp only [h] <;> simp
      · rw [if_pos ht, List.take_set, List.take_set]
      · rw [if_pos ht, List.take_set, List.take_set]
      · rw [List.take_set]
      · have hj : i + 1 < (List.take (k + 1) o).length := by rw [List.length_take]; omega
        rw [List.getElem?_eq_getElem hj, Option.getD_some, List.set_getElem_self]
  unfold leadersF
  rw [hl]
  simp only [ldF]
  have hg : (rowC tos k)[k]? = some ⟨8, 0, 0, 0, 0, [], 0, 0, 0⟩ := by
    unfold rowC
    rw [List.getElem?_append_right (by simp; omega)]
    simp [List.length_take, Nat.min_eq_left hk]
  have hlen := ldF_len (rowC tos k) k
  rw [hl] at hlen
  have hk2 := key k (Nat.le_refl _)
  simp only [hg]
  unfold ldS
  rw [if_neg (by decide), if_pos (by decide), List.take_set, List.set_eq_of_length_le (by rw [List.length_take]; omega)]
  exact hk2
set_option maxHeartbeats 4000000 in
theorem IrLeads_pc (tos : List Int) : PC Tryd.prog F_swagelaw10_IrLeads [slI tos] (fun d' M' => d' = .bool true) DMem.mt := by
  refine pc_swagelaw10_IrLeads (by simp) ?_
  obtain ⟨k, hk1, hk2, ek⟩ : ∃ k : Nat, k ≤ tos.length ∧ k ≤ 30 ∧ (if decide ((30 : Int) < tos.length) = true then DV.int .i64 30 else .int .i64 tos.length) = .int .i64 k := by
    by_cases h : 30 < tos.length
    · exact ⟨30, by omega, by omega, by rw [if_pos (decide_eq_true (by omega))] <;> rfl⟩
    · exact ⟨tos.length, by omega, by omega, by rw [if_neg (by simp; omega)]⟩
  have e1 : wr64 ((k : Int) + 1) = ((k + 1 : Nat) : Int) := w64s (by omega)
  simp only [S_swagelaw10_IrLeads, R_swagelaw10_IrLeads, MU_swagelaw10_IrLeads, awake10_pf, pickB, ek, e1, SW, wpD, evDL, evDM, evD, bldLD, List.contains_cons, List.contains_nil, Nat.reduceBEq, beq_self_eq_true, Nat.reduceMul, Nat.reduceSub, wpSp, Option.bind_some, Option.some.injEq, exists_eq_left', exists_eq_left, reduceIte, if_false, if_true, Nat.reduceEqDiff, Nat.reduceAdd, Nat.reduceLeDiff, Int.reduceEq, Int.reduceLT, Int.reduceLE, Int.reduceToNat, decide_true, decide_false, DV.bool.injEq, DV.int.injEq, DV.mp.injEq, DV.msl.injEq, DV.tup.injEq, DV.agg.injEq, DV.fn.injEq, true_implies, forall_const, reduceCtorEq, implies_true, ne_eq, DMem.mt]
  refine mkB (by omega) fun b M1 hb hM1 => ?_
  simp only [ixM0 (show 0 < k + 1 by omega), SW, wpD, evDL, evDM, evD, bldLD, List.contains_cons, List.contains_nil, Nat.reduceBEq, beq_self_eq_true, Nat.reduceMul, Nat.reduceSub, wpSp, Option.bind_some, Option.some.injEq, exists_eq_left', exists_eq_left, reduceIte, if_false, if_true, Nat.reduceEqDiff, Nat.reduceAdd, Nat.reduceLeDiff, Int.reduceEq, Int.reduceLT, Int.reduceLE, Int.reduceToNat, decide_true, decide_false, DV.bool.injEq, DV.int.injEq, DV.mp.injEq, DV.msl.injEq, DV.tup.injEq, DV.agg.injEq, DV.fn.injEq, true_implies, forall_const, reduceCtorEq, implies_true, ne_eq, DMem.mt]
  refine stD (by rw [hM1, DMem.ins_same]) rfl rfl (by simp) (by omega) rfl fun M2 hM2 => ?_
  have hM2b : M2 b = some ⟨4, k + 1, (wL tos k 0).map .bool⟩ := by
    rw [hM2, DMem.ins_same, splD_one (by simp), ← List.map_set] <;> rfl
  clear hM1 hM2 hb
  refine ⟨fun f δ M => ∃ (i : Nat) (S : List Nat), i ≤ k ∧ f = k - i ∧ δ 0 = slI tos ∧ δ 3 = .int .i64 k ∧ δ 5 = .msl b 0 (k + 1) (k + 1) ∧ δ 6 = .int .i64 i ∧ M b = some ⟨4, k + 1, (wL tos k i).map .bool⟩ ∧ SlAt irG M (δ 4) ((tos.take i).map (irK k)) S ∧ S.Nodup ∧ b ∉ S, k,
    ⟨0, [], Nat.zero_le _, rfl, rfl, rfl, rfl, rfl, hM2b, SlAt.nil, List.nodup_nil, by simp⟩, ?_⟩
  clear hM2b
  rintro f δ M ⟨i, S, hi, rfl, h0, h3, h5, h6, hMb, hsl, hnd, hbS⟩
  simp only [S1_swagelaw10_IrLeads, MU_swagelaw10_IrLeads, h0, h3, h5, h6, SW, wpD, evDL, evDM, evD, bldLD, List.contains_cons, List.contains_nil, Nat.reduceBEq, beq_self_eq_true, Nat.reduceMul, Nat.reduceSub, wpSp, Option.bind_some, Option.some.injEq, exists_eq_left', exists_eq_left, reduceIte, if_false, if_true, Nat.reduceEqDiff, Nat.reduceAdd, Nat.reduceLeDiff, Int.reduceEq, Int.reduceLT, Int.reduceLE, Int.reduceToNat, decide_true, decide_false, DV.bool.injEq, DV.int.injEq, DV.mp.injEq, DV.msl.injEq, DV.tup.injEq, DV.agg.injEq, DV.fn.injEq, true_implies, forall_const, reduceCtorEq, implies_true, ne_eq, DMem.mt, decide_eq_true_eq, decide_eq_false_iff_not]
  refine ⟨fun hlt => ?_, fun hge => ?_⟩
  · have hik : i < k := by omega
    have hil : i < tos.length := by omega
    have ekm : ((k + 1 : Nat) : Int) % 18446744073709551616 = (k : Int) + 1 := by rw [Int.emod_eq_of_lt (by omega) (by omega)]; omega
    have hk0 : ¬ ((k : Int) + 1 = 0) := by omega
    have ht := tL_in k tos[i]
    have et : wr64 (((tos[i].fdiv (2 ^ min 2 IntKind.i64.bits)) % 18446744073709551616).tmod ((k : Int) + 1)) = tL k tos[i] := w64 (by unfold tL at ht; omega)
    have eq' : bits .and .i64 tos[i] 3 = qL tos[i] := rfl
    have ei : wr64 ((i : Int) + 1) = ((i + 1 : Nat) : Int) := w64s (by omega)
    have hlen := wL_len tos k i
    have hti : ((tos.take i).map (irK k)).length = i := by rw [List.length_map, List.length_take]; omega
    have htk : (tos.take (i + 1)).map (irK k) = (tos.take i).map (irK k) ++ [irK k tos[i]] := by rw [List.take_succ_eq_append_getElem hil, List.map_append] <;> rfl
    have hw : wL tos k (i + 1) = wK k (wL tos k i) i tos[i] := by simp only [wL, List.getElem?_eq_getElem hil]
    have htn : (tL k tos[i]).toNat < k + 1 := by omega
    have hi1 : ixD 1 (.msl b 0 (k + 1) (k + 1)) (.int .i64 ((i + 1 : Nat) : Int)) = some (.mp b (i + 1)) := by rw [ixM (show i + 1 < k + 1 by omega)]; simp
    have hi2 : ixD 1 (.msl b 0 (k + 1) (k + 1)) (.int .i64 (tL k tos[i])) = some (.mp b (tL k tos[i]).toNat) := by
      obtain ⟨n, hn⟩ := Int.eq_ofNat_of_zero_le ht.1
      rw [hn, Int.toNat_natCast, ixM (show n < k + 1 by omega)]; simp
    have put : ∀ {M5 : DMem} {o : List Bool} {j : Nat} {v : Bool} {Post : DV → DMem → Prop}, M5 b = some ⟨4, k + 1, o.map .bool⟩ → o.length = k + 1 → j < k + 1 → (∀ M6, M6 b = some ⟨4, k + 1, (o.set j v).map .bool⟩ → (∀ y, y ≠ b → M6 y = M5 y) → Post (.raw undef) M6) → StoreD M5 1 (.mp b j) (.bool v) Post := by
      intro M5 o j v Post h5 ho hj hP
      refine stD h5 rfl rfl (by rw [List.length_map]; omega) (by omega) rfl fun M6 hM6 => hP M6 ?_ fun y hy => ?_
      · rw [hM6, DMem.ins_same, splD_one (by rw [List.length_map]; omega), ← List.map_set]
      · rw [hM6, DMem.ins_ne _ _ hy]
    have gld : ∀ {M5 : DMem} {o : List Bool}, M5 b = some ⟨4, k + 1, o.map .bool⟩ → o.length = k + 1 → ((M5 b).bind fun B => B.cs[i + 1]?) = some (.bool (o.getD (i + 1) false)) := by
      intro M5 o h5 ho
      rw [h5]
      show (o.map DV.bool)[i + 1]? = _
      rw [List.getElem?_map, List.getElem?_eq_getElem (by omega), List.getD_eq_getElem?_getD, List.getElem?_eq_getElem (by omega)] <;> rfl
    have aft : ∀ {M9 : DMem} {S' : List Nat}, (∀ x B, M x = some B → x ∉ S → M9 x = some B) → (∀ x ∈ S', x ∈ S ∨ x ∈ ([] : List Nat) ∨ M x = none) → M9 b = some ⟨4, k + 1, (wL tos k i).map .bool⟩ ∧ b ∉ S' := by
      intro M9 S' g2 g3
      refine ⟨g2 b _ hMb hbS, fun hh => ?_⟩
      rcases g3 b hh with h | h | h
      · exact hbS h
      · simp at h
      · rw [hMb] at h; cases h
-- CASES
    rcases qL_in tos[i] with hq | hq | hq | hq
    · have hir : irK k tos[i] = ⟨4, 0, 0, 0, tL k tos[i], [], 1, 0, 0⟩ := by unfold irK; simp [hq]
      simp only [ix_slI hil, ekm, hk0, e1, et, eq', hq, h0, h3, h5, h6, SW, wpD, evDL, evDM, evD, bldLD, List.contains_cons, List.contains_nil, Nat.reduceBEq, beq_self_eq_true, Nat.reduceMul, Nat.reduceSub, wpSp, Option.bind_some, Option.some.injEq, exists_eq_left', exists_eq_left, reduceIte, if_false, if_true, Nat.reduceEqDiff, Nat.reduceAdd, Nat.reduceLeDiff, Int.reduceEq, Int.reduceLT, Int.reduceLE, Int.reduceToNat, decide_true, decide_false, DV.bool.injEq, DV.int.injEq, DV.mp.injEq, DV.msl.injEq, DV.tup.injEq, DV.agg.injEq, DV.fn.injEq, true_implies, forall_const, reduceCtorEq, implies_true, ne_eq, DMem.mt]
      refine hsl.app irG_ok hnd (ys := [irK k tos[i]]) (ds := [.int .i64 4, .int .i64 0, .int .i64 0, .int .i64 0, .int .i64 (tL k tos[i]), .zsl, .int .i64 1, .int .i64 0, .int .i64 0]) (T := []) (k := 1) (bytes := 88) (RowAt.one ⟨⟨.zsl, by rw [hir], .inr ⟨rfl, by rw [hir]⟩⟩, rfl⟩) (fun y hy => by simp at hy) rfl (by rw [hti]; omega) (by rw [hti]; omega) fun d' M9 S' g1 g2 g3 g4 => ?_
      obtain ⟨hMb9, hbS9⟩ := aft g2 g3
      try simp only [ix_slI hil, ekm, hk0, e1, et, eq', hq, hi2, hi1, ei, h0, h3, h5, h6, SW, wpD, evDL, evDM, evD, bldLD, List.contains_cons, List.contains_nil, Nat.reduceBEq, beq_self_eq_true, Nat.reduceMul, Nat.reduceSub, wpSp, Option.bind_some, Option.some.injEq, exists_eq_left', exists_eq_left, reduceIte, if_false, if_true, Nat.reduceEqDiff, Nat.reduceAdd, Nat.reduceLeDiff, Int.reduceEq, Int.reduceLT, Int.reduceLE, Int.reduceToNat, decide_true, decide_false, DV.bool.injEq, DV.int.injEq, DV.mp.injEq, DV.msl.injEq, DV.tup.injEq, DV.agg.injEq, DV.fn.injEq, true_implies, forall_const, reduceCtorEq, implies_true, ne_eq, DMem.mt]
      refine put hMb9 hlen htn fun M10 g10 n10 => ?_
      have hld : ((M10 b).bind fun B => B.cs[i + 1]?) = some (.bool (((wL tos k i).set (tL k tos[i]).toNat true).getD (i + 1) false)) := gld g10 (by rw [List.length_set]; exact hlen)
      simp only [ix_slI hil, ekm, hk0, e1, et, eq', hq, hi2, hi1, ei, hld, h0, h3, h5, h6, SW, wpD, evDL, evDM, evD, bldLD, List.contains_cons, List.contains_nil, Nat.reduceBEq, beq_self_eq_true, Nat.reduceMul, Nat.reduceSub, wpSp, Option.bind_some, Option.some.injEq, exists_eq_left', exists_eq_left, reduceIte, if_false, if_true, Nat.reduceEqDiff, Nat.reduceAdd, Nat.reduceLeDiff, Int.reduceEq, Int.reduceLT, Int.reduceLE, Int.reduceToNat, decide_true, decide_false, DV.bool.injEq, DV.int.injEq, DV.mp.injEq, DV.msl.injEq, DV.tup.injEq, DV.agg.injEq, DV.fn.injEq, true_implies, forall_const, reduceCtorEq, implies_true, ne_eq, DMem.mt]
      refine put g10 (by rw [List.length_set]; exact hlen) (show i + 1 < k + 1 by omega) fun M11 g11 n11 => ?_
      try simp only [ei, h0, h3, h5, h6, SW, wpD, evDL, evDM, evD, bldLD, List.contains_cons, List.contains_nil, Nat.reduceBEq, beq_self_eq_true, Nat.reduceMul, Nat.reduceSub, wpSp, Option.bind_some, Option.some.injEq, exists_eq_left', exists_eq_left, reduceIte, if_false, if_true, Nat.reduceEqDiff, Nat.reduceAdd, Nat.reduceLeDiff, Int.reduceEq, Int.reduceLT, Int.reduceLE, Int.reduceToNat, decide_true, decide_false, DV.bool.injEq, DV.int.injEq, DV.mp.injEq, DV.msl.injEq, DV.tup.injEq, DV.agg.injEq, DV.fn.injEq, true_implies, forall_const, reduceCtorEq, implies_true, ne_eq, DMem.mt]
      refine ⟨k - (i + 1), M11, by omega, SubD.refl _, i + 1, S', by omega, rfl, rfl, ?_, ?_, g4 List.nodup_nil, hbS9⟩
      · rw [g11, hw]; simp [wK, hq]
      · rw [htk]; exact g1.frame irG_ok fun y hy => by rw [n11 y (by rintro rfl; exact hbS9 hy), n10 y (by rintro rfl; exact hbS9 hy)]
    · have hir : irK k tos[i] = ⟨5, 0, 0, 0, tL k tos[i], [], 1, 0, 0⟩ := by unfold irK; simp [hq]
      simp only [ix_slI hil, ekm, hk0, e1, et, eq', hq, h0, h3, h5, h6, SW, wpD, evDL, evDM, evD, bldLD, List.contains_cons, List.contains_nil, Nat.reduceBEq, beq_self_eq_true, Nat.reduceMul, Nat.reduceSub, wpSp, Option.bind_some, Option.some.injEq, exists_eq_left', exists_eq_left, reduceIte, if_false, if_true, Nat.reduceEqDiff, Nat.reduceAdd, Nat.reduceLeDiff, Int.reduceEq, Int.reduceLT, Int.reduceLE, Int.reduceToNat, decide_true, decide_false, DV.bool.injEq, DV.int.injEq, DV.mp.injEq, DV.msl.injEq, DV.tup.injEq, DV.agg.injEq, DV.fn.injEq, true_implies, forall_const, reduceCtorEq, implies_true, ne_eq, DMem.mt]
      refine hsl.app irG_ok hnd (ys := [irK k tos[i]]) (ds := [.int .i64 5, .int .i64 0, .int .i64 0, .int .i64 0, .int .i64 (tL k tos[i]), .zsl, .int .i64 1, .int .i64 0, .int .i64 0]) (T := []) (k := 1) (bytes := 88) (RowAt.one ⟨⟨.zsl, by rw [hir], .inr ⟨rfl, by rw [hir]⟩⟩, rfl⟩) (fun y hy => by simp at hy) rfl (by rw [hti]; omega) (by rw [hti]; omega) fun d' M9 S' g1 g2 g3 g4 => ?_
      obtain ⟨hMb9, hbS9⟩ := aft g2 g3
      try simp only [ix_slI hil, ekm, hk0, e1, et, eq', hq, hi2, hi1, ei, h0, h3, h5, h6, SW, wpD, evDL, evDM, evD, bldLD, List.contains_cons, List.contains_nil, Nat.reduceBEq, beq_self_eq_true, Nat.reduceMul, Nat.reduceSub, wpSp, Option.bind_some, Option.some.injEq, exists_eq_left', exists_eq_left, reduceIte, if_false, if_true, Nat.reduceEqDiff, Nat.reduceAdd, Nat.reduceLeDiff, Int.reduceEq, Int.reduceLT, Int.reduceLE, Int.reduceToNat, decide_true, decide_false, DV.bool.injEq, DV.int.injEq, DV.mp.injEq, DV.msl.injEq, DV.tup.injEq, DV.agg.injEq, DV.fn.injEq, true_implies, forall_const, reduceCtorEq, implies_true, ne_eq, DMem.mt]
      refine put hMb9 hlen htn fun M10 g10 n10 => ?_
      have hld : ((M10 b).bind fun B => B.cs[i + 1]?) = some (.bool (((wL tos k i).set (tL k tos[i]).toNat true).getD (i + 1) false)) := gld g10 (by rw [List.length_set]; exact hlen)
      simp only [ix_slI hil, ekm, hk0, e1, et, eq', hq, hi2, hi1, ei, hld, h0, h3, h5, h6, SW, wpD, evDL, evDM, evD, bldLD, List.contains_cons, List.contains_nil, Nat.reduceBEq, beq_self_eq_true, Nat.reduceMul, Nat.reduceSub, wpSp, Option.bind_some, Option.some.injEq, exists_eq_left', exists_eq_left, reduceIte, if_false, if_true, Nat.reduceEqDiff, Nat.reduceAdd, Nat.reduceLeDiff, Int.reduceEq, Int.reduceLT, Int.reduceLE, Int.reduceToNat, decide_true, decide_false, DV.bool.injEq, DV.int.injEq, DV.mp.injEq, DV.msl.injEq, DV.tup.injEq, DV.agg.injEq, DV.fn.injEq, true_implies, forall_const, reduceCtorEq, implies_true, ne_eq, DMem.mt]
      refine put g10 (by rw [List.length_set]; exact hlen) (show i + 1 < k + 1 by omega) fun M11 g11 n11 => ?_
      try simp only [ei, h0, h3, h5, h6, SW, wpD, evDL, evDM, evD, bldLD, List.contains_cons, List.contains_nil, Nat.reduceBEq, beq_self_eq_true, Nat.reduceMul, Nat.reduceSub, wpSp, Option.bind_some, Option.some.injEq, exists_eq_left', exists_eq_left, reduceIte, if_false, if_true, Nat.reduceEqDiff, Nat.reduceAdd, Nat.reduceLeDiff, Int.reduceEq, Int.reduceLT, Int.reduceLE, Int.reduceToNat, decide_true, decide_false, DV.bool.injEq, DV.int.injEq, DV.mp.injEq, DV.msl.injEq, DV.tup.injEq, DV.agg.injEq, DV.fn.injEq, true_implies, forall_const, reduceCtorEq, implies_true, ne_eq, DMem.mt]
      refine ⟨k - (i + 1), M11, by omega, SubD.refl _, i + 1, S', by omega, rfl, rfl, ?_, ?_, g4 List.nodup_nil, hbS9⟩
      · rw [g11, hw]; simp [wK, hq]
      · rw [htk]; exact g1.frame irG_ok fun y hy => by rw [n11 y (by rintro rfl; exact hbS9 hy), n10 y (by rintro rfl; exact hbS9 hy)]
    · have hir : irK k tos[i] = ⟨8, 0, 0, 0, 0, [], 0, 0, 0⟩ := by unfold irK; simp [hq]
      simp only [ix_slI hil, ekm, hk0, e1, et, eq', hq, h0, h3, h5, h6, SW, wpD, evDL, evDM, evD, bldLD, List.contains_cons, List.contains_nil, Nat.reduceBEq, beq_self_eq_true, Nat.reduceMul, Nat.reduceSub, wpSp, Option.bind_some, Option.some.injEq, exists_eq_left', exists_eq_left, reduceIte, if_false, if_true, Nat.reduceEqDiff, Nat.reduceAdd, Nat.reduceLeDiff, Int.reduceEq, Int.reduceLT, Int.reduceLE, Int.reduceToNat, decide_true, decide_false, DV.bool.injEq, DV.int.injEq, DV.mp.injEq, DV.msl.injEq, DV.tup.injEq, DV.agg.injEq, DV.fn.injEq, true_implies, forall_const, reduceCtorEq, implies_true, ne_eq, DMem.mt]
      refine hsl.app irG_ok hnd (ys := [irK k tos[i]]) (ds := [.int .i64 8, .int .i64 0, .int .i64 0, .int .i64 0, .int .i64 (0), .zsl, .int .i64 0, .int .i64 0, .int .i64 0]) (T := []) (k := 1) (bytes := 88) (RowAt.one ⟨⟨.zsl, by rw [hir], .inr ⟨rfl, by rw [hir]⟩⟩, rfl⟩) (fun y hy => by simp at hy) rfl (by rw [hti]; omega) (by rw [hti]; omega) fun d' M9 S' g1 g2 g3 g4 => ?_
      obtain ⟨hMb9, hbS9⟩ := aft g2 g3
      try simp only [ix_slI hil, ekm, hk0, e1, et, eq', hq, hi2, hi1, ei, h0, h3, h5, h6, SW, wpD, evDL, evDM, evD, bldLD, List.contains_cons, List.contains_nil, Nat.reduceBEq, beq_self_eq_true, Nat.reduceMul, Nat.reduceSub, wpSp, Option.bind_some, Option.some.injEq, exists_eq_left', exists_eq_left, reduceIte, if_false, if_true, Nat.reduceEqDiff, Nat.reduceAdd, Nat.reduceLeDiff, Int.reduceEq, Int.reduceLT, Int.reduceLE, Int.reduceToNat, decide_true, decide_false, DV.bool.injEq, DV.int.injEq, DV.mp.injEq, DV.msl.injEq, DV.tup.injEq, DV.agg.injEq, DV.fn.injEq, true_implies, forall_const, reduceCtorEq, implies_true, ne_eq, DMem.mt]
      have hld : ((M9 b).bind fun B => B.cs[i + 1]?) = some (.bool ((wL tos k i).getD (i + 1) false)) := gld hMb9 hlen
      try simp only [ix_slI hil, ekm, hk0, e1, et, eq', hq, hi2, hi1, ei, hld, h0, h3, h5, h6, SW, wpD, evDL, evDM, evD, bldLD, List.contains_cons, List.contains_nil, Nat.reduceBEq, beq_self_eq_true, Nat.reduceMul, Nat.reduceSub, wpSp, Option.bind_some, Option.some.injEq, exists_eq_left', exists_eq_left, reduceIte, if_false, if_true, Nat.reduceEqDiff, Nat.reduceAdd, Nat.reduceLeDiff, Int.reduceEq, Int.reduceLT, Int.reduceLE, Int.reduceToNat, decide_true, decide_false, DV.bool.injEq, DV.int.injEq, DV.mp.injEq, DV.msl.injEq, DV.tup.injEq, DV.agg.injEq, DV.fn.injEq, true_implies, forall_const, reduceCtorEq, implies_true, ne_eq, DMem.mt]
      refine put hMb9 hlen (show i + 1 < k + 1 by omega) fun M11 g11 n11 => ?_
      try simp only [ei, h0, h3, h5, h6, SW, wpD, evDL, evDM, evD, bldLD, List.contains_cons, List.contains_nil, Nat.reduceBEq, beq_self_eq_true, Nat.reduceMul, Nat.reduceSub, wpSp, Option.bind_some, Option.some.injEq, exists_eq_left', exists_eq_left, reduceIte, if_false, if_true, Nat.reduceEqDiff, Nat.reduceAdd, Nat.reduceLeDiff, Int.reduceEq, Int.reduceLT, Int.reduceLE, Int.reduceToNat, decide_true, decide_false, DV.bool.injEq, DV.int.injEq, DV.mp.injEq, DV.msl.injEq, DV.tup.injEq, DV.agg.injEq, DV.fn.injEq, true_implies, forall_const, reduceCtorEq, implies_true, ne_eq, DMem.mt]
      refine ⟨k - (i + 1), M11, by omega, SubD.refl _, i + 1, S', by omega, rfl, rfl, ?_, ?_, g4 List.nodup_nil, hbS9⟩
      · rw [g11, hw]; simp [wK, hq]
      · rw [htk]; exact g1.frame irG_ok fun y hy => by rw [n11 y (by rintro rfl; exact hbS9 hy)]
    · have hir : irK k tos[i] = ⟨1, 0, 0, 0, tL k tos[i], [], 0, 0, 0⟩ := by unfold irK; simp [hq]
      simp only [ix_slI hil, ekm, hk0, e1, et, eq', hq, h0, h3, h5, h6, SW, wpD, evDL, evDM, evD, bldLD, List.contains_cons, List.contains_nil, Nat.reduceBEq, beq_self_eq_true, Nat.reduceMul, Nat.reduceSub, wpSp, Option.bind_some, Option.some.injEq, exists_eq_left', exists_eq_left, reduceIte, if_false, if_true, Nat.reduceEqDiff, Nat.reduceAdd, Nat.reduceLeDiff, Int.reduceEq, Int.reduceLT, Int.reduceLE, Int.reduceToNat, decide_true, decide_false, DV.bool.injEq, DV.int.injEq, DV.mp.injEq, DV.msl.injEq, DV.tup.injEq, DV.agg.injEq, DV.fn.injEq, true_implies, forall_const, reduceCtorEq, implies_true, ne_eq, DMem.mt]
      refine hsl.app irG_ok hnd (ys := [irK k tos[i]]) (ds := [.int .i64 1, .int .i64 0, .int .i64 0, .int .i64 0, .int .i64 (tL k tos[i]), .zsl, .int .i64 0, .int .i64 0, .int .i64 0]) (T := []) (k := 1) (bytes := 88) (RowAt.one ⟨⟨.zsl, by rw [hir], .inr ⟨rfl, by rw [hir]⟩⟩, rfl⟩) (fun y hy => by simp at hy) rfl (by rw [hti]; omega) (by rw [hti]; omega) fun d' M9 S' g1 g2 g3 g4 => ?_
      obtain ⟨hMb9, hbS9⟩ := aft g2 g3
      try simp only [ix_slI hil, ekm, hk0, e1, et, eq', hq, hi2, hi1, ei, h0, h3, h5, h6, SW, wpD, evDL, evDM, evD, bldLD, List.contains_cons, List.contains_nil, Nat.reduceBEq, beq_self_eq_true, Nat.reduceMul, Nat.reduceSub, wpSp, Option.bind_some, Option.some.injEq, exists_eq_left', exists_eq_left, reduceIte, if_false, if_true, Nat.reduceEqDiff, Nat.reduceAdd, Nat.reduceLeDiff, Int.reduceEq, Int.reduceLT, Int.reduceLE, Int.reduceToNat, decide_true, decide_false, DV.bool.injEq, DV.int.injEq, DV.mp.injEq, DV.msl.injEq, DV.tup.injEq, DV.agg.injEq, DV.fn.injEq, true_implies, forall_const, reduceCtorEq, implies_true, ne_eq, DMem.mt]
      have hld : ((M9 b).bind fun B => B.cs[i + 1]?) = some (.bool ((wL tos k i).getD (i + 1) false)) := gld hMb9 hlen
      try simp only [ix_slI hil, ekm, hk0, e1, et, eq', hq, hi2, hi1, ei, hld, h0, h3, h5, h6, SW, wpD, evDL, evDM, evD, bldLD, List.contains_cons, List.contains_nil, Nat.reduceBEq, beq_self_eq_true, Nat.reduceMul, Nat.reduceSub, wpSp, Option.bind_some, Option.some.injEq, exists_eq_left', exists_eq_left, reduceIte, if_false, if_true, Nat.reduceEqDiff, Nat.reduceAdd, Nat.reduceLeDiff, Int.reduceEq, Int.reduceLT, Int.reduceLE, Int.reduceToNat, decide_true, decide_false, DV.bool.injEq, DV.int.injEq, DV.mp.injEq, DV.msl.injEq, DV.tup.injEq, DV.agg.injEq, DV.fn.injEq, true_implies, forall_const, reduceCtorEq, implies_true, ne_eq, DMem.mt]
      refine put hMb9 hlen (show i + 1 < k + 1 by omega) fun M11 g11 n11 => ?_
      try simp only [ei, h0, h3, h5, h6, SW, wpD, evDL, evDM, evD, bldLD, List.contains_cons, List.contains_nil, Nat.reduceBEq, beq_self_eq_true, Nat.reduceMul, Nat.reduceSub, wpSp, Option.bind_some, Option.some.injEq, exists_eq_left', exists_eq_left, reduceIte, if_false, if_true, Nat.reduceEqDiff, Nat.reduceAdd, Nat.reduceLeDiff, Int.reduceEq, Int.reduceLT, Int.reduceLE, Int.reduceToNat, decide_true, decide_false, DV.bool.injEq, DV.int.injEq, DV.mp.injEq, DV.msl.injEq, DV.tup.injEq, DV.agg.injEq, DV.fn.injEq, true_implies, forall_const, reduceCtorEq, implies_true, ne_eq, DMem.mt]
      refine ⟨k - (i + 1), M11, by omega, SubD.refl _, i + 1, S', by omega, rfl, rfl, ?_, ?_, g4 List.nodup_nil, hbS9⟩
      · rw [g11, hw]; simp [wK, hq]
      · rw [htk]; exact g1.frame irG_ok fun y hy => by rw [n11 y (by rintro rfl; exact hbS9 hy)]
  · have hie : i = k := by omega
    subst hie
    have hti : ((tos.take i).map (irK i)).length = i := by rw [List.length_map, List.length_take]; omega
    simp only [S3_swagelaw10_IrLeads, MU_swagelaw10_IrLeads, h0, h3, h5, h6, SW, wpD, evDL, evDM, evD, bldLD, List.contains_cons, List.contains_nil, Nat.reduceBEq, beq_self_eq_true, Nat.reduceMul, Nat.reduceSub, wpSp, Option.bind_some, Option.some.injEq, exists_eq_left', exists_eq_left, reduceIte, if_false, if_true, Nat.reduceEqDiff, Nat.reduceAdd, Nat.reduceLeDiff, Int.reduceEq, Int.reduceLT, Int.reduceLE, Int.reduceToNat, decide_true, decide_false, DV.bool.injEq, DV.int.injEq, DV.mp.injEq, DV.msl.injEq, DV.tup.injEq, DV.agg.injEq, DV.fn.injEq, true_implies, forall_const, reduceCtorEq, implies_true, ne_eq, DMem.mt]
    refine hsl.app irG_ok hnd (ys := [⟨8, 0, 0, 0, 0, [], 0, 0, 0⟩]) (ds := [.int .i64 8, .int .i64 0, .int .i64 0, .int .i64 0, .int .i64 0, .zsl, .int .i64 0, .int .i64 0, .int .i64 0]) (T := []) (k := 1) (bytes := 88) (RowAt.one ⟨⟨.zsl, rfl, .inr ⟨rfl, rfl⟩⟩, rfl⟩) (fun y hy => by simp at hy) rfl (by rw [hti]; omega) (by rw [hti]; omega) fun d' M9 S' g1 g2 g3 g4 => ?_
    have hMb9 := g2 b _ hMb hbS
    have hfz : fz M9 4 d' = slD Irc.c (rowC tos i) := g1.fz irG_ok (k := 3) (by decide)
    have hfb : fz M9 4 (.msl b 0 (i + 1) (i + 1)) = slB (wL tos i i) := by
      rw [fz_msl hMb9 3 0 _ _ (Nat.le_refl _), List.drop_zero]
      unfold slB
      rw [wL_len]
      congr 1
      rw [List.map_map]
      exact List.map_congr_left fun x _ => fz_bool _ _ _
    have hrl : (rowC tos i).length = i + 1 := by simp [rowC]; omega
    simp only [g1.cell, SW, wpD, evDL, evDM, evD, bldLD, List.contains_cons, List.contains_nil, Nat.reduceBEq, beq_self_eq_true, Nat.reduceMul, Nat.reduceSub, wpSp, Option.bind_some, Option.some.injEq, exists_eq_left', exists_eq_left, reduceIte, if_false, if_true, Nat.reduceEqDiff, Nat.reduceAdd, Nat.reduceLeDiff, Int.reduceEq, Int.reduceLT, Int.reduceLE, Int.reduceToNat, decide_true, decide_false, DV.bool.injEq, DV.int.injEq, DV.mp.injEq, DV.msl.injEq, DV.tup.injEq, DV.agg.injEq, DV.fn.injEq, true_implies, forall_const, reduceCtorEq, implies_true, ne_eq, DMem.mt]
    refine Pt.pc (d := slB (leadersF (rowC tos i))) (by simp only [fz_agg, fz_zsl, fz_int, hfz, List.map_cons, List.map_nil]; exact Leaders_pt ⟨0, 1, rowC tos i, []⟩ (by show (rowC tos i).length ≤ _; omega)) ?_
    rw [row_lead tos i hk1]
    simp only [S2_swagelaw10_IrLeads, MU_swagelaw10_IrLeads, h5, hfb, fz_slB, List.map_cons, List.map_nil, SameBools_pf (wL tos i i) (wL tos i i) (by rw [wL_len]; omega), SW, wpD, evDL, evDM, evD, bldLD, List.contains_cons, List.contains_nil, Nat.reduceBEq, beq_self_eq_true, Nat.reduceMul, Nat.reduceSub, wpSp, Option.bind_some, Option.some.injEq, exists_eq_left', exists_eq_left, reduceIte, if_false, if_true, Nat.reduceEqDiff, Nat.reduceAdd, Nat.reduceLeDiff, Int.reduceEq, Int.reduceLT, Int.reduceLE, Int.reduceToNat, decide_true, decide_false, DV.bool.injEq, DV.int.injEq, DV.mp.injEq, DV.msl.injEq, DV.tup.injEq, DV.agg.injEq, DV.fn.injEq, true_implies, forall_const, reduceCtorEq, implies_true, ne_eq, DMem.mt]
end Go.Proofs.YtpehdlobicocpaaDoor.Pf
/- The row of a law that is true at every input: from the law's walk over a memory. No condition. -/
namespace Go.Proofs.YtpehdlobicocpaaDoor.Mw
open Go Go.RowKit Go.ChangeShapes Go.WideShapes Go.ChangeAt
set_option linter.unusedVariables false
theorem walk_of {P : Program} {f : FuncId} {args : List Value} {w : World} (h : MC P f args (fun v _ => v = .bool true) (snap w)) :
    Calls P f args.toArray w fun e w' => e = .returned (.bool true) ∧ Below w.heap.size w w' :=
  (h.2 w w (snap_sat w)).mono fun e w' ⟨v, m', he, hs, hv⟩ => ⟨by rw [he, hv], hs.below⟩
/-- Arguments read behind the call as they did before. -/
theorem args_stay {H : Type} {enc : TypeId × Value → H} {P : Program} (hl : laidOutB P = true) {W W' : World} (hb : Below W.heap.size W W') : ∀ (ts : List TypeId) (vs : List Value) (ds : List (DataW H)) (ps : List MemPlace),
    (∀ t ∈ ts, P.readableRec t = true ∧ t < P.types.size) → DataW.TrodAll enc P W 0 (fun _ => true) true ts vs ds ps → DataW.TrodAll enc P W' 0 (fun b => decide (b < W.heap.size)) true ts vs ds ps
  | [], [], [], ps, _, h => h
  | t :: ts, v :: vs, d :: ds, ps, ht, h => by
    have hlt := DataW.TrodAll.lt h
    obtain ⟨p, q, h1, h2, rfl⟩ := h
    exact ⟨p, q, Below.trod hl (ht t (by simp)).1 (ht t (by simp)).2 h1 hb (fun x hx => hlt x (by simp [hx])), args_stay hl hb ts vs ds q (fun t' h' => ht t' (by simp [h'])) h2, rfl⟩
  | [], [], _ :: _, _, _, h => h.elim
  | [], _ :: _, _, _, _, h => by cases h
  | _ :: _, [], _, _, _, h => by cases h
  | _ :: _, _ :: _, [], _, _, h => by cases h
end Go.Proofs.YtpehdlobicocpaaDoor.Mw
/- The row of a law whose program reads a variable that is told: from the law's walk over a memory. No condition. -/
namespace Go.Proofs.YtpehdlobicocpaaDoor.Mw
open Go Go.RowKit Go.ChangeShapes Go.WideShapes Go.ChangeAt
set_option linter.unusedVariables false
theorem law_row_laid {C : Checked} {os : Os} {H : Type} {enc : TypeId × Value → H} (laid : List (String × DataW Unit)) (own : ownKnob C.prog.godebug = none) (started : os.Started) {f : FuncId} {fn : Func} {s : ChangeSpec}
    (noInit : C.prog.inits.idxOf? f = none) (hfn : C.prog.funcs[f]? = some fn) (hvars : s.vars = [])
    (hspec : ∀ ds : List (DataW H), ds.length = fn.params.toList.length → s.fn H ds = { results := [.lit (.bool true)], args := ds })
    {tb : TypeId} (hres : fn.resultTypes = #[tb]) (htb : C.prog.underlying tb = some .bool)
    (hl : laidOutB C.prog = true) (hread : ∀ t ∈ fn.params.toList, C.prog.readableRec t = true ∧ t < C.prog.types.size) {apart : Bool}
    (witness : ∃ (w : World) (tape : Tape) (i : Input), w.os = os ∧ (w.forCall tape i).Shaped C.prog ∧ i.vars = [] ∧ Input.okWide C.prog (w.forCall tape i) .any w.heap.size f i ∧
      ((s.pre enc C.prog fn [] apart (w.forCall tape i).memory i.args ∧ laidMetH C.prog laid (w.forCall tape i).memory) ∧ sizedMet enc C.prog fn (OpenSpec.ofChange s) apart (w.forCall tape i).memory i.args) ∧ ({} : Assume).holds C.prog (lone (Frame.enter C.prog f i.args .normal) [] (w.forCall tape i)))
    (hmc : ∀ (W : World) (base : Nat) (args : List Value) (ds : List (DataW H)) (p : List MemPlace), DataW.TrodAll enc C.prog W 0 (fun _ => true) true fn.params.toList args ds p →
      (∀ (j : Nat) t v, fn.params[j]? = some t → args[j]? = some v → Value.okWide C.prog W .any base t v) →
      (DataW.weightsEach C.prog fn.params.toList ds).all (· ≤ reachBytes) = true → laidMetH C.prog laid W → MC C.prog f args (fun v _ => v = .bool true) (snap W)) :
    ReturnsInHanded {} C os f .any (fun w args => (s.pre enc C.prog fn [] apart w args ∧ laidMetH C.prog laid w) ∧ sizedMet enc C.prog fn (OpenSpec.ofChange s) apart w args) (s.post enc C.prog fn apart true false false) := by
  refine returnsInHanded_of_change_and (X := fun w _ => laidMetH C.prog laid w) (fun _ _ _ hh h => h.of_heap hh) own started noInit hfn witness ?_
  intro W base args ds gs before hval hW _ hsz hL _
  have hW' := hW
  obtain ⟨p, q, hA, hV, rfl, hfz, hnd⟩ := hW
  have hg : gs = [] := by
    rw [hvars] at hV
    cases gs with
    | nil => rfl
    | cons a b => exact hV.elim
  subst hg
  have hlen : ds.length = fn.params.toList.length := by
    have : ∀ (ts : List TypeId) (vs : List Value) (ds : List (DataW H)) (ps : List MemPlace), DataW.TrodAll enc C.prog W 0 (fun _ => true) true ts vs ds ps → ds.length = ts.length := by
      intro ts
      induction ts with
      | nil => intro vs ds ps h; cases vs <;> cases ds <;> first | rfl | exact h.elim | cases h
      | cons t ts ih =>
        intro vs ds ps h
        cases vs with
        | nil => cases h
        | cons v vs =>
          cases ds with
          | nil => cases h
          | cons d ds => obtain ⟨p, q, _, h2, _⟩ := h; simp [ih _ _ _ h2]
    exact this _ _ _ _ hA
  have hv0 : s.plain.varTypes C.prog = [] := by
    have : s.plain.vars = [] := hvars
    simp [DataSpec.varTypes, this]
  have hmc' := hmc W base args.toList ds p hA (fun j t v ht hv => hval j t v ht (by simpa using hv)) (by rw [hv0] at hsz; simpa using hsz) hL
  have hw := walk_of hmc'
  rw [Array.toArray_toList] at hw
  refine hw.mono fun e W' ⟨he, bel⟩ => ?_
  have hsp := hspec ds hlen
  refine ⟨_, he, ds, [], _, [], p, [], hW', ?_, ?_, ?_, bel.frame _, fun h => by cases h⟩
  · rw [List.append_nil, hsp, hres]
    exact trodAll_mk1 (shut_bool htb _)
  · rw [List.append_nil, hsp]
    exact args_stay hl bel _ _ _ _ hread hA
  · rw [List.append_nil, hsp, hvars]
    rfl
end Go.Proofs.YtpehdlobicocpaaDoor.Mw
/- Arguments opened: what came in as data stands in the memory as it was found, a value that nobody writes. No condition. -/
namespace Go.Proofs.YtpehdlobicocpaaDoor.Mw
open Go Go.RowKit Go.ChangeShapes Go.WideShapes Go.ChangeAt Go.Deep
set_option linter.unusedVariables false
/-- Data of this type stands as one of these. -/
structure Opens (P : Program) (w : World) (t : TypeId) {α : Type} (c : α → List DV) : Prop where
  op : ∀ {H : Type} (enc : TypeId × Value → H) (base : Nat) (spare : Nat → Bool) (held : Bool) (fuel : Nat) (cs : List Value) (x : DataW H × List MemPlace),
    DataW.trod enc P w base spare held fuel t cs = some x → ∃ a, RepL (snap w) (c a) cs
structure OpensF (P : Program) (w : World) (tot : Nat) (fs : List Field) (o : Nat) {α : Type} (c : α → List DV) : Prop where
  op : ∀ {H : Type} (enc : TypeId × Value → H) (base : Nat) (spare : Nat → Bool) (held : Bool) (fuel : Nat) (cs : List Value), cs.length = tot →
    (∀ f ∈ fs, ∃ y, DataW.trod enc P w base spare held fuel f.type ((cs.drop f.offset).take (P.cellsOf f.type)) = some y) → ∃ a, RepL (snap w) (c a) (cs.drop o)
section
variable {P : Program} {w : World} {t : TypeId}
theorem RepL.one {m : Mem} {d : DV} {v : Value} (h : Rep m d v) : RepL m [d] [v] := RepL.cons h (RepL.nil m)
theorem Opens.int {k : IntKind} (ht : P.underlying t = some (.int k)) : Opens P w t (fun z : Int => [.int k z]) := by
  constructor
  intro _ enc base sp held fuel cs x h
  obtain ⟨n, rfl, _, _⟩ := DataW.trod_int ht h
  exact ⟨n, RepL.one (by simp only [Rep])⟩
theorem Opens.bool (ht : P.underlying t = some .bool) : Opens P w t (fun z : Bool => [.bool z]) := by
  constructor
  intro _ enc base sp held fuel cs x h
  obtain ⟨n, rfl, _⟩ := DataW.trod_bool ht h
  exact ⟨n, RepL.one (by simp only [Rep])⟩
theorem Opens.str (ht : P.underlying t = some .string) : Opens P w t (fun z : ByteArray => [.str z]) := by
  constructor
  intro _ enc base sp held fuel cs x h
  obtain ⟨n, rfl, _⟩ := DataW.trod_string ht h
  exact ⟨n, RepL.one (by simp only [Rep])⟩
theorem Opens.map {α β : Type} {c : α → List DV} {c' : β → List DV} (h : Opens P w t c) (f : α → β) (e : ∀ a, c' (f a) = c a) : Opens P w t c' := by
  constructor
  intro _ enc base sp held fuel cs x hx
  obtain ⟨a, ha⟩ := h.op enc base sp held fuel cs x hx
  exact ⟨f a, by rw [e]; exact ha⟩
theorem OpensF.nil {tot : Nat} : OpensF P w tot [] tot (fun _ : Unit => []) := by
  constructor
  intro _ enc base sp held fuel cs hl h
  exact ⟨(), by rw [List.drop_eq_nil_of_le (by omega)]; exact RepL.nil _⟩
theorem OpensF.cons {α β : Type} {c0 : α → List DV} {c1 : β → List DV} {tot o k : Nat} {f : Field} {fs : List Field} (h0 : Opens P w f.type c0) (ho : f.offset = o) (hk : P.cellsOf f.type = k) (h1 : OpensF P w tot fs (o + k) c1) :
    OpensF P w tot (f :: fs) o (fun p : α × β => c0 p.1 ++ c1 p.2) := by
  constructor
  intro _ enc base sp held fuel cs hl h
  obtain ⟨y, hy⟩ := h f (by simp)
  obtain ⟨a, ha⟩ := h0.op enc base sp held fuel _ _ hy
  obtain ⟨b, hb⟩ := h1.op enc base sp held fuel cs hl fun g hg => h g (by simp [hg])
  rw [ho, hk] at ha
  refine ⟨(a, b), ?_⟩
  have e : cs.drop o = (cs.drop o).take k ++ cs.drop (o + k) := by rw [← List.drop_drop, List.take_append_drop]
  rw [e]
  exact ha.append hb
theorem Opens.struct {α : Type} {c : α → List DV} {fs : Array Field} {tot : Nat} (ht : P.underlying t = some (.struct fs)) (hc : P.cellsOf t = tot) (h : OpensF P w tot fs.toList 0 c) : Opens P w t c := by
  constructor
  intro _ enc base sp held fuel cs x hx
  obtain ⟨xs, n, _, _, hl, hlen, hf⟩ := DataW.trod_struct ht hx
  have := h.op enc base sp held n cs (hl.trans hc) fun f hf' => by
    obtain ⟨i, hi, e⟩ := List.getElem_of_mem hf'
    have hi' : i < xs.length := by rw [hlen]; simpa using hi
    refine ⟨xs[i], ?_⟩
    rw [hf i f (by rw [← Array.getElem?_toList, List.getElem?_eq_getElem hi, e]), List.getElem?_eq_getElem hi']
  simpa using this
theorem snap_cell {a : Addr} {v : Value} (h : w.cell? a = some v) : ∃ b o ty N full, a = ⟨b, o, none⟩ ∧ snap w b = some (.cells ty N true full) ∧ full[o]? = some v := by
  obtain ⟨b, o, sp⟩ := a
  have hs := World.cell?_spot h
  simp only at hs; subst hs
  unfold World.cell? at h
  split at h
  · rename_i c ty fz hb
    simp only [Option.isSome_none, Bool.false_eq_true, if_false] at h
    refine ⟨b, o, ty, c.size, c.toList, rfl, ?_, by simpa using h⟩
    simp only at hb
    simp only [snap, hb]
  · cases h
theorem rep_cells {α : Type} {c : α → List DV} {n : Nat} {base b o : Nat} {ty : TypeId} {N : Nat} {full : List Value} (hm : snap w b = some (.cells ty N true full)) :
    ∀ (l : List α) (k : Nat), (∀ i (hi : i < l.length), ∃ cs', w.cells? base ((⟨b, o, none⟩ : Addr).add ((k + i) * n)) n = some cs' ∧ RepL (snap w) (c l[i]) cs') → RepP (snap w) (l.flatMap c) (full.drop (o + k * n))
  | [], k, h => by simp [RepP]
  | x :: l, k, h => by
    obtain ⟨cs', h1, h2⟩ := h 0 (by simp)
    obtain ⟨_, hlen, hcell⟩ := World.cells?_some h1
    have ih := rep_cells (base := base) hm l (k + 1) fun i hi => by
      have := h (i + 1) (by simpa using hi)
      simpa [Nat.add_assoc, Nat.add_comm 1 i] using this
    have e : cs' = (full.drop (o + k * n)).take n := by
      apply List.ext_getElem?
      intro i
      by_cases hi : i < n
      · rw [List.getElem?_take_of_lt hi, List.getElem?_drop, ← hcell i hi]
        simp only [Nat.add_zero, add_plain]
        unfold World.cell?
        unfold snap at hm
        split at hm
        · rename_i c' ty' fz hb
          cases hm
          simp only [hb]
          simp [Nat.add_assoc]
        · cases hm
      · rw [List.getElem?_eq_none (by omega), List.getElem?_eq_none (by simp; omega)]
    have e2 : full.drop (o + k * n) = cs' ++ full.drop (o + (k + 1) * n) := by
      rw [e, show o + (k + 1) * n = o + k * n + n by rw [Nat.add_mul]; omega, ← List.drop_drop (i := n), List.take_append_drop]
    rw [List.flatMap_cons, e2]
    exact h2.1.append h2.2 ih
theorem Opens.slice {α : Type} {c : α → List DV} {e : TypeId} {n : Nat} (h : Opens P w e c) (ht : P.underlying t = some (.slice e)) (hn : P.cellsOf e = n) (hpos : 0 < n) : Opens P w t (fun l : List α => [slD c l]) := by
  constructor
  intro _ enc base sp held fuel cs x hx
  rcases open_slice ht hx with ⟨rfl, _⟩ | ⟨a, len, cap, m, k, D, Pl, rfl, _, hl, _, hm, _, hel⟩
  · refine ⟨[], RepL.one ?_⟩
    simp only [slD, Rep, List.flatMap_nil, List.length_nil]
    exact ⟨none, 0, rfl, Nat.le_refl _, fun h => absurd h (by omega)⟩
  · have hlm : len ≤ m := by rw [hm]; split <;> omega
    have each : ∀ i, i < len → ∃ y : α, ∃ cs', w.cells? base (a.add (i * n)) n = some cs' ∧ RepL (snap w) (c y) cs' := fun i hi => by
      obtain ⟨cs', h1, h2⟩ := hel i (by omega)
      obtain ⟨y, hy⟩ := h.op enc base sp held k cs' _ h2
      rw [hn] at h1
      exact ⟨y, cs', h1, hy⟩
    have : ∃ l : List α, l.length = len ∧ ∀ i (hi : i < l.length), ∃ cs', w.cells? base (a.add (i * n)) n = some cs' ∧ RepL (snap w) (c l[i]) cs' := by
      clear hel hl hlm hm hx
      rename_i hxx
      clear hxx
      induction len with
      | zero => exact ⟨[], rfl, fun i hi => absurd hi (by simp)⟩
      | succ len ih =>
        obtain ⟨l, h1, h2⟩ := ih fun i hi => each i (by omega)
        obtain ⟨y, hy⟩ := each len (by omega)
        refine ⟨l ++ [y], by simp [h1], fun i hi => ?_⟩
        by_cases h' : i < l.length
        · simpa [List.getElem_append_left h'] using h2 i h'
        · have : i = len := by simp at hi; omega
          subst this
          simpa [h1] using hy
    obtain ⟨l, rfl, hlc⟩ := this
    refine ⟨l, RepL.one ?_⟩
    simp only [slD, Rep]
    refine ⟨some a, cap, rfl, hl, fun h0 => ?_⟩
    obtain ⟨cs', h1, h2⟩ := hlc 0 h0
    obtain ⟨_, hlen, hcell⟩ := World.cells?_some h1
    have h3 := hcell 0 hpos
    have h4 : 0 < cs'.length := by omega
    rw [List.getElem?_eq_getElem h4] at h3
    simp only [Nat.zero_mul] at h3
    obtain ⟨b, o, ty, N, full, e1, e2, _⟩ := snap_cell h3
    have ea : a = ⟨b, o, none⟩ := by simpa [Addr.add] using e1
    subst ea
    refine ⟨b, o, ty, N, full, rfl, e2, ?_⟩
    have := rep_cells (base := base) (n := n) e2 l 0 (by simpa using hlc)
    simpa using this
/-- One value of a flat list of one cell. -/
theorem Opens.val {α : Type} {d : α → DV} (h : Opens P w t (fun a => [d a])) {v : Value} (hc : v.cells = #[v]) {H : Type} {enc : TypeId × Value → H} {base : Nat} {sp : Nat → Bool} {held : Bool} {x : DataW H} {p : List MemPlace}
    (hx : DataW.Trod enc P w base sp held t v x p) : ∃ a, Rep (snap w) (d a) v := by
  obtain ⟨fuel, hf⟩ := hx
  obtain ⟨a, ha⟩ := h.op enc base sp held fuel _ _ hf
  rw [hc] at ha
  have h1 := ha.1
  simp only [RepP] at h1
  exact ⟨a, h1.1⟩
end
end Go.Proofs.YtpehdlobicocpaaDoor.Mw
/- Arguments opened, with what their sizes are. No condition. -/
namespace Go.Proofs.YtpehdlobicocpaaDoor.Mw
open Go Go.RowKit Go.ChangeShapes Go.WideShapes Go.ChangeAt Go.Deep
set_option linter.unusedVariables false
/-- Data of this type, of no more than what a machine bears, stands as one of these. -/
structure OpensS (P : Program) (w : World) (t : TypeId) {α : Type} (c : α → List DV) (S : α → Prop) : Prop where
  op : ∀ {H : Type} (enc : TypeId × Value → H) (base : Nat) (spare : Nat → Bool) (held : Bool) (fuel : Nat) (cs : List Value) (x : DataW H × List MemPlace),
    DataW.trod enc P w base spare held fuel t cs = some x → (∀ n ∈ x.1.weights P t, n ≤ reachBytes) → ∃ a, RepL (snap w) (c a) cs ∧ S a
structure OpensT (P : Program) (w : World) (tot : Nat) (fs : List Field) (o : Nat) {α : Type} (c : α → List DV) (S : α → Prop) : Prop where
  op : ∀ {H : Type} (enc : TypeId × Value → H) (base : Nat) (spare : Nat → Bool) (held : Bool) (fuel : Nat) (cs : List Value), cs.length = tot →
    (∀ f ∈ fs, ∃ y, DataW.trod enc P w base spare held fuel f.type ((cs.drop f.offset).take (P.cellsOf f.type)) = some y ∧ ∀ n ∈ y.1.weights P f.type, n ≤ reachBytes) → ∃ a, RepL (snap w) (c a) (cs.drop o) ∧ S a
section
variable {P : Program} {w : World} {t : TypeId}
def I64 (z : Int) : Prop := -9223372036854775808 ≤ z ∧ z ≤ 9223372036854775807
theorem OpensS.int (ht : P.underlying t = some (.int .i64)) : OpensS P w t (fun z : Int => [.int .i64 z]) I64 := by
  constructor
  intro _ enc base sp held fuel cs x h _
  obtain ⟨n, rfl, _, hw⟩ := DataW.trod_int ht h
  refine ⟨n, RepL.one (by simp only [Rep]), ?_⟩
  simp only [Lit.wf, Bool.and_eq_true, decide_eq_true_eq] at hw
  exact hw
theorem OpensS.bool (ht : P.underlying t = some .bool) : OpensS P w t (fun z : Bool => [.bool z]) (fun _ => True) := by
  constructor
  intro _ enc base sp held fuel cs x h _
  obtain ⟨n, rfl, _⟩ := DataW.trod_bool ht h
  exact ⟨n, RepL.one (by simp only [Rep]), trivial⟩
theorem OpensS.str (ht : P.underlying t = some .string) : OpensS P w t (fun z : ByteArray => [.str z]) (fun s => s.size ≤ reachBytes) := by
  constructor
  intro _ enc base sp held fuel cs x h hs
  obtain ⟨n, rfl, rfl, _⟩ := DataW.trod_string ht h
  refine ⟨n, RepL.one (by simp only [Rep]), ?_⟩
  have := hs n.data.toList.length (by simp [DataW.weights])
  simpa using this
theorem OpensS.map {α β : Type} {c : α → List DV} {c' : β → List DV} {S : α → Prop} {S' : β → Prop} (h : OpensS P w t c S) (f : α → β) (e : ∀ a, c' (f a) = c a) (hS : ∀ a, S a → S' (f a)) : OpensS P w t c' S' := by
  constructor
  intro _ enc base sp held fuel cs x hx hs
  obtain ⟨a, ha, h1⟩ := h.op enc base sp held fuel cs x hx hs
  exact ⟨f a, by rw [e]; exact ha, hS a h1⟩
theorem OpensT.nil {tot : Nat} : OpensT P w tot [] tot (fun _ : Unit => []) (fun _ => True) := by
  constructor
  intro _ enc base sp held fuel cs hl h
  exact ⟨(), by rw [List.drop_eq_nil_of_le (by omega)]; exact RepL.nil _, trivial⟩
theorem OpensT.cons {α β : Type} {c0 : α → List DV} {c1 : β → List DV} {S0 : α → Prop} {S1 : β → Prop} {tot o k : Nat} {f : Field} {fs : List Field} (h0 : OpensS P w f.type c0 S0) (ho : f.offset = o) (hk : P.cellsOf f.type = k) (h1 : OpensT P w tot fs (o + k) c1 S1) :
    OpensT P w tot (f :: fs) o (fun p : α × β => c0 p.1 ++ c1 p.2) (fun p => S0 p.1 ∧ S1 p.2) := by
  constructor
  intro _ enc base sp held fuel cs hl h
  obtain ⟨y, hy, hyw⟩ := h f (by simp)
  obtain ⟨a, ha, sa⟩ := h0.op enc base sp held fuel _ _ hy hyw
  obtain ⟨b, hb, sb⟩ := h1.op enc base sp held fuel cs hl fun g hg => h g (by simp [hg])
  rw [ho, hk] at ha
  refine ⟨(a, b), ?_, sa, sb⟩
  have e : cs.drop o = (cs.drop o).take k ++ cs.drop (o + k) := by rw [← List.drop_drop, List.take_append_drop]
  rw [e]
  exact ha.append hb
theorem OpensS.struct {α : Type} {c : α → List DV} {S : α → Prop} {fs : Array Field} {tot : Nat} (ht : P.underlying t = some (.struct fs)) (hc : P.cellsOf t = tot) (h : OpensT P w tot fs.toList 0 c S) : OpensS P w t c S := by
  constructor
  intro _ enc base sp held fuel cs x hx hs
  obtain ⟨xs, n, _, rfl, hl, hlen, hf⟩ := DataW.trod_struct ht hx
  have := h.op enc base sp held n cs (hl.trans hc) fun f hf' => by
    obtain ⟨i, hi, e⟩ := List.getElem_of_mem hf'
    have hi' : i < xs.length := by rw [hlen]; simpa using hi
    have hfi : fs[i]? = some f := by rw [← Array.getElem?_toList, List.getElem?_eq_getElem hi, e]
    refine ⟨xs[i], ?_, fun m hm => hs m ?_⟩
    · rw [hf i f hfi, List.getElem?_eq_getElem hi']
    · simp only [DataW.weights, ht]
      exact DataW.weights_mem_each (j := i) (t := f.type) (d := xs[i].1) (by rw [List.getElem?_map, Array.getElem?_toList, hfi]; rfl) (by simp [hi']) m hm
  simpa using this
theorem weights_all {H : Type} {e : TypeId} {n : Nat} : ∀ {ds : List (DataW H)} {d : DataW H}, d ∈ ds → n ∈ d.weights P e → n ∈ DataW.weightsAll P e ds
  | x :: ds, d, hd, hn => by
    simp only [DataW.weightsAll, List.mem_append]
    rcases List.mem_cons.1 hd with rfl | hd
    · exact .inl hn
    · exact .inr (weights_all hd hn)
theorem OpensS.slice {α : Type} {c : α → List DV} {S : α → Prop} {e : TypeId} {n bytes : Nat} (h : OpensS P w e c S) (ht : P.underlying t = some (.slice e)) (hn : P.cellsOf e = n) (hpos : 0 < n) (hb : P.bytesOf e = bytes) :
    OpensS P w t (fun l : List α => [slD c l]) (fun l => l.length * bytes ≤ reachBytes ∧ ∀ x ∈ l, S x) := by
  constructor
  intro _ enc base sp held fuel cs x hx hs
  rcases open_slice ht hx with ⟨rfl, _⟩ | ⟨a, len, cap, m, k, D, Pl, rfl, _, hl, _, hm, rfl, hel⟩
  · refine ⟨[], RepL.one ?_, by simp, fun _ h => by simp at h⟩
    simp only [slD, Rep, List.flatMap_nil, List.length_nil]
    exact ⟨none, 0, rfl, Nat.le_refl _, fun h => absurd h (by omega)⟩
  · have hlm : len ≤ m := by rw [hm]; split <;> omega
    simp only [DataW.weights, ht, List.mem_cons, List.mem_append] at hs
    have hsz : len * bytes ≤ reachBytes := by
      have := hs _ (.inl rfl)
      simp only [List.length_map, List.length_range, hb] at this
      exact Nat.le_trans (Nat.mul_le_mul_right _ (Nat.le_add_right _ _)) this
    have each : ∀ i, i < len → ∃ y : α, (∃ cs', w.cells? base (a.add (i * n)) n = some cs' ∧ RepL (snap w) (c y) cs') ∧ S y := fun i hi => by
      obtain ⟨cs', h1, h2⟩ := hel i (by omega)
      obtain ⟨y, hy, sy⟩ := h.op enc base sp held k cs' _ h2 fun q hq => hs q (.inr (.inl (weights_all (d := D i) (by simp; exact ⟨i, hi, rfl⟩) hq)))
      rw [hn] at h1
      exact ⟨y, ⟨cs', h1, hy⟩, sy⟩
    have : ∃ l : List α, l.length = len ∧ (∀ i (hi : i < l.length), ∃ cs', w.cells? base (a.add (i * n)) n = some cs' ∧ RepL (snap w) (c l[i]) cs') ∧ ∀ x ∈ l, S x := by
      clear hel hl hlm hm hx hs hsz
      induction len with
      | zero => exact ⟨[], rfl, fun i hi => absurd hi (by simp), fun _ h => by simp at h⟩
      | succ len ih =>
        obtain ⟨l, h1, h2, h3⟩ := ih fun i hi => each i (by omega)
        obtain ⟨y, hy, sy⟩ := each len (by omega)
        refine ⟨l ++ [y], by simp [h1], fun i hi => ?_, fun x hx => ?_⟩
        · by_cases h' : i < l.length
          · simpa [List.getElem_append_left h'] using h2 i h'
          · have : i = len := by simp at hi; omega
            subst this
            simpa [h1] using hy
        · rcases List.mem_append.1 hx with hx | hx
          · exact h3 x hx
          · simp at hx; subst hx; exact sy
    obtain ⟨l, rfl, hlc, hS⟩ := this
    refine ⟨l, RepL.one ?_, hsz, hS⟩
    simp only [slD, Rep]
    refine ⟨some a, cap, rfl, hl, fun h0 => ?_⟩
    obtain ⟨cs', h1, h2⟩ := hlc 0 h0
    obtain ⟨_, hlen, hcell⟩ := World.cells?_some h1
    have h3 := hcell 0 hpos
    have h4 : 0 < cs'.length := by omega
    rw [List.getElem?_eq_getElem h4] at h3
    simp only [Nat.zero_mul] at h3
    obtain ⟨b, o, ty, N, full, e1, e2, _⟩ := snap_cell h3
    have ea : a = ⟨b, o, none⟩ := by simpa [Addr.add] using e1
    subst ea
    refine ⟨b, o, ty, N, full, rfl, e2, ?_⟩
    have := rep_cells (base := base) (n := n) e2 l 0 (by simpa using hlc)
    simpa using this
/-- One value of one cell. -/
theorem OpensS.val {α : Type} {d : α → DV} {S : α → Prop} (h : OpensS P w t (fun a => [d a]) S) {v : Value} (hc : v.cells = #[v]) {H : Type} {enc : TypeId × Value → H} {base : Nat} {sp : Nat → Bool} {held : Bool} {x : DataW H} {p : List MemPlace}
    (hx : DataW.Trod enc P w base sp held t v x p) (hs : ∀ n ∈ x.weights P t, n ≤ reachBytes) : ∃ a, Rep (snap w) (d a) v ∧ S a := by
  obtain ⟨fuel, hf⟩ := hx
  obtain ⟨a, ha, sa⟩ := h.op enc base sp held fuel _ _ hf hs
  rw [hc] at ha
  have h1 := ha.1
  simp only [RepP] at h1
  exact ⟨a, h1.1, sa⟩
/-- A struct. -/
theorem OpensS.agg {α : Type} {c : α → List DV} {S : α → Prop} (h : OpensS P w t c S) {cs : Array Value} {H : Type} {enc : TypeId × Value → H} {base : Nat} {sp : Nat → Bool} {held : Bool} {x : DataW H} {p : List MemPlace}
    (hx : DataW.Trod enc P w base sp held t (.agg cs) x p) (hs : ∀ n ∈ x.weights P t, n ≤ reachBytes) : ∃ a, Rep (snap w) (.agg (c a)) (.agg cs) ∧ S a := by
  obtain ⟨fuel, hf⟩ := hx
  obtain ⟨a, ha, sa⟩ := h.op enc base sp held fuel _ _ hf hs
  refine ⟨a, ?_, sa⟩
  simp only [Rep]
  exact ⟨cs.toList, by simp, ha.1, ha.2⟩
theorem sized_mem {H : Type} {ts : List TypeId} {ds : List (DataW H)} (h : (DataW.weightsEach P ts ds).all (· ≤ reachBytes) = true) {j : Nat} {d : DataW H} (ht : ts[j]? = some t) (hd : ds[j]? = some d) : ∀ n ∈ d.weights P t, n ≤ reachBytes := fun n hn => by
  have := List.all_eq_true.1 h n (DataW.weights_mem_each ht hd n hn)
  simpa using this
end
end Go.Proofs.YtpehdlobicocpaaDoor.Mw
/- Rows and cards: where straight rows begin. No condition. -/
namespace Go.Proofs.YtpehdlobicocpaaDoor
open Go Go.RowKit Go.Proofs.YtpehdlobicocpaaDoor.Mw Go.Proofs.YtpehdlobicocpaaDoor.Pf Go.ChangeShapes Go.WideShapes Go.ChangeAt
set_option linter.unusedVariables false
theorem own : ownKnob Tryd.prog.godebug = none := by kernel_rfl
theorem laid : laidOutB Tryd.prog = true := by kernel_rfl
theorem et : Tryd.prog.globalNamed "errors.errorType" = some 0 := by kernel_rfl
theorem rt : (Tryd.prog.cutTypes.find? (·.1 == "internal/reflectlite.rtype")).map (·.2) = some 189 := by kernel_rfl
theorem oneRow : ((List.range 231).filter fun t => Tryd.prog.rowNamed t [101, 114, 114, 111, 114]) = [126] := by kernel_rfl
theorem sizeT : Tryd.prog.types.size = 231 := by kernel_rfl
abbrev told : List (String × DataW Unit) := [("errors.errorType", Rows.laid_errors_errorType)]
theorem glob_told {W : World} (h : laidMetH Tryd.prog told W) : Glob (snap W) := by
  have h' : laidMet Tryd.prog [] W ∧ handlesMet Tryd.prog told W := h
  obtain ⟨name, u, ty, e1, e2, e3, e4, e5⟩ := h'.2 _ (List.mem_singleton.2 rfl)
  have en : name = [101, 114, 114, 111, 114] := (Option.some.inj e1).symm
  subst en
  obtain rfl := Option.some.inj (rt.symm.trans e2)
  have hm : ty ∈ (List.range 231).filter fun t => Tryd.prog.rowNamed t [101, 114, 114, 111, 114] := List.mem_filter.2 ⟨List.mem_range.2 (by rw [← sizeT]; exact e3), e4⟩
  rw [oneRow] at hm
  obtain rfl := List.mem_singleton.1 hm
  have hh : typeHandle Tryd.prog 126 = .pointer (some ⟨1, 126, none⟩) := by kernel_rfl
  rw [hh] at e5
  intro b v hb
  have hb0 : b = 0 ∧ v = .iface 189 (.agg #[.pointer (some ⟨1, 126, none⟩)]) := by
    unfold globs at hb
    simp only [List.lookup] at hb
    split at hb
    · rename_i hx
      exact ⟨by simpa using hx, (Option.some.inj hb).symm⟩
    · cases hb
  obtain ⟨rfl, rfl⟩ := hb0
  unfold World.var? at e5
  rw [et] at e5
  simp only [Option.bind_some] at e5
  split at e5
  · rename_i c t z hc
    cases e5
    exact ⟨t, by unfold snap; rw [hc] <;> rfl⟩
  · cases e5
noncomputable def toldWorld (os : Os) : World :=
  let w0 := World.holding Tryd.prog os ⟨#[], #[], []⟩
  { w0 with heap := w0.heap.modify 0 fun
      | .cells _ t frozen => .cells #[.iface 189 (.agg #[.pointer (some ⟨1, 126, none⟩)])] t frozen
      | o => o }
theorem toldWorld_met (os : Os) (args : Array Value) : laidMetH Tryd.prog told ((toldWorld os).forCall (fun _ _ => 0) ⟨#[], args, []⟩).memory :=
  laidMetH_of_parts (laidMet_nil _ _) (by kernel_rfl)
theorem cI : Tryd.prog.cellsOf 3 = 1 := by kernel_rfl
theorem opI (w : World) : OpensS Tryd.prog w 3 (fun z : Int => [.int .i64 z]) I64 := OpensS.int Tryd.underlying3
theorem slD_ints (l : List Int) : slD (fun z : Int => [.int .i64 z]) l = slI l := by simp [slD, slI, ← List.map_eq_flatMap]
set_option maxRecDepth 100000 in
theorem opInts (w : World) : OpensS Tryd.prog w 26 (fun l : List Int => [slI l]) (fun l => l.length * 8 ≤ reachBytes ∧ ∀ x ∈ l, I64 x) :=
  (OpensS.slice (opI w) Tryd.underlying26 cI (by decide) (by kernel_rfl)).map id (fun l => by simp only [id, slD_ints]) (fun _ h => h)
namespace irLeads
set_option maxRecDepth 100000 in
theorem lifted (os : Os) (started : os.Started) (H : Type) (enc : TypeId × Value → H) :
    ReturnsInHanded {} Tryd.checked os 6 .any (fun w args => (Rows.irLeadsSpec.pre enc Tryd.prog Tryd.f6 [] false w args ∧ laidMetH Tryd.prog told w) ∧ sizedMet enc Tryd.prog Tryd.f6 (OpenSpec.ofChange Rows.irLeadsSpec) false w args)
      (Rows.irLeadsSpec.post enc Tryd.prog Tryd.f6 false true false false) := by
  refine law_row_laid (C := Tryd.checked) told own started (by kernel_rfl) Tryd.func6 rfl (fun ds h => ?_) rfl Tryd.underlying4 laid (of_decide_eq_true (by kernel_rfl))
    (ChangeSpec.witness_at (enc := enc) (C := Tryd.checked) (os := os) (X := fun w _ => laidMetH Tryd.prog told w) false (toldWorld os) #[.slice none 0 0] 8 rfl (by kernel_rfl) (by kernel_rfl) (by kernel_rfl) (by kernel_rfl) (by kernel_rfl) (toldWorld_met os _)) (fun W base args ds p hA hval hsz hL => ?_)
  · match ds, h with
    | [_], _ => rfl
  · rw [show Tryd.f6.params.toList = [26] from rfl] at hA hsz
    obtain ⟨v0, vs0, d0, ds0, p0, q0, rfl, rfl, rfl, h0, r0⟩ := trodAll_cons hA
    obtain ⟨rfl, rfl, rfl⟩ := trodAll_nil r0
    obtain ⟨x0, y0, z0, rfl⟩ := okWide_slice Tryd.underlying26 (hval 0 26 v0 rfl rfl)
    obtain ⟨a0, g0, s0⟩ := OpensS.val (opInts W) rfl h0 (sized_mem (t := 26) (j := 0) hsz rfl rfl)
    exact law_mc (IrLeads_pc a0) (glob_told hL) (RepL.cons g0 (RepL.nil _))
theorem over : Rows.irLeadsRow.holds Tryd.pinned (OpenSpec.ofChange Rows.irLeadsSpec) :=
  OpenClaim.holds_of_wide 6 Tryd.f6 rfl rfl rfl rfl rfl rfl rfl ⟨rfl, rfl, rfl, rfl, rfl⟩ rfl rfl rfl rfl rfl (by kernel_rfl) Tryd.func6 (by kernel_rfl)
    (of_decide_eq_true (by kernel_rfl)) (by unfold Func.isWrapper; first | (rw [if_pos (by decide +kernel)]; kernel_rfl) | (rw [if_neg (by decide +kernel)]; exact ⟨rfl, rfl⟩))
    (fun os started H enc _ => lifted os started H enc)
end irLeads
theorem irLeads_card : Rows.IrLeadsCardSaid :=
  Claim7.holds_tied_plain_at .later [] [.handle] true _ true
    irLeads.over (fun _ h => by cases h) (by kernel_rfl) (fun _ h => by cases h) irLeads_row_tie rfl ⟨rfl, rfl⟩ (by kernel_rfl) rfl
    (fun f fn hf hfn => by
      obtain rfl : f = 6 := Option.some.inj ((show Tryd.prog.funcNamed "swage/swagelaw10.IrLeads" = some 6 by kernel_rfl).symm.trans hf) |>.symm
      obtain rfl : fn = Tryd.f6 := (Option.some.inj (Tryd.func6.symm.trans hfn)).symm
      have hall : (Tryd.f6.params.toList.all fun t => !Tryd.prog.wantsStandIn t) = true := by kernel_rfl
      refine ⟨by kernel_rfl, fun j t ht => ?_⟩
      have hm : t ∈ Tryd.f6.params.toList := List.mem_of_getElem? (i := j) (by rw [Array.getElem?_toList]; exact ht)
      exact (show Tryd.prog.wantsStandIn t = false by simpa using List.all_eq_true.1 hall t hm))
    (by kernel_rfl)
end Go.Proofs.YtpehdlobicocpaaDoor
