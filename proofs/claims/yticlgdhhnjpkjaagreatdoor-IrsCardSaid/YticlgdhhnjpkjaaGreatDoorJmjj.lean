/- Zi Xa Xb: joined texts of this claim. No condition. -/
import Derived.Test.YticlgdhhnjpkjaaGreatDoorJmjh
import Derived.Test.YticlgdhhnjpkjaaGreatDoorJmji
namespace Go.Proofs.YticlgdhhnjpkjaaGreatDoor.Pf
open Go Go.RowKit Go.Proofs Go.Proofs.YticlgdhhnjpkjaaGreatDoor.Mw Go.Proofs.YticlgdhhnjpkjaaGreatDoor.Sx
set_option linter.unusedVariables false
set_option linter.unusedSimpArgs false
set_option maxRecDepth 8000
theorem CopyCode_fz {M : DMem} {d0 : DV} (c : Cod) (hz : SzC c) (hsrc : ∀ m ∈ c.metas, m.length * 64 ≤ 140737488351232 ∧ ∀ x ∈ m, x.locals.length * 16 ≤ 140737488351232 ∧ x.stack.length * 16 ≤ 140737488351232) (hf : fz M 4 d0 = .agg c.c) {R : DV → DMem → Prop}
    (hR : ∀ dc dm M' Sc Sm, SlAt irE M' dc c.code Sc → SlAt metaE M' dm c.metas Sm → (Sc ++ Sm).Nodup → (∀ y ∈ Sc ++ Sm, M y = none) → SubD M M' → R (.agg [.int .i64 c.fn, .int .i64 c.regs, dc, dm]) M') : PC Tryz.prog F_swagelaw0_CopyCode [d0] R M := by
  have h1 : PC Tryz.prog F_swagelaw0_CopyCode [.agg c.c] (fun d M2 => Thaw d M2 ∧ ∃ dc dm Sc Sm, d = .agg [.int .i64 c.fn, .int .i64 c.regs, dc, dm] ∧ SlAt irE M2 dc c.code Sc ∧ SlAt metaE M2 dm c.metas Sm ∧ (Sc ++ Sm).Nodup) DMem.mt := by
    refine PC.drop (R := fun d M' => ∃ dc dm Sc Sm, d = .agg [.int .i64 c.fn, .int .i64 c.regs, dc, dm] ∧ SlAt irE M' dc c.code Sc ∧ SlAt metaE M' dm c.metas Sm ∧ (Sc ++ Sm).Nodup) (CopyCode_pc c hz hsrc fun dc dm M' Sc Sm g1 g2 g3 _ _ => ⟨dc, dm, Sc, Sm, rfl, g1, g2, g3⟩) ?_
    rintro d M' ⟨dc, dm, Sc, Sm, rfl, g1, g2, g3⟩
    obtain ⟨t1, t2⟩ := irE_th.sl g1
    obtain ⟨t3, t4⟩ := metaE_th.sl g2
    refine ⟨DMem.only M' (Sc ++ Sm), DMem.only_sub _ _, ⟨by simp only [thawed, thawedL, t1, t3] <;> rfl, fun b B hb => ?_⟩, dc, dm, Sc, Sm, rfl, SlAt.only irE_ok g1 (fun b hb => by simp [hb]), SlAt.only metaE_ok g2 (fun b hb => by simp [hb]), g3⟩
    unfold DMem.only at hb
    split at hb
    · rename_i hm
      rcases List.mem_append.1 hm with hm | hm
      · exact t2 b hm B hb
      · exact t4 b hm B hb
    · cases hb
  refine PC.seal (R := fun d M2 => Thaw d M2 ∧ ∃ dc dm Sc Sm, d = .agg [.int .i64 c.fn, .int .i64 c.regs, dc, dm] ∧ SlAt irE M2 dc c.code Sc ∧ SlAt metaE M2 dm c.metas Sm ∧ (Sc ++ Sm).Nodup) (by simp only [List.map_cons, List.map_nil, hf]; exact h1) (fun d M2 h => h.1) ?_
  rintro d M2 ⟨_, dc, dm, Sc, Sm, rfl, g1, g2, g3⟩ hd
  obtain ⟨a1, a2⟩ := g1.or irE_ok hd
  obtain ⟨b1, b2⟩ := g2.or metaE_ok hd
  exact hR dc dm _ Sc Sm a1 b1 g3 (fun y hy => by
    rcases List.mem_append.1 hy with hy | hy
    · exact a2 y hy
    · exact b2 y hy) (SubD.or_left _ _)
def twoQ : List Fnc := [⟨1, 1, [⟨1, 0⟩, ⟨0, 2⟩, ⟨14, 1⟩, ⟨10, 0⟩, ⟨15, 0⟩, ⟨16, 0⟩]⟩, ⟨2, 2, [⟨1, 0⟩, ⟨1, 1⟩, ⟨3, 0⟩, ⟨16, 0⟩]⟩]
theorem twoQ_pu : Pu Tryz.prog F_swagelaw10_two [] (.agg [slD Fnc.c twoQ]) := by
  refine Pu.of (pc_swagelaw10_two (by simp) ?_)
  simp only [S_swagelaw10_two, R_swagelaw10_two, MU_swagelaw10_two, MU_swagelaw10_two, SW, SV, wpD, evDL, evDM, evD, bldLD, wpSp, DMem.mt, beq_self_eq_true, seval]
  intro b M1 hM1
  refine stD (by rw [hM1, DMem.ins_same]) rfl rfl (by simp) (by simp) rfl fun M2 hM2 => ?_
  refine ⟨.agg [slD Fnc.c twoQ], ?_, ?_⟩
  · rw [hM2, DMem.ins_same] <;> rfl
  · exact fz_of (Froz.agg (FrozL.nil.cons (Froz.slD Fnc.froz twoQ))) _ _
def addC : List Irc := [⟨2, 2, 0, 0, 0, [], 1, 0, 0⟩, ⟨2, 3, 1, 0, 0, [], 1, 0, 1⟩, ⟨3, 2, 2, 3, 3, [], 1, 0, 2⟩, ⟨8, 0, 2, 0, 0, [], 1, 0, 3⟩]
def addX : List Irc := [⟨2, 2, 0, 0, 0, [], 1, 0, 0⟩, ⟨2, 3, 1, 0, 0, [], 1, 0, 1⟩, ⟨3, 2, 2, 3, 3, [], -1, 0, 2⟩, ⟨8, 0, 2, 0, 0, [], 1, 0, 3⟩]
theorem low_two1 : lowerR twoQ 1 = (⟨1, 10, addC, []⟩, 0) := by decide +kernel
theorem may_add : codeMayB twoQ ⟨1, 10, addC, []⟩ = true := by decide +kernel
theorem may_bad : codeMayB twoQ ⟨1, 10, addX, []⟩ = false := by decide +kernel
theorem may_none : codeMayB twoQ ⟨0, 0, [], []⟩ = false := by decide +kernel
def leadC : List Irc := [⟨5, 0, 0, 0, 2, [], 1, 0, 0⟩, ⟨0, 0, 0, 0, 0, [], 0, 0, 0⟩, ⟨8, 0, 0, 0, 0, [], 0, 0, 0⟩, ⟨8, 0, 0, 0, 0, [], 0, 0, 0⟩]
theorem lead_all : leadersF leadC = [true, true, true, true] := by decide +kernel
theorem awake10_pf : pf Tryz.prog F_swagelaw10_awake [] = some (.bool true) := by
  refine pf_of (v := .bool _) (pc_swagelaw10_awake (by simp) ?_) FrozL.nil rfl rfl
  simp only [S_swagelaw10_awake, R_swagelaw10_awake, MU_swagelaw10_awake, SW, SV, wpD, evDL, evDM, evD, bldLD, wpSp, DMem.mt, beq_self_eq_true, seval]
  refine Pu.pc twoQ_pu ?_
  simp only [S4_swagelaw10_awake, MU_swagelaw10_awake, ldnI1, SW, SV, wpD, evDL, evDM, evD, bldLD, wpSp, DMem.mt, beq_self_eq_true, seval]
  refine LowerR_pc twoQ 1 ?_
  rw [low_two1]
  intro dc dm M Sc Sm hc hm nd _ _
  simp only [S3_swagelaw10_awake, MU_swagelaw10_awake, hc.cell, hm.cell, hc.plain, hm.plain, SW, SV, wpD, evDL, evDM, evD, bldLD, wpSp, DMem.mt, beq_self_eq_true, seval]
  have hl4 : ∀ K : DMem, ∀ a b : DV, ldnD K 4 (.ip [.int .i64 1, .int .i64 10, a, b]) = some (.agg [.int .i64 1, .int .i64 10, a, b]) := fun K a b => rfl
  have hz1 : SzC ⟨1, 10, addC, []⟩ := ⟨by decide, by decide, by decide, by simp⟩
  have hf1 : fz M 4 (.agg [.int .i64 1, .int .i64 10, dc, dm]) = .agg (⟨1, 10, addC, []⟩ : Cod).c := by
    rw [fz_agg]
    simp only [List.map_cons, List.map_nil, fz_int]
    rw [hc.fz irG_ok (k := 3) (by decide), hm.fz metaG_ok (k := 3) (by decide)] <;> rfl
  simp only [hl4, SW, SV, wpD, evDL, evDM, evD, bldLD, wpSp, DMem.mt, beq_self_eq_true, seval]
  refine CopyCode_fz ⟨1, 10, addC, []⟩ hz1 (by simp) hf1 fun dc2 dm2 M2 Sc2 Sm2 hc2 hm2 nd2 new2 sub2 => ?_
  have hln : dc2 ≠ .zsl := by
    rcases hc2 with ⟨_, h, _⟩ | ⟨b, c, ty, cs, S', h, _⟩
    · cases h
    · rw [h]; simp
  obtain ⟨hn1, hn2, hn3⟩ := List.nodup_append.1 nd2
  have hle := hc2.lenD
  obtain ⟨b, cc, ty, c1, cx, c2, S1, Sx, S2, hd, hMb, hl1, hlx, ⟨da, hcx, hda⟩, hSe, hcl, _, hput⟩ := hc2.inner irE_ok hn1 (i := 2) (by decide)
  have hl1 : c1.length = 2 * 9 := hl1
  have hcl : 4 ≤ cc := hcl
  have hix : ixD 9 dc2 (.int .i64 2) = some (.mp b 18) := by rw [hd]; exact ixM (show (2 : Nat) < 4 by decide)
  have e4 : decide (¬(((addC.length : Nat) : Int) = 4)) = false := by decide
  simp only [S2_swagelaw10_awake, MU_swagelaw10_awake, hc2.cell, hm2.cell, hc2.plain, hm2.plain, hle, hix, e4, SW, SV, wpD, evDL, evDM, evD, bldLD, wpSp, DMem.mt, beq_self_eq_true, seval]
  refine stD hMb rfl rfl (by rw [List.length_append, List.length_append, hl1]; omega) (by show 18 + 6 + 1 ≤ cc * 9; omega) rfl fun M3 hM3 => ?_
  subst hcx
  rw [show (24 : Nat) = 2 * 9 + 6 from rfl, splD_field hl1 (by simp)] at hM3
  have hx3 : SlAt irE M3 dc2 addX Sc2 := hput M3 ⟨3, 2, 2, 3, 3, [], -1, 0, 2⟩ _ ⟨da, rfl, hda⟩ hM3
  have hbS : b ∈ Sc2 := by rw [hSe]; simp
  have n3 : ∀ y, y ≠ b → M3 y = M2 y := fun y hy => by rw [hM3, DMem.ins_ne _ _ hy]
  have hm3 : SlAt metaE M3 dm2 [] Sm2 := hm2.frame metaE_ok fun y hy => n3 y (by rintro rfl; exact hn3 y hbS y hy rfl)
  have hbn : ∀ y B, M y = some B → y ≠ b := fun y B hB => by rintro rfl; rw [new2 y (by simp [hbS])] at hB; cases hB
  have hcM : SlAt irG M3 dc addC Sc := hc.frame irG_ok fun y hy => by
    obtain ⟨B, hB⟩ := Option.ne_none_iff_exists'.1 (hc.here irG_ok y hy)
    rw [n3 y (hbn y B hB), hB, sub2 y B hB]
  have hmM : SlAt metaG M3 dm [] Sm := hm.frame metaG_ok fun y hy => by
    obtain ⟨B, hB⟩ := Option.ne_none_iff_exists'.1 (hm.here metaG_ok y hy)
    rw [n3 y (hbn y B hB), hB, sub2 y B hB]
  refine Pt.pc (d := slB (leadersF leadC)) (by simp only [fz_agg, fz_isl, fz_zsl, fz_int, List.map_cons, List.map_nil]; exact Leaders_pt ⟨0, 0, leadC, []⟩ (by decide)) ?_
  rw [lead_all]
  have hfa : fz M3 4 dc = slD Irc.c addC := hcM.fz irG_ok (k := 3) (by decide)
  have hfb : fz M3 4 dm = slD metaC [] := hmM.fz metaG_ok (k := 3) (by decide)
  have hfc : fz M3 4 dc2 = slD Irc.c addX := hx3.fz irE_ok (k := 3) (by decide)
  have hfd : fz M3 4 dm2 = slD metaC [] := hm3.fz metaE_ok (k := 3) (by decide)
  have m1 : pf Tryz.prog F_ir_May [.agg [slD Fnc.c twoQ], .agg [.int .i64 1, .int .i64 10, slD Irc.c addC, slD metaC []]] = some (.bool true) := (irMay_pf twoQ ⟨1, 10, addC, []⟩ hz1).trans (by rw [may_add])
  have m2 : pf Tryz.prog F_ir_May [.agg [slD Fnc.c twoQ], .agg [.int .i64 1, .int .i64 10, slD Irc.c addX, slD metaC []]] = some (.bool false) := (irMay_pf twoQ ⟨1, 10, addX, []⟩ ⟨by decide, by decide, by decide, by simp⟩).trans (by rw [may_bad])
  have m3 : pf Tryz.prog F_ir_May [.agg [slD Fnc.c twoQ], .agg [.int .i64 0, .int .i64 0, .isl 0 [], .isl 0 []]] = some (.bool false) := (irMay_pf twoQ ⟨0, 0, [], []⟩ ⟨by decide, by simp, by decide, by simp⟩).trans (by rw [may_none])
  have f2 : ∀ M k, fz M k (slD Fnc.c twoQ) = slD Fnc.c twoQ := fun M k => fz_prg M k twoQ
  have sb : pf Tryz.prog F_swagelaw0_SameBools [slB [true, true, true, true], .isl 4 [.bool true, .bool true, .bool true, .bool true]] = some (.bool true) := (SameBools_pf [true, true, true, true] [true, true, true, true] (by decide)).trans (by rw [decide_eq_true rfl])
  have sf : ∀ M k, fz M k (.isl 4 [.bool true, .bool true, .bool true, .bool true]) = .isl 4 [.bool true, .bool true, .bool true, .bool true] := fun M k => fz_slB M k [true, true, true, true]
  simp only [S1_swagelaw10_awake, MU_swagelaw10_awake, ldnI1, hl4, f2, fz_agg, fz_int, fz_zsl, hfa, hfb, hfc, hfd, m1, m2, m3, fz_slB, sf, sb, grdTT, List.map_cons, List.map_nil, SW, SV, wpD, evDL, evDM, evD, bldLD, wpSp, DMem.mt, beq_self_eq_true, seval]
end Go.Proofs.YticlgdhhnjpkjaaGreatDoor.Pf
namespace Go.Proofs.YticlgdhhnjpkjaaGreatDoor.Pf
open Go Go.RowKit Go.Proofs Go.Proofs.YticlgdhhnjpkjaaGreatDoor.Mw Go.Proofs.YticlgdhhnjpkjaaGreatDoor.Sx
set_option linter.unusedVariables false
set_option linter.unusedSimpArgs false
set_option maxRecDepth 8000
variable {α : Type}
def mixE (E : El α) : El (α × Bool) := ⟨E.sz, fun x => E.c x.1, E.k, fun M x cs S => if x.2 = true then E.rep M x.1 cs S else cs = E.c x.1 ∧ S = []⟩
theorem RowAt.raw {E : El α} {M : DMem} : ∀ (xs : List α), RowAt (mixE E) M (xs.map (·, false)) (xs.flatMap E.c) []
  | [] => ⟨rfl, rfl⟩
  | x :: xs => ⟨E.c x, xs.flatMap E.c, [], [], rfl, rfl, ⟨rfl, rfl⟩, RowAt.raw xs⟩
theorem RowAt.unmix {E : El α} {M : DMem} : ∀ {xs : List α} {cs : List DV} {S : List Nat}, RowAt (mixE E) M (xs.map (·, true)) cs S → RowAt E M xs cs S
  | [], cs, S, h => h
  | x :: xs, cs, S, ⟨c1, c2, S1, S2, e1, e2, h1, h2⟩ => ⟨c1, c2, S1, S2, e1, e2, h1, RowAt.unmix h2⟩
theorem SlAt.raw {E : El α} {M : DMem} {d : DV} {xs : List α} {S : List Nat} (h : SlAt (flatE E.c E.sz) M d xs S) : SlAt (mixE E) M d (xs.map (·, false)) S := by
  rcases h with ⟨h, h1, h2⟩ | ⟨b, c, ty, cs, S', h, h1, h2, h3, h4, h5⟩
  · exact .inl ⟨h, by rw [h1] <;> rfl, h2⟩
  · obtain ⟨rfl, rfl⟩ := RowAt.flat_eq h2
    exact .inr ⟨b, c, ty, _, [], by rw [List.length_map]; exact h, h1, RowAt.raw xs, h3, by rw [List.length_map]; exact h4, h5⟩
theorem SlAt.unmix {E : El α} {M : DMem} {d : DV} {xs : List α} {S : List Nat} (h : SlAt (mixE E) M d (xs.map (·, true)) S) : SlAt E M d xs S := by
  rcases h with ⟨h, h1, h2⟩ | ⟨b, c, ty, cs, S', h, h1, h2, h3, h4, h5⟩
  · exact .inl ⟨h, by simpa using h1, h2⟩
  · exact .inr ⟨b, c, ty, cs, S', by rw [List.length_map] at h; exact h, h1, RowAt.unmix h2, h3, by rw [List.length_map] at h4; exact h4, h5⟩
theorem Irc.plain (x : Irc) : x.c.all plainD = true := rfl
def irF : El Irc := flatE Irc.c 9
def metaF : El (List Part) := flatE metaC 1
def irM : El (Irc × Bool) := mixE irE
def metaM : El (List Part × Bool) := mixE metaE
def halfM (l : List α) (i : Nat) : List (α × Bool) := (l.take i).map (·, true) ++ (l.drop i).map (·, false)
end Go.Proofs.YticlgdhhnjpkjaaGreatDoor.Pf
namespace Go.Proofs.YticlgdhhnjpkjaaGreatDoor.Pf
open Go Go.RowKit Go.Proofs Go.Proofs.YticlgdhhnjpkjaaGreatDoor.Mw Go.Proofs.YticlgdhhnjpkjaaGreatDoor.Sx
set_option linter.unusedVariables false
set_option linter.unusedSimpArgs false
set_option maxRecDepth 8000
end Go.Proofs.YticlgdhhnjpkjaaGreatDoor.Pf
