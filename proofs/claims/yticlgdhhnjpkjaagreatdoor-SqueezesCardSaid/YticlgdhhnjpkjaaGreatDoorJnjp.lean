/- Xl Zo: joined texts of this claim. No condition. -/
import Derived.Test.YticlgdhhnjpkjaaGreatDoorJnjn
import Derived.Test.YticlgdhhnjpkjaaGreatDoorJnjo
import Derived.Test.YticlgdhhnjpkjaaGreatDoorJnjh
namespace Go.Proofs.YticlgdhhnjpkjaaGreatDoor.Pf
open Go Go.RowKit Go.Proofs Go.Proofs.YticlgdhhnjpkjaaGreatDoor.Mw Go.Proofs.YticlgdhhnjpkjaaGreatDoor.Sx
set_option linter.unusedVariables false
set_option linter.unusedSimpArgs false
set_option maxRecDepth 8000
theorem Squeeze_pt (p : List Fnc) (c : Cod) (hz : SzC c) : Pt Tryz.prog F_squeeze_Squeeze [.agg [slD Fnc.c p], .agg c.c] (.tup [.agg (squeezeR p c).1.c, .int .i64 (squeezeR p c).2]) :=
  Pt.of (Squeeze_pc p c hz fun dc dm M' Sc Sm hc hm nd new sub => by
    obtain ⟨t1, t2⟩ := irE_th.sl hc
    obtain ⟨t3, t4⟩ := metaE_th.sl hm
    refine pt_only (S := Sc ++ Sm) (by simp only [thawed, thawedL, t1, t3] <;> rfl) (fun b hb => ?_) ?_
    · rcases List.mem_append.1 hb with hb | hb
      · exact t2 b hb
      · exact t4 b hb
    · have g1 := SlAt.only irE_ok hc (T := Sc ++ Sm) (fun b hb => by simp [hb])
      have g2 := SlAt.only metaE_ok hm (T := Sc ++ Sm) (fun b hb => by simp [hb])
      rw [fz_tup]
      simp only [List.map_cons, List.map_nil, fz_agg, fz_int]
      rw [g1.fz irE_ok (k := 3) (by decide), g2.fz metaE_ok (k := 3) (by decide)]
      rfl)
def awC : Cod := ⟨0, 2, [⟨0, 0, 0, 0, 0, [], 1, 0, 0⟩, ⟨0, 0, 0, 0, 0, [], 2, 0, 0⟩, ⟨5, 0, 0, 0, 4, [], 1, 0, 0⟩, ⟨0, 0, 0, 0, 0, [], 3, 0, 0⟩, ⟨8, 0, 0, 0, 0, [], 1, 0, 0⟩], []⟩
def awD : Cod := ⟨0, 2, [⟨5, 0, 0, 0, 2, [], 4, 0, 0⟩, ⟨0, 0, 0, 0, 0, [], 3, 0, 0⟩, ⟨8, 0, 0, 0, 0, [], 1, 0, 0⟩], []⟩
theorem sq_aw : squeezeR oneP awC = (awD, 0) := by decide +kernel
theorem sq_none : squeezeR oneP cod0 = (cod0, 1800) := by decide +kernel
theorem awake18_pf : pf Tryz.prog F_swagelaw18_awake [] = some (.bool true) := by
  refine pf_of (v := .bool _) (pc_swagelaw18_awake (by simp) ?_) FrozL.nil rfl rfl
  simp only [S_swagelaw18_awake, R_swagelaw18_awake, MU_swagelaw18_awake, MU_swagelaw18_awake, S1_swagelaw18_awake, S2_swagelaw18_awake, ldnI1, ldn4_ip, SW, SV, wpD, evDL, evDM, evD, bldLD, wpSp, DMem.mt, beq_self_eq_true, seval]
  have z1 : SzC awC := ⟨by decide, by decide, by decide, by simp [awC]⟩
  have z0 : SzC cod0 := ⟨by decide, by simp [cod0], by decide, by simp [cod0]⟩
  refine Pt.pc (d := .tup [.agg awD.c, .int .i64 0]) (by simp only [List.map_cons, List.map_nil, fz_agg, fz_isl, fz_zsl, fz_int]; have h := Squeeze_pt oneP awC z1; rw [sq_aw] at h; exact h) ?_
  simp only [MU_swagelaw18_awake, S1_swagelaw18_awake, S2_swagelaw18_awake, ldnI1, ldn4_ip, SW, SV, wpD, evDL, evDM, evD, bldLD, wpSp, DMem.mt, beq_self_eq_true, seval]
  refine Pt.pc (d := .tup [.agg cod0.c, .int .i64 1800]) (by simp only [List.map_cons, List.map_nil, fz_agg, fz_isl, fz_zsl, fz_int]; have h := Squeeze_pt oneP cod0 z0; rw [sq_none] at h; exact h) ?_
  have hs : pf Tryz.prog 12 [.agg [.int .i64 awD.fn, .int .i64 awD.regs, slD Irc.c awD.code, slD metaC awD.metas], .agg [.int .i64 0, .int .i64 2, .isl 3 [.int .i64 5, .int .i64 0, .int .i64 0, .int .i64 0, .int .i64 2, .isl 0 [], .int .i64 4, .int .i64 0, .int .i64 0, .int .i64 0, .int .i64 0, .int .i64 0, .int .i64 0, .int .i64 0, .isl 0 [], .int .i64 3, .int .i64 0, .int .i64 0, .int .i64 8, .int .i64 0, .int .i64 0, .int .i64 0, .int .i64 0, .isl 0 [], .int .i64 1, .int .i64 0, .int .i64 0], .isl 0 []]] = some (.bool true) := (SameCode_pf awD awD ⟨by decide, by decide, by decide, by simp [awD]⟩).trans (by rw [decide_eq_true rfl])
  simp only [MU_swagelaw18_awake, S1_swagelaw18_awake, S2_swagelaw18_awake, ldnI1, ldn4_ip, NumF_pf, fz_irs, fz_metas, hs, SW, SV, wpD, evDL, evDM, evD, bldLD, wpSp, DMem.mt, beq_self_eq_true, seval]
end Go.Proofs.YticlgdhhnjpkjaaGreatDoor.Pf
namespace Go.Proofs.YticlgdhhnjpkjaaGreatDoor.Pf
open Go Go.RowKit Go.Proofs Go.Proofs.YticlgdhhnjpkjaaGreatDoor.Mw Go.Proofs.YticlgdhhnjpkjaaGreatDoor.Sx
set_option linter.unusedVariables false
set_option linter.unusedSimpArgs false
set_option maxRecDepth 8000
theorem get_mid {c1 c2 : List DV} {x : DV} {i : Nat} (h : c1.length = i) : (c1 ++ [x] ++ c2)[i]? = some x := by subst h; simp
theorem spl_mid {c1 c2 : List DV} {x v : DV} {i : Nat} (h : c1.length = i) : splD (c1 ++ [x] ++ c2) i [v] = c1 ++ [v] ++ c2 := by subst h; simp [splD]
theorem SpoilInts_sl {M : DMem} {d : DV} {l : List Int} {S : List Nat} (h : SlAt intE M d l S) (hS : S.Nodup) (hl : l.length ≤ 4611686018427387904) {R : DV → DMem → Prop}
    (hR : ∀ M' l', l'.length = l.length → SlAt intE M' d l' S → (∀ x, x ∉ S → M' x = M x) → R (.tup []) M') : PC Tryz.prog F_swagelaw0_SpoilInts [d] R M := by
  refine pc_swagelaw0_SpoilInts (by simp) ?_
  simp only [S_swagelaw0_SpoilInts, R_swagelaw0_SpoilInts, MU_swagelaw0_SpoilInts, SW, SV, wpD, evDL, evDM, evD, bldLD, wpSp, DMem.mt, beq_self_eq_true, seval]
  refine ⟨fun k δ M' => ∃ i l', i ≤ l.length ∧ k = l.length - i ∧ l'.length = l.length ∧ δ 0 = d ∧ δ 2 = .int .i64 i ∧ SlAt intE M' d l' S ∧ ∀ x, x ∉ S → M' x = M x, l.length, ⟨0, l, Nat.zero_le _, rfl, rfl, rfl, rfl, h, fun _ _ => rfl⟩, ?_⟩
  rintro k δ M' ⟨i, l', hi, rfl, hl', h0, h2, hsl, hk⟩
  simp only [S1_swagelaw0_SpoilInts, MU_swagelaw0_SpoilInts, h0, h2, hsl.lenD, hl', SW, SV, wpD, evDL, evDM, evD, bldLD, wpSp, DMem.mt, beq_self_eq_true, seval, decide_eq_true_eq, decide_eq_false_iff_not]
  refine ⟨fun hlt => ?_, fun hge => ?_⟩
  · have hip : i < l'.length := by omega
    obtain ⟨b, c, ty, c1, cx, c2, S1, Sx, S2, hd, hM, hc1, hcx, ⟨rfl, rfl⟩, hSe, hle, _, put⟩ := hsl.inner intE_ok hS hip
    replace hc1 : c1.length = i := by have : c1.length = i * 1 := hc1; omega
    have hget : (c1 ++ [.int .i64 l'[i]] ++ c2)[i]? = some (DV.int .i64 l'[i]) := get_mid hc1
    have hbS : b ∈ S := by rw [hSe]; simp
    have hdx : ixD 1 d (.int .i64 i) = some (.mp b i) := by rw [hd, ixM hip]; simp
    simp only [hdx, hM, hget, h0, h2, SW, SV, wpD, evDL, evDM, evD, bldLD, wpSp, DMem.mt, beq_self_eq_true, seval]
    refine stD hM rfl rfl (by simp only [List.length_append, hc1]; omega) (by have : intE.sz = 1 := rfl; rw [this]; omega) rfl fun M2 hM2 => ?_
    have hspl : ∀ v, splD (c1 ++ [DV.int .i64 l'[i]] ++ c2) i [v] = c1 ++ [v] ++ c2 := fun v => spl_mid hc1
    rw [hspl] at hM2
    simp only [h0, h2, w64s (show i < 4611686018427387905 by omega), SW, SV, wpD, evDL, evDM, evD, bldLD, wpSp, DMem.mt, beq_self_eq_true, seval]
    refine ⟨l.length - (i + 1), M2, by omega, SubD.refl _, i + 1, _, by omega, rfl, ?_, rfl, put M2 _ _ ⟨rfl, rfl⟩ hM2, fun x hx => ?_⟩
    · rw [List.length_set]; exact hl'
    · rw [hM2, DMem.ins_ne _ _ (by rintro rfl; exact hx hbS)]; exact hk x hx
  · exact hR _ l' hl' hsl hk
theorem SpoilSrcs_sl {M : DMem} {d : DV} {l : List Src} {S : List Nat} (h : SlAt srcE M d l S) (hS : S.Nodup) (hl : l.length ≤ 4611686018427387904) {R : DV → DMem → Prop}
    (hR : ∀ M' l', l'.length = l.length → SlAt srcE M' d l' S → (∀ x, x ∉ S → M' x = M x) → R (.tup []) M') : PC Tryz.prog F_swagelaw0_SpoilSrcs [d] R M := by
  refine pc_swagelaw0_SpoilSrcs (by simp) ?_
  simp only [S_swagelaw0_SpoilSrcs, R_swagelaw0_SpoilSrcs, MU_swagelaw0_SpoilSrcs, SW, SV, wpD, evDL, evDM, evD, bldLD, wpSp, DMem.mt, beq_self_eq_true, seval]
  refine ⟨fun k δ M' => ∃ i l', i ≤ l.length ∧ k = l.length - i ∧ l'.length = l.length ∧ δ 0 = d ∧ δ 2 = .int .i64 i ∧ SlAt srcE M' d l' S ∧ ∀ x, x ∉ S → M' x = M x, l.length, ⟨0, l, Nat.zero_le _, rfl, rfl, rfl, rfl, h, fun _ _ => rfl⟩, ?_⟩
  rintro k δ M' ⟨i, l', hi, rfl, hl', h0, h2, hsl, hk⟩
  simp only [S1_swagelaw0_SpoilSrcs, MU_swagelaw0_SpoilSrcs, h0, h2, hsl.lenD, hl', SW, SV, wpD, evDL, evDM, evD, bldLD, wpSp, DMem.mt, beq_self_eq_true, seval, decide_eq_true_eq, decide_eq_false_iff_not]
  refine ⟨fun hlt => ?_, fun hge => ?_⟩
  · have hip : i < l'.length := by omega
    obtain ⟨b, c, ty, c1, cx, c2, S1, Sx, S2, hd, hM, hc1, hcx, ⟨rfl, rfl⟩, hSe, hle, _, put⟩ := hsl.inner srcE_ok hS hip
    replace hc1 : c1.length = i * 2 := hc1
    have hget : (c1 ++ l'[i].c ++ c2)[i * 2 + 1]? = some (.int .i64 l'[i].v) := by rw [get_field hc1 (by simp)] <;> rfl
    have hbS : b ∈ S := by rw [hSe]; simp
    have hdx : ixD 2 d (.int .i64 i) = some (.mp b (i * 2)) := by rw [hd, ixM hip, Nat.zero_add]
    simp only [hdx, hM, hget, h0, h2, SW, SV, wpD, evDL, evDM, evD, bldLD, wpSp, DMem.mt, beq_self_eq_true, seval]
    refine stD hM rfl rfl (by simp only [List.length_append, hc1, Src.len]; omega) (by have : srcE.sz = 2 := rfl; rw [this]; omega) rfl fun M2 hM2 => ?_
    rw [splD_field hc1 (by simp)] at hM2
    simp only [h0, h2, w64s (show i < 4611686018427387905 by omega), SW, SV, wpD, evDL, evDM, evD, bldLD, wpSp, DMem.mt, beq_self_eq_true, seval]
    refine ⟨l.length - (i + 1), M2, by omega, SubD.refl _, i + 1, _, by omega, rfl, ?_, rfl, put M2 ⟨l'[i].const, bits BinOp.xor IntKind.i64 l'[i].v 90⟩ _ ⟨rfl, rfl⟩ hM2, fun x hx => ?_⟩
    · rw [List.length_set]; exact hl'
    · rw [hM2, DMem.ins_ne _ _ (by rintro rfl; exact hx hbS)]; exact hk x hx
  · exact hR _ l' hl' hsl hk
def BigP (x : Part) : Prop := x.locals.length ≤ 4611686018427387904 ∧ x.stack.length ≤ 4611686018427387904
theorem meta_part {M : DMem} {dm : DV} {ms : List (List Part)} {S : List Nat} (h : SlAt metaE M dm ms S) (hS : S.Nodup) {i : Nat} (hi : i < ms.length) :
    ∃ bM d Sx, ixD 1 dm (.int .i64 i) = some (.mp bM i) ∧ ((M bM).bind fun B => B.cs[i]?) = some d ∧ lenD d = some (.int .i64 ms[i].length) ∧ (∀ x ∈ Sx, x ∈ S) ∧ bM ∈ S ∧ bM ∉ Sx ∧ SlAt partE M d ms[i] Sx ∧ Sx.Nodup ∧
      ∀ M' (l : List Part), SlAt partE M' d l Sx → (∀ x, x ∉ Sx → M' x = M x) → SlAt metaE M' dm (ms.set i l) S := by
  obtain ⟨b, c, ty, c1, cx, c2, S1, Sx, S2, hd, hM, hc1, hcx, ⟨d, rfl, hp⟩, hSe, hle, put1, _⟩ := h.inner metaE_ok hS hi
  replace hc1 : c1.length = i := by have : c1.length = i * 1 := hc1; omega
  have hn := hS
  rw [hSe] at hn
  obtain ⟨hb, hn⟩ := List.nodup_cons.1 hn
  obtain ⟨hn, _, _⟩ := List.nodup_append.1 hn
  obtain ⟨_, hnx, _⟩ := List.nodup_append.1 hn
  refine ⟨b, d, Sx, by rw [hd, ixM hi]; simp, ?_, hp.lenD, fun x hx => by rw [hSe]; simp [hx], by rw [hSe]; simp, fun hh => hb (by simp [hh]), hp, hnx, fun M' l hl hk => put1 M' l ⟨d, rfl, hl⟩ fun x _ hx => hk x hx⟩
  rw [hM]
  show (c1 ++ [d] ++ c2)[i]? = some d
  rw [← hc1]; simp
theorem part_at {M : DMem} {d : DV} {ps : List Part} {S : List Nat} (h : SlAt partE M d ps S) (hS : S.Nodup) {j : Nat} (hj : j < ps.length) :
    ∃ b c ty c1 d1 d2 c2 S1 S2, ixD 4 d (.int .i64 j) = some (.mp b (j * 4)) ∧ M b = some ⟨ty, c * 4, c1 ++ [.int .i64 ps[j].fn, .int .i64 ps[j].pc, d1, d2] ++ c2⟩ ∧ c1.length = j * 4 ∧ ps.length ≤ c ∧ b ∈ S ∧ b ∉ S1 ∧ b ∉ S2 ∧
      SlAt srcE M d1 ps[j].locals S1 ∧ SlAt srcE M d2 ps[j].stack S2 ∧ S1.Nodup ∧ S2.Nodup ∧ (∀ x ∈ S1, x ∈ S) ∧ (∀ x ∈ S2, x ∈ S) ∧
      (∀ M' l, SlAt srcE M' d1 l S1 → (∀ x, x ∉ S1 → M' x = M x) → SlAt partE M' d (ps.set j ⟨ps[j].fn, ps[j].pc, l, ps[j].stack⟩) S) ∧
      (∀ M' l, SlAt srcE M' d2 l S2 → (∀ x, x ∉ S2 → M' x = M x) → SlAt partE M' d (ps.set j ⟨ps[j].fn, ps[j].pc, ps[j].locals, l⟩) S) ∧
      (∀ M' v, M' = M.ins b ⟨ty, c * 4, c1 ++ [.int .i64 ps[j].fn, .int .i64 v, d1, d2] ++ c2⟩ → SlAt partE M' d (ps.set j ⟨ps[j].fn, v, ps[j].locals, ps[j].stack⟩) S) := by
  obtain ⟨b, c, ty, c1, cx, c2, T1, Tx, T2, hd, hM, hc1, hcx, ⟨d1, d2, S1, S2, rfl, hs1, hs2, rfl⟩, hSe, hle, put1, put2⟩ := h.inner partE_ok hS hj
  have hn := hS
  rw [hSe] at hn
  obtain ⟨hb, hn⟩ := List.nodup_cons.1 hn
  obtain ⟨hn, _, _⟩ := List.nodup_append.1 hn
  obtain ⟨_, hnx, _⟩ := List.nodup_append.1 hn
  obtain ⟨hn1, hn2, hdis⟩ := List.nodup_append.1 hnx
  refine ⟨b, c, ty, c1, d1, d2, c2, S1, S2, by rw [hd, ixM hj, Nat.zero_add], hM, hc1, hle, by rw [hSe]; simp, fun hh => hb (by simp [hh]), fun hh => hb (by simp [hh]), hs1, hs2, hn1, hn2, fun x hx => by rw [hSe]; simp [hx], fun x hx => by rw [hSe]; simp [hx], fun M' l hl hk => ?_, fun M' l hl hk => ?_, fun M' v hM' => put2 M' _ _ ⟨d1, d2, S1, S2, rfl, hs1, hs2, rfl⟩ hM'⟩
  · exact put1 M' _ ⟨d1, d2, S1, S2, rfl, hl, hs2.frame srcE_ok fun x hx => hk x fun hh => hdis x hh x hx rfl, rfl⟩ fun x _ hx => hk x fun hh => hx (by simp [hh])
  · exact put1 M' _ ⟨d1, d2, S1, S2, rfl, hs1.frame srcE_ok fun x hx => hk x fun hh => hdis x hx x hh rfl, hl, rfl⟩ fun x _ hx => hk x fun hh => hx (by simp [hh])
set_option maxHeartbeats 2000000 in
theorem SpoilCode_pc {M : DMem} {fn regs : Int} {dc dm : DV} {code : List Irc} {ms : List (List Part)} {Sc Sm : List Nat} (hc : SlAt irE M dc code Sc) (hm : SlAt metaE M dm ms Sm) (hnd : (Sc ++ Sm).Nodup) (hl : code.length ≤ 4611686018427387904) (ha : ∀ x ∈ code, x.args.length ≤ 4611686018427387904)
    (hml : ms.length ≤ 4611686018427387904) (hmp : ∀ m ∈ ms, m.length ≤ 4611686018427387904 ∧ ∀ x ∈ m, BigP x) {R : DV → DMem → Prop}
    (hR : ∀ M', (∀ x, x ∉ Sc ++ Sm → M' x = M x) → R (.tup []) M') : PC Tryz.prog F_swagelaw0_SpoilCode [.agg [.int .i64 fn, .int .i64 regs, dc, dm]] R M := by
  obtain ⟨ndc, ndm, dis⟩ := List.nodup_append.1 hnd
  refine pc_swagelaw0_SpoilCode (by simp) ?_
  simp only [S_swagelaw0_SpoilCode, R_swagelaw0_SpoilCode, MU_swagelaw0_SpoilCode, hc.cell, hm.cell, SW, SV, wpD, evDL, evDM, evD, bldLD, wpSp, DMem.mt, beq_self_eq_true, seval]
  refine ⟨fun k δ M' => ∃ (i : Nat) (l' : List Irc), i ≤ code.length ∧ k = code.length - i ∧ l'.length = code.length ∧ (∀ x ∈ l', x.args.length ≤ 4611686018427387904) ∧ δ 1 = .ip [.int .i64 fn, .int .i64 regs, dc, dm] ∧ δ 2 = .int .i64 i ∧ SlAt irE M' dc l' Sc ∧ (∀ x, x ∉ Sc → M' x = M x), code.length,
    ⟨0, code, Nat.zero_le _, rfl, rfl, ha, rfl, rfl, hc, fun _ _ => rfl⟩, ?_⟩
  rintro k δ M' ⟨i, l', hi, rfl, hl', ha', h1, h2, hsl, hk⟩
  simp only [S1_swagelaw0_SpoilCode, MU_swagelaw0_SpoilCode, h1, h2, hsl.lenD, hl', SW, SV, wpD, evDL, evDM, evD, bldLD, wpSp, DMem.mt, beq_self_eq_true, seval, decide_eq_true_eq, decide_eq_false_iff_not]
  refine ⟨fun hlt => ?_, fun hge => ?_⟩
  · have hip : i < l'.length := by omega
    obtain ⟨b, c, ty, c1, cx, c2, S1, Sx, S2, hd, hM, hc1, hcx, ⟨d1, rfl, hsl1⟩, hSe, hle, put1, _⟩ := hsl.inner irE_ok ndc hip
    replace hc1 : c1.length = i * 9 := hc1
    have hget : (c1 ++ [.int .i64 l'[i].kind, .int .i64 l'[i].r, .int .i64 l'[i].a, .int .i64 l'[i].b, .int .i64 l'[i].k, d1, .int .i64 l'[i].cost, .int .i64 l'[i].mt, .int .i64 l'[i].pc] ++ c2)[i * 9 + 5]? = some d1 := by rw [get_field hc1 (by simp)] <;> rfl
    have hdx : ixD 9 dc (.int .i64 i) = some (.mp b (i * 9)) := by rw [hd, ixM hip, Nat.zero_add]
    have hnx : Sx.Nodup := by
      have hS := ndc
      rw [hSe] at hS
      exact (List.nodup_append.1 (List.nodup_append.1 (List.nodup_cons.1 hS).2).1).2.1
    have hxS : ∀ x ∈ Sx, x ∈ Sc := fun x hx => by rw [hSe]; simp [hx]
    simp only [hdx, hM, hget, h1, h2, SW, SV, wpD, evDL, evDM, evD, bldLD, wpSp, DMem.mt, beq_self_eq_true, seval]
    refine SpoilInts_sl hsl1 hnx (ha' _ (List.getElem_mem hip)) fun M2 l2 hl2 hsl2 hk2 => ?_
    have hsl3 := put1 M2 ⟨l'[i].kind, l'[i].r, l'[i].a, l'[i].b, l'[i].k, l2, l'[i].cost, l'[i].mt, l'[i].pc⟩ ⟨d1, rfl, hsl2⟩ fun x _ hx => hk2 x hx
    have hip3 : i < (l'.set i ⟨l'[i].kind, l'[i].r, l'[i].a, l'[i].b, l'[i].k, l2, l'[i].cost, l'[i].mt, l'[i].pc⟩).length := by rw [List.length_set]; exact hip
    obtain ⟨b', c', ty', e1, ex, e2, T1, Tx, T2, hd', hM2, he1, hex, ⟨d2, rfl, hsl4⟩, hSe', hle', _, put2⟩ := hsl3.inner irE_ok ndc hip3
    replace he1 : e1.length = i * 9 := he1
    rw [hd] at hd'
    have hb : b' = b := by injection hd' with g1 g2 g3 g4; exact g1.symm
    subst hb
    have hbS : b' ∈ Sc := by rw [hSe]; simp
    simp only [List.getElem_set_self] at hM2
    have hget2 : (e1 ++ [.int .i64 l'[i].kind, .int .i64 l'[i].r, .int .i64 l'[i].a, .int .i64 l'[i].b, .int .i64 l'[i].k, d2, .int .i64 l'[i].cost, .int .i64 l'[i].mt, .int .i64 l'[i].pc] ++ e2)[i * 9 + 1]? = some (.int .i64 l'[i].r) := by rw [get_field he1 (by simp)] <;> rfl
    simp only [raw0_swagelaw0_SpoilCode, P0_swagelaw0_SpoilCode, MU_swagelaw0_SpoilCode, hdx, hM2, hget2, h1, h2, SW, SV, wpD, evDL, evDM, evD, bldLD, wpSp, DMem.mt, beq_self_eq_true, seval]
    have hlc : i + 1 ≤ c' := by rw [List.length_set] at hle'; omega
    refine stD hM2 rfl rfl (by simp only [List.length_append, List.length_cons, he1]; omega) (by have : irE.sz = 9 := rfl; rw [this]; omega) rfl fun M3 hM3 => ?_
    rw [splD_field he1 (by simp)] at hM3
    simp only [List.getElem_set_self] at hsl4
    try simp only [h1, h2, w64s (show i < 4611686018427387905 by omega), SW, SV, wpD, evDL, evDM, evD, bldLD, wpSp, DMem.mt, beq_self_eq_true, seval]
    refine ⟨code.length - (i + 1), M3, by omega, SubD.refl _, i + 1, _, by omega, rfl, ?_, ?_, rfl, put2 M3 ⟨l'[i].kind, bits BinOp.xor IntKind.i64 l'[i].r 90, l'[i].a, l'[i].b, l'[i].k, l2, l'[i].cost, l'[i].mt, l'[i].pc⟩ _ ⟨d2, rfl, hsl4⟩ hM3, fun x hx => ?_⟩
    · rw [List.length_set, List.length_set]; exact hl'
    · intro x hx
      rcases List.mem_or_eq_of_mem_set hx with hx | rfl
      · rcases List.mem_or_eq_of_mem_set hx with hx | rfl
        · exact ha' x hx
        · show l2.length ≤ _; rw [hl2]; exact ha' _ (List.getElem_mem hip)
      · show l2.length ≤ _; rw [hl2]; exact ha' _ (List.getElem_mem hip)
    · rw [hM3, DMem.ins_ne _ _ (by rintro rfl; exact hx hbS), hk2 x (fun hh => hx (hxS x hh))]; exact hk x hx
  · have hm' : SlAt metaE M' dm ms Sm := hm.frame metaE_ok fun x hx => hk x fun hh => dis x hh x hx rfl
    have frame : ∀ x, x ∉ Sc ++ Sm → M' x = M x := fun x hx => hk x fun hh => hx (by simp [hh])
    simp only [S5_swagelaw0_SpoilCode, MU_swagelaw0_SpoilCode, h1, SW, SV, wpD, evDL, evDM, evD, bldLD, wpSp, DMem.mt, beq_self_eq_true, seval]
    refine ⟨fun k δ M2 => ∃ (i : Nat) (ms' : List (List Part)), i ≤ ms.length ∧ k = ms.length - i ∧ ms'.length = ms.length ∧ (∀ m ∈ ms', m.length ≤ 4611686018427387904 ∧ ∀ x ∈ m, BigP x) ∧ δ 1 = .ip [.int .i64 fn, .int .i64 regs, dc, dm] ∧ δ 3 = .int .i64 i ∧ SlAt metaE M2 dm ms' Sm ∧ (∀ x, x ∉ Sc ++ Sm → M2 x = M x), ms.length,
      ⟨0, ms, Nat.zero_le _, rfl, rfl, hmp, h1, rfl, hm', frame⟩, ?_⟩
    clear hsl hk h1 h2 hge frame hm'
    rintro k δ M2 ⟨i, ms', hi, rfl, hl2, hmp', h1, h3, hsl, hk⟩
    simp only [S4_swagelaw0_SpoilCode, MU_swagelaw0_SpoilCode, h1, h3, hsl.lenD, hl2, SW, SV, wpD, evDL, evDM, evD, bldLD, wpSp, DMem.mt, beq_self_eq_true, seval, decide_eq_true_eq, decide_eq_false_iff_not]
    refine ⟨fun hlt => ?_, fun hge => hR _ hk⟩
    have him : i < ms'.length := by omega
    refine ⟨fun k δ M3 => ∃ (j : Nat) (ms2 : List (List Part)) (_ : i < ms2.length), j ≤ ms'[i].length ∧ k = ms'[i].length - j ∧ ms2.length = ms.length ∧ ms2[i].length = ms'[i].length ∧ (∀ m ∈ ms2, m.length ≤ 4611686018427387904 ∧ ∀ x ∈ m, BigP x) ∧ δ 1 = .ip [.int .i64 fn, .int .i64 regs, dc, dm] ∧ δ 3 = .int .i64 i ∧ δ 4 = .int .i64 j ∧ SlAt metaE M3 dm ms2 Sm ∧ (∀ x, x ∉ Sc ++ Sm → M3 x = M x), ms'[i].length,
      ⟨0, ms', him, Nat.zero_le _, rfl, hl2, rfl, hmp', h1, h3, rfl, hsl, hk⟩, ?_⟩
    clear hsl hk h1 h3
    rintro k δ M3 ⟨j, ms2, hi2, hj, rfl, hl3, hlj, hmp2, h1, h3, h4, hsl, hk⟩
    obtain ⟨bM, d, Sx, ex, el, en, esub, ebS, ebx, ep, enx, eput⟩ := meta_part hsl ndm hi2
    simp only [S3_swagelaw0_SpoilCode, MU_swagelaw0_SpoilCode, h1, h3, h4, ex, el, en, hlj, SW, SV, wpD, evDL, evDM, evD, bldLD, wpSp, DMem.mt, beq_self_eq_true, seval, decide_eq_true_eq, decide_eq_false_iff_not]
    have hb0 := hmp' _ (List.getElem_mem him)
    refine ⟨fun hltj => ?_, fun hgej => ?_⟩
    · have hjj : j < ms2[i].length := by omega
      obtain ⟨hbig1, hbig2⟩ := hmp2 _ (List.getElem_mem hi2)
      obtain ⟨b, c, ty, c1, d1, d2, c2, T1, T2, px, pM, pc1, pc, pbS, pb1, pb2, ps1, ps2, pn1, pn2, psub1, psub2, pp1, pp2, pp3⟩ := part_at ep enx hjj
      have l2 : ((M3 b).bind fun B => B.cs[j * 4 + 2]?) = some d1 := by rw [pM]; show (c1 ++ _ ++ c2)[j * 4 + 2]? = _; rw [get_field pc1 (by simp)] <;> rfl
      simp only [px, l2, h1, h3, h4, ex, el, SW, SV, wpD, evDL, evDM, evD, bldLD, wpSp, DMem.mt, beq_self_eq_true, seval]
      refine SpoilSrcs_sl ps1 pn1 (hbig2 _ (List.getElem_mem hjj)).1 fun M4 q4 hq4 hs4 hk4 => ?_
      have ep4 := pp1 M4 q4 hs4 hk4
      have bg4 : BigP ⟨ms2[i][j].fn, ms2[i][j].pc, q4, ms2[i][j].stack⟩ := ⟨by show q4.length ≤ _; rw [hq4]; exact (hbig2 _ (List.getElem_mem hjj)).1, (hbig2 _ (List.getElem_mem hjj)).2⟩
      have fr4 : ∀ x, x ∉ Sx → M4 x = M3 x := fun x hx => hk4 x fun hh => hx (psub1 x hh)
      have hl4 : (ms2[i].set j ⟨ms2[i][j].fn, ms2[i][j].pc, q4, ms2[i][j].stack⟩).length = ms2[i].length := List.length_set ..
      have hb4 : ∀ x ∈ ms2[i].set j ⟨ms2[i][j].fn, ms2[i][j].pc, q4, ms2[i][j].stack⟩, BigP x := fun x hx => by
        rcases List.mem_or_eq_of_mem_set hx with hx | rfl
        · exact hbig2 x hx
        · exact bg4
      generalize ms2[i].set j ⟨ms2[i][j].fn, ms2[i][j].pc, q4, ms2[i][j].stack⟩ = ps4 at ep4 hl4 hb4
      have hj4 : j < ps4.length := by omega
      obtain ⟨b4, c4, ty4, e1, g1, g2, e2, U1, U2, qx, qM, qc1, qc, qbS, qb1, qb2, qs1, qs2, qn1, qn2, qsub1, qsub2, qp1, qp2, qp3⟩ := part_at ep4 enx hj4
      have el4 : ((M4 bM).bind fun B => B.cs[i]?) = some d := by rw [fr4 bM ebx]; exact el
      have l3 : ((M4 b4).bind fun B => B.cs[j * 4 + 3]?) = some g2 := by rw [qM]; show (e1 ++ _ ++ e2)[j * 4 + 3]? = _; rw [get_field qc1 (by simp)] <;> rfl
      simp only [S2_swagelaw0_SpoilCode, MU_swagelaw0_SpoilCode, qx, l3, h1, h3, h4, ex, el4, SW, SV, wpD, evDL, evDM, evD, bldLD, wpSp, DMem.mt, beq_self_eq_true, seval]
      refine SpoilSrcs_sl qs2 qn2 (hb4 _ (List.getElem_mem hj4)).2 fun M5 q5 hq5 hs5 hk5 => ?_
      have ep5 := qp2 M5 q5 hs5 hk5
      have fr5 : ∀ x, x ∉ Sx → M5 x = M3 x := fun x hx => (hk5 x fun hh => hx (qsub2 x hh)).trans (fr4 x hx)
      have hl5 : (ps4.set j ⟨ps4[j].fn, ps4[j].pc, ps4[j].locals, q5⟩).length = ms2[i].length := by rw [List.length_set]; exact hl4
      have hb5 : ∀ x ∈ ps4.set j ⟨ps4[j].fn, ps4[j].pc, ps4[j].locals, q5⟩, BigP x := fun x hx => by
        rcases List.mem_or_eq_of_mem_set hx with hx | rfl
        · exact hb4 x hx
        · exact ⟨(hb4 _ (List.getElem_mem hj4)).1, by show q5.length ≤ _; rw [hq5]; exact (hb4 _ (List.getElem_mem hj4)).2⟩
      generalize ps4.set j ⟨ps4[j].fn, ps4[j].pc, ps4[j].locals, q5⟩ = ps5 at ep5 hl5 hb5
      have hj5 : j < ps5.length := by omega
      obtain ⟨b5, c5, ty5, e3, g3, g4, e4, U3, U4, rx, rM, rc1, rc, rbS, rb1, rb2, rs1, rs2, rn1, rn2, rsub1, rsub2, rp1, rp2, rp3⟩ := part_at ep5 enx hj5
      have el5 : ((M5 bM).bind fun B => B.cs[i]?) = some d := by rw [fr5 bM ebx]; exact el
      have l4 : ((M5 b5).bind fun B => B.cs[j * 4 + 1]?) = some (.int .i64 ps5[j].pc) := by rw [rM]; show (e3 ++ _ ++ e4)[j * 4 + 1]? = _; rw [get_field rc1 (by simp)] <;> rfl
      simp only [raw1_swagelaw0_SpoilCode, P1_swagelaw0_SpoilCode, MU_swagelaw0_SpoilCode, rx, l4, h1, h3, h4, ex, el5, SW, SV, wpD, evDL, evDM, evD, bldLD, wpSp, DMem.mt, beq_self_eq_true, seval]
      refine stD rM rfl rfl (by simp only [List.length_append, List.length_cons, rc1]; omega) (by omega) rfl fun M6 hM6 => ?_
      rw [splD_field rc1 (by simp)] at hM6
      have ep6 := rp3 M6 _ hM6
      have fr6 : ∀ x, x ∉ Sx → M6 x = M3 x := fun x hx => by rw [hM6, DMem.ins_ne _ _ (by rintro rfl; exact hx rbS)]; exact fr5 x hx
      have hsl6 := eput M6 _ ep6 fr6
      try simp only [h1, h3, h4, w64s (show j < 4611686018427387905 by omega), SW, SV, wpD, evDL, evDM, evD, bldLD, wpSp, DMem.mt, beq_self_eq_true, seval]
      refine ⟨ms'[i].length - (j + 1), M6, by omega, SubD.refl _, j + 1, _, (by rw [List.length_set]; exact hi2), by omega, rfl, by rw [List.length_set]; exact hl3, ?_, ?_, rfl, hsl6, fun x hx => ?_⟩
      · rw [List.getElem_set_self, List.length_set, hl5, hlj]
      · intro m hm
        rcases List.mem_or_eq_of_mem_set hm with hm | rfl
        · exact hmp2 m hm
        · refine ⟨by rw [List.length_set, hl5]; exact hbig1, fun x hx => ?_⟩
          rcases List.mem_or_eq_of_mem_set hx with hx | rfl
          · exact hb5 x hx
          · have h := hb5 ps5[j] (List.getElem_mem hj5)
            exact ⟨h.1, h.2⟩
      · rw [fr6 x fun hh => hx (by simp [esub x hh])]; exact hk x hx
    · try simp only [h1, h3, h4, w64s (show i < 4611686018427387905 by omega), SW, SV, wpD, evDL, evDM, evD, bldLD, wpSp, DMem.mt, beq_self_eq_true, seval]
      exact ⟨ms.length - (i + 1), M3, by omega, SubD.refl _, i + 1, ms2, by omega, rfl, hl3, hmp2, rfl, hsl, hk⟩
end Go.Proofs.YticlgdhhnjpkjaaGreatDoor.Pf
