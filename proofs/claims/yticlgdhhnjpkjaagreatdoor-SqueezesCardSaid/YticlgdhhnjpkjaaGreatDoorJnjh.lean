/- Wb Wc Wd We Wf Wg Wh Wi Wj Vj Vk Vl Vi Vm Vn Vo Vp Wk Xp Ya Yd Ye Yf Yg Zh Fw Wm Wn Xa Xb: joined texts of this claim. No condition. -/
import Derived.Test.YticlgdhhnjpkjaaGreatDoorJnjf
import Derived.Test.YticlgdhhnjpkjaaGreatDoorJnjg
import Derived.WalkKit
import Derived.LaidEql
import Derived.Stop.Asserts
import Derived.RowKitTokens
import Derived.WideLaws
namespace Go.Proofs.YticlgdhhnjpkjaaGreatDoor.Pf
open Go Go.RowKit Go.Proofs Go.Proofs.YticlgdhhnjpkjaaGreatDoor.Mw Go.Proofs.YticlgdhhnjpkjaaGreatDoor.Sx
set_option linter.unusedVariables false
set_option linter.unusedSimpArgs false
set_option maxRecDepth 4000
theorem slD_ints (l : List Int) : slD intE.c l = slI l := by simp [slD, slI, intE, ← List.map_eq_flatMap]
def srcE : El Src := flatE Src.c 2
theorem srcE_ok : srcE.Ok := flatE_ok (by decide) Src.len Src.froz (fun x => rfl)
def partE : El Part := ⟨4, Part.c, 1, fun M x cs S => ∃ d1 d2 S1 S2, cs = [.int .i64 x.fn, .int .i64 x.pc, d1, d2] ∧ SlAt srcE M d1 x.locals S1 ∧ SlAt srcE M d2 x.stack S2 ∧ S = S1 ++ S2⟩
theorem partE_ok : partE.Ok where
  pos := by decide
  len := by rintro M x cs S ⟨d1, d2, S1, S2, rfl, _⟩; rfl
  clen := fun x => rfl
  frame := by
    rintro M M' x cs S ⟨d1, d2, S1, S2, rfl, h1, h2, rfl⟩ hk
    exact ⟨d1, d2, S1, S2, rfl, h1.frame srcE_ok fun b hb => hk b (by simp [hb]), h2.frame srcE_ok fun b hb => hk b (by simp [hb]), rfl⟩
  fz := by
    rintro M x cs S k ⟨d1, d2, S1, S2, rfl, h1, h2, rfl⟩ hk
    obtain ⟨j, rfl⟩ : ∃ j, k = j + 1 := ⟨k - 1, by have : 1 ≤ k := hk; omega⟩
    simp only [List.map_cons, List.map_nil, fz_int]
    rw [h1.fz srcE_ok (k := j) (Nat.zero_le _), h2.fz srcE_ok (k := j) (Nat.zero_le _)] <;> rfl
  plain := by
    rintro M x cs S ⟨d1, d2, S1, S2, rfl, h1, h2, rfl⟩
    simp only [List.all_cons, List.all_nil, h1.plain, h2.plain] <;> rfl
  here := by
    rintro M x cs S ⟨d1, d2, S1, S2, rfl, h1, h2, rfl⟩ b hb
    rcases List.mem_append.1 hb with hb | hb
    · exact h1.here srcE_ok b hb
    · exact h2.here srcE_ok b hb
def metaE : El (List Part) := ⟨1, metaC, 2, fun M x cs S => ∃ d, cs = [d] ∧ SlAt partE M d x S⟩
theorem metaE_ok : metaE.Ok where
  pos := by decide
  len := by rintro M x cs S ⟨d, rfl, _⟩; rfl
  clen := fun x => rfl
  frame := by rintro M M' x cs S ⟨d, rfl, h⟩ hk; exact ⟨d, rfl, h.frame partE_ok hk⟩
  fz := by
    rintro M x cs S k ⟨d, rfl, h⟩ hk
    obtain ⟨j, rfl⟩ : ∃ j, k = j + 1 := ⟨k - 1, by have : 2 ≤ k := hk; omega⟩
    simp only [List.map_cons, List.map_nil]
    rw [h.fz partE_ok (k := j) (by have : 2 ≤ j + 1 := hk; show 1 ≤ j; omega)] <;> rfl
  plain := by rintro M x cs S ⟨d, rfl, h⟩; simp only [List.all_cons, List.all_nil, h.plain] <;> rfl
  here := by rintro M x cs S ⟨d, rfl, h⟩ b hb; exact h.here partE_ok b hb
def irE : El Irc := ⟨9, Irc.c, 1, fun M x cs S => ∃ d, cs = [.int .i64 x.kind, .int .i64 x.r, .int .i64 x.a, .int .i64 x.b, .int .i64 x.k, d, .int .i64 x.cost, .int .i64 x.mt, .int .i64 x.pc] ∧ SlAt intE M d x.args S⟩
theorem irE_ok : irE.Ok where
  pos := by decide
  len := by rintro M x cs S ⟨d, rfl, _⟩; rfl
  clen := fun x => rfl
  frame := by rintro M M' x cs S ⟨d, rfl, h⟩ hk; exact ⟨d, rfl, h.frame intE_ok hk⟩
  fz := by
    rintro M x cs S k ⟨d, rfl, h⟩ hk
    obtain ⟨j, rfl⟩ : ∃ j, k = j + 1 := ⟨k - 1, by have : 1 ≤ k := hk; omega⟩
    simp only [List.map_cons, List.map_nil, fz_int]
    rw [h.fz intE_ok (k := j) (Nat.zero_le _), slD_ints] <;> rfl
  plain := by rintro M x cs S ⟨d, rfl, h⟩; simp only [List.all_cons, List.all_nil, h.plain] <;> rfl
  here := by rintro M x cs S ⟨d, rfl, h⟩ b hb; exact h.here intE_ok b hb
theorem pc_nils {P : Program} {f : FuncId} {cs : List DV} {R : DV → DMem → Prop} {M : DMem} (h : ∀ a c, PC P f [.raw (.slice a 0 c)] R M) : PC P f [.isl 0 cs] R M := by
  intro F m vals hM hr hF ho
  obtain ⟨h1, h2⟩ := hr
  match vals, h2 with
  | [v], _ =>
    have hv := h1.1
    simp only [Rep] at hv
    obtain ⟨a, c, rfl, _⟩ := hv
    exact h a c F m _ hM ⟨⟨by simp only [Rep], trivial⟩, rfl⟩ hF ho
def partF : El Part := flatE Part.c 4
theorem partF_ok : partF.Ok := flatE_ok (by decide) Part.len Part.froz (fun x => rfl)
theorem CloneI_pc {M : DMem} (l : List Int) (hl : l.length * 8 ≤ 140737488355328) {R : DV → DMem → Prop}
    (hR : ∀ d M' S, SlAt intE M' d l S → S.Nodup → (∀ x ∈ S, M x = none) → SubD M M' → R d M') : PC Tryz.prog F_slices_Clone_int_int [slI l] R M := by
  rcases Nat.eq_zero_or_pos l.length with h0 | h0
  · have hl0 : l = [] := List.eq_nil_of_length_eq_zero h0
    subst hl0
    refine pc_nils fun a c => ?_
    refine pc_slices_Clone_int_int (by simp) ?_
    simp only [S_slices_Clone_int_int, R_slices_Clone_int_int, MU_slices_Clone_int_int, MU_slices_Clone_int_int, SW, SV, wpD, evDL, evDM, evD, bldLD, wpSp, DMem.mt, beq_self_eq_true, seval]
    have hz := hR .zsl M [] SlAt.nil List.nodup_nil (by simp) (SubD.refl M)
    exact ⟨fun _ => hz, fun _ => ⟨0, [], ⟨rfl, rfl, rfl⟩, rfl, 0, by decide, by decide, rfl, fun _ => hz, fun h => absurd h (by decide)⟩⟩
  · refine pc_slices_Clone_int_int (by simp) ?_
    have he : eqzD false (slI l) = some (.bool false) := eqzI h0
    simp only [S_slices_Clone_int_int, R_slices_Clone_int_int, MU_slices_Clone_int_int, MU_slices_Clone_int_int, he, SW, SV, wpD, evDL, evDM, evD, bldLD, wpSp, DMem.mt, beq_self_eq_true, seval]
    have h := (SlAt.nil (E := intE) (M := M)).app intE_ok List.nodup_nil (e := 3) (bytes := 8) (ys := l) (ds := l.map (.int .i64)) (T := []) (k := l.length) RowAt.ints (fun x hx => by simp at hx) rfl (by simp; omega) (by simp; omega) (Post := R) fun d' M' S' h1 h2 h3 h4 => hR d' M' S' (by simpa using h1) (h4 List.nodup_nil) (fun x hx => by
        rcases h3 x hx with h | h | h
        · simp at h
        · simp at h
        · exact h) fun b B hB => h2 b B hB (by simp)
    exact h
theorem CloneS_pc {M : DMem} (l : List Src) (hl : l.length * 16 ≤ 140737488355328) {R : DV → DMem → Prop}
    (hR : ∀ d M' S, SlAt srcE M' d l S → S.Nodup → (∀ x ∈ S, M x = none) → SubD M M' → R d M') : PC Tryz.prog F_slices_Clone_api_Src_api_Src [slD Src.c l] R M := by
  rcases Nat.eq_zero_or_pos l.length with h0 | h0
  · have hl0 : l = [] := List.eq_nil_of_length_eq_zero h0
    subst hl0
    refine pc_nils fun a c => ?_
    refine pc_slices_Clone_api_Src_api_Src (by simp) ?_
    simp only [S_slices_Clone_api_Src_api_Src, R_slices_Clone_api_Src_api_Src, MU_slices_Clone_api_Src_api_Src, MU_slices_Clone_api_Src_api_Src, SW, SV, wpD, evDL, evDM, evD, bldLD, wpSp, DMem.mt, beq_self_eq_true, seval]
    have hz := hR .zsl M [] SlAt.nil List.nodup_nil (by simp) (SubD.refl M)
    exact ⟨fun _ => hz, fun _ => ⟨0, [], ⟨rfl, rfl, rfl⟩, rfl, 0, by decide, by decide, rfl, fun _ => hz, fun h => absurd h (by decide)⟩⟩
  · refine pc_slices_Clone_api_Src_api_Src (by simp) ?_
    have he : eqzD false (slD Src.c l) = some (.bool false) := eqzI h0
    simp only [S_slices_Clone_api_Src_api_Src, R_slices_Clone_api_Src_api_Src, MU_slices_Clone_api_Src_api_Src, MU_slices_Clone_api_Src_api_Src, he, SW, SV, wpD, evDL, evDM, evD, bldLD, wpSp, DMem.mt, beq_self_eq_true, seval]
    have h := (SlAt.nil (E := srcE) (M := M)).app srcE_ok List.nodup_nil (e := 136) (bytes := 16) (ys := l) (ds := l.flatMap Src.c) (T := []) (k := l.length) RowAt.flat (fun x hx => by simp at hx) rfl (by simp; omega) (by simp; omega) (Post := R) fun d' M' S' h1 h2 h3 h4 => hR d' M' S' (by simpa using h1) (h4 List.nodup_nil) (fun x hx => by
        rcases h3 x hx with h | h | h
        · simp at h
        · simp at h
        · exact h) fun b B hB => h2 b B hB (by simp)
    exact h
theorem CloneP_pc {M : DMem} (l : List Part) (hl : l.length * 64 ≤ 140737488355328) {R : DV → DMem → Prop}
    (hR : ∀ d M' S, SlAt partF M' d l S → S.Nodup → (∀ x ∈ S, M x = none) → SubD M M' → R d M') : PC Tryz.prog F_slices_Clone_api_Part_api_Part [slD Part.c l] R M := by
  rcases Nat.eq_zero_or_pos l.length with h0 | h0
  · have hl0 : l = [] := List.eq_nil_of_length_eq_zero h0
    subst hl0
    refine pc_nils fun a c => ?_
    refine pc_slices_Clone_api_Part_api_Part (by simp) ?_
    simp only [S_slices_Clone_api_Part_api_Part, R_slices_Clone_api_Part_api_Part, MU_slices_Clone_api_Part_api_Part, MU_slices_Clone_api_Part_api_Part, SW, SV, wpD, evDL, evDM, evD, bldLD, wpSp, DMem.mt, beq_self_eq_true, seval]
    have hz := hR .zsl M [] SlAt.nil List.nodup_nil (by simp) (SubD.refl M)
    exact ⟨fun _ => hz, fun _ => ⟨0, [], ⟨rfl, rfl, rfl⟩, rfl, 0, by decide, by decide, rfl, fun _ => hz, fun h => absurd h (by decide)⟩⟩
  · refine pc_slices_Clone_api_Part_api_Part (by simp) ?_
    have he : eqzD false (slD Part.c l) = some (.bool false) := eqzI h0
    simp only [S_slices_Clone_api_Part_api_Part, R_slices_Clone_api_Part_api_Part, MU_slices_Clone_api_Part_api_Part, MU_slices_Clone_api_Part_api_Part, he, SW, SV, wpD, evDL, evDM, evD, bldLD, wpSp, DMem.mt, beq_self_eq_true, seval]
    have h := (SlAt.nil (E := partF) (M := M)).app partF_ok List.nodup_nil (e := 69) (bytes := 64) (ys := l) (ds := l.flatMap Part.c) (T := []) (k := l.length) RowAt.flat (fun x hx => by simp at hx) rfl (by simp; omega) (by simp; omega) (Post := R) fun d' M' S' h1 h2 h3 h4 => hR d' M' S' (by simpa using h1) (h4 List.nodup_nil) (fun x hx => by
        rcases h3 x hx with h | h | h
        · simp at h
        · simp at h
        · exact h) fun b B hB => h2 b B hB (by simp)
    exact h
end Go.Proofs.YticlgdhhnjpkjaaGreatDoor.Pf
namespace Go.Proofs.YticlgdhhnjpkjaaGreatDoor.Pf
open Go Go.RowKit Go.Proofs Go.Proofs.YticlgdhhnjpkjaaGreatDoor.Mw Go.Proofs.YticlgdhhnjpkjaaGreatDoor.Sx
set_option linter.unusedVariables false
set_option linter.unusedSimpArgs false
set_option maxRecDepth 4000
def DMem.only (M : DMem) (S : List Nat) : DMem := fun b => if b ∈ S then M b else none
theorem DMem.only_sub (M : DMem) (S : List Nat) : SubD (DMem.only M S) M := fun b B h => by
  unfold DMem.only at h; split at h
  · exact h
  · cases h
theorem DMem.only_in {M : DMem} {S : List Nat} {b : Nat} (h : b ∈ S) : DMem.only M S b = M b := by unfold DMem.only; rw [if_pos h]
def ThE {α : Type} (E : El α) : Prop := ∀ M x cs S, E.rep M x cs S → thawedL cs = true ∧ ∀ b ∈ S, ∀ B, M b = some B → thawedL B.cs = true
theorem ThE.row {α : Type} {E : El α} (ht : ThE E) {M : DMem} : ∀ {xs : List α} {cs : List DV} {S : List Nat}, RowAt E M xs cs S → thawedL cs = true ∧ ∀ b ∈ S, ∀ B, M b = some B → thawedL B.cs = true
  | [], cs, S, h => by rw [h.1, h.2]; exact ⟨rfl, fun b hb => by simp at hb⟩
  | x :: xs, cs, S, ⟨c1, c2, S1, S2, e1, e2, h1, h2⟩ => by
    obtain ⟨g1, g2⟩ := ht _ _ _ _ h1
    obtain ⟨g3, g4⟩ := ThE.row ht h2
    rw [e1, e2, thawedL_append, g1, g3]
    refine ⟨rfl, fun b hb => ?_⟩
    rcases List.mem_append.1 hb with hb | hb
    · exact g2 b hb
    · exact g4 b hb
theorem ThE.sl {α : Type} {E : El α} (ht : ThE E) {M : DMem} {d : DV} {xs : List α} {S : List Nat} (h : SlAt E M d xs S) : thawed d = true ∧ ∀ b ∈ S, ∀ B, M b = some B → thawedL B.cs = true := by
  obtain ⟨rfl, rfl, rfl⟩ | ⟨b, c, ty, cs, S', rfl, hM, hr, rfl, _⟩ := h
  · exact ⟨rfl, fun b hb => by simp at hb⟩
  · obtain ⟨g1, g2⟩ := ht.row hr
    refine ⟨rfl, fun x hx B hB => ?_⟩
    rcases List.mem_cons.1 hx with rfl | hx
    · rw [hM] at hB; cases hB; exact g1
    · exact g2 x hx B hB
theorem intE_th : ThE intE := by rintro M x cs S ⟨rfl, rfl⟩; exact ⟨rfl, fun b hb => by simp at hb⟩
theorem srcE_th : ThE srcE := by rintro M x cs S ⟨rfl, rfl⟩; exact ⟨rfl, fun b hb => by simp at hb⟩
theorem partE_th : ThE partE := by
  rintro M x cs S ⟨d1, d2, S1, S2, rfl, h1, h2, rfl⟩
  obtain ⟨a1, a2⟩ := srcE_th.sl h1
  obtain ⟨b1, b2⟩ := srcE_th.sl h2
  refine ⟨by simp only [thawedL, a1, b1] <;> rfl, fun b hb => ?_⟩
  rcases List.mem_append.1 hb with hb | hb
  · exact a2 b hb
  · exact b2 b hb
theorem metaE_th : ThE metaE := by
  rintro M x cs S ⟨d, rfl, h⟩
  obtain ⟨a1, a2⟩ := partE_th.sl h
  exact ⟨by simp only [thawedL, a1] <;> rfl, a2⟩
theorem irE_th : ThE irE := by
  rintro M x cs S ⟨d, rfl, h⟩
  obtain ⟨a1, a2⟩ := intE_th.sl h
  exact ⟨by simp only [thawedL, a1] <;> rfl, a2⟩
theorem pt_only {M : DMem} {S : List Nat} {d0 d : DV} (h1 : thawed d0 = true) (h2 : ∀ b ∈ S, ∀ B, M b = some B → thawedL B.cs = true) (h3 : fz (DMem.only M S) 4 d0 = d) : ∃ M2, SubD M2 M ∧ Thaw d0 M2 ∧ ∀ m v, Rep m (fz M2 4 d0) v → Rep m d v := by
  refine ⟨DMem.only M S, DMem.only_sub M S, ⟨h1, fun b B hb => ?_⟩, fun m v hv => by rw [← h3]; exact hv⟩
  unfold DMem.only at hb
  split at hb
  · rename_i hm; exact h2 b hm B hb
  · cases hb
theorem SlAt.only {α : Type} {E : El α} (hE : E.Ok) {M : DMem} {d : DV} {xs : List α} {S T : List Nat} (h : SlAt E M d xs S) (hs : ∀ b ∈ S, b ∈ T) : SlAt E (DMem.only M T) d xs S := h.frame hE fun b hb => DMem.only_in (hs b hb)
end Go.Proofs.YticlgdhhnjpkjaaGreatDoor.Pf
namespace Go.Proofs.YticlgdhhnjpkjaaGreatDoor.Pf
open Go Go.RowKit Go.Proofs Go.Proofs.YticlgdhhnjpkjaaGreatDoor.Mw Go.Proofs.YticlgdhhnjpkjaaGreatDoor.Sx
set_option linter.unusedVariables false
set_option linter.unusedSimpArgs false
set_option maxRecDepth 8000
def irD (k r a b kk pc : Int) (d : DV) : List DV := [.int .i64 k, .int .i64 r, .int .i64 a, .int .i64 b, .int .i64 kk, d, .int .i64 1, .int .i64 0, .int .i64 pc]
theorem st9 {M : DMem} {q i : Nat} {v : Int} {cs : List DV} {Post : DV → DMem → Prop} (h : M q = some ⟨50, 9, cs⟩) (hl : cs.length = 9) (hi : i < 9)
    (hP : ∀ M', M' q = some ⟨50, 9, cs.set i (.int .i64 v)⟩ → (∀ x, x ≠ q → M' x = M x) → Post (.raw undef) M') : StoreD M 1 (.mp q i) (.int .i64 v) Post := by
  refine stD h rfl rfl (by omega) (by omega) rfl fun M' hM' => hP M' ?_ fun x hx => by rw [hM', DMem.ins_ne _ _ hx]
  rw [hM', DMem.ins_same, splD_one (by omega)]
end Go.Proofs.YticlgdhhnjpkjaaGreatDoor.Pf
namespace Go.Proofs.YticlgdhhnjpkjaaGreatDoor.Pf
open Go Go.RowKit Go.Proofs Go.Proofs.YticlgdhhnjpkjaaGreatDoor.Mw Go.Proofs.YticlgdhhnjpkjaaGreatDoor.Sx
set_option linter.unusedVariables false
set_option linter.unusedSimpArgs false
set_option maxRecDepth 8000
def WrAt (M : DMem) (wb : Nat) (fn regs : Int) (w : Low) (S : List Nat) : Prop :=
  ∃ dc dm sb Sc Sm, M wb = some ⟨99, 5, [.int .i64 fn, .int .i64 regs, dc, dm, .msl sb 0 w.starts.length w.starts.length]⟩ ∧ SlAt irE M dc w.code Sc ∧ SlAt metaE M dm w.metas Sm ∧
    M sb = some ⟨3, w.starts.length, w.starts.map (.int .i64)⟩ ∧ S = wb :: sb :: (Sc ++ Sm) ∧ S.Nodup
theorem Write_pc {M : DMem} (fn regs : Int) (n : Nat) (hn : n ≤ 1000) {R : DV → DMem → Prop}
    (hR : ∀ wb M' S, WrAt M' wb fn regs ⟨[], [], List.replicate n 0⟩ S → (∀ x ∈ S, M x = none) → SubD M M' → R (.mp wb 0) M') : PC Tryz.prog F_ir_Write [.int .i64 fn, .int .i64 regs, .int .i64 n] R M := by
  refine pc_ir_Write (by simp) ?_
  simp only [S_ir_Write, R_ir_Write, MU_ir_Write, SW, SV, wpD, evDL, evDM, evD, bldLD, wpSp, DMem.mt, beq_self_eq_true, seval]
  refine mkI (by omega) fun sb M1 hsb hM1 => ?_
  simp only [SW, SV, wpD, evDL, evDM, evD, bldLD, wpSp, DMem.mt, beq_self_eq_true, seval]
  intro wb M2 hwb hM2
  have hsw : sb ≠ wb := by rintro rfl; rw [hM1, DMem.ins_same] at hwb; cases hwb
  have hwM : M wb = none := by rw [hM1, DMem.ins_ne _ _ (Ne.symm hsw)] at hwb; exact hwb
  try simp only [SW, SV, wpD, evDL, evDM, evD, bldLD, wpSp, DMem.mt, beq_self_eq_true, seval]
  refine hR wb M2 [wb, sb] ⟨.zsl, .zsl, sb, [], [], ?_, SlAt.nil, SlAt.nil, ?_, rfl, ?_⟩ (fun x hx => ?_) fun x B hB => ?_
  · rw [hM2, DMem.ins_same]; simp
  · rw [hM2, DMem.ins_ne _ _ hsw, hM1, DMem.ins_same]; simp
  · simp; exact Ne.symm hsw
  · rcases List.mem_cons.1 hx with rfl | hx
    · exact hwM
    · simp at hx; subst hx; exact hsb
  · have e1 : x ≠ wb := by rintro rfl; rw [hwM] at hB; cases hB
    have e2 : x ≠ sb := by rintro rfl; rw [hsb] at hB; cases hB
    rw [hM2, DMem.ins_ne _ _ e1, hM1, DMem.ins_ne _ _ e2]; exact hB
theorem At_pc {M : DMem} {wb : Nat} {fn regs : Int} {w : Low} {S : List Nat} (h : WrAt M wb fn regs w S) (pc : Nat) (hp : pc < w.starts.length) {R : DV → DMem → Prop}
    (hR : ∀ M', WrAt M' wb fn regs ⟨w.code, w.metas, w.starts.set pc w.code.length⟩ S → (∀ x, x ∉ S → M' x = M x) → R (.tup []) M') : PC Tryz.prog F_ir_Writer_At [.mp wb 0, .int .i64 pc] R M := by
  obtain ⟨dc, dm, sb, Sc, Sm, hM, hc, hm, hs, rfl, hnd⟩ := h
  refine pc_ir_Writer_At (by simp) ?_
  simp only [S_ir_Writer_At, raw0_ir_Writer_At, P0_ir_Writer_At, R_ir_Writer_At, MU_ir_Writer_At, hM, hc.lenD, ixM hp, SW, SV, wpD, evDL, evDM, evD, bldLD, wpSp, DMem.mt, beq_self_eq_true, seval]
  refine stI hs hp (Nat.le_refl _) fun M' hM' => ?_
  try simp only [SW, SV, wpD, evDL, evDM, evD, bldLD, wpSp, DMem.mt, beq_self_eq_true, seval]
  have hnd' := List.nodup_cons.1 hnd
  have hnd2 := List.nodup_cons.1 hnd'.2
  have hws : wb ≠ sb := by rintro rfl; exact hnd'.1 (by simp)
  refine hR M' ⟨dc, dm, sb, Sc, Sm, ?_, ?_, ?_, ?_, rfl, hnd⟩ fun x hx => ?_
  · rw [hM', DMem.ins_ne _ _ hws, List.length_set]; exact hM
  · exact hc.frame irE_ok fun b hb => by rw [hM', DMem.ins_ne _ _ (by rintro rfl; exact hnd2.1 (by simp [hb]))]
  · exact hm.frame metaE_ok fun b hb => by rw [hM', DMem.ins_ne _ _ (by rintro rfl; exact hnd2.1 (by simp [hb]))]
  · rw [hM', DMem.ins_same, List.length_set]
  · rw [hM', DMem.ins_ne _ _ (by rintro rfl; exact hx (by simp))]
theorem Put_pc {M : DMem} {wb : Nat} {fn regs : Int} {w : Low} {S : List Nat} (h : WrAt M wb fn regs w S) (x : Irc) (hl : w.code.length ≤ 100000) (hx : x.args.length ≤ 100000) {R : DV → DMem → Prop}
    (hR : ∀ M' S', WrAt M' wb fn regs ⟨w.code ++ [x], w.metas, w.starts⟩ S' → (∀ y B, y ∉ S → M y = some B → M' y = some B) → (∀ y ∈ S', y ∈ S ∨ M y = none) → R (.tup []) M') : PC Tryz.prog F_ir_Writer_Put [.mp wb 0, .agg x.c] R M := by
  obtain ⟨dc, dm, sb, Sc, Sm, hM, hc, hm, hs, rfl, hnd⟩ := h
  refine pc_ir_Writer_Put (by simp) ?_
  simp only [S_ir_Writer_Put, R_ir_Writer_Put, MU_ir_Writer_Put, SW, SV, wpD, evDL, evDM, evD, bldLD, wpSp, DMem.mt, beq_self_eq_true, seval]
  intro q M1 hq hM1
  have hqw : q ≠ wb := by rintro rfl; rw [hM] at hq; cases hq
  have hqs : q ≠ sb := by rintro rfl; rw [hs] at hq; cases hq
  have hqc : q ∉ Sc := fun hh => hc.here irE_ok q hh hq
  have hqm : q ∉ Sm := fun hh => hm.here metaE_ok q hh hq
  have hq1 : M1 q = some ⟨50, 9, x.c⟩ := by rw [hM1, DMem.ins_same]
  have k1 : ∀ y B, M y = some B → M1 y = some B := fun y B hB => by rw [hM1, DMem.ins_ne _ _ (by rintro rfl; rw [hq] at hB; cases hB)]; exact hB
  simp only [hq1, SW, SV, wpD, evDL, evDM, evD, bldLD, wpSp, DMem.mt, beq_self_eq_true, seval]
  refine CloneI_pc x.args (by omega) fun d M2 T hd hT fT k2 => ?_
  have hq2 := k2 q _ hq1
  simp only [S1_ir_Writer_Put, MU_ir_Writer_Put, SW, SV, wpD, evDL, evDM, evD, bldLD, wpSp, DMem.mt, beq_self_eq_true, seval]
  refine stD hq2 (hd.cell) rfl (by simp) (by simp) (by simp only [List.all_cons, List.all_nil, hd.plain] <;> rfl) fun M3 hM3 => ?_
  have hqT : q ∉ T := fun hh => by have := fT q hh; rw [hq1] at this; cases this
  have hd3 : SlAt intE M3 d x.args T := hd.frame intE_ok fun b hb => by rw [hM3, DMem.ins_ne _ _ (by rintro rfl; exact hqT hb)]
  have hq3 : M3 q = some ⟨50, 9, [.int .i64 x.kind, .int .i64 x.r, .int .i64 x.a, .int .i64 x.b, .int .i64 x.k, d, .int .i64 x.cost, .int .i64 x.mt, .int .i64 x.pc]⟩ := by rw [hM3, DMem.ins_same] <;> rfl
  have k3 : ∀ y B, M y = some B → M3 y = some B := fun y B hB => by rw [hM3, DMem.ins_ne _ _ (by rintro rfl; rw [hq] at hB; cases hB)]; exact k2 y B (k1 y B hB)
  have fT' : ∀ y ∈ T, M y = none := fun y hy => by
    cases e : M y with
    | none => rfl
    | some B => have := k1 y B e; rw [fT y hy] at this; cases this
  have hc3 : SlAt irE M3 dc w.code Sc := hc.sub irE_ok k3
  have hm3 : SlAt metaE M3 dm w.metas Sm := hm.sub metaE_ok k3
  have hM3w := k3 wb _ hM
  have hM3s := k3 sb _ hs
  clear hM3 hM1 hq1 hq2 hd k2 fT
  simp only [raw0_ir_Writer_Put, P0_ir_Writer_Put, MU_ir_Writer_Put, hM3w, hq3, ldnM, freshI, List.map_cons, List.map_nil, SW, SV, wpD, evDL, evDM, evD, bldLD, wpSp, DMem.mt, beq_self_eq_true, seval]
  have hnd1 := List.nodup_cons.1 hnd
  have hnd2 := List.nodup_cons.1 hnd1.2
  obtain ⟨hnc, hnm, hdis⟩ := List.nodup_append.1 hnd2.2
  have hne : ∀ y ∈ Sc, M y ≠ none := fun y hy => hc.here irE_ok y hy
  refine hc3.app irE_ok hnc (k := 1) (bytes := 88) (ys := [x]) (ds := [.int .i64 x.kind, .int .i64 x.r, .int .i64 x.a, .int .i64 x.b, .int .i64 x.k, d, .int .i64 x.cost, .int .i64 x.mt, .int .i64 x.pc]) (T := T) (RowAt.one ⟨d, rfl, hd3⟩) (fun y hy hh => hne y hh (fT' y hy)) rfl (by omega) (by omega) fun dc' M4 Sc' hc4 k4 hS4 hnd4 => ?_
  have hwS : wb ∉ Sc := fun hh => hnd1.1 (by simp [hh])
  have hsS : sb ∉ Sc := fun hh => hnd2.1 (by simp [hh])
  have hM4w := k4 wb _ hM3w hwS
  try simp only [hM4w, SW, SV, wpD, evDL, evDM, evD, bldLD, wpSp, DMem.mt, beq_self_eq_true, seval]
  refine stD hM4w (hc4.cell) rfl (by simp) (by simp) (by simp only [List.all_cons, List.all_nil, hc4.plain] <;> rfl) fun M5 hM5 => ?_
  have hwT : wb ∉ T := fun hh => by have := fT' wb hh; rw [hM] at this; cases this
  have hsT : sb ∉ T := fun hh => by have := fT' sb hh; rw [hs] at this; cases this
  have hws : wb ≠ sb := by rintro rfl; exact hnd1.1 (by simp)
  have inS : ∀ y ∈ Sc', y ∈ Sc ∨ M y = none := fun y hy => by
    rcases hS4 y hy with h | h | h
    · exact .inl h
    · exact .inr (fT' y h)
    · right
      cases e : M y with
      | none => rfl
      | some B => have := k3 y B e; rw [h] at this; cases this
  have hwS' : wb ∉ Sc' := fun hh => by
    rcases inS wb hh with h | h
    · exact hwS h
    · rw [hM] at h; cases h
  have hsS' : sb ∉ Sc' := fun hh => by
    rcases inS sb hh with h | h
    · exact hsS h
    · rw [hs] at h; cases h
  have hwm : wb ∉ Sm := fun hh => hnd1.1 (by simp [hh])
  have hsm : sb ∉ Sm := fun hh => hnd2.1 (by simp [hh])
  have hmc : ∀ y ∈ Sm, y ∉ Sc := fun y hy hh => hdis y hh y hy rfl
  have hmc' : ∀ y ∈ Sm, y ∉ Sc' := fun y hy hh => by
    rcases inS y hh with h | h
    · exact hmc y hy h
    · exact hm.here metaE_ok y hy h
  try simp only [SW, SV, wpD, evDL, evDM, evD, bldLD, wpSp, DMem.mt, beq_self_eq_true, seval]
  refine hR M5 (wb :: sb :: (Sc' ++ Sm)) ⟨dc', dm, sb, Sc', Sm, by rw [hM5, DMem.ins_same] <;> rfl, ?_, ?_, ?_, rfl, ?_⟩ (fun y B hy hB => ?_) fun y hy => ?_
  · exact hc4.frame irE_ok fun b hb => by rw [hM5, DMem.ins_ne _ _ (by rintro rfl; exact hwS' hb)]
  · exact hm3.frame metaE_ok fun b hb => by
      obtain ⟨B, hB⟩ := Option.ne_none_iff_exists'.1 (hm3.here metaE_ok b hb)
      rw [hM5, DMem.ins_ne _ _ (by rintro rfl; exact hwm hb), hB, k4 b B hB (hmc b hb)]
  · rw [hM5, DMem.ins_ne _ _ (Ne.symm hws)]; exact k4 sb _ hM3s hsS
  · refine List.nodup_cons.2 ⟨?_, List.nodup_cons.2 ⟨?_, List.nodup_append.2 ⟨hnd4 hT, hnm, fun y hy z hz e => hmc' z hz (e ▸ hy)⟩⟩⟩
    · simp [hws, hwS', hwm]
    · simp [hsS', hsm]
  · simp only [List.mem_cons, List.mem_append, not_or] at hy
    rw [hM5, DMem.ins_ne _ _ hy.1]
    exact k4 y B (k3 y B hB) hy.2.2.1
  · simp only [List.mem_cons, List.mem_append] at hy ⊢
    rcases hy with h | h | h | h
    · exact .inl (.inl h)
    · exact .inl (.inr (.inl h))
    · rcases inS y h with h | h
      · exact .inl (.inr (.inr (.inl h)))
      · exact .inr h
    · exact .inl (.inr (.inr (.inr h)))
end Go.Proofs.YticlgdhhnjpkjaaGreatDoor.Pf
namespace Go.Proofs.YticlgdhhnjpkjaaGreatDoor.Pf
open Go Go.RowKit Go.Proofs Go.Proofs.YticlgdhhnjpkjaaGreatDoor.Mw Go.Proofs.YticlgdhhnjpkjaaGreatDoor.Sx
set_option linter.unusedVariables false
set_option linter.unusedSimpArgs false
set_option maxRecDepth 8000
theorem part_drop (l : List Part) {i : Nat} (h : i < l.length) : (l.drop i).flatMap Part.c = [.int .i64 l[i].fn, .int .i64 l[i].pc, slD Src.c l[i].locals, slD Src.c l[i].stack] ++ (l.drop (i + 1)).flatMap Part.c := by
  rw [List.drop_eq_getElem_cons h, List.flatMap_cons]
def SizeM (l : List Part) : Prop := l.length * 64 ≤ 140737488355328 ∧ ∀ x ∈ l, x.locals.length * 16 ≤ 140737488355328 ∧ x.stack.length * 16 ≤ 140737488355328
structure ClP (M : DMem) (d0 : DV) (l : List Part) : Prop where
  plain : plainD d0 = true
  cell : cellsD d0 = some [d0]
  cl : ∀ {M' : DMem}, SubD M M' → ∀ {R : DV → DMem → Prop}, (∀ d M'' S, SlAt partF M'' d l S → S.Nodup → (∀ x ∈ S, M' x = none) → SubD M' M'' → R d M'') → PC Tryz.prog F_slices_Clone_api_Part_api_Part [d0] R M'
theorem ClP.isl {M : DMem} {l : List Part} (hl : l.length * 64 ≤ 140737488355328) : ClP M (slD Part.c l) l := ⟨rfl, rfl, fun _ _ h => CloneP_pc l hl h⟩
theorem ClP.one {M : DMem} {b : Nat} {ty : TypeId} {x : Part} (hM : M b = some ⟨ty, 4, x.c⟩) : ClP M (.msl b 0 1 1) [x] := by
  refine ⟨rfl, rfl, fun {M'} hs {R} hR => ?_⟩
  have hb := hs b _ hM
  refine pc_slices_Clone_api_Part_api_Part (by simp) ?_
  have he : eqzD false (.msl b 0 1 1) = some (.bool false) := rfl
  simp only [S_slices_Clone_api_Part_api_Part, R_slices_Clone_api_Part_api_Part, MU_slices_Clone_api_Part_api_Part, MU_slices_Clone_api_Part_api_Part, he, SW, SV, wpD, evDL, evDM, evD, bldLD, wpSp, DMem.mt, beq_self_eq_true, seval]
  have h := (SlAt.nil (E := partF) (M := M')).app partF_ok List.nodup_nil (e := 69) (bytes := 64) (ys := [x]) (ds := x.c) (T := []) (k := 1) (RowAt.one ⟨rfl, rfl⟩) (fun x hx => by simp at hx) rfl (by simp) (by simp) (Post := R) fun d' M' S' h1 h2 h3 h4 => hR d' M' S' (by simpa using h1) (h4 List.nodup_nil) (fun x hx => by
      rcases h3 x hx with h | h | h
      · simp at h
      · simp at h
      · exact h) fun b B hB => h2 b B hB (by simp)
  obtain ⟨k, news, hr, h'⟩ := h
  refine ⟨k, news, ?_, h'⟩
  obtain ⟨h1, h2, h3, h4⟩ := hr
  subst h1
  exact ⟨rfl, _, hb, by simp, by rw [h4] <;> rfl⟩
theorem CopyMeta_pc {M : DMem} {d0 : DV} (l : List Part) (hl : SizeM l) (hC : ClP M d0 l) {R : DV → DMem → Prop}
    (hR : ∀ d M' S, SlAt partE M' d l S → S.Nodup → (∀ x ∈ S, M x = none) → SubD M M' → R (.agg [d]) M') : PC Tryz.prog F_ir_CopyMeta [.agg [d0]] R M := by
  refine pc_ir_CopyMeta (by simp) ?_
  simp only [S_ir_CopyMeta, R_ir_CopyMeta, MU_ir_CopyMeta, SW, SV, wpD, evDL, evDM, evD, bldLD, wpSp, DMem.mt, beq_self_eq_true, seval]
  intro o M1 ho hM1
  try simp only [SW, SV, wpD, evDL, evDM, evD, bldLD, wpSp, DMem.mt, beq_self_eq_true, seval]
  intro r M2 hr hM2
  have hor : o ≠ r := by rintro rfl; rw [hM1, DMem.ins_same] at hr; cases hr
  have ho2 : M2 o = some ⟨79, 1, [d0]⟩ := by rw [hM2, DMem.ins_ne _ _ hor, hM1, DMem.ins_same]
  have hr2 : M2 r = some ⟨79, 1, [.zsl]⟩ := by rw [hM2, DMem.ins_same]
  have hoM : M o = none := ho
  have hrM : M r = none := by rw [hM1, DMem.ins_ne _ _ (Ne.symm hor)] at hr; exact hr
  have k2 : ∀ x B, M x = some B → M2 x = some B := fun x B hB => by
    rw [hM2, DMem.ins_ne _ _ (by rintro rfl; rw [hrM] at hB; cases hB), hM1, DMem.ins_ne _ _ (by rintro rfl; rw [hoM] at hB; cases hB)]; exact hB
  clear hM1 hM2 ho hr
  simp only [ho2, SW, SV, wpD, evDL, evDM, evD, bldLD, wpSp, DMem.mt, beq_self_eq_true, seval]
  refine hC.cl k2 fun d M3 S0 hd nd0 f0 k3 => ?_
  have ho3 := k3 o _ ho2
  have hr3 := k3 r _ hr2
  simp only [S3_ir_CopyMeta, MU_ir_CopyMeta, SW, SV, wpD, evDL, evDM, evD, bldLD, wpSp, DMem.mt, beq_self_eq_true, seval]
  refine stD ho3 (hd.cell) rfl (by simp) (by simp) (by simp only [List.all_cons, List.all_nil, hd.plain] <;> rfl) fun M4 hM4 => ?_
  have ho4 : M4 o = some ⟨79, 1, [d]⟩ := by rw [hM4, DMem.ins_same] <;> rfl
  have hr4 : M4 r = some ⟨79, 1, [.zsl]⟩ := by rw [hM4, DMem.ins_ne _ _ (Ne.symm hor)]; exact hr3
  have hoS0 : o ∉ S0 := fun hh => by have := f0 o hh; rw [ho2] at this; cases this
  have hrS0 : r ∉ S0 := fun hh => by have := f0 r hh; rw [hr2] at this; cases this
  have hd4 : SlAt partF M4 d l S0 := hd.frame partF_ok fun b hb => by rw [hM4, DMem.ins_ne _ _ (by rintro rfl; exact hoS0 hb)]
  have k4 : ∀ x B, M x = some B → M4 x = some B := fun x B hB => by rw [hM4, DMem.ins_ne _ _ (by rintro rfl; rw [hoM] at hB; cases hB)]; exact k3 x B (k2 x B hB)
  have fM : ∀ x ∈ S0, M x = none := fun x hx => by
    cases e : M x with
    | none => rfl
    | some B => have := k2 x B e; rw [f0 x hx] at this; cases this
  clear hM4 ho3 hr3 hd f0 k3 k2
  simp only [ho4, hd4.lenD, SW, SV, wpD, evDL, evDM, evD, bldLD, wpSp, DMem.mt, beq_self_eq_true, seval]
  rcases Nat.eq_zero_or_pos l.length with h0 | h0
  · have hl0 : l = [] := List.eq_nil_of_length_eq_zero h0
    subst hl0
    have hdE : SlAt partE M4 d [] S0 := by
      rcases hd4 with ⟨h, h1, h2⟩ | ⟨b, c, ty, cs, S', h, h1, h2, h3, h4, h5⟩
      · exact .inl ⟨h, h1, h2⟩
      · exact .inr ⟨b, c, ty, cs, S', h, h1, h2, h3, h4, h5⟩
    refine ⟨fun n δ M' => n = 0 ∧ δ 1 = .mp o 0 ∧ δ 2 = .mp r 0 ∧ δ 10 = .int .i64 0 ∧ δ 11 = .int .i64 0 ∧ M' = M4, 0, ⟨rfl, rfl, rfl, rfl, rfl, rfl⟩, ?_⟩
    rintro n δ M' ⟨rfl, h1, h2, h10, h11, rfl⟩
    simp only [S1_ir_CopyMeta, S2_ir_CopyMeta, MU_ir_CopyMeta, h1, h2, h10, h11, ho4, hr4, SW, SV, wpD, evDL, evDM, evD, bldLD, wpSp, DMem.mt, beq_self_eq_true, seval]
    have hrC : cellsD (.agg [d]) = some [d] := rfl
    refine stD hr4 hrC rfl (by simp) (by simp) (by simp only [List.all_cons, List.all_nil, hd4.plain] <;> rfl) fun M9 hM9 => ?_
    have hM9r : M9 r = some ⟨79, 1, [d]⟩ := by rw [hM9, DMem.ins_same] <;> rfl
    have n9 : ∀ x, x ≠ r → M9 x = M' x := fun x hx => by rw [hM9, DMem.ins_ne _ _ hx]
    refine ⟨_, by rw [hM9r] <;> rfl, hR _ M9 S0 (hdE.frame partE_ok fun x hx => n9 x (by rintro rfl; exact hrS0 hx)) nd0 fM ?_⟩
    intro x B hB
    rw [n9 x (by rintro rfl; rw [hrM] at hB; cases hB)]
    exact k4 x B hB
  · obtain ⟨b, c, ty, cs, S', hdb, hMb, hrow, hSe, hcl⟩ := hd4.at h0
    obtain ⟨rfl, rfl⟩ := RowAt.flat_eq hrow
    subst hdb; subst hSe
    refine ⟨fun n δ M' => ∃ (i : Nat) (c1 : List DV) (S1 : List Nat), i ≤ l.length ∧ n = l.length - i ∧ δ 1 = .mp o 0 ∧ δ 2 = .mp r 0 ∧ δ 10 = .int .i64 l.length ∧ δ 11 = .int .i64 i ∧
      M' o = some ⟨79, 1, [.msl b 0 l.length c]⟩ ∧ M' r = some ⟨79, 1, [.zsl]⟩ ∧ M' b = some ⟨ty, c * 4, c1 ++ (l.drop i).flatMap Part.c⟩ ∧ RowAt partE M' (l.take i) c1 S1 ∧ S1.Nodup ∧ (∀ x ∈ S1, M4 x = none) ∧ SubD M M' ∧ (∀ x, M' x = none → M4 x = none), l.length,
      ⟨0, [], [], Nat.zero_le _, rfl, rfl, rfl, rfl, rfl, ho4, hr4, hMb, RowAt.nil, List.nodup_nil, fun x hx => by simp at hx, k4, fun x h => h⟩, ?_⟩
    rintro n δ M' ⟨i, c1, S1, hi, rfl, h1, h2, h10, h11, hMo, hMr, hMb', hr1, nd1, f1, hsub, z1⟩
    simp only [S1_ir_CopyMeta, MU_ir_CopyMeta, raw0_ir_CopyMeta, P0_ir_CopyMeta, h1, h2, h10, h11, hMo, SW, SV, wpD, evDL, evDM, evD, bldLD, wpSp, DMem.mt, beq_self_eq_true, seval, decide_eq_true_eq, decide_eq_false_iff_not]
    refine ⟨fun hlt => ?_, fun hge => ?_⟩
    · have hil : i < l.length := by omega
      have hlc : c1.length = i * 4 := by have := hr1.len partE_ok; rw [List.length_take, Nat.min_eq_left hi] at this; exact this
      rw [part_drop l hil, ← List.append_assoc] at hMb'
      have ge : ∀ {off : Nat} {v : DV} {cx : List DV} {K : DMem}, K b = some ⟨ty, c * 4, c1 ++ cx ++ (l.drop (i + 1)).flatMap Part.c⟩ → off < cx.length → cx[off]? = some v → ldD K (.mp b (0 + i * 4 + off)) = some v := fun {off v cx K} h1 h2 h3 => by
        rw [ldM, h1]; show (c1 ++ cx ++ _)[0 + i * 4 + off]? = _; rw [Nat.zero_add, get_field hlc h2]; exact h3
      refine ⟨_, ixM hil, _, rfl, _, ge hMb' (by simp) rfl, _, ixM hil, _, rfl, _, ge hMb' (by simp) rfl, ixM hil, rfl, ge hMb' (by simp) rfl, ixM hil, rfl, ge hMb' (by simp) rfl, CloneS_pc _ (hl.2 _ (List.getElem_mem hil)).1 fun dA M5 SA hA ndA fA kA => ?_⟩
      have hMo5 := kA o _ hMo
      have hMr5 := kA r _ hMr
      have hMb5 := kA b _ hMb'
      refine ⟨by rw [hMo5] <;> rfl, by rw [hMo5] <;> rfl, by rw [hMo5] <;> rfl, ixM hil, rfl, ge hMb5 (by simp) rfl, CloneS_pc _ (hl.2 _ (List.getElem_mem hil)).2 fun dB M6 SB hB ndB fB kB => ?_⟩
      have hMo6 := kB o _ hMo5
      have hMr6 := kB r _ hMr5
      have hMb6 := kB b _ hMb5
      refine ⟨_, ixM hil, _, rfl, by rw [hMo6] <;> rfl, by rw [hMo6] <;> rfl, ixM hil, rfl, ?_⟩
      have hbo : b ≠ o := by rintro rfl; exact hoS0 (by simp)
      have hbr : b ≠ r := by rintro rfl; exact hrS0 (by simp)
      refine stD hMb6 hA.cell rfl (by simp [hlc]) (by omega) (by simp only [List.all_cons, List.all_nil, hA.plain] <;> rfl) fun M7 hM7 => ?_
      rw [Nat.zero_add, splD_field hlc (by simp)] at hM7
      have hMb7 : M7 b = some ⟨ty, c * 4, c1 ++ [.int .i64 l[i].fn, .int .i64 l[i].pc, dA, slD Src.c l[i].stack] ++ (l.drop (i + 1)).flatMap Part.c⟩ := by rw [hM7, DMem.ins_same] <;> rfl
      have n7 : ∀ x, x ≠ b → M7 x = M6 x := fun x hx => by rw [hM7, DMem.ins_ne _ _ hx]
      refine ⟨_, ixM hil, _, rfl, by rw [n7 o (Ne.symm hbo), hMo6] <;> rfl, ixM hil, rfl, ?_⟩
      refine stD hMb7 hB.cell rfl (by simp [hlc]) (by omega) (by simp only [List.all_cons, List.all_nil, hB.plain] <;> rfl) fun M8 hM8 => ?_
      rw [Nat.zero_add, splD_field hlc (by simp)] at hM8
      have hMb8 : M8 b = some ⟨ty, c * 4, c1 ++ [.int .i64 l[i].fn, .int .i64 l[i].pc, dA, dB] ++ (l.drop (i + 1)).flatMap Part.c⟩ := by rw [hM8, DMem.ins_same] <;> rfl
      have n8 : ∀ x, x ≠ b → M8 x = M6 x := fun x hx => by rw [hM8, DMem.ins_ne _ _ hx, n7 x hx]
      clear hM7 hM8 hMb7 n7
      have bA : b ∉ SA := fun hh => by have := fA b hh; rw [hMb'] at this; cases this
      have bB : b ∉ SB := fun hh => by have := fB b hh; rw [hMb5] at this; cases this
      have b1 : b ∉ S1 := fun hh => by have := f1 b hh; rw [hMb] at this; cases this
      have hA6 : SlAt srcE M6 dA l[i].locals SA := hA.sub srcE_ok kB
      have hr6 : RowAt partE M6 (l.take i) c1 S1 := hr1.frame partE_ok fun x hx => by
        cases e : M' x with
        | none => exact absurd e (hr1.here partE_ok x hx)
        | some B => exact kB x B (kA x B e)
      have sA : ∀ x ∈ S1, x ∉ SA := fun x hx hh => hr1.here partE_ok x hx (fA x hh)
      have sB : ∀ x ∈ S1, x ∉ SB := fun x hx hh => by
        cases e : M' x with
        | none => exact hr1.here partE_ok x hx e
        | some B => have := kA x B e; rw [fB x hh] at this; cases this
      have sAB : ∀ x ∈ SA, x ∉ SB := fun x hx hh => hA.here srcE_ok x hx (fB x hh)
      have kM : SubD M M6 := fun x B h => kB x B (kA x B (hsub x B h))
      refine ⟨l.length - (i + 1), M8, by omega, SubD.refl _, i + 1, c1 ++ [.int .i64 l[i].fn, .int .i64 l[i].pc, dA, dB], S1 ++ (SA ++ SB), by omega, rfl, w64s (by have := hl.1; omega), by rw [n8 o (Ne.symm hbo), hMo6], by rw [n8 r (Ne.symm hbr), hMr6], hMb8, ?_, ?_, ?_, ?_, ?_⟩
      · rw [show l.take (i + 1) = l.take i ++ [l[i]] by rw [List.take_succ_eq_append_getElem hil]]
        refine RowAt.append (hr6.frame partE_ok fun x hx => n8 x (by rintro rfl; exact b1 hx)) (RowAt.one ⟨dA, dB, SA, SB, rfl, ?_, ?_, rfl⟩)
        · exact hA6.frame srcE_ok fun x hx => n8 x (by rintro rfl; exact bA hx)
        · exact hB.frame srcE_ok fun x hx => n8 x (by rintro rfl; exact bB hx)
      · refine List.nodup_append.2 ⟨nd1, List.nodup_append.2 ⟨ndA, ndB, fun x hx y hy e => sAB x hx (e ▸ hy)⟩, fun x hx y hy e => ?_⟩
        subst e
        rcases List.mem_append.1 hy with h | h
        · exact sA x hx h
        · exact sB x hx h
      · intro x hx
        rcases List.mem_append.1 hx with h | h
        · exact f1 x h
        rcases List.mem_append.1 h with h | h
        · exact z1 x (fA x h)
        · refine z1 x ?_
          cases e : M' x with
          | none => rfl
          | some B => have := kA x B e; rw [fB x h] at this; cases this
      · intro x B hB
        rw [n8 x (by rintro rfl; rw [fM x (by simp)] at hB; cases hB)]
        exact kM x B hB
      · intro x hx
        by_cases hxb : x = b
        · subst hxb; rw [hMb8] at hx; cases hx
        · rw [n8 x hxb] at hx
          refine z1 x ?_
          cases e : M' x with
          | none => rfl
          | some B => have := kB x B (kA x B e); rw [hx] at this; cases this
    · have : i = l.length := by omega
      subst this
      simp only [S2_ir_CopyMeta, h1, h2, hMo, hMr, SW, SV, wpD, evDL, evDM, evD, bldLD, wpSp, DMem.mt, beq_self_eq_true, seval]
      refine stD hMr (cs := [.msl b 0 l.length c]) rfl rfl (by simp) (by simp) rfl fun M9 hM9 => ?_
      have hM9r : M9 r = some ⟨79, 1, [.msl b 0 l.length c]⟩ := by rw [hM9, DMem.ins_same] <;> rfl
      have n9 : ∀ x, x ≠ r → M9 x = M' x := fun x hx => by rw [hM9, DMem.ins_ne _ _ hx]
      refine ⟨_, by rw [hM9r] <;> rfl, hR _ M9 (b :: S1) ?_ ?_ ?_ ?_⟩
      · have hrS1 : r ∉ S1 := fun hh => by have := f1 r hh; rw [hr4] at this; cases this
        have hbr : b ≠ r := by rintro rfl; exact hrS0 (by simp)
        refine .inr ⟨b, c, ty, c1, S1, rfl, by rw [n9 b hbr, hMb', List.drop_length, List.flatMap_nil, List.append_nil] <;> rfl, ?_, rfl, hcl, by omega⟩
        rw [List.take_length] at hr1
        exact hr1.frame partE_ok fun x hx => n9 x (by rintro rfl; exact hrS1 hx)
      · exact List.nodup_cons.2 ⟨fun hh => (by have := f1 b hh; rw [hMb] at this; cases this), nd1⟩
      · intro x hx
        rcases List.mem_cons.1 hx with rfl | h
        · exact fM x (by simp)
        · have := f1 x h
          cases e : M x with
          | none => rfl
          | some B => have h2 := k4 x B e; rw [this] at h2; cases h2
      · intro x B hB
        rw [n9 x (by rintro rfl; rw [hrM] at hB; cases hB)]
        exact hsub x B hB
end Go.Proofs.YticlgdhhnjpkjaaGreatDoor.Pf
namespace Go.Proofs.YticlgdhhnjpkjaaGreatDoor.Pf
open Go Go.RowKit Go.Proofs Go.Proofs.YticlgdhhnjpkjaaGreatDoor.Mw Go.Proofs.YticlgdhhnjpkjaaGreatDoor.Sx
set_option linter.unusedVariables false
set_option linter.unusedSimpArgs false
set_option maxRecDepth 8000
end Go.Proofs.YticlgdhhnjpkjaaGreatDoor.Pf
namespace Go.Proofs.YticlgdhhnjpkjaaGreatDoor.Pf
open Go Go.RowKit Go.Proofs Go.Proofs.YticlgdhhnjpkjaaGreatDoor.Mw Go.Proofs.YticlgdhhnjpkjaaGreatDoor.Sx
set_option linter.unusedVariables false
set_option linter.unusedSimpArgs false
set_option maxRecDepth 8000
theorem Goes_pf (k : Int) : pf Tryz.prog F_ir_Goes [.int .i64 k] = some (.bool (goesB k)) := by
  refine pf_of (v := .bool _) (pc_ir_Goes (by simp) ?_) ((FrozL.nil).cons (Froz.int _ _)) rfl rfl
  simp only [S_ir_Goes, R_ir_Goes, MU_ir_Goes, MU_ir_Goes, SW, SV, wpD, evDL, evDM, evD, bldLD, wpSp, DMem.mt, beq_self_eq_true, seval, goesB]
theorem half_set {α : Type} (f : α → α) (l : List α) {i : Nat} (h : i < l.length) : ((l.take i).map f ++ l.drop i).set i (f l[i]) = (l.take (i + 1)).map f ++ l.drop (i + 1) := by
  have e : ((l.take i).map f).length = i := by rw [List.length_map, List.length_take, Nat.min_eq_left (by omega)]
  rw [List.set_append_right _ _ (by omega), e, Nat.sub_self, List.drop_eq_getElem_cons h, List.set_cons_zero, List.take_succ_eq_append_getElem h, List.map_append]
  simp
theorem half_get {α : Type} (f : α → α) (l : List α) {i : Nat} (h : i < l.length) (h' : i < ((l.take i).map f ++ l.drop i).length) : ((l.take i).map f ++ l.drop i)[i] = l[i] := by
  have e : ((l.take i).map f).length = i := by rw [List.length_map, List.length_take, Nat.min_eq_left (by omega)]
  rw [List.getElem_append_right (by omega)]
  simp only [e, Nat.sub_self, List.getElem_drop, Nat.add_zero]
theorem half_len {α : Type} (f : α → α) (l : List α) {i : Nat} (h : i ≤ l.length) : ((l.take i).map f ++ l.drop i).length = l.length := by
  simp; omega
theorem Done_pc {M : DMem} {wb : Nat} {fn regs : Int} {w : Low} {S : List Nat} (h : WrAt M wb fn regs w S) (hl : w.code.length ≤ 100000) (hlm : w.metas.length ≤ 100000) (hk : ∀ x ∈ w.code, goesB x.kind = true → 0 ≤ x.k ∧ x.k < w.starts.length) {R : DV → DMem → Prop}
    (hR : ∀ dc dm M' Sc Sm, SlAt irE M' dc (w.code.map (placed w.starts)) Sc → SlAt metaE M' dm w.metas Sm → (Sc ++ Sm).Nodup → (∀ y ∈ Sc ++ Sm, y ∈ S) → (∀ y B, y ∉ S → M y = some B → M' y = some B) →
      R (.tup [.agg [.int .i64 fn, .int .i64 regs, dc, dm], .bool (decide (w.code.length ≤ 256) && decide (w.metas.length ≤ 64))]) M') : PC Tryz.prog F_ir_Writer_Done [.mp wb 0] R M := by
  obtain ⟨dc, dm, sb, Sc, Sm, hM, hc, hm, hs, rfl, hnd⟩ := h
  refine pc_ir_Writer_Done (by simp) ?_
  simp only [S_ir_Writer_Done, R_ir_Writer_Done, MU_ir_Writer_Done, SW, SV, wpD, evDL, evDM, evD, bldLD, wpSp, DMem.mt, beq_self_eq_true, seval]
  intro q M1 hq hM1
  have hqM : M q = none := hq
  have hwM := hM
  have hnd1 := List.nodup_cons.1 hnd
  have hnd2 := List.nodup_cons.1 hnd1.2
  obtain ⟨hnc, hnm, hdis⟩ := List.nodup_append.1 hnd2.2
  have hws : wb ≠ sb := by rintro rfl; exact hnd1.1 (by simp)
  have hwc : wb ∉ Sc := fun hh => hnd1.1 (by simp [hh])
  have hsc : sb ∉ Sc := fun hh => hnd2.1 (by simp [hh])
  have k1 : SubD M M1 := fun y B hB => by rw [hM1, DMem.ins_ne _ _ (by rintro rfl; rw [hqM] at hB; cases hB)]; exact hB
  have hq1 : M1 q = some ⟨29, 4, [.int .i64 0, .int .i64 0, .zsl, .zsl]⟩ := by rw [hM1, DMem.ins_same]
  have hM1w := k1 wb _ hM
  have hM1s := k1 sb _ hs
  have hc1 : SlAt irE M1 dc w.code Sc := hc.sub irE_ok k1
  have hqc : q ∉ Sc := fun hh => hc.here irE_ok q hh hqM
  have hqm : q ∉ Sm := fun hh => hm.here metaE_ok q hh hqM
  have hqw : q ≠ wb := by rintro rfl; rw [hM] at hqM; cases hqM
  have hqs : q ≠ sb := by rintro rfl; rw [hs] at hqM; cases hqM
  clear hM1 hq
  simp only [hM1w, hc1.lenD, SW, SV, wpD, evDL, evDM, evD, bldLD, wpSp, DMem.mt, beq_self_eq_true, seval]
  refine ⟨fun n δ M' => ∃ (i : Nat), i ≤ w.code.length ∧ n = w.code.length - i ∧ δ 0 = .mp wb 0 ∧ δ 2 = .mp q 0 ∧ δ 3 = .bool false ∧ δ 11 = .int .i64 w.code.length ∧ δ 12 = .int .i64 i ∧
      SlAt irE M' dc ((w.code.take i).map (placed w.starts) ++ w.code.drop i) Sc ∧ (∀ y, y ∉ Sc → M' y = M1 y), w.code.length,
    ⟨0, Nat.zero_le _, rfl, rfl, rfl, rfl, rfl, rfl, by simpa using hc1, fun y _ => rfl⟩, ?_⟩
  rintro n δ M' ⟨i, hi, rfl, h0, h2, h3, h11, h12, hci, hkeep⟩
  have hMw := (hkeep wb hwc).trans hM1w
  have hMs := (hkeep sb hsc).trans hM1s
  have hMq := (hkeep q hqc).trans hq1
  simp only [S1_ir_Writer_Done, MU_ir_Writer_Done, h0, h2, h11, h12, hMw, SW, SV, wpD, evDL, evDM, evD, bldLD, wpSp, DMem.mt, beq_self_eq_true, seval, decide_eq_true_eq, decide_eq_false_iff_not]
  refine ⟨fun hlt => ?_, fun hge => ?_⟩
  · have hil : i < w.code.length := by omega
    have hlen := half_len (placed w.starts) w.code hi
    have hx := half_get (placed w.starts) w.code hil (by rw [hlen]; exact hil)
    obtain ⟨b, c, ty, c1, cx, c2, S1, Sx, S2, hd, hMb, hl1, hlx, ⟨da, hcx, hda⟩, hSe, hcl, _, hput⟩ := hci.inner irE_ok hnc (i := i) (by rw [hlen]; exact hil)
    rw [hlen] at hd hcl
    rw [hx] at hcx hda
    subst hcx
    have hl1 : c1.length = i * 9 := hl1
    have ge : ∀ {off : Nat} {v : DV} {cx : List DV}, M' b = some ⟨ty, c * 9, c1 ++ cx ++ c2⟩ → off < cx.length → cx[off]? = some v → ldD M' (.mp b (i * 9 + off)) = some v := fun {off v cx} h1 h2 h3 => by
      rw [ldM, h1]; show (c1 ++ cx ++ _)[i * 9 + off]? = _; rw [get_field hl1 h2]; exact h3
    have hix : ixD 9 dc (.int .i64 (i : Int)) = some (.mp b (i * 9)) := by rw [hd, ixM hil, Nat.zero_add]
    have hg0 := ge hMb (off := 0) (by simp) rfl
    have hg4 := ge hMb (off := 4) (by simp) rfl
    have hbS : b ∈ Sc := by rw [hSe]; simp
    simp only [Nat.add_zero] at hg0
    have ei : wr64 ((i : Int) + 1) = ((i + 1 : Nat) : Int) := w64s (by omega)
    simp only [hix, hg0, Goes_pf, Nat.add_zero, fz_int, List.map_cons, List.map_nil, SW, SV, wpD, evDL, evDM, evD, bldLD, wpSp, DMem.mt, beq_self_eq_true, seval]
    cases hgo : goesB w.code[i].kind with
    | true =>
      obtain ⟨hk0, hk1⟩ := hk _ (List.getElem_mem hil) hgo
      obtain ⟨kn, hkn⟩ := Int.eq_ofNat_of_zero_le hk0
      have hkl : kn < w.starts.length := by omega
      rw [hkn] at hg4
      simp only [raw0_ir_Writer_Done, P0_ir_Writer_Done, MU_ir_Writer_Done, h0, h2, h3, h11, h12, hMw, hMs, hg4, ixM hkl, ei, SW, SV, wpD, evDL, evDM, evD, bldLD, wpSp, DMem.mt, beq_self_eq_true, seval]
      have hgs : (w.starts.map (DV.int .i64))[kn]? = some (.int .i64 w.starts[kn]) := by simp [hkl]
      refine ⟨_, hgs, hgs, ?_⟩
      refine stD hMb rfl rfl (by simp [hl1]) (by show i * 9 + 4 + 1 ≤ c * 9; omega) rfl fun M2 hM2 => ?_
      rw [splD_field hl1 (by simp)] at hM2
      refine ⟨w.code.length - (i + 1), M2, by omega, SubD.refl _, i + 1, by omega, rfl, rfl, ?_, fun y hy => ?_⟩
      · rw [← half_set (placed w.starts) w.code hil]
        have hpl : placed w.starts w.code[i] = { w.code[i] with k := w.starts[kn] } := by
          unfold placed
          rw [hgo, if_pos rfl]
          congr 1
          rw [hkn]; simp [hkl]
        refine hput M2 (placed w.starts w.code[i]) _ ?_ hM2
        rw [hpl]
        exact ⟨da, rfl, hda⟩
      · rw [hM2, DMem.ins_ne _ _ (by rintro rfl; exact hy hbS)]; exact hkeep y hy
    | false =>
      simp only [h0, h2, h3, h11, h12, ei, SW, SV, wpD, evDL, evDM, evD, bldLD, wpSp, DMem.mt, beq_self_eq_true, seval]
      refine ⟨w.code.length - (i + 1), M', by omega, SubD.refl _, i + 1, by omega, rfl, rfl, ?_, hkeep⟩
      have hpl : placed w.starts w.code[i] = w.code[i] := by unfold placed; rw [hgo] <;> rfl
      rw [← half_set (placed w.starts) w.code hil, hpl]
      rw [show (List.map (placed w.starts) (List.take i w.code) ++ List.drop i w.code).set i w.code[i] = List.map (placed w.starts) (List.take i w.code) ++ List.drop i w.code by
        conv => lhs; arg 3; rw [← hx]
        exact List.set_getElem_self _]
      exact hci
  · have : i = w.code.length := by omega
    subst this
    rw [List.take_length, List.drop_length, List.append_nil] at hci
    have hmm : SlAt metaE M' dm w.metas Sm := (hm.sub metaE_ok k1).frame metaE_ok fun y hy => hkeep y fun hh => hdis y hh y hy rfl
    have hlen : (w.code.map (placed w.starts)).length = w.code.length := List.length_map ..
    have fin : ∀ (x : Bool) (M2 : DMem), M2 = M'.ins q ⟨29, 4, [.int .i64 fn, .int .i64 regs, dc, dm]⟩ → x = (decide (w.code.length ≤ 256) && decide (w.metas.length ≤ 64)) → R (.tup [.agg [.int .i64 fn, .int .i64 regs, dc, dm], .bool x]) M2 := by
      rintro x M2 hM2 rfl
      refine hR dc dm M2 Sc Sm (hci.frame irE_ok fun y hy => ?_) (hmm.frame metaE_ok fun y hy => ?_) (List.nodup_append.2 ⟨hnc, hnm, hdis⟩) (fun y hy => by simp only [List.mem_cons]; exact .inr (.inr hy)) fun y B hy hB => ?_
      · rw [hM2, DMem.ins_ne _ _ (by rintro rfl; exact hqc hy)]
      · rw [hM2, DMem.ins_ne _ _ (by rintro rfl; exact hqm hy)]
      · rw [hM2, DMem.ins_ne _ _ (by rintro rfl; rw [hqM] at hB; cases hB), hkeep y (fun hh => hy (by simp [hh]))]
        exact k1 y B hB
    by_cases h256 : w.code.length ≤ 256
    · have e1 : decide (((w.code.map (placed w.starts)).length : Int) ≤ 256) = true := by rw [hlen]; exact decide_eq_true (by omega)
      have e2 : decide ((w.metas.length : Int) ≤ 64) = decide (w.metas.length ≤ 64) := decide_eq_decide.2 (by omega)
      simp only [raw1_ir_Writer_Done, P1_ir_Writer_Done, MU_ir_Writer_Done, h0, h2, h3, hMw, ldnM, hci.lenD, e1, grdTT, hmm.lenD, e2, SW, SV, wpD, evDL, evDM, evD, bldLD, wpSp, DMem.mt, beq_self_eq_true, seval]
      refine stD hMq rfl rfl (by simp) (by simp) (by simp only [List.all_cons, List.all_nil, hci.plain, hmm.plain] <;> rfl) fun M2 hM2 => ?_
      have hq2 : M2 q = some ⟨29, 4, [.int .i64 fn, .int .i64 regs, dc, dm]⟩ := by rw [hM2, DMem.ins_same] <;> rfl
      try simp only [h2, hq2, ldnM, grdTT, SW, SV, wpD, evDL, evDM, evD, bldLD, wpSp, DMem.mt, beq_self_eq_true, seval]
      exact ⟨by rw [hM2, DMem.ins_ne _ _ (Ne.symm hqw), hMw] <;> rfl, fin _ M2 (by rw [hM2] <;> rfl) (by rw [decide_eq_true h256] <;> rfl)⟩
    · have e1 : decide (((w.code.map (placed w.starts)).length : Int) ≤ 256) = false := by rw [hlen]; exact decide_eq_false (by omega)
      simp only [raw1_ir_Writer_Done, P1_ir_Writer_Done, MU_ir_Writer_Done, h0, h2, h3, hMw, ldnM, hci.lenD, e1, grdTF, SW, SV, wpD, evDL, evDM, evD, bldLD, wpSp, DMem.mt, beq_self_eq_true, seval]
      refine stD hMq rfl rfl (by simp) (by simp) (by simp only [List.all_cons, List.all_nil, hci.plain, hmm.plain] <;> rfl) fun M2 hM2 => ?_
      have hq2 : M2 q = some ⟨29, 4, [.int .i64 fn, .int .i64 regs, dc, dm]⟩ := by rw [hM2, DMem.ins_same] <;> rfl
      try simp only [h2, hq2, ldnM, grdTF, SW, SV, wpD, evDL, evDM, evD, bldLD, wpSp, DMem.mt, beq_self_eq_true, seval]
      exact fin _ M2 (by rw [hM2] <;> rfl) (by rw [decide_eq_false h256] <;> rfl)
end Go.Proofs.YticlgdhhnjpkjaaGreatDoor.Pf
namespace Go.Proofs.YticlgdhhnjpkjaaGreatDoor.Pf
open Go Go.RowKit Go.Proofs Go.Proofs.YticlgdhhnjpkjaaGreatDoor.Mw Go.Proofs.YticlgdhhnjpkjaaGreatDoor.Sx
set_option linter.unusedVariables false
set_option linter.unusedSimpArgs false
structure OneOk (h : Int) (l L q L2 q2 : List Int) : Prop where
  len : L2.length = L.length
  keep : ∀ (i : Nat) (v : Int), L[i]? = some v → v ≠ -1 → L2[i]? = some v
  told : ∀ y ∈ l, L2[y.toNat]? = some h
  from' : ∀ i : Nat, L2[i]? = L[i]? ∨ ((∃ y ∈ l, i = y.toNat) ∧ L2[i]? = some h ∧ (∃ y ∈ q2, i = y.toNat))
  grow : ∀ x ∈ q, x ∈ q2
  new : ∀ x ∈ q2, x ∈ q ∨ x ∈ l
  cnt : neg1 L2 + q2.length = neg1 L + q.length
theorem hOne_ok {h : Int} (hh : h ≠ -1) : ∀ {l L q L2 q2 : List Int}, hOne h l L q = some (L2, q2) → OneOk h l L q L2 q2
  | [], L, q, L2, q2, e => by
    simp only [hOne] at e; cases e
    exact ⟨rfl, fun _ _ h _ => h, by simp, fun i => .inl rfl, fun _ h => h, fun _ h => .inl h, rfl⟩
  | to :: r, L, q, L2, q2, e => by
    rw [hOne_cons] at e
    split at e
    · rename_i h1
      have ih := hOne_ok hh e
      have hlt := (List.getElem?_eq_some_iff.1 h1).1
      have hset : (L.set to.toNat h)[to.toNat]? = some h := by rw [List.getElem?_set]; simp [hlt]
      refine ⟨by rw [ih.len, List.length_set], fun i v hi hv => ?_, fun y hy => ?_, fun i => ?_, fun x hx => ih.grow x (by simp [hx]), fun x hx => ?_, ?_⟩
      · refine ih.keep i v ?_ hv
        rw [List.getElem?_set]
        split
        · rename_i e1; subst e1; rw [h1] at hi; cases hi; exact absurd rfl hv
        · exact hi
      · rcases List.mem_cons.1 hy with rfl | hy
        · exact ih.keep _ _ hset hh
        · exact ih.told y hy
      · rcases ih.from' i with h2 | ⟨⟨y, hy, e1⟩, h3, h4⟩
        · rw [h2, List.getElem?_set]
          split
          · rename_i e1
            refine .inr ⟨⟨to, by simp, e1.symm⟩, by simp [hlt], ⟨to, ih.grow to (by simp), e1.symm⟩⟩
          · exact .inl rfl
        · exact .inr ⟨⟨y, by simp [hy], e1⟩, h3, h4⟩
      · rcases ih.new x hx with h2 | h2
        · rcases List.mem_append.1 h2 with h2 | h2
          · exact .inl h2
          · simp at h2; exact .inr (by simp [h2])
        · exact .inr (by simp [h2])
      · have := ih.cnt
        have := neg1_set hlt (List.getElem?_eq_some_iff.1 h1).2 hh
        simp only [List.length_append, List.length_cons, List.length_nil] at *
        omega
    · split at e
      · rename_i h1 h2
        have ih := hOne_ok hh e
        refine ⟨ih.len, ih.keep, fun y hy => ?_, fun i => ?_, ih.grow, fun x hx => ?_, ih.cnt⟩
        · rcases List.mem_cons.1 hy with rfl | hy
          · exact ih.keep _ _ h2 hh
          · exact ih.told y hy
        · rcases ih.from' i with h3 | ⟨⟨y, hy, e1⟩, h3, h4⟩
          · exact .inl h3
          · exact .inr ⟨⟨y, by simp [hy], e1⟩, h3, h4⟩
        · rcases ih.new x hx with h3 | h3
          · exact .inl h3
          · exact .inr (by simp [h3])
      · cases e
structure HI (p : List Fnc) (f : Fnc) (L q : List Int) : Prop where
  len : L.length = f.code.length
  zero : L[0]? = some 0
  val : ∀ (i : Nat) (v : Int), L[i]? = some v → v ≠ -1 → 0 ≤ v ∧ v ≤ 8 ∧ Rch (nxF f) i
  inq : ∀ x ∈ q, ∃ i : Nat, x = i ∧ i < L.length ∧ ∃ v, L[i]? = some v ∧ v ≠ -1
  done : ∀ (i : Nat) (v : Int) (x : Ins), L[i]? = some v → v ≠ -1 → f.code[i]? = some x → (i : Int) ∉ q → takesF x (argsF p x) ≤ v ∧ v - takesF x (argsF p x) + putsF x ≤ 8 ∧ ∀ y ∈ nxF f i, L[y]? = some (v - takesF x (argsF p x) + putsF x)
theorem hRun_ok {p : List Fnc} {f : Fnc} (hp : ∀ g ∈ p, fnB g = true) (hf : fmayB f.code = true) : ∀ {k : Nat} {L q out : List Int}, HI p f L q → neg1 L + q.length ≤ k → hRun p f k L q = .ok out → HI p f out []
  | 0, L, q, out, hI, hc, e => by
    have : q = [] := List.eq_nil_of_length_eq_zero (by omega)
    subst this
    simp only [hRun] at e; cases e; exact hI
  | k + 1, L, [], out, hI, hc, e => by
    simp only [hRun] at e; cases e; exact hI
  | k + 1, L, pc :: q, out, hI, hc, e => by
    obtain ⟨n, rfl, hnL, v, hv, hv1⟩ := hI.inq pc (by simp)
    have hn : n < f.code.length := by rw [← hI.len]; exact hnL
    obtain ⟨hv0, hv8, hrch⟩ := hI.val n v hv hv1
    have hLv : L[n] = v := by rw [List.getElem?_eq_getElem hnL] at hv; exact Option.some.inj hv
    rw [hRun_pop p f k n L q hn hnL, hLv] at e
    split at e
    · cases e
    rename_i hbad
    have hT := takesF_in f.code[n] (argsF_in hp f.code[n])
    have hP := putsF_in f.code[n]
    generalize hh : v - takesF f.code[n] (argsF p f.code[n]) + putsF f.code[n] = h at e hbad
    have hh0 : 0 ≤ h ∧ h ≤ 8 := by omega
    split at e
    · rename_i o q' ho
      have hok := hOne_ok (by omega) ho
      refine hRun_ok hp hf ?_ (by have := hok.cnt; simp only [List.length_cons] at hc; omega) e
      refine ⟨hok.len.trans hI.len, hok.keep _ _ hI.zero (by decide), fun i w hi hw => ?_, fun x hx => ?_, fun i w x hi hw hx hq => ?_⟩
      · rcases hok.from' i with h1 | ⟨⟨y, hy, e1⟩, h2, h3⟩
        · rw [h1] at hi; exact hI.val i w hi hw
        · rw [h2] at hi; cases hi
          refine ⟨hh0.1, hh0.2, .step hrch ?_⟩
          simp only [nxF, List.mem_map]
          exact ⟨y, hy, e1.symm⟩
      · rcases hok.new x hx with h1 | h1
        · obtain ⟨i, rfl, h2, w, h3, h4⟩ := hI.inq x (by simp [h1])
          exact ⟨i, rfl, by rw [hok.len]; exact h2, w, hok.keep i w h3 h4, h4⟩
        · obtain ⟨g1, g2⟩ := nextF_mem hf h1
          obtain ⟨i, rfl⟩ := Int.eq_ofNat_of_zero_le g1
          exact ⟨i, rfl, by rw [hok.len, hI.len]; omega, h, by have := hok.told _ h1; simpa using this, by omega⟩
      · have hold : ∀ {w' : Int}, L[i]? = some w' → w' ≠ -1 → w' = w := fun h1 h2 => by
          have := hok.keep i _ h1 h2; rw [this] at hi; exact Option.some.inj hi
        by_cases hin : i = n
        · subst hin
          have hwv : v = w := hold hv hv1
          subst hwv
          have hxe : x = f.code[i] := by rw [List.getElem?_eq_getElem hn] at hx; exact (Option.some.inj hx).symm
          subst hxe
          refine ⟨by omega, by omega, fun y hy => ?_⟩
          rw [hh]
          simp only [nxF, List.mem_map] at hy
          obtain ⟨z, hz, rfl⟩ := hy
          exact hok.told z hz
        · rcases hok.from' i with h1 | ⟨_, h2, ⟨y, hy, e1⟩⟩
          · rw [h1] at hi
            have hq0 : (i : Int) ∉ ((n : Int) :: q) := by
              intro hh'
              rcases List.mem_cons.1 hh' with h2 | h2
              · exact hin (by omega)
              · exact hq (hok.grow _ h2)
            obtain ⟨g1, g2, g3⟩ := hI.done i w x hi hw hx hq0
            refine ⟨g1, g2, fun y hy => hok.keep _ _ (g3 y hy) ?_⟩
            have := takesF_in x (argsF_in hp x)
            have := putsF_in x
            omega
          · exfalso
            refine hq ?_
            rcases hok.new y hy with h3 | h3
            · obtain ⟨j, rfl, _⟩ := hI.inq y (by simp [h3])
              simp at e1; subst e1; exact hy
            · have := (nextF_mem hf h3).1
              rw [e1, Int.toNat_of_nonneg this]; exact hy
    · cases e
theorem heights_ok {p : List Fnc} {f : Fnc} (hp : ∀ g ∈ p, fnB g = true) (hf : fmayB f.code = true) {out : List Int} (h : heightsE p f = .ok out) : HI p f out [] := by
  have h1 := (fmay_le hf).1
  refine hRun_ok hp hf (k := f.code.length) (L := startH f.code.length) (q := [0]) ?_ (by rw [startH_neg h1]; simp only [List.length_cons, List.length_nil]; omega) h
  have hz : (startH f.code.length)[0]? = some 0 := by unfold startH; rw [List.getElem?_set_self (by rw [List.length_replicate]; omega)]
  refine ⟨by simp [startH], hz, fun i v hi hv => ?_, fun x hx => ?_, fun i v x hi hv hx hq => ?_⟩
  · by_cases h0 : i = 0
    · subst h0; rw [hz] at hi; cases hi; exact ⟨by omega, by omega, .zero⟩
    · unfold startH at hi
      rw [List.getElem?_set_ne (by omega)] at hi
      rw [List.getElem?_replicate] at hi
      split at hi
      · cases hi; exact absurd rfl hv
      · cases hi
  · simp at hx; subst hx
    exact ⟨0, rfl, by rw [startH, List.length_set, List.length_replicate]; omega, 0, hz, by decide⟩
  · by_cases h0 : i = 0
    · subst h0; simp at hq
    · unfold startH at hi
      rw [List.getElem?_set_ne (by omega), List.getElem?_replicate] at hi
      split at hi
      · cases hi; exact absurd rfl hv
      · cases hi
end Go.Proofs.YticlgdhhnjpkjaaGreatDoor.Pf
namespace Go.Proofs.YticlgdhhnjpkjaaGreatDoor.Pf
open Go Go.RowKit Go.Proofs Go.Proofs.YticlgdhhnjpkjaaGreatDoor.Mw Go.Proofs.YticlgdhhnjpkjaaGreatDoor.Sx
set_option linter.unusedVariables false
set_option linter.unusedSimpArgs false
theorem verify_ok {p : List Fnc} (h : verifyE p = 0) : packB p = true ∧ ∀ i, i < p.length → (heightsR p (i : Int)).2.2 = 0 := by
  have hp : packB p = true := by
    cases e : packB p with
    | true => rfl
    | false => unfold verifyE allR at h; rw [if_neg (by simp [e])] at h; exact absurd h (by decide)
  refine ⟨hp, fun i => ?_⟩
  induction i using Nat.strongRecOn with
  | ind i ih =>
    intro hi
    by_cases he : (heightsR p (i : Int)).2.2 = 0
    · exact he
    · have := verify_hit hp hi he fun j hj => ih j hj (by omega)
      unfold verifyE at h
      rw [this] at h
      exact absurd h he
theorem verify_rows {p : List Fnc} (h : verifyE p = 0) : allR p = ((List.range p.length).map (fun i : Nat => (heightsR p (i : Int)).1), 0) := verify_miss (verify_ok h).1 (verify_ok h).2
theorem plainE_out {p : List Fnc} {f : Fnc} {r : List Bool} (h : plainE p f r = none) {i : Nat} (hi : i < f.code.length) (hr : r[i]? = some true) : outB p f f.code[i] = false := by
  unfold plainE at h
  split at h
  · cases h
  · rename_i hn
    have := List.find?_eq_none.1 hn i (List.mem_range.2 hi)
    simp only [List.getD_eq_getElem?_getD, hr, List.getElem?_eq_getElem hi, Option.getD_some, Bool.true_and] at this
    simpa using this
theorem plainE_ne {p : List Fnc} {f : Fnc} {r : List Bool} {pc e : Int} (h : plainE p f r = some (pc, e)) : e ≠ 0 := by
  unfold plainE at h
  split at h
  · cases h; decide
  · simp only at h
    split at h
    · cases h; decide
    · cases h
structure HF (p : List Fnc) (f : Fnc) (hs : List Int) : Prop where
  fn : fnB f = true
  hi : HI p f hs []
  out : ∀ (i : Nat) (h : i < f.code.length) (v : Int), hs[i]? = some v → v ≠ -1 → outB p f f.code[i] = false
theorem fn_loc {f : Fnc} (h : fnB f = true) : 0 ≤ f.args ∧ f.args ≤ 4 ∧ f.args ≤ f.locals ∧ f.locals ≤ 8 := by
  unfold fnB at h
  simp only [Bool.and_eq_true, decide_eq_true_eq] at h
  exact ⟨h.1.1.1.1, h.1.1.1.2, h.1.1.2, h.1.2⟩
theorem heights_hf {p : List Fnc} (hp : packB p = true) {n : Nat} (hn : n < p.length) (h : (heightsR p (n : Int)).2.2 = 0) : HF p p[n] (heightsR p (n : Int)).1 := by
  have hg := pack_fn hp
  have hf := hg _ (List.getElem_mem hn)
  have hm := fn_may hf
  unfold heightsR at h ⊢
  rw [if_pos ⟨hp, by omega, by omega⟩] at h ⊢
  simp only [Int.toNat_natCast, List.getElem?_eq_getElem hn] at h ⊢
  split at h
  · rename_i pc e he
    exact absurd h (plainE_ne he)
  · rename_i he
    split at h
    · rename_i out ho
      have hi := heights_ok hg hm ho
      exact ⟨hf, hi, fun i hil v hv hv1 => plainE_out he hil (reach_all hm i (hi.val i v hv hv1).2.2)⟩
    · exact absurd (show (502 : Int) = 0 from h) (by decide)
end Go.Proofs.YticlgdhhnjpkjaaGreatDoor.Pf
namespace Go.Proofs.YticlgdhhnjpkjaaGreatDoor.Pf
open Go Go.RowKit Go.Proofs Go.Extern.Stop Go.Stop Go.Extern
set_option linter.unusedVariables false
set_option maxRecDepth 20000
set_option linter.unusedSimpArgs false
theorem as_nil (t : Value) (w : World) :
    Calls Tryz.prog 138 #[.nilIface, t] w fun e w' => e = .returned (.bool false) ∧ w' = w := by
  go_enter Tryz.func138, Tryz.ntmps138
  go_wp2
  go_ret
  exact ⟨rfl, rfl⟩

theorem as_valueOf27 (t : Addr) (w : World) : (ReflectliteValue.unpack (.iface 195 (.pointer (some t)))).run Tryz.prog w
    = .ok (.agg #[.pointer (some ⟨1, 195, none⟩), .pointer (some ⟨w.heap.size, 0, none⟩), .int .u64 150]) (w.alloc (.cells #[.pointer (some t)] 195)) := by kernel_rfl
theorem as_type27 (a : Addr) (w : World) : (ReflectliteValue.methodAny (ReflectliteValue.valueError "reflectlite.Value.Type" 0) (fun t _ _ _ => ReflectliteType.toType t) #[.agg #[.pointer (some ⟨1, 195, none⟩), .pointer (some a), .int .u64 150]]).run Tryz.prog w
    = .ok (.iface 228 (.agg #[.pointer (some ⟨1, 195, none⟩)])) w := by kernel_rfl
theorem as_methodKind (h : Value) (w : World) : (Go.method 370 228 (.agg #[h]) "Kind").run Tryz.prog w = .ok (176, h) w := by kernel_rfl
theorem as_kind27 (w : World) : ((ReflectliteType.abiMethod fun t => (fun a : Nat => Value.int IntKind.u8 (a : Int)) <$> Rtype.kind t) #[.pointer (some ⟨1, 195, none⟩)]).run Tryz.prog w = .ok (.int .u8 22) w := by kernel_rfl
theorem as_kind25 (w : World) : ((ReflectliteType.abiMethod fun t => (fun a : Nat => Value.int IntKind.u8 (a : Int)) <$> Rtype.kind t) #[.pointer (some ⟨1, 185, none⟩)]).run Tryz.prog w = .ok (.int .u8 22) w := by kernel_rfl

theorem rlm (z : Sem Value) (f : TypeId → Addr → Nat → Nat → Sem Value) (v : Value) :
    ReflectliteValue.method z f #[v] = (do match ← ReflectliteValue.parts v with | none => z | some (t, a, fl) => f t a fl (fl % 32)) := rfl
theorem as_parts27 (a : Addr) (w : World) : (ReflectliteValue.parts (.agg #[.pointer (some ⟨1, 195, none⟩), .pointer (some a), .int .u64 150])).run Tryz.prog w = .ok (some (195, a, 150)) w := by kernel_rfl
theorem as_isNil27 (a p : Addr) (W : World) (ha : W.cell? a = some (.pointer (some p))) :
    (ReflectliteValue.method (ReflectliteValue.valueError "reflectlite.Value.IsNil" 0) ReflectliteValue.isNil #[.agg #[.pointer (some ⟨1, 195, none⟩), .pointer (some a), .int .u64 150]]).run Tryz.prog W = .ok (.bool false) W := by
  rw [rlm]
  simp only [Sem.run_bind, as_parts27, Result.andThen]
  simp [ReflectliteValue.isNil, loadVar, isAgg, underlying, Tryz.underlying195, ha, Result.andThen]

theorem as_methodElem (h : Value) (w : World) : (Go.method 370 228 (.agg #[h]) "Elem").run Tryz.prog w = .ok (188, .agg #[h]) w := by kernel_rfl
theorem as_methodImplements (h : Value) (w : World) : (Go.method 370 228 (.agg #[h]) "Implements").run Tryz.prog w = .ok (189, .agg #[h]) w := by kernel_rfl
theorem as_methodAssignableTo (h : Value) (w : World) : (Go.method 370 228 (.agg #[h]) "AssignableTo").run Tryz.prog w = .ok (186, .agg #[h]) w := by kernel_rfl
theorem as_elem27 (w : World) : (ReflectliteType.method ReflectliteType.elem #[.agg #[.pointer (some ⟨1, 195, none⟩)]]).run Tryz.prog w = .ok (.iface 228 (.agg #[.pointer (some ⟨1, 185, none⟩)])) w := by kernel_rfl
theorem as_implements25 (w : World) : (ReflectliteType.relation "Implements" ReflectliteType.implements_ #[.agg #[.pointer (some ⟨1, 185, none⟩)], .iface 228 (.agg #[.pointer (some ⟨1, 162, none⟩)])]).run Tryz.prog w = .ok (.bool true) w := by kernel_rfl
theorem as_typeOf25 (v : Value) (w : World) : (ReflectliteType.typeOf #[.iface 185 v]).run Tryz.prog w = .ok (.iface 228 (.agg #[.pointer (some ⟨1, 185, none⟩)])) w := by kernel_rfl
theorem as_assignable25 (w : World) : (ReflectliteType.relation "AssignableTo" ReflectliteType.assignableTo #[.agg #[.pointer (some ⟨1, 185, none⟩)], .iface 228 (.agg #[.pointer (some ⟨1, 185, none⟩)])]).run Tryz.prog w = .ok (.bool true) w := by kernel_rfl
theorem as_valueOf25 (e : Addr) (w : World) : (ReflectliteValue.unpack (.iface 185 (.pointer (some e)))).run Tryz.prog w
    = .ok (.agg #[.pointer (some ⟨1, 185, none⟩), .pointer (some ⟨w.heap.size, 0, none⟩), .int .u64 150]) (w.alloc (.cells #[.pointer (some e)] 185)) := by kernel_rfl

theorem as_elemOf27 (w : World) : (Rtype.elem? 195).run Tryz.prog w = .ok (some 185) w := by kernel_rfl
theorem as_mk25 (p : Addr) (w : World) : (ReflectliteValue.mk 185 p ReflectliteValue.flagAddr).run Tryz.prog w = .ok (.agg #[.pointer (some ⟨1, 185, none⟩), .pointer (some p), .int .u64 406]) w := by kernel_rfl
theorem as_elemV27 (a p : Addr) (W : World) (ha : W.cell? a = some (.pointer (some p))) :
    (ReflectliteValue.method (ReflectliteValue.valueError "reflectlite.Value.Elem" 0) ReflectliteValue.elem #[.agg #[.pointer (some ⟨1, 195, none⟩), .pointer (some a), .int .u64 150]]).run Tryz.prog W
      = .ok (.agg #[.pointer (some ⟨1, 185, none⟩), .pointer (some p), .int .u64 406]) W := by
  rw [rlm]
  simp only [Sem.run_bind, as_parts27, Result.andThen]
  simp [ReflectliteValue.elem, loadVar, isAgg, underlying, Tryz.underlying195, ha, Result.andThen, as_elemOf27, as_mk25]
theorem rls (v x : Value) : ReflectliteValue.set #[v, x] = (do
    let (some (dst, a, fl), some (src, b, _)) := (← ReflectliteValue.parts v, ← ReflectliteValue.parts x)
      | unsupported (.noEntry "extern/(internal/reflectlite.Value).Set.zeroValue")
    if fl / ReflectliteValue.flagAddr % 2 == 0 then unsupported (.noEntry "extern/(internal/reflectlite.Value).Set.unaddressable")
    let val ← loadVar src b
    if ← Rtype.directlyAssignable dst src then storeVar dst a val
    else if ← Rtype.implements dst src then
      if (← Rtype.kind src) == 20 then
        match val with
        | .nilIface => unsupported (.noEntry "extern/reflectlite: a nil value of one interface type handed on as a value of another")
        | _ => storeVar dst a val
      else storeVar dst a (.iface src val)
    else panicString ("reflectlite.Set: value of type " ++ (← Rtype.spelt src) ++ " is not assignable to type " ++ (← Rtype.spelt dst))
    pure (.tuple #[])) := rfl
theorem as_parts25a (a : Addr) (w : World) : (ReflectliteValue.parts (.agg #[.pointer (some ⟨1, 185, none⟩), .pointer (some a), .int .u64 406])).run Tryz.prog w = .ok (some (185, a, 406)) w := by kernel_rfl
theorem as_parts25 (a : Addr) (w : World) : (ReflectliteValue.parts (.agg #[.pointer (some ⟨1, 185, none⟩), .pointer (some a), .int .u64 150])).run Tryz.prog w = .ok (some (185, a, 150)) w := by kernel_rfl
theorem as_direct25 (w : World) : (Rtype.directlyAssignable 185 185).run Tryz.prog w = .ok true w := by kernel_rfl
theorem as_set25 (ta b e : Addr) (old : Value) (W : World) (hb : W.cell? b = some (.pointer (some e))) (ht : W.cell? ta = some old) (hf : W.frozen? ta = false) :
    (ReflectliteValue.set #[.agg #[.pointer (some ⟨1, 185, none⟩), .pointer (some ta), .int .u64 406], .agg #[.pointer (some ⟨1, 185, none⟩), .pointer (some b), .int .u64 150]]).run Tryz.prog W
      = .ok (.tuple #[]) (W.setCell ta (.pointer (some e))) := by
  rw [rls]
  simp only [Sem.run_bind, as_parts25a, as_parts25, Result.andThen]
  simp [ReflectliteValue.flagAddr, loadVar, isAgg, underlying, Tryz.underlying185, hb, Result.andThen, as_direct25, storeVar, Value.cells, storeCells, Addr.add]
  rw [run_store Tryz.prog W ta _ _ (by rfl)]
  simp [ht, hf]

set_option maxHeartbeats 4000000 in
theorem as_hit (e t : Addr) (old : Value) (w : World) (hg : w.cell? ⟨0, 0, none⟩ = some (.iface 228 (.agg #[.pointer (some ⟨1, 162, none⟩)]))) (ht0 : w.cell? t = some old) (hf0 : w.frozen? t = false) :
    Calls Tryz.prog 138 #[.iface 185 (.pointer (some e)), .iface 195 (.pointer (some t))] w fun ev w' => ev = .returned (.bool true) ∧ w' = ((((w.alloc (.cells #[.pointer (some t)] 195)).alloc (.cells #[.pointer (some ⟨1, 195, none⟩), .pointer (some ⟨w.heap.size, 0, none⟩), .int .u64 150] 213)).alloc (.cells #[.pointer (some ⟨1, 195, none⟩), .pointer (some ⟨w.heap.size, 0, none⟩), .int .u64 150] 213)).alloc (.cells #[.pointer (some e)] 185)).setCell t (.pointer (some e)) := by
  have h6 := @run_callFunc_extern Tryz.prog 152 _ (fun args => ReflectliteValue.unpack (args.getD 0 (.tuple #[]))) Tryz.func152 (by kernel_rfl) (by kernel_rfl) (by kernel_rfl) (by kernel_rfl)
  have h7 := @run_callFunc_extern Tryz.prog 153 _ (ReflectliteValue.methodAny (ReflectliteValue.valueError "reflectlite.Value.Type" 0) (fun t _ _ _ => ReflectliteType.toType t)) Tryz.func153 (by kernel_rfl) (by kernel_rfl) (by kernel_rfl) (by kernel_rfl)
  have h8 := @run_callFunc_extern Tryz.prog 154 _ (ReflectliteValue.method (ReflectliteValue.valueError "reflectlite.Value.IsNil" 0) ReflectliteValue.isNil) Tryz.func154 (by kernel_rfl) (by kernel_rfl) (by kernel_rfl) (by kernel_rfl)
  have h27 := @run_callFunc_extern Tryz.prog 176 _ (ReflectliteType.abiMethod fun t => do pure (.int .u8 (← Rtype.kind t))) Tryz.func176 (by kernel_rfl) (by kernel_rfl) (by kernel_rfl) (by kernel_rfl)
  have h37 := @run_callFunc_extern Tryz.prog 188 _ (ReflectliteType.method ReflectliteType.elem) Tryz.func188 (by kernel_rfl) (by kernel_rfl) (by kernel_rfl) (by kernel_rfl)
  have h38 := @run_callFunc_extern Tryz.prog 189 _ (ReflectliteType.relation "Implements" ReflectliteType.implements_) Tryz.func189 (by kernel_rfl) (by kernel_rfl) (by kernel_rfl) (by kernel_rfl)
  have h10 := @run_callFunc_extern Tryz.prog 159 _ ReflectliteType.typeOf Tryz.func159 (by kernel_rfl) (by kernel_rfl) (by kernel_rfl) (by kernel_rfl)
  have h35 := @run_callFunc_extern Tryz.prog 186 _ (ReflectliteType.relation "AssignableTo" ReflectliteType.assignableTo) Tryz.func186 (by kernel_rfl) (by kernel_rfl) (by kernel_rfl) (by kernel_rfl)
  have h11 := @run_callFunc_extern Tryz.prog 160 _ (ReflectliteValue.method (ReflectliteValue.valueError "reflectlite.Value.Elem" 0) ReflectliteValue.elem) Tryz.func160 (by kernel_rfl) (by kernel_rfl) (by kernel_rfl) (by kernel_rfl)
  have h12 := @run_callFunc_extern Tryz.prog 161 _ ReflectliteValue.set Tryz.func161 (by kernel_rfl) (by kernel_rfl) (by kernel_rfl) (by kernel_rfl)
  have tO := as_typeOf25
  have mA := as_methodAssignableTo
  have a25 := as_assignable25
  have v25 := as_valueOf25
  have f6 := as_valueOf27
  have f7 := as_type27
  have mK := as_methodKind
  have mE := as_methodElem
  have mI := as_methodImplements
  have k27 := as_kind27
  have k25 := as_kind25
  have e27 := as_elem27
  have i25 := as_implements25
  have n8 := as_isNil27 ⟨w.heap.size, 0, none⟩ t ((w.alloc (.cells #[.pointer (some t)] 195)).alloc (.cells #[.pointer (some ⟨1, 195, none⟩), .pointer (some ⟨w.heap.size, 0, none⟩), .int .u64 150] 213)) (by simp)
  have hlt : 0 < w.heap.size := by
    rcases Nat.eq_zero_or_pos w.heap.size with h0 | h
    · simp [World.cell?, h0] at hg
    · exact h
  have hg2 : ((w.alloc (.cells #[.pointer (some t)] 195)).alloc (.cells #[.pointer (some ⟨1, 195, none⟩), .pointer (some ⟨w.heap.size, 0, none⟩), .int .u64 150] 213)).cell? ⟨0, 0, none⟩ = some (.iface 228 (.agg #[.pointer (some ⟨1, 162, none⟩)])) := by
    rw [World.cell?_alloc_lt _ _ ⟨0, 0, none⟩ (by simp), World.cell?_alloc_lt _ _ ⟨0, 0, none⟩ hlt]; exact hg
  have htl : t.block < w.heap.size := by
    rcases Nat.lt_or_ge t.block w.heap.size with h | h
    · exact h
    · simp [World.cell?, Array.getElem?_eq_none h] at ht0
  have el := as_elemV27 ⟨w.heap.size, 0, none⟩ t (((w.alloc (.cells #[.pointer (some t)] 195)).alloc (.cells #[.pointer (some ⟨1, 195, none⟩), .pointer (some ⟨w.heap.size, 0, none⟩), .int .u64 150] 213)).alloc (.cells #[.pointer (some ⟨1, 195, none⟩), .pointer (some ⟨w.heap.size, 0, none⟩), .int .u64 150] 213)) (by rw [World.cell?_alloc_lt _ _ ⟨w.heap.size, 0, none⟩ (by simp; omega)]; simp)
  have st := as_set25 t ⟨w.heap.size + 1 + 1 + 1, 0, none⟩ e old ((((w.alloc (.cells #[.pointer (some t)] 195)).alloc (.cells #[.pointer (some ⟨1, 195, none⟩), .pointer (some ⟨w.heap.size, 0, none⟩), .int .u64 150] 213)).alloc (.cells #[.pointer (some ⟨1, 195, none⟩), .pointer (some ⟨w.heap.size, 0, none⟩), .int .u64 150] 213)).alloc (.cells #[.pointer (some e)] 185))
    (by rw [World.cell?_alloc_at _ _ _ _ (by simp)] <;> rfl)
    (by rw [World.cell?_alloc_lt _ _ t (by simp; omega), World.cell?_alloc_lt _ _ t (by simp; omega), World.cell?_alloc_lt _ _ t (by simp; omega), World.cell?_alloc_lt _ _ t htl]; exact ht0)
    (by rw [World.frozen?_alloc_old _ _ t (by simp; omega), World.frozen?_alloc_old _ _ t (by simp; omega), World.frozen?_alloc_old _ _ t (by simp; omega), World.frozen?_alloc_old _ _ t (Nat.ne_of_lt htl)]; exact hf0)
  go_enter Tryz.func138, Tryz.ntmps138
  go_wp2
  refine wp_loop_rounds 1 ?_
  rw [rounds_succ]
  go_wp2
  go_ret
  exact ⟨rfl, rfl⟩
end Go.Proofs.YticlgdhhnjpkjaaGreatDoor.Pf
namespace Go.Proofs.YticlgdhhnjpkjaaGreatDoor.Pf
open Go Go.RowKit Go.Proofs Go.Extern.Stop Go.Stop Go.Extern
set_option linter.unusedVariables false
set_option maxRecDepth 20000
set_option linter.unusedSimpArgs false
theorem ae_valueOf (t : Addr) (w : World) : (ReflectliteValue.unpack (.iface 196 (.pointer (some t)))).run Tryz.prog w
    = .ok (.agg #[.pointer (some ⟨1, 196, none⟩), .pointer (some ⟨w.heap.size, 0, none⟩), .int .u64 150]) (w.alloc (.cells #[.pointer (some t)] 196)) := by kernel_rfl
theorem ae_type (a : Addr) (w : World) : (ReflectliteValue.methodAny (ReflectliteValue.valueError "reflectlite.Value.Type" 0) (fun t _ _ _ => ReflectliteType.toType t) #[.agg #[.pointer (some ⟨1, 196, none⟩), .pointer (some a), .int .u64 150]]).run Tryz.prog w
    = .ok (.iface 228 (.agg #[.pointer (some ⟨1, 196, none⟩)])) w := by kernel_rfl
theorem ae_kindp (w : World) : ((ReflectliteType.abiMethod fun t => (fun a : Nat => Value.int IntKind.u8 (a : Int)) <$> Rtype.kind t) #[.pointer (some ⟨1, 196, none⟩)]).run Tryz.prog w = .ok (.int .u8 22) w := by kernel_rfl
theorem ae_kind (w : World) : ((ReflectliteType.abiMethod fun t => (fun a : Nat => Value.int IntKind.u8 (a : Int)) <$> Rtype.kind t) #[.pointer (some ⟨1, 30, none⟩)]).run Tryz.prog w = .ok (.int .u8 2) w := by kernel_rfl
theorem ae_parts (a : Addr) (w : World) : (ReflectliteValue.parts (.agg #[.pointer (some ⟨1, 196, none⟩), .pointer (some a), .int .u64 150])).run Tryz.prog w = .ok (some (196, a, 150)) w := by kernel_rfl
theorem ae_isNil (a p : Addr) (W : World) (ha : W.cell? a = some (.pointer (some p))) :
    (ReflectliteValue.method (ReflectliteValue.valueError "reflectlite.Value.IsNil" 0) ReflectliteValue.isNil #[.agg #[.pointer (some ⟨1, 196, none⟩), .pointer (some a), .int .u64 150]]).run Tryz.prog W = .ok (.bool false) W := by
  rw [rlm]
  simp only [Sem.run_bind, ae_parts, Result.andThen]
  simp [ReflectliteValue.isNil, loadVar, isAgg, underlying, Tryz.underlying196, ha, Result.andThen]
theorem ae_elem (w : World) : (ReflectliteType.method ReflectliteType.elem #[.agg #[.pointer (some ⟨1, 196, none⟩)]]).run Tryz.prog w = .ok (.iface 228 (.agg #[.pointer (some ⟨1, 30, none⟩)])) w := by kernel_rfl
theorem ae_implements (w : World) : (ReflectliteType.relation "Implements" ReflectliteType.implements_ #[.agg #[.pointer (some ⟨1, 30, none⟩)], .iface 228 (.agg #[.pointer (some ⟨1, 162, none⟩)])]).run Tryz.prog w = .ok (.bool true) w := by kernel_rfl
theorem ae_typeOf (v : Value) (w : World) : (ReflectliteType.typeOf #[.iface 30 v]).run Tryz.prog w = .ok (.iface 228 (.agg #[.pointer (some ⟨1, 30, none⟩)])) w := by kernel_rfl
theorem ae_assignable (w : World) : (ReflectliteType.relation "AssignableTo" ReflectliteType.assignableTo #[.agg #[.pointer (some ⟨1, 30, none⟩)], .iface 228 (.agg #[.pointer (some ⟨1, 30, none⟩)])]).run Tryz.prog w = .ok (.bool true) w := by kernel_rfl
theorem ae_assignableN (w : World) : (ReflectliteType.relation "AssignableTo" ReflectliteType.assignableTo #[.agg #[.pointer (some ⟨1, 185, none⟩)], .iface 228 (.agg #[.pointer (some ⟨1, 30, none⟩)])]).run Tryz.prog w = .ok (.bool false) w := by kernel_rfl
theorem ae_valueOfE (n : Int) (w : World) : (ReflectliteValue.unpack (.iface 30 (.int .i64 n))).run Tryz.prog w
    = .ok (.agg #[.pointer (some ⟨1, 30, none⟩), .pointer (some ⟨w.heap.size, 0, none⟩), .int .u64 130]) (w.alloc (.cells #[.int .i64 n] 30)) := by kernel_rfl
theorem ae_elemOf (w : World) : (Rtype.elem? 196).run Tryz.prog w = .ok (some 30) w := by kernel_rfl
theorem ae_mk (p : Addr) (w : World) : (ReflectliteValue.mk 30 p ReflectliteValue.flagAddr).run Tryz.prog w = .ok (.agg #[.pointer (some ⟨1, 30, none⟩), .pointer (some p), .int .u64 386]) w := by kernel_rfl
theorem ae_elemV (a p : Addr) (W : World) (ha : W.cell? a = some (.pointer (some p))) :
    (ReflectliteValue.method (ReflectliteValue.valueError "reflectlite.Value.Elem" 0) ReflectliteValue.elem #[.agg #[.pointer (some ⟨1, 196, none⟩), .pointer (some a), .int .u64 150]]).run Tryz.prog W
      = .ok (.agg #[.pointer (some ⟨1, 30, none⟩), .pointer (some p), .int .u64 386]) W := by
  rw [rlm]
  simp only [Sem.run_bind, ae_parts, Result.andThen]
  simp [ReflectliteValue.elem, loadVar, isAgg, underlying, Tryz.underlying196, ha, Result.andThen, ae_elemOf, ae_mk]
theorem ae_partsA (a : Addr) (w : World) : (ReflectliteValue.parts (.agg #[.pointer (some ⟨1, 30, none⟩), .pointer (some a), .int .u64 386])).run Tryz.prog w = .ok (some (30, a, 386)) w := by kernel_rfl
theorem ae_partsE (a : Addr) (w : World) : (ReflectliteValue.parts (.agg #[.pointer (some ⟨1, 30, none⟩), .pointer (some a), .int .u64 130])).run Tryz.prog w = .ok (some (30, a, 130)) w := by kernel_rfl
theorem ae_direct (w : World) : (Rtype.directlyAssignable 30 30).run Tryz.prog w = .ok true w := by kernel_rfl
theorem ae_set (ta b : Addr) (n : Int) (old : Value) (W : World) (hb : W.cell? b = some (.int .i64 n)) (ht : W.cell? ta = some old) (hf : W.frozen? ta = false) :
    (ReflectliteValue.set #[.agg #[.pointer (some ⟨1, 30, none⟩), .pointer (some ta), .int .u64 386], .agg #[.pointer (some ⟨1, 30, none⟩), .pointer (some b), .int .u64 130]]).run Tryz.prog W
      = .ok (.tuple #[]) (W.setCell ta (.int .i64 n)) := by
  rw [rls]
  simp only [Sem.run_bind, ae_partsA, ae_partsE, Result.andThen]
  simp [ReflectliteValue.flagAddr, loadVar, isAgg, underlying, Tryz.underlying30, hb, Result.andThen, ae_direct, storeVar, Value.cells, storeCells, Addr.add]
  rw [run_store Tryz.prog W ta _ _ (by rfl)]
  simp [ht, hf]
theorem ae_assA (v : Value) (xT : TypeId) (w : World) : (Instr.typeAssert (.iface 185 v) xT 233 true).run Tryz.prog w = .ok (.tuple #[.nilIface, .bool false]) w := run_typeAssert_lacksB Tryz.underlying233 (by kernel_rfl) (by kernel_rfl) v xT w
theorem ae_assU (e : Addr) (w : World) : (Instr.typeAssert (.iface 185 (.pointer (some e))) 162 236 true).run Tryz.prog w = .ok (.tuple #[.iface 185 (.pointer (some e)), .bool true]) w := by kernel_rfl
theorem ae_methodUnwrap (e : Addr) (w : World) : (Go.method 370 185 (.pointer (some e)) "Unwrap").run Tryz.prog w = .ok (181, .pointer (some e)) w := by kernel_rfl
set_option maxHeartbeats 4000000 in
theorem as_deep (e t : Addr) (n : Int) (old : Value) (w : World) (hv : w.cell? ⟨e.block, e.off + 1, none⟩ = some (.iface 30 (.int .i64 n))) (hg : w.cell? ⟨0, 0, none⟩ = some (.iface 228 (.agg #[.pointer (some ⟨1, 162, none⟩)]))) (ht0 : w.cell? t = some old) (hf0 : w.frozen? t = false) :
    Calls Tryz.prog 138 #[.iface 185 (.pointer (some e)), .iface 196 (.pointer (some t))] w fun ev w' => ev = .returned (.bool true) ∧ w' = ((((w.alloc (.cells #[.pointer (some t)] 196)).alloc (.cells #[.pointer (some ⟨1, 196, none⟩), .pointer (some ⟨w.heap.size, 0, none⟩), .int .u64 150] 213)).alloc (.cells #[.pointer (some ⟨1, 196, none⟩), .pointer (some ⟨w.heap.size, 0, none⟩), .int .u64 150] 213)).alloc (.cells #[.int .i64 n] 30)).setCell t (.int .i64 n) := by
  have h6 := @run_callFunc_extern Tryz.prog 152 _ (fun args => ReflectliteValue.unpack (args.getD 0 (.tuple #[]))) Tryz.func152 (by kernel_rfl) (by kernel_rfl) (by kernel_rfl) (by kernel_rfl)
  have h7 := @run_callFunc_extern Tryz.prog 153 _ (ReflectliteValue.methodAny (ReflectliteValue.valueError "reflectlite.Value.Type" 0) (fun t _ _ _ => ReflectliteType.toType t)) Tryz.func153 (by kernel_rfl) (by kernel_rfl) (by kernel_rfl) (by kernel_rfl)
  have h8 := @run_callFunc_extern Tryz.prog 154 _ (ReflectliteValue.method (ReflectliteValue.valueError "reflectlite.Value.IsNil" 0) ReflectliteValue.isNil) Tryz.func154 (by kernel_rfl) (by kernel_rfl) (by kernel_rfl) (by kernel_rfl)
  have h27 := @run_callFunc_extern Tryz.prog 176 _ (ReflectliteType.abiMethod fun t => do pure (.int .u8 (← Rtype.kind t))) Tryz.func176 (by kernel_rfl) (by kernel_rfl) (by kernel_rfl) (by kernel_rfl)
  have h37 := @run_callFunc_extern Tryz.prog 188 _ (ReflectliteType.method ReflectliteType.elem) Tryz.func188 (by kernel_rfl) (by kernel_rfl) (by kernel_rfl) (by kernel_rfl)
  have h38 := @run_callFunc_extern Tryz.prog 189 _ (ReflectliteType.relation "Implements" ReflectliteType.implements_) Tryz.func189 (by kernel_rfl) (by kernel_rfl) (by kernel_rfl) (by kernel_rfl)
  have h10 := @run_callFunc_extern Tryz.prog 159 _ ReflectliteType.typeOf Tryz.func159 (by kernel_rfl) (by kernel_rfl) (by kernel_rfl) (by kernel_rfl)
  have h35 := @run_callFunc_extern Tryz.prog 186 _ (ReflectliteType.relation "AssignableTo" ReflectliteType.assignableTo) Tryz.func186 (by kernel_rfl) (by kernel_rfl) (by kernel_rfl) (by kernel_rfl)
  have h11 := @run_callFunc_extern Tryz.prog 160 _ (ReflectliteValue.method (ReflectliteValue.valueError "reflectlite.Value.Elem" 0) ReflectliteValue.elem) Tryz.func160 (by kernel_rfl) (by kernel_rfl) (by kernel_rfl) (by kernel_rfl)
  have h12 := @run_callFunc_extern Tryz.prog 161 _ ReflectliteValue.set Tryz.func161 (by kernel_rfl) (by kernel_rfl) (by kernel_rfl) (by kernel_rfl)
  have tO := as_typeOf25
  have mA := as_methodAssignableTo
  have a39 := ae_assignable
  have aN := ae_assignableN
  have tE := ae_typeOf
  have v39 := ae_valueOfE
  have f6 := ae_valueOf
  have f7 := ae_type
  have mK := as_methodKind
  have mE := as_methodElem
  have mI := as_methodImplements
  have k27 := ae_kindp
  have k25 := ae_kind
  have e27 := ae_elem
  have i25 := ae_implements
  have n8 := ae_isNil ⟨w.heap.size, 0, none⟩ t ((w.alloc (.cells #[.pointer (some t)] 196)).alloc (.cells #[.pointer (some ⟨1, 196, none⟩), .pointer (some ⟨w.heap.size, 0, none⟩), .int .u64 150] 213)) (by simp)
  have hlt : 0 < w.heap.size := by
    rcases Nat.eq_zero_or_pos w.heap.size with h0 | h
    · simp [World.cell?, h0] at hg
    · exact h
  have hg2 : ((w.alloc (.cells #[.pointer (some t)] 196)).alloc (.cells #[.pointer (some ⟨1, 196, none⟩), .pointer (some ⟨w.heap.size, 0, none⟩), .int .u64 150] 213)).cell? ⟨0, 0, none⟩ = some (.iface 228 (.agg #[.pointer (some ⟨1, 162, none⟩)])) := by
    rw [World.cell?_alloc_lt _ _ ⟨0, 0, none⟩ (by simp), World.cell?_alloc_lt _ _ ⟨0, 0, none⟩ hlt]; exact hg
  have htl : t.block < w.heap.size := by
    rcases Nat.lt_or_ge t.block w.heap.size with h | h
    · exact h
    · simp [World.cell?, Array.getElem?_eq_none h] at ht0
  have el := ae_elemV ⟨w.heap.size, 0, none⟩ t (((w.alloc (.cells #[.pointer (some t)] 196)).alloc (.cells #[.pointer (some ⟨1, 196, none⟩), .pointer (some ⟨w.heap.size, 0, none⟩), .int .u64 150] 213)).alloc (.cells #[.pointer (some ⟨1, 196, none⟩), .pointer (some ⟨w.heap.size, 0, none⟩), .int .u64 150] 213)) (by rw [World.cell?_alloc_lt _ _ ⟨w.heap.size, 0, none⟩ (by simp; omega)]; simp)
  have st := ae_set t ⟨w.heap.size + 1 + 1 + 1, 0, none⟩ n old ((((w.alloc (.cells #[.pointer (some t)] 196)).alloc (.cells #[.pointer (some ⟨1, 196, none⟩), .pointer (some ⟨w.heap.size, 0, none⟩), .int .u64 150] 213)).alloc (.cells #[.pointer (some ⟨1, 196, none⟩), .pointer (some ⟨w.heap.size, 0, none⟩), .int .u64 150] 213)).alloc (.cells #[.int .i64 n] 30))
    (by rw [World.cell?_alloc_at _ _ _ _ (by simp)] <;> rfl)
    (by rw [World.cell?_alloc_lt _ _ t (by simp; omega), World.cell?_alloc_lt _ _ t (by simp; omega), World.cell?_alloc_lt _ _ t (by simp; omega), World.cell?_alloc_lt _ _ t htl]; exact ht0)
    (by rw [World.frozen?_alloc_old _ _ t (by simp; omega), World.frozen?_alloc_old _ _ t (by simp; omega), World.frozen?_alloc_old _ _ t (by simp; omega), World.frozen?_alloc_old _ _ t (Nat.ne_of_lt htl)]; exact hf0)
  have aA := ae_assA
  have aU := ae_assU
  have mU := ae_methodUnwrap
  have hel : e.block < w.heap.size := by
    rcases Nat.lt_or_ge e.block w.heap.size with h | h
    · exact h
    · simp [World.cell?, Array.getElem?_eq_none h] at hv
  have hv2 : (((w.alloc (.cells #[.pointer (some t)] 196)).alloc (.cells #[.pointer (some ⟨1, 196, none⟩), .pointer (some ⟨w.heap.size, 0, none⟩), .int .u64 150] 213)).alloc (.cells #[.pointer (some ⟨1, 196, none⟩), .pointer (some ⟨w.heap.size, 0, none⟩), .int .u64 150] 213)).cell? ⟨e.block, e.off + 1, none⟩ = some (.iface 30 (.int .i64 n)) := by
    rw [World.cell?_alloc_lt _ _ _ (by simp; omega), World.cell?_alloc_lt _ _ _ (by simp; omega), World.cell?_alloc_lt _ _ _ (by simpa using hel)]; exact hv
  go_enter Tryz.func138, Tryz.ntmps138
  go_wp2
  refine wp_loop_rounds 2 ?_
  rw [rounds_succ]
  go_wp2
  rw [rounds_succ]
  go_wp2
  go_ret
  exact ⟨rfl, rfl⟩
end Go.Proofs.YticlgdhhnjpkjaaGreatDoor.Pf
namespace Go.Proofs.YticlgdhhnjpkjaaGreatDoor.Pf
open Go Go.RowKit Go.Proofs Go.Proofs.YticlgdhhnjpkjaaGreatDoor.Mw Go.Proofs.YticlgdhhnjpkjaaGreatDoor.Sx
set_option linter.unusedVariables false
set_option linter.unusedSimpArgs false
theorem as_callable : Callable Tryz.prog 138 := ⟨_, Tryz.func138, by kernel_rfl, by kernel_rfl, by kernel_rfl⟩
theorem as_nil_pc {t : DV} {R : DV → DMem → Prop} {M : DMem} (hR : R (.bool false) M) : PC Tryz.prog 138 [.raw .nilIface, t] R M := by
  intro F m vals hM hv hF ho
  obtain ⟨x, vs, rfl, hx, hv⟩ : ∃ x vs, vals = x :: vs ∧ Rep m (.raw .nilIface) x ∧ RepL m [t] vs := by
    obtain ⟨h1, h2⟩ := hv
    cases vals with
    | nil => simp at h2
    | cons x vs => exact ⟨x, vs, rfl, h1.1, h1.2, by simp only [List.length_cons, List.length_nil] at h2 ⊢; omega⟩
  obtain ⟨y, rfl, hy⟩ : ∃ y, vs = [y] ∧ Rep m t y := by
    obtain ⟨h1, h2⟩ := hv
    match vs, h2 with
    | [y], _ => exact ⟨y, rfl, h1.1⟩
  have hx' : x = .nilIface := by simpa only [Rep] using hx
  subst hx'
  exact ⟨as_callable, fun w0 w hs => (as_nil y w).mono fun e w' ⟨he, hw⟩ => ⟨_, m, he, hw ▸ hs, .bool false, M, by simp only [Rep], hM, Fin.refl m, hF, ho, hR⟩⟩
theorem sat_frozen {w0 w : World} {m : Mem} (h : Sat w0 w m) {b n ty : Nat} {cs : List Value} (hb : m b = some (.cells ty n false cs)) : w.frozen? ⟨b, 0, none⟩ = false := by
  rcases h.blk _ _ hb with ⟨_, arr, fz, he, _, _, _, hf⟩ | ⟨_, _, q, _, he, _⟩
  · obtain ⟨rfl, _⟩ := hf rfl
    simp [World.frozen?, he]
  · cases q <;> simp [World.frozen?, he, MObj.obj]
theorem sat_glob {w0 w : World} {m : Mem} (h : Sat w0 w m) (hg : Glob m) : w.cell? ⟨0, 0, none⟩ = some (.iface 228 (.agg #[.pointer (some ⟨1, 162, none⟩)])) := by
  obtain ⟨ty, e⟩ := hg 0 _ rfl
  exact h.get (by simp [Mem.get, e])
theorem as_hit_pc (pc e : Int) {b ty : Nat} {old : DV} {R : DV → DMem → Prop} {M : DMem} (hb : M b = some ⟨ty, 1, [old]⟩)
    (hR : R (.bool true) (M.ins b ⟨ty, 1, [.ip [.int .i64 pc, .ifc 30 (.int .i64 e)]]⟩)) : PC Tryz.prog 138 [faultD pc e, .ifc 195 (.mp b 0)] R M := by
  intro F m vals hM hv hF ho
  obtain ⟨x, y, rfl, hx, hy⟩ : ∃ x y, vals = [x, y] ∧ Rep m (faultD pc e) x ∧ Rep m (.ifc 195 (.mp b 0)) y := by
    obtain ⟨h1, h2⟩ := hv
    match vals, h2 with
    | [x, y], _ => exact ⟨x, y, rfl, h1.1, h1.2.1⟩
  simp only [faultD, Rep] at hx hy
  obtain ⟨z, rfl, hz⟩ := hx
  obtain ⟨_, rfl, rfl⟩ := hy
  have hz0 : Rep m (.ip [.int .i64 pc, .ifc 30 (.int .i64 e)]) z := by simpa only [Rep] using hz
  obtain ⟨b', o, ty', N, full, rfl, hz⟩ := hz
  obtain ⟨vs, h1, h2, h3⟩ := hM b _ hb
  obtain ⟨u, rfl⟩ : ∃ u, vs = [u] := by
    match vs, h3 with
    | [u], _ => exact ⟨u, rfl⟩
  have hI : InvD F m (fun _ => .nilp) M (fun _ => .pointer none) m := ⟨fun _ => by simp only [Rep], hM, Fin.refl m, hF, ho⟩
  obtain ⟨k1, k2, k3, k4⟩ := hI.write hb (cs := [.ip [.int .i64 pc, .ifc 30 (.int .i64 e)]]) (vs := [.pointer (some ⟨b', o, none⟩)]) ⟨⟨hz0, trivial⟩, rfl⟩
  refine ⟨as_callable, fun w0 w hs => (as_hit ⟨b', o, none⟩ ⟨b, 0, none⟩ u w (sat_glob hs hM.glob) (hs.get (by simp [Mem.get, h1])) (sat_frozen hs h1)).mono fun ev w' ⟨he, hw⟩ => ⟨_, _, he, ?_, .bool true, _, by simp only [Rep], k1, k2, k3, k4, hR⟩⟩
  subst hw
  exact ((((hs.alloc' _).alloc' _).alloc' _).alloc' _).set (i := 0) h1 (by simp) (by simp) _
theorem as_deep_pc (pc e : Int) {b ty : Nat} {old : DV} {R : DV → DMem → Prop} {M : DMem} (hb : M b = some ⟨ty, 1, [old]⟩)
    (hR : R (.bool true) (M.ins b ⟨ty, 1, [.int .i64 e]⟩)) : PC Tryz.prog 138 [faultD pc e, .ifc 196 (.mp b 0)] R M := by
  intro F m vals hM hv hF ho
  obtain ⟨x, y, rfl, hx, hy⟩ : ∃ x y, vals = [x, y] ∧ Rep m (faultD pc e) x ∧ Rep m (.ifc 196 (.mp b 0)) y := by
    obtain ⟨h1, h2⟩ := hv
    match vals, h2 with
    | [x, y], _ => exact ⟨x, y, rfl, h1.1, h1.2.1⟩
  simp only [faultD, Rep] at hx hy
  obtain ⟨z, rfl, hz⟩ := hx
  obtain ⟨_, rfl, rfl⟩ := hy
  have hz0 : Rep m (.ip [.int .i64 pc, .ifc 30 (.int .i64 e)]) z := by simpa only [Rep] using hz
  obtain ⟨b', o, ty', N, full, rfl, hz⟩ := hz
  have hcell : m.get ⟨b', o + 1, none⟩ = some (.iface 30 (.int .i64 e)) := by
    obtain ⟨hm, hp⟩ := hz
    have h5 : (full.drop o)[1]? = some (.iface 30 (.int .i64 e)) := by
      match hd : full.drop o, hp with
      | x1 :: x2 :: rest, hp =>
        obtain ⟨y, hy, hy2⟩ := hp.2.1
        simp only [Rep] at hy2
        subst hy hy2
        rfl
    rw [List.getElem?_drop] at h5
    simp [Mem.get, hm, h5]
  obtain ⟨vs, h1, h2, h3⟩ := hM b _ hb
  obtain ⟨u, rfl⟩ : ∃ u, vs = [u] := by
    match vs, h3 with
    | [u], _ => exact ⟨u, rfl⟩
  have hI : InvD F m (fun _ => .nilp) M (fun _ => .pointer none) m := ⟨fun _ => by simp only [Rep], hM, Fin.refl m, hF, ho⟩
  obtain ⟨k1, k2, k3, k4⟩ := hI.write hb (cs := [.int .i64 e]) (vs := [.int .i64 e]) ⟨⟨by simp only [Rep], trivial⟩, rfl⟩
  refine ⟨as_callable, fun w0 w hs => (as_deep ⟨b', o, none⟩ ⟨b, 0, none⟩ e u w (hs.get hcell) (sat_glob hs hM.glob) (hs.get (by simp [Mem.get, h1])) (sat_frozen hs h1)).mono fun ev w' ⟨he, hw⟩ => ⟨_, _, he, ?_, .bool true, _, by simp only [Rep], k1, k2, k3, k4, hR⟩⟩
  subst hw
  exact ((((hs.alloc' _).alloc' _).alloc' _).alloc' _).set (i := 0) h1 (by simp) (by simp) _
end Go.Proofs.YticlgdhhnjpkjaaGreatDoor.Pf
namespace Go.Proofs.YticlgdhhnjpkjaaGreatDoor.Pf
open Go Go.RowKit Go.Proofs Go.Proofs.YticlgdhhnjpkjaaGreatDoor.Mw Go.Proofs.YticlgdhhnjpkjaaGreatDoor.Sx
set_option linter.unusedVariables false
set_option linter.unusedSimpArgs false
set_option maxRecDepth 4000
def plainR (r : Option (Int × Int)) : DV := match r with
  | none => .raw .nilIface
  | some (pc, e) => faultD pc e
theorem plain_pu (p : List Fnc) (f : Fnc) (hf : fmayB f.code = true) : Pu Tryz.prog F_verify_plain [.ip [slD Fnc.c p], .ip f.c, slB (reachF f)] (plainR (plainE p f (reachF f))) := by
  obtain ⟨hl1, hl2⟩ := fmay_le hf
  have hrl := reachF_len f
  refine Pu.of (pc_verify_plain (by simp) ?_)
  simp only [S_verify_plain, R_verify_plain, MU_verify_plain, ofV_nilI, SW, SV, wpD, evDL, evDM, evD, bldLD, wpSp, DMem.mt, beq_self_eq_true, seval]
  refine ⟨fun k δ M => ∃ i, i ≤ f.code.length ∧ k = f.code.length - i ∧ δ 0 = .ip [slD Fnc.c p] ∧ δ 1 = .ip f.c ∧ δ 2 = slB (reachF f) ∧ δ 14 = slD Ins.c f.code ∧ δ 15 = .int .i64 f.code.length ∧ δ 16 = .int .i64 i ∧ (∀ j, j < i → badP p f (reachF f) j = false),
    f.code.length, ⟨0, Nat.zero_le _, rfl, rfl, rfl, rfl, rfl, rfl, rfl, fun j hj => absurd hj (by omega)⟩, ?_⟩
  rintro k δ M ⟨i, hi, rfl, h0, h1, h2, h14, h15, h16, hj⟩
  simp only [S1_verify_plain, MU_verify_plain, h0, h1, h2, h14, h15, h16, SW, SV, wpD, evDL, evDM, evD, bldLD, wpSp, DMem.mt, beq_self_eq_true, seval, decide_eq_true_eq, decide_eq_false_iff_not]
  refine ⟨fun hlt => ?_, fun hge => ?_⟩
  · have hlt' : i < f.code.length := by omega
    have hir : i < (reachF f).length := by omega
    have hi62 : i < 4611686018427387905 := by omega
    have hbad : ((reachF f)[i] && outB p f f.code[i]) = badP p f (reachF f) i := by
      unfold badP
      rw [List.getD_eq_getElem?_getD, List.getElem?_eq_getElem hir, List.getD_eq_getElem?_getD, List.getElem?_eq_getElem hlt'] <;> rfl
    simp only [ix_slD Ins.len hlt', h0, h1, h2, h14, h15, h16, SW, SV, wpD, evDL, evDM, evD, bldLD, wpSp, DMem.mt, beq_self_eq_true, seval]
    refine fun q M2 hq hM2 => ?_
    refine stD (hM2 ▸ DMem.ins_same _ _ _) rfl rfl (by simp) (by simp) rfl fun M3 hM3 => ?_
    have hq3 : M3 q = some ⟨63, 2, f.code[i].c⟩ := by rw [hM3, DMem.ins_same] <;> rfl
    simp only [hq3, ix_slB hir, fz_prg, fz_ins, outside_pf, hbad, h0, h1, h2, h14, h15, h16, w64s hi62, of0_nilI, cellsIfc, SW, SV, wpD, evDL, evDM, evD, bldLD, wpSp, DMem.mt, beq_self_eq_true, seval]
    refine ⟨fun hb => ?_, fun hb => ⟨f.code.length - (i + 1), M3, by omega, SubD.refl _, i + 1, by omega, rfl, rfl, fun j hji => ?_⟩⟩
    · rw [plain_hit hlt' hb hj]
      simp only [fz_ifc, fz_ip, fz_int, List.map_cons, List.map_nil, plainR, faultD]
    · rcases Nat.lt_or_ge j i with h | h
      · exact hj j h
      · have : j = i := by omega
        subst this; exact hb
  · have : i = f.code.length := by omega
    subst this
    have hlast : f.code.length - 1 < f.code.length := by omega
    have hlr : f.code.length - 1 < (reachF f).length := by omega
    have el : wr64 ((f.code.length : Int) - 1) = ((f.code.length - 1 : Nat) : Int) := by rw [w64 (by omega)]; omega
    have hpm := plain_miss hj
    rw [List.getD_eq_getElem?_getD, List.getElem?_eq_getElem hlr, List.getD_eq_getElem?_getD, List.getElem?_eq_getElem hlast] at hpm
    simp only [Option.getD_some] at hpm
    simp only [S2_verify_plain, MU_verify_plain, ix_slB hlr, ix_slD Ins.len hlast, el, h0, h1, h2, h14, h15, h16, of0_nilI, ofV_nilI, cellsIfc, fz_raw, SW, SV, wpD, evDL, evDM, evD, bldLD, wpSp, DMem.mt, beq_self_eq_true, seval]
    refine ⟨fun hb => ?_, fun hb => ?_⟩
    · rw [decide_not, decide_not] at hb
      rw [if_pos hb] at hpm
      rw [hpm]
      simp only [fz_ifc, fz_ip, fz_int, List.map_cons, List.map_nil, plainR, faultD]
    · rw [decide_not, decide_not] at hb
      rw [if_neg (by rw [hb]; simp)] at hpm
      rw [hpm] <;> rfl
end Go.Proofs.YticlgdhhnjpkjaaGreatDoor.Pf
namespace Go.Proofs.YticlgdhhnjpkjaaGreatDoor.Pf
open Go Go.RowKit Go.Proofs Go.Proofs.YticlgdhhnjpkjaaGreatDoor.Mw Go.Proofs.YticlgdhhnjpkjaaGreatDoor.Sx
set_option linter.unusedVariables false
set_option linter.unusedSimpArgs false
set_option maxRecDepth 4000
def toldE (r : Option (Int × Int)) : Int × Int := r.getD (0, 0)
theorem told_pu (r : Option (Int × Int)) : Pu Tryz.prog F_verify_told [plainR r] (.tup [.int .i64 (toldE r).1, .int .i64 (toldE r).2]) := by
  refine Pu.of (pc_verify_told (by simp) ?_)
  simp only [S_verify_told, S2_verify_told, S1_verify_told, R_verify_told, MU_verify_told, SW, SV, wpD, evDL, evDM, evD, bldLD, wpSp, DMem.mt, beq_self_eq_true, seval]
  refine fun q M1 h1 b M2 hn h2 => ?_
  have hqb : q ≠ b := by
    rintro rfl
    rw [h1, DMem.ins_same] at hn; cases hn
  have hq2 : M2 q = some ⟨185, 1, [.nilp]⟩ := by rw [h2, DMem.ins_ne _ _ hqb, h1, DMem.ins_same]
  have hb2 : M2 b = some ⟨30, 1, [.int .i64 0]⟩ := by rw [h2, DMem.ins_same]
  cases r with
  | none =>
    refine as_nil_pc ?_
    simp only [plainR, toldE, SW, SV, wpD, evDL, evDM, evD, bldLD, wpSp, DMem.mt, beq_self_eq_true, seval]
  | some x =>
    obtain ⟨pc, e⟩ := x
    refine as_hit_pc pc e hq2 ?_
    simp only [plainR, toldE, SW, SV, wpD, evDL, evDM, evD, bldLD, wpSp, DMem.mt, beq_self_eq_true, seval]
    refine as_deep_pc pc e (by rw [DMem.ins_ne _ _ (Ne.symm hqb)]; exact hb2) ?_
    simp only [plainR, toldE, SW, SV, wpD, evDL, evDM, evD, bldLD, wpSp, DMem.mt, beq_self_eq_true, seval]
    refine ⟨[(2, .int .i64 pc), (3, .int .i64 e)], ?_, ?_⟩
    · rw [DMem.ins_ne _ _ hqb, DMem.ins_same]
      rfl
    · simp only [SW, SV, wpD, evDL, evDM, evD, bldLD, wpSp, DMem.mt, beq_self_eq_true, seval]
end Go.Proofs.YticlgdhhnjpkjaaGreatDoor.Pf
namespace Go.Proofs.YticlgdhhnjpkjaaGreatDoor.Pf
open Go Go.RowKit Go.Proofs Go.Proofs.YticlgdhhnjpkjaaGreatDoor.Mw Go.Proofs.YticlgdhhnjpkjaaGreatDoor.Sx
set_option linter.unusedVariables false
set_option linter.unusedSimpArgs false
theorem effNil (o : Oper) {x : Nat} {s : TypeId} (ho : o.op = .binOp .eql 162 (.tmp x) (.const .nilIface) s) {K : DV → DMem → Prop} {δ : DEnv} {M : DMem} {b : Bool} (hb : (b = true ∧ δ x = .raw .nilIface) ∨ (b = false ∧ ∃ t d, δ x = .ifc t d)) (hK : K (.bool b) M) : EffD Tryz.prog o K δ M := by
  intro F m0 ρ m hI w0 w a hs ha
  have h41 : a.eval (.tmp x) = ρ x := ha _ (by simp [ho, Op.operands])
  have hr := hI.env x
  have hu : Tryz.prog.underlying 162 = some (.interface (Tryz.prog.methodsAt 162)) := by kernel_rfl
  refine wp_of_run (v := .bool b) (w' := w) ?_ ⟨.bool b, m, rfl, hs, .bool b, M, ⟨by simp only [Rep], hI.mem, Fin.refl m, hI.keep, hI.own⟩, hK⟩
  rcases hb with ⟨rfl, h⟩ | ⟨rfl, t, d, h⟩
  · rw [h] at hr
    simp only [Rep] at hr
    rw [hr] at h41
    have h2 := run_eql_nil_nil (P := Tryz.prog) (w := w) 162 hu
    simp only [Act.eval] at h41
    simp [execOp, ho, h41, Act.eval, h2, Result.andThen, eqGuard]
  · rw [h] at hr
    simp only [Rep] at hr
    obtain ⟨y, hy, _⟩ := hr
    rw [hy] at h41
    have h2 := run_eql_held_nil (P := Tryz.prog) (w := w) 162 t y hu
    simp only [Act.eval] at h41
    simp [execOp, ho, h41, Act.eval, h2, Result.andThen, eqGuard]
end Go.Proofs.YticlgdhhnjpkjaaGreatDoor.Pf
namespace Go.Proofs.YticlgdhhnjpkjaaGreatDoor.Pf
open Go Go.RowKit Go.Proofs Go.Proofs.YticlgdhhnjpkjaaGreatDoor.Mw Go.Proofs.YticlgdhhnjpkjaaGreatDoor.Sx
set_option linter.unusedVariables false
set_option linter.unusedSimpArgs false
set_option maxRecDepth 4000
theorem imp_front (cs ds : List DV) : Imp (.ip (cs ++ ds)) (.ip cs) := fun m v r => by
  simp only [Rep] at r ⊢
  obtain ⟨b, o, ty, N, full, h1, h2, h3⟩ := r
  exact ⟨b, o, ty, N, full, h1, h2, RepP.front h3⟩
theorem imp_fn (f : Fnc) (p : DV) (rest : List DV) (x : List DV) : ImpL (p :: .ip (.int .i64 f.args :: .int .i64 f.locals :: slD Ins.c f.code :: rest) :: x) (p :: .ip f.c :: x) :=
  ImpL.cons (fun _ _ h => h) (ImpL.cons (imp_front f.c rest) (ImpL.refl _))
theorem Heights_pu (p : List Fnc) (fn : Int) : Pu Tryz.prog F_verify_Heights [.agg [slD Fnc.c p], .int .i64 fn] (.tup [slI (heightsR p fn).1, .int .i64 (heightsR p fn).2.1, .int .i64 (heightsR p fn).2.2]) := by
  refine Pu.of (pc_verify_Heights (by simp) ?_)
  simp only [S_verify_Heights, R_verify_Heights, MU_verify_Heights, fz_prg, PackMay_pf, ldnI1, SW, SV, wpD, evDL, evDM, evD, bldLD, wpSp, DMem.mt, beq_self_eq_true, seval]
  refine ⟨fun h => ?_, fun h => ?_⟩
  · have hc : ¬ (packB p = true ∧ 0 ≤ fn ∧ fn < p.length) := by
      simp only [Bool.or_eq_true, Bool.not_eq_true', decide_eq_true_eq] at h
      rcases h with (h | h) | h
      · simp [h]
      · omega
      · omega
    have e : heightsR p fn = ([], 0, 500) := by unfold heightsR; rw [if_neg hc]
    rw [e] <;> rfl
  · simp only [Bool.or_eq_false_iff, Bool.not_eq_false', decide_eq_false_iff_not] at h
    obtain ⟨⟨hpk, h0⟩, h1⟩ := h
    obtain ⟨n, rfl⟩ := Int.eq_ofNat_of_zero_le (show 0 ≤ fn by omega)
    have hn : n < p.length := by omega
    have hfn := pack_fn hpk _ (List.getElem_mem hn)
    have hmay := fn_may hfn
    obtain ⟨hl1, hl2⟩ := fmay_le hmay
    have e : heightsR p n = match plainE p p[n] (reachF p[n]) with
      | some (pc, e) => ([], pc, e)
      | none => match heightsE p p[n] with
        | .ok out => (out, 0, 0)
        | .error pc => ([], pc, 502) := by
      unfold heightsR
      rw [if_pos ⟨hpk, by omega, by omega⟩, Int.toNat_natCast, List.getElem?_eq_getElem hn] <;> rfl
    rw [e]
    simp only [ix_slD Fnc.len hn, ldnI1, SW, SV, wpD, evDL, evDM, evD, bldLD, wpSp, DMem.mt, beq_self_eq_true, seval]
    generalize hg : p[n] = f at hfn hmay hl1 hl2 e ⊢
    refine Pu.pc (Reached_pt f).pu ?_
    have er : reachR f = (reachF f, 0) := by simp only [reachR, hmay] <;> rfl
    rw [er]
    simp only [S4_verify_Heights, S3_verify_Heights, S2_verify_Heights, S1_verify_Heights, MU_verify_Heights, ldnI1, SW, SV, wpD, evDL, evDM, evD, bldLD, wpSp, DMem.mt, beq_self_eq_true, seval]
    refine Pu.pc ((plain_pu p f hmay).weak (imp_fn f _ _ _)) ?_
    cases hpl : plainE p f (reachF f) with
    | some x =>
      obtain ⟨pc, e'⟩ := x
      refine effNil _ rfl (b := false) (.inr ⟨rfl, 185, _, by simp only [plainR, faultD, SW, SV, wpD, evDL, evDM, evD, bldLD, wpSp, DMem.mt, beq_self_eq_true, seval] <;> rfl⟩) ?_
      simp only [SW, SV, wpD, evDL, evDM, evD, bldLD, wpSp, DMem.mt, beq_self_eq_true, seval]
      refine Pu.pc (told_pu (some (pc, e'))) ?_
      simp only [toldE, SW, SV, wpD, evDL, evDM, evD, bldLD, wpSp, DMem.mt, beq_self_eq_true, seval] <;> rfl
    | none =>
      refine effNil _ rfl (b := true) (.inl ⟨rfl, by simp only [plainR, SW, SV, wpD, evDL, evDM, evD, bldLD, wpSp, DMem.mt, beq_self_eq_true, seval]⟩) ?_
      simp only [SW, SV, wpD, evDL, evDM, evD, bldLD, wpSp, DMem.mt, beq_self_eq_true, seval]
      have hj : ∀ j, j < f.code.length → badP p f (reachF f) j = false := by
        intro j hlt
        unfold plainE at hpl
        split at hpl
        · cases hpl
        · rename_i hfd
          rw [List.find?_range_eq_none] at hfd
          have h9 := hfd j hlt
          unfold badP
          revert h9
          generalize ((reachF f).getD j false && outB p f (f.code.getD j ⟨0, 0⟩)) = z
          cases z <;> simp
      refine Pu.pc ((heights_pu p f (pack_fn hpk) hmay (plain_none hmay hj)).weak (imp_fn f _ _ _)) ?_
      cases hh : heightsE p f with
      | ok out =>
        simp only [heightsD, SW, SV, wpD, evDL, evDM, evD, bldLD, wpSp, DMem.mt, beq_self_eq_true, seval]
        refine Pu.pc (told_pu none) ?_
        simp only [toldE, SW, SV, wpD, evDL, evDM, evD, bldLD, wpSp, DMem.mt, beq_self_eq_true, seval]
        try rfl
      | error pc =>
        simp only [heightsD, SW, SV, wpD, evDL, evDM, evD, bldLD, wpSp, DMem.mt, beq_self_eq_true, seval]
        refine Pu.pc (told_pu (some (pc, 502))) ?_
        simp only [toldE, SW, SV, wpD, evDL, evDM, evD, bldLD, wpSp, DMem.mt, beq_self_eq_true, seval]
        try rfl
end Go.Proofs.YticlgdhhnjpkjaaGreatDoor.Pf
namespace Go.Proofs.YticlgdhhnjpkjaaGreatDoor.Pf
open Go Go.RowKit Go.Proofs Go.Proofs.YticlgdhhnjpkjaaGreatDoor.Mw Go.Proofs.YticlgdhhnjpkjaaGreatDoor.Sx
set_option linter.unusedVariables false
set_option linter.unusedSimpArgs false
set_option maxRecDepth 4000
def rowsD (l : List (List Int)) : DV := .isl l.length (l.map slI)
theorem All_pu (p : List Fnc) : Pu Tryz.prog F_verify_All [.ip [slD Fnc.c p]] (.tup [rowsD (allR p).1, .int .i64 (allR p).2]) := by
  refine Pu.of (pc_verify_All (by simp) ?_)
  simp only [S_verify_All, R_verify_All, MU_verify_All, fz_prg, PackMay_pf, ldnI1, SW, SV, wpD, evDL, evDM, evD, bldLD, wpSp, DMem.mt, beq_self_eq_true, seval]
  refine ⟨fun h => ?_, fun h => ?_⟩
  · have e : allR p = ([], 500) := by
      unfold allR; rw [if_neg (by simpa using h)]
    rw [e] <;> rfl
  · have hpk : packB p = true := by simpa using h
    have hp8 : p.length ≤ 8 := by
      have := hpk
      unfold packB at this
      simp only [Bool.and_eq_true, decide_eq_true_eq] at this
      exact this.1.2
    simp only [S3_verify_All, SW, SV, wpD, evDL, evDM, evD, bldLD, wpSp, DMem.mt, beq_self_eq_true, seval]
    refine ⟨fun k δ M => ∃ i, i ≤ p.length ∧ k = p.length - i ∧ δ 0 = .ip [slD Fnc.c p] ∧ δ 16 = .int .i64 p.length ∧ δ 17 = .int .i64 i ∧ OwnD M 1 (δ 4) i (((List.range i).map fun j : Nat => (heightsR p (j : Int)).1).map slI) ∧ ∀ j, j < i → (heightsR p (j : Int)).2.2 = 0,
      p.length, ⟨0, Nat.zero_le _, rfl, rfl, rfl, rfl, OwnD.zsl _ _, fun j hj => absurd hj (by omega)⟩, ?_⟩
    rintro k δ M ⟨i, hi, rfl, h0, h16, h17, ho, hj⟩
    simp only [S2_verify_All, MU_verify_All, h0, h16, h17, ldnI1, SW, SV, wpD, evDL, evDM, evD, bldLD, wpSp, DMem.mt, beq_self_eq_true, seval, decide_eq_true_eq, decide_eq_false_iff_not]
    refine ⟨fun hlt => ?_, fun hge => ?_⟩
    · have hlt' : i < p.length := by omega
      refine Pu.pc (Heights_pu p i) ?_
      simp only [S1_verify_All, MU_verify_All, h0, h16, h17, SW, SV, wpD, evDL, evDM, evD, bldLD, wpSp, DMem.mt, beq_self_eq_true, seval, decide_eq_true_eq, decide_eq_false_iff_not]
      refine ⟨fun hne => ?_, fun he => ?_⟩
      · rw [verify_hit hpk hlt' hne hj]
        rfl
      · have he' : (heightsR p (i : Int)).2.2 = 0 := by simpa using he
        refine app_one (x := slI (heightsR p (i : Int)).1) (bytes := 24) ho rfl (by omega) (by omega) fun d M' ho' hg => ?_
        simp only [h0, h16, h17, w64s (show i < 4611686018427387905 by omega), SW, SV, wpD, evDL, evDM, evD, bldLD, wpSp, DMem.mt, beq_self_eq_true, seval]
        refine ⟨p.length - (i + 1), M', by omega, SubD.refl _, i + 1, by omega, rfl, rfl, ?_, fun j hji => ?_⟩
        · rw [List.range_succ, List.map_append, List.map_append]
          exact ho'
        · rcases Nat.lt_or_ge j i with h2 | h2
          · exact hj j h2
          · have : j = i := by omega
            subst this; exact he'
    · have hil : i = p.length := by omega
      subst hil
      try simp only [h0, h16, h17, SW, SV, wpD, evDL, evDM, evD, bldLD, wpSp, DMem.mt, beq_self_eq_true, seval]
      rw [verify_miss hpk hj, ho.fz 3, fzmap_froz (FrozL.map (fun x => Froz.slI x) _)]
      simp only [rowsD, List.length_map, List.length_range]
end Go.Proofs.YticlgdhhnjpkjaaGreatDoor.Pf
namespace Go.Proofs.YticlgdhhnjpkjaaGreatDoor.Pf
open Go Go.RowKit Go.Proofs Go.Proofs.YticlgdhhnjpkjaaGreatDoor.Mw Go.Proofs.YticlgdhhnjpkjaaGreatDoor.Sx
set_option linter.unusedVariables false
set_option linter.unusedSimpArgs false
set_option maxRecDepth 8000
def lowW (p : List Fnc) (f : Fnc) (fn : Int) (hs : List Int) (i : Nat) : Low := ⟨(lowS p f fn hs i).code, (lowS p f fn hs i).metas, (lowS p f fn hs i).starts ++ List.replicate (f.code.length - i) 0⟩
theorem WrAt.sub {M M' : DMem} {wb : Nat} {fn regs : Int} {w : Low} {S : List Nat} (h : WrAt M wb fn regs w S) (k : SubD M M') : WrAt M' wb fn regs w S := by
  obtain ⟨dc, dm, sb, Sc, Sm, hM, hc, hm, hs, rfl, hnd⟩ := h
  exact ⟨dc, dm, sb, Sc, Sm, k _ _ hM, hc.sub irE_ok k, hm.sub metaE_ok k, k _ _ hs, rfl, hnd⟩
theorem WrAt.here {M : DMem} {wb : Nat} {fn regs : Int} {w : Low} {S : List Nat} (h : WrAt M wb fn regs w S) : ∀ y ∈ S, M y ≠ none := by
  obtain ⟨dc, dm, sb, Sc, Sm, hM, hc, hm, hs, rfl, hnd⟩ := h
  intro y hy
  simp only [List.mem_cons, List.mem_append] at hy
  rcases hy with rfl | rfl | h | h
  · rw [hM]; simp
  · rw [hs]; simp
  · exact hc.here irE_ok y h
  · exact hm.here metaE_ok y h
theorem imp_zsl : Imp .zsl (slI []) := fun m v h => by
  simp only [slI, Rep] at h ⊢
  obtain ⟨a, rfl⟩ := h
  exact ⟨a, 0, rfl, by simp⟩
end Go.Proofs.YticlgdhhnjpkjaaGreatDoor.Pf
namespace Go.Proofs.YticlgdhhnjpkjaaGreatDoor.Pf
open Go Go.RowKit Go.Proofs Go.Proofs.YticlgdhhnjpkjaaGreatDoor.Mw Go.Proofs.YticlgdhhnjpkjaaGreatDoor.Sx
set_option linter.unusedVariables false
set_option linter.unusedSimpArgs false
theorem height_at {p : List Fnc} {n : Nat} (h : (heightsR p (n : Int)).2.2 = 0) {i : Nat} {v : Int} (hv : (heightsR p (n : Int)).1[i]? = some v) : heightF p n i = v := by
  unfold heightF
  have hlt := (List.getElem?_eq_some_iff.1 hv).1
  rw [if_pos ⟨h, by omega, by omega⟩, Int.toNat_natCast, List.getD_eq_getElem?_getD, hv] <;> rfl
def docS (p : List Fnc) (f : Fnc) (fn : Int) (hs : List Int) (n : Nat) : List Int := (List.range n).map fun i => ((lowS p f fn hs i).code.length : Int)
end Go.Proofs.YticlgdhhnjpkjaaGreatDoor.Pf
namespace Go.Proofs.YticlgdhhnjpkjaaGreatDoor.Pf
open Go Go.RowKit Go.Proofs Go.Proofs.YticlgdhhnjpkjaaGreatDoor.Mw Go.Proofs.YticlgdhhnjpkjaaGreatDoor.Sx
set_option linter.unusedVariables false
set_option linter.unusedSimpArgs false
def regB (regs x : Int) : Bool := decide (0 ≤ x) && decide (x < regs)
def localsOf (p : List Fnc) (fn : Int) : Int := match p[fn.toNat]? with | some f => f.locals | none => 0
def irMayB (p : List Fnc) (regs : Int) (n mm at' : Nat) (x : Irc) : Bool :=
  (decide (0 ≤ x.cost ∧ x.cost ≤ 256) && decide (0 ≤ x.pc ∧ x.pc < 64)) &&
  (if x.kind = 0 ∨ x.kind = 11 then decide (x.r = 0 ∧ x.a = 0 ∧ x.b = 0 ∧ x.k = 0 ∧ x.mt = 0 ∧ x.args = [])
  else if x.kind = 1 then regB regs x.r && isB x.k && decide (x.a = 0 ∧ x.b = 0 ∧ x.mt = 0 ∧ x.args = [])
  else if x.kind = 2 then regB regs x.r && regB regs x.a && decide (x.b = 0 ∧ x.k = 0 ∧ x.mt = 0 ∧ x.args = [])
  else if x.kind = 3 then regB regs x.r && regB regs x.a && regB regs x.b && decide (3 ≤ x.k ∧ x.k ≤ 9) && decide (x.mt = 0 ∧ x.args = [])
  else if x.kind = 4 then decide (0 ≤ x.k ∧ x.k < n ∧ ((at' : Int) < x.k ∨ 0 < x.cost)) && decide (x.r = 0 ∧ x.a = 0 ∧ x.b = 0 ∧ x.mt = 0 ∧ x.args = [])
  else if x.kind = 5 then regB regs x.a && decide (0 ≤ x.k ∧ x.k < n ∧ ((at' : Int) < x.k ∨ 0 < x.cost)) && decide (x.r = 0 ∧ x.b = 0 ∧ x.mt = 0 ∧ x.args = [])
  else if x.kind = 6 then regB regs x.r && decide (0 ≤ x.k ∧ x.k < p.length ∧ 0 < x.cost ∧ (x.args.length : Int) = argsOf p x.k) && x.args.all (regB regs) && decide (x.a = 0 ∧ x.b = 0 ∧ x.mt = 0)
  else if x.kind = 7 then regB regs x.a && decide (0 < x.cost) && decide (x.r = 0 ∧ x.b = 0 ∧ x.k = 0 ∧ x.mt = 0 ∧ x.args = [])
  else if x.kind = 8 then regB regs x.a && decide (x.r = 0 ∧ x.b = 0 ∧ x.k = 0 ∧ x.mt = 0 ∧ x.args = [])
  else if x.kind = 9 then regB regs x.a && decide (x.b = 0 ∨ x.b = 1) && isB x.k && decide (0 ≤ x.mt ∧ x.mt < mm) && decide (x.r = 0 ∧ x.args = [])
  else if x.kind = 10 then decide (0 ≤ x.mt ∧ x.mt < mm) && decide (x.r = 0 ∧ x.a = 0 ∧ x.b = 0 ∧ x.k = 0 ∧ x.args = [])
  else false)
def srcB (regs : Int) (s : Src) : Bool := if s.const = true then isB s.v else regB regs s.v
def partB (p : List Fnc) (regs less : Int) (x : Part) : Bool :=
  decide (0 ≤ heightF p x.fn x.pc) && decide ((x.locals.length : Int) = localsOf p x.fn) && decide ((x.stack.length : Int) = heightF p x.fn x.pc - less) && x.locals.all (srcB regs) && x.stack.all (srcB regs)
def codeAt (p : List Fnc) (fn pc : Int) : Ins := match p[fn.toNat]? with | some f => f.code.getD pc.toNat ⟨0, 0⟩ | none => ⟨0, 0⟩
def behindB (p : List Fnc) (fn pc called : Int) : Bool := decide (0 ≤ heightF p fn (pc - 1)) && decide (codeAt p fn (pc - 1) = ⟨14, called⟩)
def metaB (p : List Fnc) (fn regs : Int) : List Part → Bool
  | [a] => decide (a.fn = fn) && partB p regs 0 a
  | [a, b] => decide (a.fn = fn) && partB p regs 1 a && partB p regs 0 b && behindB p a.fn a.pc b.fn
  | _ => false
def irsB (p : List Fnc) (c : Cod) : Bool := (List.range c.code.length).all fun i => match c.code[i]? with | some x => irMayB p c.regs c.code.length c.metas.length i x | none => true
def lastB (c : Cod) : Bool := match c.code.getLast? with | some x => decide (x.kind = 4 ∨ x.kind = 8) | none => false
def headB (p : List Fnc) (c : Cod) : Bool := decide (verifyE p = 0 ∧ 0 ≤ c.fn ∧ c.fn < p.length ∧ 1 ≤ c.regs ∧ localsOf p c.fn ≤ c.regs ∧ c.regs ≤ 64 ∧ 1 ≤ c.code.length ∧ c.code.length ≤ 256 ∧ c.metas.length ≤ 64)
def codeMayB (p : List Fnc) (c : Cod) : Bool := headB p c && irsB p c && c.metas.all (metaB p c.fn c.regs) && lastB c
end Go.Proofs.YticlgdhhnjpkjaaGreatDoor.Pf
namespace Go.Proofs.YticlgdhhnjpkjaaGreatDoor.Pf
open Go Go.RowKit Go.Proofs Go.Proofs.YticlgdhhnjpkjaaGreatDoor.Mw Go.Proofs.YticlgdhhnjpkjaaGreatDoor.Sx
set_option linter.unusedVariables false
set_option linter.unusedSimpArgs false
set_option maxRecDepth 8000
abbrev shD (p : List Fnc) (c : Cod) : DV := .ip [.ip c.c, .ip [slD Fnc.c p], rowsD (allR p).1]
theorem rows_froz (l : List (List Int)) : Froz (rowsD l) := Froz.isl (FrozL.map (fun x => Froz.slI x) l)
theorem Is_pf (x : Int) : pf Tryz.prog F_wrap_Is [.int .i64 x] = some (.bool (isB x)) := wrapIs_pf x
theorem sh_froz (p : List Fnc) (c : Cod) : Froz (shD p c) := Froz.ip (((FrozL.nil.cons (rows_froz _)).cons (Froz.ip (FrozL.nil.cons (Froz.slD Fnc.froz p)))).cons (Froz.ip (Cod.froz c)))
def leavesB (k : Int) : Bool := decide (k = 9) || decide (k = 10)
def setsB (k : Int) : Bool := decide (k = 1) || (decide (k = 2) || (decide (k = 3) || decide (k = 6)))
theorem Leaves_pf (k : Int) : pf Tryz.prog F_ir_Leaves [.int .i64 k] = some (.bool (leavesB k)) := by
  refine pf_of (v := .bool _) (pc_ir_Leaves (by simp) ?_) ((FrozL.nil).cons (Froz.int _ _)) rfl rfl
  simp only [S_ir_Leaves, R_ir_Leaves, MU_ir_Leaves, MU_ir_Leaves, SW, SV, wpD, evDL, evDM, evD, bldLD, wpSp, DMem.mt, beq_self_eq_true, seval, leavesB]
theorem Sets_pf (k : Int) : pf Tryz.prog F_ir_Sets [.int .i64 k] = some (.bool (setsB k)) := by
  refine pf_of (v := .bool _) (pc_ir_Sets (by simp) ?_) ((FrozL.nil).cons (Froz.int _ _)) rfl rfl
  simp only [S_ir_Sets, R_ir_Sets, MU_ir_Sets, MU_ir_Sets, SW, SV, wpD, evDL, evDM, evD, bldLD, wpSp, DMem.mt, beq_self_eq_true, seval]
  refine ⟨fun h => ?_, fun h => ?_⟩
  · exact h.symm
  · exact h.symm
theorem reg_pf (p : List Fnc) (c : Cod) (r : Int) : pf Tryz.prog F_ir_sheet_reg [shD p c, .int .i64 r] = some (.bool (regB c.regs r)) := by
  refine pf_of (v := .bool _) (pc_ir_sheet_reg (by simp) ?_) ((FrozL.nil.cons (Froz.int _ _)).cons (sh_froz p c)) rfl rfl
  simp only [S_ir_sheet_reg, R_ir_sheet_reg, MU_ir_sheet_reg, MU_ir_sheet_reg, SW, SV, wpD, evDL, evDM, evD, bldLD, wpSp, DMem.mt, beq_self_eq_true, seval, regB]
def kB (p : List Fnc) (n : Nat) (x : Irc) : Bool :=
  if x.kind = 1 then isB x.k
  else if x.kind = 9 then isB x.k && (decide (x.b = 0) || decide (x.b = 1))
  else if x.kind = 3 then decide (3 ≤ x.k) && decide (x.k ≤ 9)
  else if x.kind = 4 ∨ x.kind = 5 then decide (0 ≤ x.k) && decide (x.k < n)
  else if x.kind = 6 then (decide (0 ≤ x.k) && decide (x.k < p.length)) && decide ((x.args.length : Int) = argsOf p x.k)
  else decide (x.k = 0)
theorem k_pf (p : List Fnc) (c : Cod) (x : Irc) : pf Tryz.prog F_ir_sheet_k [shD p c, .ip x.c] = some (.bool (kB p c.code.length x)) := by
  refine pf_of (v := .bool _) (pc_ir_sheet_k (by simp) ?_) ((FrozL.nil.cons (Froz.ip (Irc.froz x))).cons (sh_froz p c)) rfl rfl
  simp only [S_ir_sheet_k, R_ir_sheet_k, MU_ir_sheet_k, MU_ir_sheet_k, Is_pf, fz_int, List.map_cons, List.map_nil, SW, SV, wpD, evDL, evDM, evD, bldLD, wpSp, DMem.mt, beq_self_eq_true, seval]
  refine ⟨fun h1 => ?_, fun h1 => ⟨fun h9 => ?_, fun h9 => ⟨fun h3 => ?_, fun h3 => ⟨fun h45 => ?_, fun h45 => ⟨fun h6 => ?_, fun h6 => ?_⟩⟩⟩⟩⟩
  · have e : x.kind = 1 := of_decide_eq_true h1
    simp [kB, e]
  · have e : x.kind = 9 := of_decide_eq_true h9
    cases hb : isB x.k <;> by_cases hc : x.b = 0 <;> simp [hb, hc, e, kB, grdTT, grdTF, grdFF, grdFT, grdU, SW, SV, wpD, evDL, evDM, evD, bldLD, wpSp, DMem.mt, beq_self_eq_true, seval]
  · have e : x.kind = 3 := of_decide_eq_true h3
    simp [kB, e]
  · have e : x.kind = 4 ∨ x.kind = 5 := by simpa using h45
    unfold kB
    rw [if_neg (by omega), if_neg (by omega), if_neg (by omega), if_pos e]
  · have e : x.kind = 6 := of_decide_eq_true h6
    unfold kB
    rw [if_neg (by omega), if_neg (by omega), if_neg (by omega), if_neg (by omega), if_pos e]
    by_cases hr : 0 ≤ x.k ∧ x.k < p.length
    · obtain ⟨n, hn⟩ := Int.eq_ofNat_of_zero_le hr.1
      have hnl : n < p.length := by omega
      have ha : argsOf p x.k = p[n].args := by unfold argsOf; rw [hn, Int.toNat_natCast, List.getElem?_eq_getElem hnl]
      rw [ha, hn]
      simp only [ix_slD Fnc.len hnl, decide_eq_true (show (0 : Int) ≤ (n : Int) by omega), decide_eq_true (show (n : Int) < p.length by omega), SW, SV, wpD, evDL, evDM, evD, bldLD, wpSp, DMem.mt, beq_self_eq_true, seval]
    · have hf : (decide (0 ≤ x.k) && decide (x.k < (p.length : Int))) = false := by
        rw [← Bool.not_eq_true]; simp only [Bool.and_eq_true, decide_eq_true_eq]; exact hr
      simp only [hf, SW, SV, wpD, evDL, evDM, evD, bldLD, wpSp, DMem.mt, beq_self_eq_true, seval]
  · simp at h1 h9 h3 h45 h6
    unfold kB
    rw [if_neg h1, if_neg h9, if_neg h3, if_neg (by omega), if_neg h6]
def dearB (at' : Nat) (x : Irc) : Bool := decide (x.cost ≤ 256) && (decide (0 < x.cost) || (decide (x.cost = 0) && !((decide (x.kind = 6) || decide (x.kind = 7)) || (goesB x.kind && decide (x.k ≤ at')))))
theorem dear_pf (p : List Fnc) (c : Cod) (i : Nat) (x : Irc) : pf Tryz.prog F_ir_sheet_dear [shD p c, .int .i64 i, .ip x.c] = some (.bool (dearB i x)) := by
  refine pf_of (v := .bool _) (pc_ir_sheet_dear (by simp) ?_) (((FrozL.nil.cons (Froz.ip (Irc.froz x))).cons (Froz.int _ _)).cons (sh_froz p c)) rfl rfl
  simp only [S_ir_sheet_dear, R_ir_sheet_dear, MU_ir_sheet_dear, MU_ir_sheet_dear, Goes_pf, fz_int, List.map_cons, List.map_nil, SW, SV, wpD, evDL, evDM, evD, bldLD, wpSp, DMem.mt, beq_self_eq_true, seval]
  have e7 : ((decide (x.kind = 6) || decide (x.kind = 7)) = true ∧ True) ∨ (decide (x.kind = 6) || decide (x.kind = 7)) = false := by
    cases (decide (x.kind = 6) || decide (x.kind = 7)) <;> simp
  unfold dearB
  generalize (decide (x.kind = 6) || decide (x.kind = 7)) = m
  generalize goesB x.kind = g
  generalize decide (x.k ≤ (i : Int)) = kk
  by_cases c1 : x.cost ≤ 256 <;> by_cases c2 : 0 < x.cost <;> by_cases c3 : x.cost = 0 <;> cases m <;> cases g <;> simp [c1, c2, c3, grdTT, grdTF, grdFF, grdFT, grdU, SW, SV, wpD, evDL, evDM, evD, bldLD, wpSp, DMem.mt, beq_self_eq_true, seval]
theorem srcNot_pf (p : List Fnc) (c : Cod) (s : Src) : pf Tryz.prog F_ir_sheet_srcNot [shD p c, .agg s.c] = some (.bool (!srcB c.regs s)) := by
  refine pf_of (v := .bool _) (pc_ir_sheet_srcNot (by simp) ?_) ((FrozL.nil.cons (Froz.agg (Src.froz s))).cons (sh_froz p c)) rfl rfl
  simp only [S_ir_sheet_srcNot, R_ir_sheet_srcNot, MU_ir_sheet_srcNot, MU_ir_sheet_srcNot, Is_pf, reg_pf, fz_of (sh_froz p c), fz_int, List.map_cons, List.map_nil, SW, SV, wpD, evDL, evDM, evD, bldLD, wpSp, DMem.mt, beq_self_eq_true, seval]
  exact ⟨fun h => by simp [srcB, h], fun h => by simp [srcB, h]⟩
end Go.Proofs.YticlgdhhnjpkjaaGreatDoor.Pf
namespace Go.Proofs.YticlgdhhnjpkjaaGreatDoor.Pf
open Go Go.RowKit Go.Proofs Go.Proofs.YticlgdhhnjpkjaaGreatDoor.Mw Go.Proofs.YticlgdhhnjpkjaaGreatDoor.Sx
set_option linter.unusedVariables false
set_option linter.unusedSimpArgs false
set_option maxRecDepth 8000
def readsV (x : Irc) : List Int :=
  if x.kind = 3 then [x.b, x.a] else if x.kind = 2 ∨ x.kind = 5 ∨ x.kind = 7 ∨ x.kind = 8 ∨ x.kind = 9 then [x.a] else if x.kind = 6 then x.args else []
def PtrsD (M : DMem) (cs : List DV) (l : List Int) : Prop := cs.length = l.length ∧ ∀ i (h : i < l.length), ∃ d, cs[i]? = some d ∧ nckD d = some d ∧ ∀ M', SubD M M' → ldD M' d = some (.int .i64 l[i])
theorem PtrsD.nil {M : DMem} : PtrsD M [] [] := ⟨rfl, fun i h => absurd h (by simp)⟩
theorem PtrsD.snoc {M : DMem} {cs : List DV} {l : List Int} (h : PtrsD M cs l) {d : DV} {v : Int} (hn : nckD d = some d) (hv : ∀ M', SubD M M' → ldD M' d = some (.int .i64 v)) : PtrsD M (cs ++ [d]) (l ++ [v]) := by
  obtain ⟨h1, h2⟩ := h
  refine ⟨by simp [h1], fun i hi => ?_⟩
  rcases Nat.lt_or_ge i l.length with h3 | h3
  · obtain ⟨d', g1, g2, g3⟩ := h2 i h3
    exact ⟨d', by rw [List.getElem?_append_left (by omega)]; exact g1, g2, fun M' hs => by rw [g3 M' hs, List.getElem_append_left h3]⟩
  · have : i = l.length := by simp at hi; omega
    subst this
    exact ⟨d, by rw [List.getElem?_append_right (by omega)]; simp [h1], hn, fun M' hs => by rw [hv M' hs]; simp⟩
theorem app_ptr {M M1 : DMem} {d x : DV} {n : Nat} {cs : List DV} {e : TypeId} {Post : DV → DMem → Prop} (ho : OwnD M1 1 d n cs) (hn : ∀ b, blkD d = some b → M b = none) (hs : SubD M M1) (hp : plainD x = true) (hle : n ≤ 17592186044000)
    (hP : ∀ d' M2, OwnD M2 1 d' (n + 1) (cs ++ [x]) → (∀ b, blkD d' = some b → M b = none) → SubD M M2 → Post d' M2) :
    ∃ k' news, RowD M1 1 (.isl 1 [x]) k' news ∧ news.all plainD = true ∧ ∃ n', (n' + k') * 8 ≤ 140737488355328 ∧ n' + k' ≤ 9223372036854775807 ∧ AppD M1 e 1 d n' k' news Post :=
  app_one ho hp (by omega) (by omega) fun d' M2 h1 hg => hP d' M2 h1 (fun b hb => by
    rcases hg.here with e | ⟨q, e, hq⟩
    · exact hn b (e ▸ hb)
    · rw [e] at hb; cases hb
      cases hM : M b with
      | none => rfl
      | some B => rw [hs b B hM] at hq; cases hq) fun b B hB => hg.keep b B (hs b B hB) fun hh => by rw [hn b hh] at hB; cases hB
theorem Reads_pc {M : DMem} {q : Nat} {x : Irc} (hq : M q = some ⟨50, 9, x.c⟩) (ha : x.args.length * 8 ≤ 140737488351232) {R : DV → DMem → Prop}
    (hR : ∀ d M' cs, OwnD M' 1 d (readsV x).length cs → PtrsD M cs (readsV x) → SubD M M' → R d M') : PC Tryz.prog F_ir_Reads [.mp q 0] R M := by
  refine pc_ir_Reads (by simp) ?_
  have p2 : ∀ M', SubD M M' → ldD M' (.mp q 2) = some (.int .i64 x.a) := fun M' hs => by rw [ldM, hs q _ hq] <;> rfl
  have p3 : ∀ M', SubD M M' → ldD M' (.mp q 3) = some (.int .i64 x.b) := fun M' hs => by rw [ldM, hs q _ hq] <;> rfl
  have hz : ∀ b, blkD .zsl = some b → M b = none := fun b hb => by cases hb
  have s2 := (PtrsD.nil (M := M)).snoc (d := .mp q 2) rfl p2
  simp only [S_ir_Reads, R_ir_Reads, MU_ir_Reads, hq, SW, SV, wpD, evDL, evDM, evD, bldLD, wpSp, DMem.mt, beq_self_eq_true, seval]
  refine ⟨fun h3 => ?_, fun h3 => ⟨fun h2 => ?_, fun h2 => ⟨fun h6 => ?_, fun h6 => ?_⟩⟩⟩
  · have e : readsV x = [x.b, x.a] := by unfold readsV; rw [if_pos (of_decide_eq_true h3)]
    rw [e] at hR
    refine app_ptr (M := M) (OwnD.zsl _ _) hz (SubD.refl M) rfl (by omega) fun d1 M1 o1 n1 k1 => ?_
    refine app_ptr (M := M) o1 n1 k1 rfl (by omega) fun d2 M2 o2 n2 k2 => ?_
    exact hR d2 M2 _ o2 (((PtrsD.nil (M := M)).snoc rfl p3).snoc rfl p2) k2
  · have e : readsV x = [x.a] := by
      unfold readsV
      simp at h2 h3
      rw [if_neg h3, if_pos (by omega)]
    rw [e] at hR
    refine app_ptr (M := M) (OwnD.zsl _ _) hz (SubD.refl M) rfl (by omega) fun d1 M1 o1 n1 k1 => ?_
    exact hR d1 M1 _ o1 s2 k1
  · have e : readsV x = x.args := by
      unfold readsV
      simp at h2 h3 h6
      rw [if_neg h3, if_neg (by omega), if_pos h6]
    rw [e] at hR
    refine ⟨fun f δ M' => ∃ (i : Nat) (cs : List DV), i ≤ x.args.length ∧ f = x.args.length - i ∧ δ 0 = .mp q 0 ∧ δ 35 = .int .i64 x.args.length ∧ δ 36 = .int .i64 i ∧ OwnD M' 1 (δ 3) i cs ∧ PtrsD M cs (x.args.take i) ∧ (∀ b, blkD (δ 3) = some b → M b = none) ∧ SubD M M', x.args.length,
      ⟨0, [], Nat.zero_le _, rfl, rfl, rfl, rfl, OwnD.zsl _ _, PtrsD.nil, hz, SubD.refl M⟩, ?_⟩
    rintro f δ M' ⟨i, cs, hi, rfl, h0, h35, h36, ho, hp, hn, hs⟩
    simp only [S1_ir_Reads, MU_ir_Reads, h0, h35, h36, hs q _ hq, SW, SV, wpD, evDL, evDM, evD, bldLD, wpSp, DMem.mt, beq_self_eq_true, seval, decide_eq_true_eq, decide_eq_false_iff_not]
    refine ⟨fun hlt => ?_, fun hge => ?_⟩
    · have hil : i < x.args.length := by omega
      simp only [ix_slI hil, SW, SV, wpD, evDL, evDM, evD, bldLD, wpSp, DMem.mt, beq_self_eq_true, seval]
      refine app_ptr (M := M) ho hn hs rfl (by omega) fun d2 M2 o2 n2 k2 => ?_
      have ei : wr64 ((i : Int) + 1) = ((i + 1 : Nat) : Int) := w64s (by omega)
      try simp only [h0, h35, h36, ei, SW, SV, wpD, evDL, evDM, evD, bldLD, wpSp, DMem.mt, beq_self_eq_true, seval]
      refine ⟨x.args.length - (i + 1), M2, by omega, SubD.refl _, i + 1, _, by omega, rfl, rfl, o2, ?_, n2, k2⟩
      rw [List.take_succ_eq_append_getElem hil]
      exact hp.snoc rfl fun M' _ => rfl
    · have : i = x.args.length := by omega
      subst this
      rw [List.take_length] at hp
      try simp only [SW, SV, wpD, evDL, evDM, evD, bldLD, wpSp, DMem.mt, beq_self_eq_true, seval]
      exact hR _ M' cs ho hp hs
  · have e : readsV x = [] := by
      unfold readsV
      simp at h2 h3 h6
      rw [if_neg h3, if_neg (by omega), if_neg h6]
    rw [e] at hR
    exact hR _ M [] (OwnD.zsl _ _) PtrsD.nil (SubD.refl M)
end Go.Proofs.YticlgdhhnjpkjaaGreatDoor.Pf
namespace Go.Proofs.YticlgdhhnjpkjaaGreatDoor.Pf
open Go Go.RowKit Go.Proofs Go.Proofs.YticlgdhhnjpkjaaGreatDoor.Mw Go.Proofs.YticlgdhhnjpkjaaGreatDoor.Sx
set_option linter.unusedVariables false
set_option linter.unusedSimpArgs false
set_option maxRecDepth 8000
def restB (regs : Int) (x : Irc) : Bool :=
  (readsV x).all (regB regs) && ((!setsB x.kind || regB regs x.r) &&
    ((((decide ((if setsB x.kind = true then 0 else x.r) = 0)) && decide ((if x.kind = 3 ∨ x.kind = 9 ∨ x.kind = 2 ∨ x.kind = 5 ∨ x.kind = 7 ∨ x.kind = 8 then 0 else x.a) = 0)) && decide ((if x.kind = 3 ∨ x.kind = 9 then 0 else x.b) = 0)) && decide ((if leavesB x.kind = true then 0 else x.mt) = 0)))
set_option maxHeartbeats 2000000 in
theorem ins_S3 (p : List Fnc) (c : Cod) (x : Irc) {M : DMem} {δ : DEnv} {q : Nat} {cs : List DV} {d : DV} (h0 : δ 0 = shD p c) (h5 : δ 5 = .mp q 0) (h81 : δ 81 = d) (hq : M q = some ⟨50, 9, x.c⟩) (ho : OwnD M 1 d (readsV x).length cs)
    (hp : ∀ i (h : i < (readsV x).length), ∃ e, cs[i]? = some e ∧ nckD e = some e ∧ ldD M e = some (.int .i64 (readsV x)[i])) (hk : 0 ≤ x.kind ∧ x.kind ≤ 11) (hlen : (readsV x).length * 8 ≤ 140737488351232) {b : Bool} (hb : b = restB c.regs x) {KK : DEnv → DMem → Prop} {XX : Nat → DEnv → DMem → Prop} :
    wpD Tryz.prog MU_ir_sheet_ins (fun f => roL.contains f) (fun t => G_ir_sheet_ins.contains t) 137 S3_ir_sheet_ins KK XX (fun δ M' => δ 4 = .bool b) δ M := by
  simp only [S3_ir_sheet_ins, MU_ir_sheet_ins, h81, ho.len, SW, SV, wpD, evDL, evDM, evD, bldLD, wpSp, DMem.mt, beq_self_eq_true, seval]
  refine ⟨fun k δ' M' => ∃ i : Nat, i ≤ (readsV x).length ∧ k = (readsV x).length - i ∧ M' = M ∧ δ' 0 = shD p c ∧ δ' 5 = .mp q 0 ∧ δ' 81 = d ∧ δ' 82 = .int .i64 (readsV x).length ∧ δ' 83 = .int .i64 i ∧ ∀ y ∈ (readsV x).take i, regB c.regs y = true, (readsV x).length,
    ⟨0, Nat.zero_le _, rfl, rfl, h0, h5, h81, rfl, rfl, by simp⟩, ?_⟩
  clear h0 h5 h81
  rintro k δ M' ⟨i, hi, rfl, rfl, h0, h5, h81, h82, h83, hall⟩
  simp only [S1_ir_sheet_ins, MU_ir_sheet_ins, h0, h5, h81, h82, h83, SW, SV, wpD, evDL, evDM, evD, bldLD, wpSp, DMem.mt, beq_self_eq_true, seval, decide_eq_true_eq, decide_eq_false_iff_not]
  refine ⟨fun hlt => ?_, fun hge => ?_⟩
  · have hil : i < (readsV x).length := by omega
    obtain ⟨e, e1, e2, e3⟩ := hp i hil
    obtain ⟨bb, ty, cc, g1, g2, g3⟩ := ho.ix (k := .i64) hil
    have g4 : ((M' bb).bind fun B => B.cs[i]?) = some e := by rw [g2]; exact e1
    have ei : wr64 ((i : Int) + 1) = ((i + 1 : Nat) : Int) := w64s (by omega)
    simp only [g1, g4, e2, e3, h0, h5, h81, h82, h83, ei, reg_pf, fz_of (sh_froz p c), fz_irs, fz_metas, fz_prg, fz_of (rows_froz _), fz_int, List.map_cons, List.map_nil, SW, SV, wpD, evDL, evDM, evD, bldLD, wpSp, DMem.mt, beq_self_eq_true, seval]
    refine ⟨fun hr => ?_, fun hr => ?_⟩
    · have hr : regB c.regs (readsV x)[i] = false := by simpa using hr
      have : b = false := by
        rw [hb]; unfold restB
        have : (readsV x).all (regB c.regs) = false := by
          rw [List.all_eq_false]; exact ⟨_, List.getElem_mem hil, by simp [hr]⟩
        rw [this] <;> rfl
      rw [this]
    · have hr : regB c.regs (readsV x)[i] = true := by simpa using hr
      refine ⟨(readsV x).length - (i + 1), M', by omega, SubD.refl _, i + 1, by omega, rfl, rfl, rfl, fun y hy => ?_⟩
      rw [List.take_succ_eq_append_getElem hil, List.mem_append] at hy
      rcases hy with hy | hy
      · exact hall y hy
      · simp at hy; rw [hy]; exact hr
  · have : i = (readsV x).length := by omega
    subst this
    rw [List.take_length] at hall
    have hall' : (readsV x).all (regB c.regs) = true := List.all_eq_true.2 hall
    unfold restB at hb
    rw [hall'] at hb
    clear hp ho hall hall' hlen hge hi
    obtain ⟨kd, xr, xa, xb, xk, xargs, xcost, xmt, xpc⟩ := x
    simp only at hk hb
    have hks : kd = 0 ∨ kd = 1 ∨ kd = 2 ∨ kd = 3 ∨ kd = 4 ∨ kd = 5 ∨ kd = 6 ∨ kd = 7 ∨ kd = 8 ∨ kd = 9 ∨ kd = 10 ∨ kd = 11 := by omega
    rcases hks with rfl | rfl | rfl | rfl | rfl | rfl | rfl | rfl | rfl | rfl | rfl | rfl
    · simp only [S2_ir_sheet_ins, MU_ir_sheet_ins, h0, h5, hq, Sets_pf, Leaves_pf, reg_pf, fz_of (sh_froz p c), fz_irs, fz_metas, fz_prg, fz_of (rows_froz _), fz_int, List.map_cons, List.map_nil, show setsB 0 = false from rfl, show leavesB 0 = false from rfl, SW, SV, wpD, evDL, evDM, evD, bldLD, wpSp, DMem.mt, beq_self_eq_true, seval]
      rw [hb]; simp [setsB, leavesB, Bool.and_assoc]
    · simp only [S2_ir_sheet_ins, MU_ir_sheet_ins, h0, h5, hq, Sets_pf, Leaves_pf, reg_pf, fz_of (sh_froz p c), fz_irs, fz_metas, fz_prg, fz_of (rows_froz _), fz_int, List.map_cons, List.map_nil, show setsB 1 = true from rfl, show leavesB 1 = false from rfl, SW, SV, wpD, evDL, evDM, evD, bldLD, wpSp, DMem.mt, beq_self_eq_true, seval]
      refine ⟨fun hr => ?_, fun hr => ?_⟩
      · have hr : regB c.regs xr = false := by simpa using hr
        rw [hb, hr]; simp [setsB]
      · have hr : regB c.regs xr = true := by simpa using hr
        refine st9 (i := 1) (v := 0) hq rfl (by decide) fun M1 g1 _ => ?_
        replace g1 : M1 q = some ⟨50, 9, [.int .i64 1, .int .i64 0, .int .i64 xa, .int .i64 xb, .int .i64 xk, slI xargs, .int .i64 xcost, .int .i64 xmt, .int .i64 xpc]⟩ := g1
        try simp only [h0, h5, g1, Sets_pf, Leaves_pf, reg_pf, fz_of (sh_froz p c), fz_irs, fz_metas, fz_prg, fz_of (rows_froz _), fz_int, List.map_cons, List.map_nil, show setsB 1 = true from rfl, show leavesB 1 = false from rfl, SW, SV, wpD, evDL, evDM, evD, bldLD, wpSp, DMem.mt, beq_self_eq_true, seval]
        rw [hb]; rw [hr]; simp [setsB, leavesB, Bool.and_assoc]
    · simp only [S2_ir_sheet_ins, MU_ir_sheet_ins, h0, h5, hq, Sets_pf, Leaves_pf, reg_pf, fz_of (sh_froz p c), fz_irs, fz_metas, fz_prg, fz_of (rows_froz _), fz_int, List.map_cons, List.map_nil, show setsB 2 = true from rfl, show leavesB 2 = false from rfl, SW, SV, wpD, evDL, evDM, evD, bldLD, wpSp, DMem.mt, beq_self_eq_true, seval]
      refine ⟨fun hr => ?_, fun hr => ?_⟩
      · have hr : regB c.regs xr = false := by simpa using hr
        rw [hb, hr]; simp [setsB]
      · have hr : regB c.regs xr = true := by simpa using hr
        refine st9 (i := 1) (v := 0) hq rfl (by decide) fun M1 g1 _ => ?_
        replace g1 : M1 q = some ⟨50, 9, [.int .i64 2, .int .i64 0, .int .i64 xa, .int .i64 xb, .int .i64 xk, slI xargs, .int .i64 xcost, .int .i64 xmt, .int .i64 xpc]⟩ := g1
        try simp only [h0, h5, g1, Sets_pf, Leaves_pf, reg_pf, fz_of (sh_froz p c), fz_irs, fz_metas, fz_prg, fz_of (rows_froz _), fz_int, List.map_cons, List.map_nil, show setsB 2 = true from rfl, show leavesB 2 = false from rfl, SW, SV, wpD, evDL, evDM, evD, bldLD, wpSp, DMem.mt, beq_self_eq_true, seval]
        refine st9 (i := 2) (v := 0) g1 rfl (by decide) fun M2 g2 _ => ?_
        replace g2 : M2 q = some ⟨50, 9, [.int .i64 2, .int .i64 0, .int .i64 0, .int .i64 xb, .int .i64 xk, slI xargs, .int .i64 xcost, .int .i64 xmt, .int .i64 xpc]⟩ := g2
        try simp only [h0, h5, g2, Sets_pf, Leaves_pf, reg_pf, fz_of (sh_froz p c), fz_irs, fz_metas, fz_prg, fz_of (rows_froz _), fz_int, List.map_cons, List.map_nil, show setsB 2 = true from rfl, show leavesB 2 = false from rfl, SW, SV, wpD, evDL, evDM, evD, bldLD, wpSp, DMem.mt, beq_self_eq_true, seval]
        rw [hb]; rw [hr]; simp [setsB, leavesB, Bool.and_assoc]
    · simp only [S2_ir_sheet_ins, MU_ir_sheet_ins, h0, h5, hq, Sets_pf, Leaves_pf, reg_pf, fz_of (sh_froz p c), fz_irs, fz_metas, fz_prg, fz_of (rows_froz _), fz_int, List.map_cons, List.map_nil, show setsB 3 = true from rfl, show leavesB 3 = false from rfl, SW, SV, wpD, evDL, evDM, evD, bldLD, wpSp, DMem.mt, beq_self_eq_true, seval]
      refine ⟨fun hr => ?_, fun hr => ?_⟩
      · have hr : regB c.regs xr = false := by simpa using hr
        rw [hb, hr]; simp [setsB]
      · have hr : regB c.regs xr = true := by simpa using hr
        refine st9 (i := 1) (v := 0) hq rfl (by decide) fun M1 g1 _ => ?_
        replace g1 : M1 q = some ⟨50, 9, [.int .i64 3, .int .i64 0, .int .i64 xa, .int .i64 xb, .int .i64 xk, slI xargs, .int .i64 xcost, .int .i64 xmt, .int .i64 xpc]⟩ := g1
        try simp only [h0, h5, g1, Sets_pf, Leaves_pf, reg_pf, fz_of (sh_froz p c), fz_irs, fz_metas, fz_prg, fz_of (rows_froz _), fz_int, List.map_cons, List.map_nil, show setsB 3 = true from rfl, show leavesB 3 = false from rfl, SW, SV, wpD, evDL, evDM, evD, bldLD, wpSp, DMem.mt, beq_self_eq_true, seval]
        refine st9 (i := 3) (v := 0) g1 rfl (by decide) fun M2 g2 _ => ?_
        replace g2 : M2 q = some ⟨50, 9, [.int .i64 3, .int .i64 0, .int .i64 xa, .int .i64 0, .int .i64 xk, slI xargs, .int .i64 xcost, .int .i64 xmt, .int .i64 xpc]⟩ := g2
        try simp only [h0, h5, g2, Sets_pf, Leaves_pf, reg_pf, fz_of (sh_froz p c), fz_irs, fz_metas, fz_prg, fz_of (rows_froz _), fz_int, List.map_cons, List.map_nil, show setsB 3 = true from rfl, show leavesB 3 = false from rfl, SW, SV, wpD, evDL, evDM, evD, bldLD, wpSp, DMem.mt, beq_self_eq_true, seval]
        refine st9 (i := 2) (v := 0) g2 rfl (by decide) fun M3 g3 _ => ?_
        replace g3 : M3 q = some ⟨50, 9, [.int .i64 3, .int .i64 0, .int .i64 0, .int .i64 0, .int .i64 xk, slI xargs, .int .i64 xcost, .int .i64 xmt, .int .i64 xpc]⟩ := g3
        try simp only [h0, h5, g3, Sets_pf, Leaves_pf, reg_pf, fz_of (sh_froz p c), fz_irs, fz_metas, fz_prg, fz_of (rows_froz _), fz_int, List.map_cons, List.map_nil, show setsB 3 = true from rfl, show leavesB 3 = false from rfl, SW, SV, wpD, evDL, evDM, evD, bldLD, wpSp, DMem.mt, beq_self_eq_true, seval]
        rw [hb]; rw [hr]; simp [setsB, leavesB, Bool.and_assoc]
    · simp only [S2_ir_sheet_ins, MU_ir_sheet_ins, h0, h5, hq, Sets_pf, Leaves_pf, reg_pf, fz_of (sh_froz p c), fz_irs, fz_metas, fz_prg, fz_of (rows_froz _), fz_int, List.map_cons, List.map_nil, show setsB 4 = false from rfl, show leavesB 4 = false from rfl, SW, SV, wpD, evDL, evDM, evD, bldLD, wpSp, DMem.mt, beq_self_eq_true, seval]
      rw [hb]; simp [setsB, leavesB, Bool.and_assoc]
    · simp only [S2_ir_sheet_ins, MU_ir_sheet_ins, h0, h5, hq, Sets_pf, Leaves_pf, reg_pf, fz_of (sh_froz p c), fz_irs, fz_metas, fz_prg, fz_of (rows_froz _), fz_int, List.map_cons, List.map_nil, show setsB 5 = false from rfl, show leavesB 5 = false from rfl, SW, SV, wpD, evDL, evDM, evD, bldLD, wpSp, DMem.mt, beq_self_eq_true, seval]
      refine st9 (i := 2) (v := 0) hq rfl (by decide) fun M1 g1 _ => ?_
      replace g1 : M1 q = some ⟨50, 9, [.int .i64 5, .int .i64 xr, .int .i64 0, .int .i64 xb, .int .i64 xk, slI xargs, .int .i64 xcost, .int .i64 xmt, .int .i64 xpc]⟩ := g1
      try simp only [h0, h5, g1, Sets_pf, Leaves_pf, reg_pf, fz_of (sh_froz p c), fz_irs, fz_metas, fz_prg, fz_of (rows_froz _), fz_int, List.map_cons, List.map_nil, show setsB 5 = false from rfl, show leavesB 5 = false from rfl, SW, SV, wpD, evDL, evDM, evD, bldLD, wpSp, DMem.mt, beq_self_eq_true, seval]
      rw [hb]; simp [setsB, leavesB, Bool.and_assoc]
    · simp only [S2_ir_sheet_ins, MU_ir_sheet_ins, h0, h5, hq, Sets_pf, Leaves_pf, reg_pf, fz_of (sh_froz p c), fz_irs, fz_metas, fz_prg, fz_of (rows_froz _), fz_int, List.map_cons, List.map_nil, show setsB 6 = true from rfl, show leavesB 6 = false from rfl, SW, SV, wpD, evDL, evDM, evD, bldLD, wpSp, DMem.mt, beq_self_eq_true, seval]
      refine ⟨fun hr => ?_, fun hr => ?_⟩
      · have hr : regB c.regs xr = false := by simpa using hr
        rw [hb, hr]; simp [setsB]
      · have hr : regB c.regs xr = true := by simpa using hr
        refine st9 (i := 1) (v := 0) hq rfl (by decide) fun M1 g1 _ => ?_
        replace g1 : M1 q = some ⟨50, 9, [.int .i64 6, .int .i64 0, .int .i64 xa, .int .i64 xb, .int .i64 xk, slI xargs, .int .i64 xcost, .int .i64 xmt, .int .i64 xpc]⟩ := g1
        try simp only [h0, h5, g1, Sets_pf, Leaves_pf, reg_pf, fz_of (sh_froz p c), fz_irs, fz_metas, fz_prg, fz_of (rows_froz _), fz_int, List.map_cons, List.map_nil, show setsB 6 = true from rfl, show leavesB 6 = false from rfl, SW, SV, wpD, evDL, evDM, evD, bldLD, wpSp, DMem.mt, beq_self_eq_true, seval]
        rw [hb]; rw [hr]; simp [setsB, leavesB, Bool.and_assoc]
    · simp only [S2_ir_sheet_ins, MU_ir_sheet_ins, h0, h5, hq, Sets_pf, Leaves_pf, reg_pf, fz_of (sh_froz p c), fz_irs, fz_metas, fz_prg, fz_of (rows_froz _), fz_int, List.map_cons, List.map_nil, show setsB 7 = false from rfl, show leavesB 7 = false from rfl, SW, SV, wpD, evDL, evDM, evD, bldLD, wpSp, DMem.mt, beq_self_eq_true, seval]
      refine st9 (i := 2) (v := 0) hq rfl (by decide) fun M1 g1 _ => ?_
      replace g1 : M1 q = some ⟨50, 9, [.int .i64 7, .int .i64 xr, .int .i64 0, .int .i64 xb, .int .i64 xk, slI xargs, .int .i64 xcost, .int .i64 xmt, .int .i64 xpc]⟩ := g1
      try simp only [h0, h5, g1, Sets_pf, Leaves_pf, reg_pf, fz_of (sh_froz p c), fz_irs, fz_metas, fz_prg, fz_of (rows_froz _), fz_int, List.map_cons, List.map_nil, show setsB 7 = false from rfl, show leavesB 7 = false from rfl, SW, SV, wpD, evDL, evDM, evD, bldLD, wpSp, DMem.mt, beq_self_eq_true, seval]
      rw [hb]; simp [setsB, leavesB, Bool.and_assoc]
    · simp only [S2_ir_sheet_ins, MU_ir_sheet_ins, h0, h5, hq, Sets_pf, Leaves_pf, reg_pf, fz_of (sh_froz p c), fz_irs, fz_metas, fz_prg, fz_of (rows_froz _), fz_int, List.map_cons, List.map_nil, show setsB 8 = false from rfl, show leavesB 8 = false from rfl, SW, SV, wpD, evDL, evDM, evD, bldLD, wpSp, DMem.mt, beq_self_eq_true, seval]
      refine st9 (i := 2) (v := 0) hq rfl (by decide) fun M1 g1 _ => ?_
      replace g1 : M1 q = some ⟨50, 9, [.int .i64 8, .int .i64 xr, .int .i64 0, .int .i64 xb, .int .i64 xk, slI xargs, .int .i64 xcost, .int .i64 xmt, .int .i64 xpc]⟩ := g1
      try simp only [h0, h5, g1, Sets_pf, Leaves_pf, reg_pf, fz_of (sh_froz p c), fz_irs, fz_metas, fz_prg, fz_of (rows_froz _), fz_int, List.map_cons, List.map_nil, show setsB 8 = false from rfl, show leavesB 8 = false from rfl, SW, SV, wpD, evDL, evDM, evD, bldLD, wpSp, DMem.mt, beq_self_eq_true, seval]
      rw [hb]; simp [setsB, leavesB, Bool.and_assoc]
    · simp only [S2_ir_sheet_ins, MU_ir_sheet_ins, h0, h5, hq, Sets_pf, Leaves_pf, reg_pf, fz_of (sh_froz p c), fz_irs, fz_metas, fz_prg, fz_of (rows_froz _), fz_int, List.map_cons, List.map_nil, show setsB 9 = false from rfl, show leavesB 9 = true from rfl, SW, SV, wpD, evDL, evDM, evD, bldLD, wpSp, DMem.mt, beq_self_eq_true, seval]
      refine st9 (i := 7) (v := 0) hq rfl (by decide) fun M1 g1 _ => ?_
      replace g1 : M1 q = some ⟨50, 9, [.int .i64 9, .int .i64 xr, .int .i64 xa, .int .i64 xb, .int .i64 xk, slI xargs, .int .i64 xcost, .int .i64 0, .int .i64 xpc]⟩ := g1
      try simp only [h0, h5, g1, Sets_pf, Leaves_pf, reg_pf, fz_of (sh_froz p c), fz_irs, fz_metas, fz_prg, fz_of (rows_froz _), fz_int, List.map_cons, List.map_nil, show setsB 9 = false from rfl, show leavesB 9 = true from rfl, SW, SV, wpD, evDL, evDM, evD, bldLD, wpSp, DMem.mt, beq_self_eq_true, seval]
      refine st9 (i := 3) (v := 0) g1 rfl (by decide) fun M2 g2 _ => ?_
      replace g2 : M2 q = some ⟨50, 9, [.int .i64 9, .int .i64 xr, .int .i64 xa, .int .i64 0, .int .i64 xk, slI xargs, .int .i64 xcost, .int .i64 0, .int .i64 xpc]⟩ := g2
      try simp only [h0, h5, g2, Sets_pf, Leaves_pf, reg_pf, fz_of (sh_froz p c), fz_irs, fz_metas, fz_prg, fz_of (rows_froz _), fz_int, List.map_cons, List.map_nil, show setsB 9 = false from rfl, show leavesB 9 = true from rfl, SW, SV, wpD, evDL, evDM, evD, bldLD, wpSp, DMem.mt, beq_self_eq_true, seval]
      refine st9 (i := 2) (v := 0) g2 rfl (by decide) fun M3 g3 _ => ?_
      replace g3 : M3 q = some ⟨50, 9, [.int .i64 9, .int .i64 xr, .int .i64 0, .int .i64 0, .int .i64 xk, slI xargs, .int .i64 xcost, .int .i64 0, .int .i64 xpc]⟩ := g3
      try simp only [h0, h5, g3, Sets_pf, Leaves_pf, reg_pf, fz_of (sh_froz p c), fz_irs, fz_metas, fz_prg, fz_of (rows_froz _), fz_int, List.map_cons, List.map_nil, show setsB 9 = false from rfl, show leavesB 9 = true from rfl, SW, SV, wpD, evDL, evDM, evD, bldLD, wpSp, DMem.mt, beq_self_eq_true, seval]
      rw [hb]; simp [setsB, leavesB, Bool.and_assoc]
    · simp only [S2_ir_sheet_ins, MU_ir_sheet_ins, h0, h5, hq, Sets_pf, Leaves_pf, reg_pf, fz_of (sh_froz p c), fz_irs, fz_metas, fz_prg, fz_of (rows_froz _), fz_int, List.map_cons, List.map_nil, show setsB 10 = false from rfl, show leavesB 10 = true from rfl, SW, SV, wpD, evDL, evDM, evD, bldLD, wpSp, DMem.mt, beq_self_eq_true, seval]
      refine st9 (i := 7) (v := 0) hq rfl (by decide) fun M1 g1 _ => ?_
      replace g1 : M1 q = some ⟨50, 9, [.int .i64 10, .int .i64 xr, .int .i64 xa, .int .i64 xb, .int .i64 xk, slI xargs, .int .i64 xcost, .int .i64 0, .int .i64 xpc]⟩ := g1
      try simp only [h0, h5, g1, Sets_pf, Leaves_pf, reg_pf, fz_of (sh_froz p c), fz_irs, fz_metas, fz_prg, fz_of (rows_froz _), fz_int, List.map_cons, List.map_nil, show setsB 10 = false from rfl, show leavesB 10 = true from rfl, SW, SV, wpD, evDL, evDM, evD, bldLD, wpSp, DMem.mt, beq_self_eq_true, seval]
      rw [hb]; simp [setsB, leavesB, Bool.and_assoc]
    · simp only [S2_ir_sheet_ins, MU_ir_sheet_ins, h0, h5, hq, Sets_pf, Leaves_pf, reg_pf, fz_of (sh_froz p c), fz_irs, fz_metas, fz_prg, fz_of (rows_froz _), fz_int, List.map_cons, List.map_nil, show setsB 11 = false from rfl, show leavesB 11 = false from rfl, SW, SV, wpD, evDL, evDM, evD, bldLD, wpSp, DMem.mt, beq_self_eq_true, seval]
      rw [hb]; simp [setsB, leavesB, Bool.and_assoc]
theorem may_eq (p : List Fnc) (regs : Int) (n mm i : Nat) (x : Irc) : irMayB p regs n mm i x = ((((((decide (0 ≤ x.kind ∧ x.kind ≤ 11) && kB p n x) && dearB i x) && decide (0 ≤ x.pc ∧ x.pc < 64)) && (!leavesB x.kind || decide (0 ≤ x.mt ∧ x.mt < mm))) && (decide (x.kind = 6) || decide (x.args = []))) && restB regs x) := by
  obtain ⟨kd, xr, xa, xb, xk, xargs, xcost, xmt, xpc⟩ := x
  by_cases hk : 0 ≤ kd ∧ kd ≤ 11
  · have hks : kd = 0 ∨ kd = 1 ∨ kd = 2 ∨ kd = 3 ∨ kd = 4 ∨ kd = 5 ∨ kd = 6 ∨ kd = 7 ∨ kd = 8 ∨ kd = 9 ∨ kd = 10 ∨ kd = 11 := by omega
    clear hk
    rcases hks with rfl | rfl | rfl | rfl | rfl | rfl | rfl | rfl | rfl | rfl | rfl | rfl
    all_goals
      rw [Bool.eq_iff_iff]
      simp [irMayB, kB, dearB, restB, readsV, setsB, leavesB, goesB]
    all_goals grind
  · have h0 : irMayB p regs n mm i ⟨kd, xr, xa, xb, xk, xargs, xcost, xmt, xpc⟩ = false := by
      unfold irMayB
      simp only
      rw [if_neg (by omega), if_neg (by omega), if_neg (by omega), if_neg (by omega), if_neg (by omega), if_neg (by omega), if_neg (by omega), if_neg (by omega), if_neg (by omega), if_neg (by omega), if_neg (by omega), Bool.and_false]
    rw [h0]
    simp only [decide_eq_false hk, Bool.false_and]
theorem may_no (p : List Fnc) (regs : Int) (n mm i : Nat) (x : Irc) (h : (((((decide (x.kind < 0) || decide (11 < x.kind)) || !kB p n x) || !dearB i x) || decide (x.pc < 0)) || decide (64 ≤ x.pc)) = true) : irMayB p regs n mm i x = false := by
  rw [may_eq]
  simp only [Bool.or_eq_true, decide_eq_true_eq, Bool.not_eq_true'] at h
  rcases h with ((((h | h) | h) | h) | h) | h
  · rw [decide_eq_false (show ¬ (0 ≤ x.kind ∧ x.kind ≤ 11) by omega)] <;> rfl
  · rw [decide_eq_false (show ¬ (0 ≤ x.kind ∧ x.kind ≤ 11) by omega)] <;> rfl
  · rw [h]; simp
  · rw [h]; simp
  · rw [decide_eq_false (show ¬ (0 ≤ x.pc ∧ x.pc < 64) by omega)]; simp
  · rw [decide_eq_false (show ¬ (0 ≤ x.pc ∧ x.pc < 64) by omega)]; simp
theorem may_lv (p : List Fnc) (regs : Int) (n mm i : Nat) (x : Irc) (h : leavesB x.kind = true) (h2 : (decide (x.mt < 0) || decide ((mm : Int) ≤ x.mt)) = true) : irMayB p regs n mm i x = false := by
  simp only [Bool.or_eq_true, decide_eq_true_eq] at h2
  rw [may_eq, h, decide_eq_false (show ¬ (0 ≤ x.mt ∧ x.mt < mm) by omega)]; simp
theorem may_ar (p : List Fnc) (regs : Int) (n mm i : Nat) (x : Irc) (h : decide (¬x.kind = 6) = true) (h2 : decide (0 < (x.args.length : Int)) = true) : irMayB p regs n mm i x = false := by
  have h : ¬ x.kind = 6 := of_decide_eq_true h
  have h2 : x.args ≠ [] := by
    have := of_decide_eq_true h2
    intro e; rw [e] at this; simp at this
  rw [may_eq, decide_eq_false h, decide_eq_false h2]; simp
theorem may_yes (p : List Fnc) (regs : Int) (n mm i : Nat) (x : Irc) (h : (((((decide (x.kind < 0) || decide (11 < x.kind)) || !kB p n x) || !dearB i x) || decide (x.pc < 0)) || decide (64 ≤ x.pc)) = false) (h2 : (leavesB x.kind && (decide (x.mt < 0) || decide ((mm : Int) ≤ x.mt))) = false) (h3 : (decide (¬x.kind = 6) && decide (0 < (x.args.length : Int))) = false) : irMayB p regs n mm i x = restB regs x := by
  simp only [Bool.or_eq_false_iff, decide_eq_false_iff_not, Bool.not_eq_false'] at h
  obtain ⟨⟨⟨⟨⟨a1, a2⟩, a3⟩, a4⟩, a5⟩, a6⟩ := h
  have e2 : (!leavesB x.kind || decide (0 ≤ x.mt ∧ x.mt < mm)) = true := by
    cases hl : leavesB x.kind with
    | false => rfl
    | true =>
      rw [hl] at h2
      simp only [Bool.true_and, Bool.or_eq_false_iff, decide_eq_false_iff_not] at h2
      rw [decide_eq_true (show 0 ≤ x.mt ∧ x.mt < mm by omega)] <;> rfl
  have e3 : (decide (x.kind = 6) || decide (x.args = [])) = true := by
    by_cases h6 : x.kind = 6
    · simp [h6]
    · have : x.args = [] := by
        simp [h6] at h3
        exact h3
      simp [this]
  rw [may_eq, decide_eq_true (show 0 ≤ x.kind ∧ x.kind ≤ 11 by omega), a3, a4, decide_eq_true (show 0 ≤ x.pc ∧ x.pc < 64 by omega), e2, e3] <;> rfl
theorem ins_pf (p : List Fnc) (c : Cod) (i : Nat) (hi : i < c.code.length) (ha : c.code[i].args.length * 8 ≤ 140737488351232) : pf Tryz.prog F_ir_sheet_ins [shD p c, .int .i64 i] = some (.bool (irMayB p c.regs c.code.length c.metas.length i c.code[i])) := by
  refine pf_of (v := .bool _) (pc_ir_sheet_ins (by simp) ?_) ((FrozL.nil.cons (Froz.int _ _)).cons (sh_froz p c)) rfl rfl
  simp only [S_ir_sheet_ins, R_ir_sheet_ins, MU_ir_sheet_ins, ix_slD Irc.len hi, ldn_irc, SW, SV, wpD, evDL, evDM, evD, bldLD, wpSp, DMem.mt, beq_self_eq_true, seval]
  generalize c.code[i] = x at *
  intro q M1 hM1
  have hq : M1 q = some ⟨50, 9, x.c⟩ := by rw [hM1, DMem.ins_same]
  clear hM1
  have hz : fz M1 4 (.mp q 0) = .ip x.c := by
    rw [fz_mp hq]
    simp only [List.map_cons, List.map_nil, fz_int, fz_ints, List.drop_zero]
  simp only [hq, hz, k_pf, dear_pf, Leaves_pf, fz_of (sh_froz p c), fz_irs, fz_metas, fz_prg, fz_of (rows_froz _), fz_int, List.map_cons, List.map_nil, SW, SV, wpD, evDL, evDM, evD, bldLD, wpSp, DMem.mt, beq_self_eq_true, seval]
  have hno : (((((decide (x.kind < 0) || decide (11 < x.kind)) || !kB p c.code.length x) || !dearB i x) || decide (x.pc < 0)) || decide (64 ≤ x.pc)) = true → irMayB p c.regs c.code.length c.metas.length i x = false := may_no p c.regs c.code.length c.metas.length i x
  have hlv : leavesB x.kind = true → (decide (x.mt < 0) || decide ((c.metas.length : Int) ≤ x.mt)) = true → irMayB p c.regs c.code.length c.metas.length i x = false := may_lv p c.regs c.code.length c.metas.length i x
  have har : decide (¬x.kind = 6) = true → decide (0 < (x.args.length : Int)) = true → irMayB p c.regs c.code.length c.metas.length i x = false := may_ar p c.regs c.code.length c.metas.length i x
  have hyes := may_yes p c.regs c.code.length c.metas.length i x
  have fin : (((((decide (x.kind < 0) || decide (11 < x.kind)) || !kB p c.code.length x) || !dearB i x) || decide (x.pc < 0)) || decide (64 ≤ x.pc)) = false → (leavesB x.kind && (decide (x.mt < 0) || decide ((c.metas.length : Int) ≤ x.mt))) = false → (decide (¬x.kind = 6) && decide (0 < (x.args.length : Int))) = false → ∀ {δ : DEnv}, δ 0 = shD p c → δ 5 = .mp q 0 →
      PC Tryz.prog F_ir_Reads [.mp q 0] (fun v M' => wpD Tryz.prog MU_ir_sheet_ins (fun f => roL.contains f) (fun t => G_ir_sheet_ins.contains t) 137 S3_ir_sheet_ins (fun δ M' => δ 4 = .bool (irMayB p c.regs c.code.length c.metas.length i x)) (fun x x_1 x_2 => False) (fun δ M' => δ 4 = .bool (irMayB p c.regs c.code.length c.metas.length i x)) (δ.upd 81 v) M') M1 := by
    intro e1 e2 e3 δ d0 d5
    have hk : 0 ≤ x.kind ∧ x.kind ≤ 11 := by
      simp at e1; omega
    refine Reads_pc hq ha fun d M2 cs ho hp hs => ?_
    refine ins_S3 p c x (d := d) (q := q) (by exact d0) (by exact d5) rfl (hs q _ hq) ho (fun j hj => ?_) hk (by unfold readsV; (repeat' split) <;> (try simp only [List.length_cons, List.length_nil]) <;> omega) (hyes e1 e2 e3)
    obtain ⟨e, g1, g2, g3⟩ := hp.2 j hj
    exact ⟨e, g1, g2, g3 M2 hs⟩
  generalize hA : (((((decide (x.kind < 0) || decide (11 < x.kind)) || !kB p c.code.length x) || !dearB i x) || decide (x.pc < 0)) || decide (64 ≤ x.pc)) = A at *
  generalize hL : leavesB x.kind = L at *
  generalize hm0 : decide (x.mt < 0) = m0 at *
  generalize hm1 : decide ((c.metas.length : Int) ≤ x.mt) = m1 at *
  generalize h6 : decide (¬x.kind = 6) = k6 at *
  generalize hr : decide (0 < (x.args.length : Int)) = ar at *
  generalize irMayB p c.regs c.code.length c.metas.length i x = B at *
  cases A <;> cases L <;> cases m0 <;> cases k6 <;> cases m1 <;> cases ar <;> simp only [grdTT, grdTF, grdFF, grdFT, grdU, SW, SV, wpD, evDL, evDM, evD, bldLD, wpSp, DMem.mt, beq_self_eq_true, seval]
  all_goals first | exact fin rfl rfl rfl rfl rfl | exact (hno rfl).symm | exact (hlv rfl rfl).symm | exact (har rfl rfl).symm
end Go.Proofs.YticlgdhhnjpkjaaGreatDoor.Pf
namespace Go.Proofs.YticlgdhhnjpkjaaGreatDoor.Pf
open Go Go.RowKit Go.Proofs Go.Proofs.YticlgdhhnjpkjaaGreatDoor.Mw Go.Proofs.YticlgdhhnjpkjaaGreatDoor.Sx
set_option linter.unusedVariables false
set_option linter.unusedSimpArgs false
set_option maxRecDepth 8000
theorem IndexFunc_src (g : Nat) (a b : List DV) (ha : FrozL a) (hb : FrozL b) (p : Src → Bool) (l : List Src) (hl : l.length ≤ 4611686018427387904)
    (hp : ∀ i (h : i < l.length), pf Tryz.prog g (a ++ .agg (Src.c l[i]) :: b) = some (.bool (p l[i]))) :
    pf Tryz.prog F_slices_IndexFunc_api_Src_api_Src [slD Src.c l, .fn (.func g) a b] = some (.int .i64 (idxF p l)) := by
  refine pf_of (v := .int _ _) (pc_slices_IndexFunc_api_Src_api_Src (by simp) ?_) ((FrozL.nil.cons (Froz.fn ha hb)).cons (Froz.slD Src.froz _)) rfl rfl
  simp only [S_slices_IndexFunc_api_Src_api_Src, R_slices_IndexFunc_api_Src_api_Src, MU_slices_IndexFunc_api_Src_api_Src, MU_slices_IndexFunc_api_Src_api_Src, S1_slices_IndexFunc_api_Src_api_Src, SW, SV, wpD, evDL, evDM, evD, bldLD, wpSp, DMem.mt, beq_self_eq_true, seval]
  refine ⟨fun k δ M => ∃ i, i ≤ l.length ∧ k = l.length - i ∧ M = DMem.mt ∧ δ 0 = slD Src.c l ∧ δ 1 = .fn (.func g) a b ∧ δ 7 = .int .i64 l.length ∧ δ 8 = .int .i64 i ∧ (∀ j (h : j < l.length), j < i → p l[j] = false),
    l.length, ⟨0, Nat.zero_le _, rfl, rfl, rfl, rfl, rfl, rfl, fun j h hj => absurd hj (by omega)⟩, ?_⟩
  rintro k δ M ⟨i, hi, rfl, rfl, h0, h1, h7, h8, hj⟩
  simp only [h0, h1, h7, h8, SW, SV, wpD, evDL, evDM, evD, bldLD, wpSp, DMem.mt, beq_self_eq_true, seval, decide_eq_true_eq, decide_eq_false_iff_not]
  refine ⟨fun h => ?_, fun h => ?_⟩
  · have hlt : i < l.length := by omega
    simp only [ix_slD Src.len hlt, h0, h1, h7, h8, SW, SV, wpD, evDL, evDM, evD, bldLD, wpSp, DMem.mt, beq_self_eq_true, seval, w64s (show i < 4611686018427387905 by omega)]
    refine ⟨g, a, b, rfl, rfl, rfl, PC.of_pf (d := .bool (p l[i])) ?_ ?_⟩
    · rw [fzmap_froz (by simpa using ha.append (hb.cons (Froz.agg (Src.froz l[i]))))]; simpa using hp i hlt
    · simp only [SW, SV, wpD, evDL, evDM, evD, bldLD, wpSp, DMem.mt, beq_self_eq_true, seval]
      refine ⟨fun hpi => ?_, fun hpi => ⟨l.length - (i + 1), DMem.mt, by omega, SubD.refl _, i + 1, by omega, rfl, rfl, rfl, fun j h' hji => ?_⟩⟩
      · rw [idxF_hit i hlt hpi hj]
      · rcases Nat.lt_or_ge j i with h2 | h2
        · exact hj j h' h2
        · have : j = i := by omega
          subst this; exact hpi
  · rw [idxF_miss fun j h' => hj j h' (by omega)]
theorem Contains_src (g : Nat) (a b : List DV) (ha : FrozL a) (hb : FrozL b) (p : Src → Bool) (l : List Src) (hl : l.length ≤ 4611686018427387904) (hp : ∀ i (h : i < l.length), pf Tryz.prog g (a ++ .agg (Src.c l[i]) :: b) = some (.bool (p l[i]))) :
    pf Tryz.prog F_slices_ContainsFunc_api_Src_api_Src [slD Src.c l, .fn (.func g) a b] = some (.bool (l.any p)) := by
  refine pf_of (v := .bool _) (pc_slices_ContainsFunc_api_Src_api_Src (by simp) ?_) ((FrozL.nil.cons (Froz.fn ha hb)).cons (Froz.slD Src.froz _)) rfl rfl
  have hf : ∀ M k, fz M k (.fn (.func g) a b) = .fn (.func g) a b := fun M k => fz_of (Froz.fn ha hb) M k
  simp only [S_slices_ContainsFunc_api_Src_api_Src, R_slices_ContainsFunc_api_Src_api_Src, MU_slices_ContainsFunc_api_Src_api_Src, MU_slices_ContainsFunc_api_Src_api_Src, fz_srcs, hf, List.map_cons, List.map_nil, SW, SV, wpD, evDL, evDM, evD, bldLD, wpSp, DMem.mt, beq_self_eq_true, seval, IndexFunc_src g a b ha hb p l hl hp, idxF_any]
theorem IndexFunc_meta1 (g : Nat) (a b : List DV) (ha : FrozL a) (hb : FrozL b) (p : List Part → Bool) (l : List (List Part)) (hl : l.length ≤ 4611686018427387904)
    (hp : ∀ i (h : i < l.length), pf Tryz.prog g (a ++ .agg (metaC l[i]) :: b) = some (.bool (p l[i]))) :
    pf Tryz.prog F_slices_IndexFunc_api_Meta_api_Meta [slD metaC l, .fn (.func g) a b] = some (.int .i64 (idxF p l)) := by
  refine pf_of (v := .int _ _) (pc_slices_IndexFunc_api_Meta_api_Meta (by simp) ?_) ((FrozL.nil.cons (Froz.fn ha hb)).cons (Froz.slD metaC_froz _)) rfl rfl
  simp only [S_slices_IndexFunc_api_Meta_api_Meta, R_slices_IndexFunc_api_Meta_api_Meta, MU_slices_IndexFunc_api_Meta_api_Meta, MU_slices_IndexFunc_api_Meta_api_Meta, S1_slices_IndexFunc_api_Meta_api_Meta, SW, SV, wpD, evDL, evDM, evD, bldLD, wpSp, DMem.mt, beq_self_eq_true, seval]
  refine ⟨fun k δ M => ∃ i, i ≤ l.length ∧ k = l.length - i ∧ M = DMem.mt ∧ δ 0 = slD metaC l ∧ δ 1 = .fn (.func g) a b ∧ δ 7 = .int .i64 l.length ∧ δ 8 = .int .i64 i ∧ (∀ j (h : j < l.length), j < i → p l[j] = false),
    l.length, ⟨0, Nat.zero_le _, rfl, rfl, rfl, rfl, rfl, rfl, fun j h hj => absurd hj (by omega)⟩, ?_⟩
  rintro k δ M ⟨i, hi, rfl, rfl, h0, h1, h7, h8, hj⟩
  simp only [h0, h1, h7, h8, SW, SV, wpD, evDL, evDM, evD, bldLD, wpSp, DMem.mt, beq_self_eq_true, seval, decide_eq_true_eq, decide_eq_false_iff_not]
  refine ⟨fun h => ?_, fun h => ?_⟩
  · have hlt : i < l.length := by omega
    simp only [ix_slD metaC_len hlt, ldnI1, h0, h1, h7, h8, SW, SV, wpD, evDL, evDM, evD, bldLD, wpSp, DMem.mt, beq_self_eq_true, seval, w64s (show i < 4611686018427387905 by omega)]
    refine ⟨g, a, b, rfl, rfl, rfl, PC.of_pf (d := .bool (p l[i])) ?_ ?_⟩
    · rw [fzmap_froz (by simpa using ha.append (hb.cons (Froz.agg (metaC_froz l[i]))))]; simpa using hp i hlt
    · simp only [SW, SV, wpD, evDL, evDM, evD, bldLD, wpSp, DMem.mt, beq_self_eq_true, seval]
      refine ⟨fun hpi => ?_, fun hpi => ⟨l.length - (i + 1), DMem.mt, by omega, SubD.refl _, i + 1, by omega, rfl, rfl, rfl, fun j h' hji => ?_⟩⟩
      · rw [idxF_hit i hlt hpi hj]
      · rcases Nat.lt_or_ge j i with h2 | h2
        · exact hj j h' h2
        · have : j = i := by omega
          subst this; exact hpi
  · rw [idxF_miss fun j h' => hj j h' (by omega)]
theorem Contains_meta1 (g : Nat) (a b : List DV) (ha : FrozL a) (hb : FrozL b) (p : List Part → Bool) (l : List (List Part)) (hl : l.length ≤ 4611686018427387904) (hp : ∀ i (h : i < l.length), pf Tryz.prog g (a ++ .agg (metaC l[i]) :: b) = some (.bool (p l[i]))) :
    pf Tryz.prog F_slices_ContainsFunc_api_Meta_api_Meta [slD metaC l, .fn (.func g) a b] = some (.bool (l.any p)) := by
  refine pf_of (v := .bool _) (pc_slices_ContainsFunc_api_Meta_api_Meta (by simp) ?_) ((FrozL.nil.cons (Froz.fn ha hb)).cons (Froz.slD metaC_froz _)) rfl rfl
  have hf : ∀ M k, fz M k (.fn (.func g) a b) = .fn (.func g) a b := fun M k => fz_of (Froz.fn ha hb) M k
  simp only [S_slices_ContainsFunc_api_Meta_api_Meta, R_slices_ContainsFunc_api_Meta_api_Meta, MU_slices_ContainsFunc_api_Meta_api_Meta, MU_slices_ContainsFunc_api_Meta_api_Meta, fz_metas, hf, List.map_cons, List.map_nil, SW, SV, wpD, evDL, evDM, evD, bldLD, wpSp, DMem.mt, beq_self_eq_true, seval, IndexFunc_meta1 g a b ha hb p l hl hp, idxF_any]
theorem heights_len {p : List Fnc} (hv : verifyE p = 0) {n : Nat} (hn : n < p.length) : (heightsR p (n : Int)).1.length = p[n].code.length := by
  obtain ⟨hpk, hall⟩ := verify_ok hv
  exact (heights_hf hpk hn (hall n hn)).hi.len
theorem height_all {p : List Fnc} (hv : verifyE p = 0) {n : Nat} (hn : n < p.length) {i : Nat} (hi : i < (heightsR p (n : Int)).1.length) : (heightsR p (n : Int)).1[i] = heightF p n i :=
  (height_at ((verify_ok hv).2 n hn) (List.getElem?_eq_getElem hi)).symm
theorem height_ge {p : List Fnc} (hv : verifyE p = 0) {n : Nat} (hn : n < p.length) (i : Int) : heightF p n i = -1 ∨ (0 ≤ heightF p n i ∧ heightF p n i ≤ 8 ∧ 0 ≤ i ∧ i < p[n].code.length) := by
  obtain ⟨hpk, hall⟩ := verify_ok hv
  have hH := heights_hf hpk hn (hall n hn)
  unfold heightF
  split
  · rename_i h
    obtain ⟨h1, h2, h3⟩ := h
    have hlt : i.toNat < (heightsR p (n : Int)).1.length := by omega
    rw [List.getD_eq_getElem?_getD, List.getElem?_eq_getElem hlt]
    simp only [Option.getD_some]
    by_cases hne : (heightsR p (n : Int)).1[i.toNat] = -1
    · exact .inl hne
    · have := hH.hi.val i.toNat _ (List.getElem?_eq_getElem hlt) hne
      have hl := hH.hi.len
      exact .inr ⟨this.1, this.2.1, h2, by omega⟩
  · exact .inl rfl
theorem ix_rows {p : List Fnc} (hv : verifyE p = 0) {n : Nat} (hn : n < p.length) : ixD 1 (rowsD (allR p).1) (.int .i64 (n : Int)) = some (.ip (slI (heightsR p (n : Int)).1 :: (((List.range p.length).map (fun i : Nat => (heightsR p (i : Int)).1)).drop (n + 1)).map slI)) := by
  rw [verify_rows hv]
  unfold rowsD
  simp only [ixD, List.length_map, List.length_range]
  rw [if_pos ⟨by omega, by omega⟩, Int.toNat_natCast, Nat.mul_one, List.drop_eq_getElem_cons (by simpa using hn), ← List.map_drop]
  simp only [List.getElem_map, List.getElem_range]
theorem part_pf (p : List Fnc) (c : Cod) (hv : verifyE p = 0) (x : Part) (r : List DV) (hr : FrozL r) (less : Int) (hl : 0 ≤ less ∧ less ≤ 1) (hz : x.locals.length ≤ 4611686018427387904 ∧ x.stack.length ≤ 4611686018427387904) : pf Tryz.prog F_ir_sheet_part [shD p c, .ip (x.c ++ r), .int .i64 less] = some (.bool (partB p c.regs less x)) := by
  refine pf_of (v := .bool _) (pc_ir_sheet_part (by simp) ?_) (((FrozL.nil.cons (Froz.int _ _)).cons (Froz.ip ((Part.froz x).append hr))).cons (sh_froz p c)) rfl rfl
  have hS : ∀ (l : List Src), l.length ≤ 4611686018427387904 → pf Tryz.prog F_slices_ContainsFunc_api_Src_api_Src [slD Src.c l, .fn (.func 124) [shD p c] []] = some (.bool (l.any fun s => !srcB c.regs s)) := fun l hl => Contains_src _ [shD p c] [] (FrozL.nil.cons (sh_froz p c)) FrozL.nil (fun s => !srcB c.regs s) l hl (fun i h => srcNot_pf p c l[i])
  by_cases hf : 0 ≤ x.fn ∧ x.fn < p.length
  · obtain ⟨n, hn⟩ := Int.eq_ofNat_of_zero_le hf.1
    have hnl : n < p.length := by omega
    have hlo : localsOf p x.fn = p[n].locals := by unfold localsOf; rw [hn, Int.toNat_natCast, List.getElem?_eq_getElem hnl]
    simp only [S_ir_sheet_part, R_ir_sheet_part, MU_ir_sheet_part, List.cons_append, hn, ix_slD Fnc.len hnl, SW, SV, wpD, evDL, evDM, evD, bldLD, wpSp, DMem.mt, beq_self_eq_true, seval]
    refine ⟨fun h => ?_, fun h => ?_⟩
    · simp at h
      have : heightF p n x.pc = -1 := by
        rcases height_ge hv hnl x.pc with h1 | h1
        · exact h1
        · omega
      unfold partB
      rw [hn, this]
      simp
    · simp at h
      obtain ⟨m, hm⟩ := Int.eq_ofNat_of_zero_le (show 0 ≤ x.pc by omega)
      have hml : m < p[n].code.length := by omega
      have hmh : m < (heightsR p (n : Int)).1.length := by rw [heights_len hv hnl]; exact hml
      have hle : heightF p n m = -1 ∨ (0 ≤ heightF p n m ∧ heightF p n m ≤ 8) := by
        rcases height_ge hv hnl m with h1 | h1
        · exact .inl h1
        · exact .inr ⟨h1.1, h1.2.1⟩
      have ew : wr64 (heightF p n m - less) = heightF p n m - less := w64 (by omega)
      simp only [hm, ix_rows hv hnl, ix_slI hmh, height_all hv hnl hmh, ix_slD Fnc.len hnl, ew, hS x.locals hz.1, hS x.stack hz.2, SW, SV, wpD, evDL, evDM, evD, bldLD, wpSp, DMem.mt, beq_self_eq_true, seval]
      have hfn : ∀ M k, fz M k (.fn (.func 124) [shD p c] []) = .fn (.func 124) [shD p c] [] := fun M k => fz_of (Froz.fn (FrozL.nil.cons (sh_froz p c)) FrozL.nil) M k
      have hnn : decide (0 ≤ heightF p n m) = decide (¬ heightF p n m = -1) := decide_eq_decide.2 (by omega)
      have han : ∀ l : List Src, (!l.any fun s => !srcB c.regs s) = l.all (srcB c.regs) := fun l => by simp [List.not_any_eq_all_not]
      rw [hn] at hlo
      unfold partB
      rw [hn, hm, hlo, hnn]
      generalize hC : (decide (¬heightF p n m = -1) && decide ((x.locals.length : Int) = p[n].locals) && decide ((x.stack.length : Int) = heightF p n m - less)) = C at *
      cases C with
      | false =>
        simp only [grdTF, SW, SV, wpD, evDL, evDM, evD, bldLD, wpSp, DMem.mt, beq_self_eq_true, seval]
        try rfl
      | true =>
        simp only [grdTT, hfn, fz_srcs, List.map_cons, List.map_nil, hS x.locals hz.1, hS x.stack hz.2, han, SW, SV, wpD, evDL, evDM, evD, bldLD, wpSp, DMem.mt, beq_self_eq_true, seval]
        cases x.locals.all (srcB c.regs) <;> simp only [grdTT, grdTF, hfn, fz_srcs, List.map_cons, List.map_nil, hS x.stack hz.2, han, SW, SV, wpD, evDL, evDM, evD, bldLD, wpSp, DMem.mt, beq_self_eq_true, seval]
  · have hb : partB p c.regs less x = false := by
      have : heightF p x.fn x.pc = -1 := by
        unfold heightF
        rw [if_neg]
        rintro ⟨h1, h2, h3⟩
        unfold heightsR at h1
        rw [if_neg (fun hh => hf hh.2)] at h1
        exact absurd h1 (by decide)
      unfold partB
      rw [this]; simp
    rw [hb]
    have hor : (decide (x.fn < 0) || decide ((p.length : Int) ≤ x.fn)) = true := by
      simp only [Bool.or_eq_true, decide_eq_true_eq]; omega
    simp only [S_ir_sheet_part, R_ir_sheet_part, MU_ir_sheet_part, List.cons_append, hor, SW, SV, wpD, evDL, evDM, evD, bldLD, wpSp, DMem.mt, beq_self_eq_true, seval]
theorem After_pf (p : List Fnc) (hv : verifyE p = 0) (fn pc called : Int) (hf : 0 ≤ fn ∧ fn < p.length) : pf Tryz.prog F_frame_After [.ip [slD Fnc.c p], rowsD (allR p).1, .int .i64 fn, .int .i64 pc, .int .i64 called] = some (.bool (behindB p fn pc called)) := by
  refine pf_of (v := .bool _) (pc_frame_After (by simp) ?_) (((((FrozL.nil.cons (Froz.int _ _)).cons (Froz.int _ _)).cons (Froz.int _ _)).cons (rows_froz _)).cons (Froz.ip (FrozL.nil.cons (Froz.slD Fnc.froz p)))) rfl rfl
  obtain ⟨n, rfl⟩ := Int.eq_ofNat_of_zero_le hf.1
  have hnl : n < p.length := by omega
  simp only [S_frame_After, R_frame_After, MU_frame_After, ix_slD Fnc.len hnl, ix_rows hv hnl, SW, SV, wpD, evDL, evDM, evD, bldLD, wpSp, DMem.mt, beq_self_eq_true, seval]
  by_cases hpc : 0 < pc ∧ pc ≤ p[n].code.length
  · obtain ⟨m, hm⟩ := Int.eq_ofNat_of_zero_le (show 0 ≤ pc - 1 by omega)
    have hml : m < p[n].code.length := by omega
    have hmh : m < (heightsR p (n : Int)).1.length := by rw [heights_len hv hnl]; exact hml
    obtain ⟨hpk, hall⟩ := verify_ok hv
    have hl64 := (fmay_le (fn_may (heights_hf hpk hnl (hall n hnl)).fn)).2
    have ew : wr64 (pc - 1) = (m : Int) := by rw [w64 (by omega)]; exact hm
    have hle := height_ge hv hnl (m : Int)
    have hc : codeAt p n m = p[n].code[m] := by unfold codeAt; rw [Int.toNat_natCast, List.getElem?_eq_getElem hnl]; simp only [Int.toNat_natCast, List.getD_eq_getElem?_getD, List.getElem?_eq_getElem hml, Option.getD_some]
    have hl2 : ∀ K : DMem, ∀ r : List DV, ldnD K 2 (.ip (.int .i64 p[n].code[m].kind :: .int .i64 p[n].code[m].a :: r)) = some (.agg p[n].code[m].c) := fun K r => by simp [ldnD]
    have hb : behindB p n pc called = (decide (¬ heightF p n m = -1) && ((p[n].code[m].kind == 14) && ((p[n].code[m].a == called) && true))) := by
      unfold behindB
      rw [hm, hc]
      have e1 : decide (0 ≤ heightF p n m) = decide (¬ heightF p n m = -1) := decide_eq_decide.2 (by omega)
      rw [e1]
      congr 1
      rw [Bool.eq_iff_iff]
      cases p[n].code[m]; simp
    rw [hb]
    simp only [decide_eq_true hpc.1, decide_eq_true hpc.2, ew, ix_slI hmh, height_all hv hnl hmh, ix_slD Ins.len hml, hl2, eqs2, SW, SV, wpD, evDL, evDM, evD, bldLD, wpSp, DMem.mt, beq_self_eq_true, seval]
  · have h0 : (decide (0 < pc) && decide (pc ≤ (p[n].code.length : Int))) = false := by
      rw [← Bool.not_eq_true]; simp only [Bool.and_eq_true, decide_eq_true_eq]; exact hpc
    have hb : behindB p n pc called = false := by
      unfold behindB
      have : heightF p n (pc - 1) = -1 := by
        rcases height_ge hv hnl (pc - 1) with h1 | h1
        · exact h1
        · omega
      rw [this]; simp
    rw [hb]
    simp only [h0, SW, SV, wpD, evDL, evDM, evD, bldLD, wpSp, DMem.mt, beq_self_eq_true, seval]
theorem part_fn {p : List Fnc} {regs less : Int} {x : Part} (h : partB p regs less x = true) : 0 ≤ x.fn ∧ x.fn < p.length := by
  unfold partB at h
  simp only [Bool.and_eq_true, decide_eq_true_eq] at h
  have h1 := h.1.1.1.1
  refine Decidable.byContradiction fun hf => ?_
  have : heightF p x.fn x.pc = -1 := by
    unfold heightF
    rw [if_neg]
    rintro ⟨h1, h2, h3⟩
    unfold heightsR at h1
    rw [if_neg (fun hh => hf hh.2)] at h1
    exact absurd h1 (by decide)
  omega
def SzM (m : List Part) : Prop := ∀ x ∈ m, x.locals.length ≤ 4611686018427387904 ∧ x.stack.length ≤ 4611686018427387904
theorem metaNot_pf (p : List Fnc) (c : Cod) (hv : verifyE p = 0) (m : List Part) (hz : SzM m) : pf Tryz.prog F_ir_sheet_metaNot [shD p c, .agg (metaC m)] = some (.bool (!metaB p c.fn c.regs m)) := by
  refine pf_of (v := .bool _) (pc_ir_sheet_metaNot (by simp) ?_) ((FrozL.nil.cons (Froz.agg (metaC_froz m))).cons (sh_froz p c)) rfl rfl
  have fsh : ∀ M k, fz M k (shD p c) = shD p c := fun M k => fz_of (sh_froz p c) M k
  have fp : ∀ M k, fz M k (.ip [slD Fnc.c p]) = .ip [slD Fnc.c p] := fun M k => fz_of (Froz.ip (FrozL.nil.cons (Froz.slD Fnc.froz p))) M k
  have fr : ∀ M k, fz M k (rowsD (allR p).1) = rowsD (allR p).1 := fun M k => fz_of (rows_froz _) M k
  match m, hz with
  | [], _ =>
    have e1 : decide (((0 : Nat) : Int) = 1) = false := by decide
    have e2 : decide (((0 : Nat) : Int) = 2) = false := by decide
    simp only [S_ir_sheet_metaNot, R_ir_sheet_metaNot, MU_ir_sheet_metaNot, ldnI1, List.length_nil, e1, e2, SW, SV, wpD, evDL, evDM, evD, bldLD, wpSp, DMem.mt, beq_self_eq_true, seval] <;> rfl
  | [a], hz =>
    have x0 : ixD 4 (slD Part.c [a]) (.int .i64 0) = some (.ip (a.c ++ [])) := rfl
    have p0 := part_pf p c hv a [] FrozL.nil 0 (by decide) (hz a (by simp))
    have f0 : ∀ M k, fz M k (.ip (a.c ++ [])) = .ip (a.c ++ []) := fun M k => fz_of (Froz.ip ((Part.froz a).append FrozL.nil)) M k
    have e1 : decide (((1 : Nat) : Int) = 1) = true := by decide
    simp only [List.append_nil] at x0 p0 f0
    simp only [S_ir_sheet_metaNot, R_ir_sheet_metaNot, MU_ir_sheet_metaNot, ldnI1, List.length_cons, List.length_nil, e1, x0, p0, f0, fsh, fz_int, List.map_cons, List.map_nil, SW, SV, wpD, evDL, evDM, evD, bldLD, wpSp, DMem.mt, beq_self_eq_true, seval]
    unfold metaB
    by_cases h : a.fn = c.fn <;> simp [h]
  | [a, b], hz =>
    have x0 : ixD 4 (slD Part.c [a, b]) (.int .i64 0) = some (.ip (a.c ++ b.c)) := by simp [slD, ixD]
    have x1 : ixD 4 (slD Part.c [a, b]) (.int .i64 1) = some (.ip (b.c ++ [])) := by simp [slD, ixD]
    have p0 := part_pf p c hv a b.c (Part.froz b) 1 (by decide) (hz a (by simp))
    have p1 := part_pf p c hv b [] FrozL.nil 0 (by decide) (hz b (by simp))
    have f0 : ∀ M k, fz M k (.ip (a.c ++ b.c)) = .ip (a.c ++ b.c) := fun M k => fz_of (Froz.ip ((Part.froz a).append (Part.froz b))) M k
    have f1 : ∀ M k, fz M k (.ip (b.c ++ [])) = .ip (b.c ++ []) := fun M k => fz_of (Froz.ip ((Part.froz b).append FrozL.nil)) M k
    have e1 : decide (((2 : Nat) : Int) = 1) = false := by decide
    have e2 : decide (((2 : Nat) : Int) = 2) = true := by decide
    simp only [List.append_nil] at x1 p1 f1
    simp only [List.cons_append, List.nil_append] at x0 p0 f0
    simp only [S_ir_sheet_metaNot, R_ir_sheet_metaNot, MU_ir_sheet_metaNot, ldnI1, List.length_cons, List.length_nil, e1, e2, x0, x1, p0, p1, f0, f1, fsh, fp, fr, fz_int, List.map_cons, List.map_nil, SW, SV, wpD, evDL, evDM, evD, bldLD, wpSp, DMem.mt, beq_self_eq_true, seval]
    have hm : metaB p c.fn c.regs [a, b] = (!((decide (¬a.fn = c.fn) || !partB p c.regs 1 a) || !partB p c.regs 0 b) && behindB p a.fn a.pc b.fn) := by
      unfold metaB
      by_cases h : a.fn = c.fn <;> simp [h]
    rw [hm]
    cases hC : ((decide (¬a.fn = c.fn) || !partB p c.regs 1 a) || !partB p c.regs 0 b) with
    | true => simp only [SW, SV, wpD, evDL, evDM, evD, bldLD, wpSp, DMem.mt, beq_self_eq_true, seval]
    | false =>
      have hpa : partB p c.regs 1 a = true := by
        simp only [Bool.or_eq_false_iff, Bool.not_eq_false'] at hC; exact hC.1.2
      have hf := part_fn hpa
      simp only [After_pf p hv a.fn a.pc b.fn hf, SW, SV, wpD, evDL, evDM, evD, bldLD, wpSp, DMem.mt, beq_self_eq_true, seval]
  | a :: b :: e :: r, hz =>
    have e1 : decide (((r.length + 1 + 1 + 1 : Nat) : Int) = 1) = false := decide_eq_false (by omega)
    have e2 : decide (((r.length + 1 + 1 + 1 : Nat) : Int) = 2) = false := decide_eq_false (by omega)
    simp only [S_ir_sheet_metaNot, R_ir_sheet_metaNot, MU_ir_sheet_metaNot, ldnI1, List.length_cons, e1, e2, SW, SV, wpD, evDL, evDM, evD, bldLD, wpSp, DMem.mt, beq_self_eq_true, seval] <;> rfl
structure SzC (c : Cod) : Prop where
  n : c.code.length * 88 ≤ 140737488351232
  a : ∀ x ∈ c.code, x.args.length * 8 ≤ 140737488351232
  m : c.metas.length * 24 ≤ 140737488351232
  s : ∀ m ∈ c.metas, SzM m
theorem irMay_pf (p : List Fnc) (c : Cod) (hz : SzC c) : pf Tryz.prog F_ir_May [.agg [slD Fnc.c p], .agg c.c] = some (.bool (codeMayB p c)) := by
  refine pf_of (v := .bool _) (pc_ir_May (by simp) ?_) ((FrozL.nil.cons (Froz.agg (Cod.froz c))).cons (Froz.agg (FrozL.nil.cons (Froz.slD Fnc.froz p)))) rfl rfl
  simp only [S_ir_May, R_ir_May, MU_ir_May, SW, SV, wpD, evDL, evDM, evD, bldLD, wpSp, DMem.mt, beq_self_eq_true, seval]
  refine Pu.pc (All_pu p) ?_
  by_cases hA : verifyE p = 0 ∧ 0 ≤ c.fn ∧ c.fn < p.length
  · have eA : ((decide (¬(allR p).2 = 0) || decide (c.fn < 0)) || decide ((p.length : Int) ≤ c.fn)) = false := by
      have : (allR p).2 = 0 := hA.1
      simp only [Bool.or_eq_false_iff, decide_eq_false_iff_not]; omega
    obtain ⟨hv, hf0, hfl⟩ := hA
    obtain ⟨n, hn⟩ := Int.eq_ofNat_of_zero_le hf0
    have hnl : n < p.length := by omega
    have hlo : localsOf p c.fn = p[n].locals := by unfold localsOf; rw [hn, Int.toNat_natCast, List.getElem?_eq_getElem hnl]
    rw [hn] at eA
    have hix : ixD 3 (slD Fnc.c p) (.int .i64 c.fn) = some (.ip (p[n].c ++ (p.drop (n + 1)).flatMap Fnc.c)) := by rw [hn]; exact ix_slD Fnc.len hnl
    rw [← hn] at eA
    have hmx : (if decide (1 < p[n].locals) = true then DV.int .i64 p[n].locals else .int .i64 1) = .int .i64 (if 1 < p[n].locals then p[n].locals else 1) := by
      by_cases h : 1 < p[n].locals <;> simp [h]
    have hcr : cellsD (rowsD (allR p).1) = some [rowsD (allR p).1] := rfl
    simp only [S3_ir_May, MU_ir_May, hix, eA, hmx, hcr, grdFF, grdFT, pickB, SW, SV, wpD, evDL, evDM, evD, bldLD, wpSp, DMem.mt, beq_self_eq_true, seval]
    refine ⟨fun h => ?_, fun h => ?_⟩
    · have : headB p c = false := by
        unfold headB
        refine decide_eq_false ?_
        rintro ⟨g1, g2, g3, g4, g5, g6, g7, g8, g9⟩
        simp only [Bool.or_eq_true, decide_eq_true_eq] at h
        rw [hlo] at g5
        split at h <;> omega
      unfold codeMayB
      rw [this] <;> rfl
    · have hh : headB p c = true := by
        unfold headB
        refine decide_eq_true ?_
        simp only [Bool.or_eq_false_iff, decide_eq_false_iff_not] at h
        rw [hlo]
        split at h <;> exact ⟨hv, by omega, by omega, by omega, by omega, by omega, by omega, by omega, by omega⟩
      refine ⟨fun k δ M' => ∃ i : Nat, i ≤ c.code.length ∧ k = c.code.length - i ∧ M' = DMem.mt ∧ δ 3 = .ip c.c ∧ δ 7 = .int .i64 c.code.length ∧ δ 8 = shD p c ∧ δ 70 = .int .i64 c.code.length ∧ δ 71 = .int .i64 i ∧ (∀ j (hj : j < c.code.length), j < i → irMayB p c.regs c.code.length c.metas.length j c.code[j] = true), c.code.length,
        ⟨0, Nat.zero_le _, rfl, rfl, rfl, rfl, rfl, rfl, rfl, fun j _ hj => absurd hj (by omega)⟩, ?_⟩
      rintro k δ M' ⟨i, hi, rfl, rfl, h3, h7, h8, h70, h71, hall⟩
      have hzn := hz.n
      simp only [S1_ir_May, MU_ir_May, h3, h7, h8, h70, h71, SW, SV, wpD, evDL, evDM, evD, bldLD, wpSp, DMem.mt, beq_self_eq_true, seval, decide_eq_true_eq, decide_eq_false_iff_not]
      refine ⟨fun hlt => ?_, fun hge => ?_⟩
      · have hil : i < c.code.length := by omega
        have ei : wr64 ((i : Int) + 1) = ((i + 1 : Nat) : Int) := w64s (by omega)
        simp only [h3, h7, h8, h70, h71, ei, ins_pf p c i hil (hz.a _ (List.getElem_mem hil)), fz_of (sh_froz p c), fz_irs, fz_metas, fz_prg, fz_of (rows_froz _), fz_int, List.map_cons, List.map_nil, SW, SV, wpD, evDL, evDM, evD, bldLD, wpSp, DMem.mt, beq_self_eq_true, seval]
        refine ⟨fun hb => ?_, fun hb => ⟨c.code.length - (i + 1), DMem.mt, by omega, SubD.refl _, i + 1, by omega, rfl, rfl, rfl, fun j g1 g2 => ?_⟩⟩
        · have hb : irMayB p c.regs c.code.length c.metas.length i c.code[i] = false := by simpa using hb
          have : irsB p c = false := by
            unfold irsB
            rw [List.all_eq_false]
            exact ⟨i, List.mem_range.2 hil, by simp only [List.getElem?_eq_getElem hil]; simp [hb]⟩
          unfold codeMayB
          rw [this]; simp
        · have hb : irMayB p c.regs c.code.length c.metas.length i c.code[i] = true := by simpa using hb
          rcases Nat.lt_or_ge j i with g3 | g3
          · exact hall j g1 g3
          · have : j = i := by omega
            subst this; exact hb
      · have hei : i = c.code.length := by omega
        subst hei
        have hirs : irsB p c = true := by
          unfold irsB
          rw [List.all_eq_true]
          intro j hj
          have hj := List.mem_range.1 hj
          simp only [List.getElem?_eq_getElem hj]
          exact hall j hj hj
        have hpos : 1 ≤ c.code.length := by
          have := of_decide_eq_true hh
          exact this.2.2.2.2.2.2.1
        have hlt : c.code.length - 1 < c.code.length := by omega
        have ew : wr64 ((c.code.length : Int) - 1) = ((c.code.length - 1 : Nat) : Int) := by rw [w64 (by omega)]; omega
        have hfn : ∀ M k, fz M k (.fn (.func 55) [shD p c] []) = .fn (.func 55) [shD p c] [] := fun M k => fz_of (Froz.fn (FrozL.nil.cons (sh_froz p c)) FrozL.nil) M k
        have hC : pf Tryz.prog F_slices_ContainsFunc_api_Meta_api_Meta [slD metaC c.metas, .fn (.func 55) [shD p c] []] = some (.bool (c.metas.any fun m => !metaB p c.fn c.regs m)) := Contains_meta1 _ [shD p c] [] (FrozL.nil.cons (sh_froz p c)) FrozL.nil (fun m => !metaB p c.fn c.regs m) c.metas (by have := hz.m; omega) (fun i h => metaNot_pf p c hv _ (hz.s _ (List.getElem_mem h)))
        have han : (!c.metas.any fun m => !metaB p c.fn c.regs m) = c.metas.all (metaB p c.fn c.regs) := by simp [List.not_any_eq_all_not]
        have hb : codeMayB p c = (c.metas.all (metaB p c.fn c.regs) && (decide (c.code[c.code.length - 1].kind = 4) || decide (c.code[c.code.length - 1].kind = 8))) := by
          unfold codeMayB lastB
          rw [hh, hirs, List.getLast?_eq_getElem?, List.getElem?_eq_getElem hlt]
          simp
        rw [hb]
        simp only [S2_ir_May, MU_ir_May, h3, h7, h8, ew, ix_slD Irc.len hlt, SW, SV, wpD, evDL, evDM, evD, bldLD, wpSp, DMem.mt, beq_self_eq_true, seval]
        cases (decide (c.code[c.code.length - 1].kind = 4) || decide (c.code[c.code.length - 1].kind = 8)) with
        | false => simp only [grdTF, Bool.and_false, SW, SV, wpD, evDL, evDM, evD, bldLD, wpSp, DMem.mt, beq_self_eq_true, seval]
        | true => simp only [grdTT, Bool.and_true, h8, hC, hfn, han, fz_metas, List.map_cons, List.map_nil, SW, SV, wpD, evDL, evDM, evD, bldLD, wpSp, DMem.mt, beq_self_eq_true, seval]
  · have eA : ((decide (¬(allR p).2 = 0) || decide (c.fn < 0)) || decide ((p.length : Int) ≤ c.fn)) = true := by
      have : verifyE p = (allR p).2 := rfl
      simp only [Bool.or_eq_true, decide_eq_true_eq]; omega
    have hb : codeMayB p c = false := by
      unfold codeMayB headB
      rw [decide_eq_false (by rintro ⟨h1, h2, h3, _⟩; exact hA ⟨h1, h2, h3⟩)] <;> rfl
    rw [hb]
    simp only [S3_ir_May, MU_ir_May, eA, grdFF, grdFT, SW, SV, wpD, evDL, evDM, evD, bldLD, wpSp, DMem.mt, beq_self_eq_true, seval]
end Go.Proofs.YticlgdhhnjpkjaaGreatDoor.Pf
namespace Go.Proofs.YticlgdhhnjpkjaaGreatDoor.Pf
open Go Go.RowKit Go.Proofs Go.Proofs.YticlgdhhnjpkjaaGreatDoor.Mw Go.Proofs.YticlgdhhnjpkjaaGreatDoor.Sx
set_option linter.unusedVariables false
set_option linter.unusedSimpArgs false
set_option maxRecDepth 8000
structure CodAt {α β : Type} (E1 : El α) (E2 : El β) (Z : List Nat) (M1 M : DMem) (d1 : DV) (xs1 : List α) (S1 : List Nat) (d2 : DV) (xs2 : List β) (S2 : List Nat) : Prop where
  c : SlAt E1 M d1 xs1 S1
  m : SlAt E2 M d2 xs2 S2
  nd : (S1 ++ S2).Nodup
  new : ∀ y ∈ S1 ++ S2, M1 y = none
  keep : ∀ x B, M1 x = some B → x ∉ Z → M x = some B
  here : ∀ x, M1 x ≠ none → M x ≠ none
section
variable {α β : Type} {E1 : El α} {E2 : El β} {Z : List Nat} {M1 M : DMem} {d1 d2 : DV} {xs1 : List α} {xs2 : List β} {S1 S2 : List Nat}
theorem CodAt.start (hZ : True) : CodAt E1 E2 Z M1 M1 .zsl [] [] .zsl [] [] := ⟨SlAt.nil, SlAt.nil, List.nodup_nil, fun y hy => by simp at hy, fun x B h _ => h, fun x h => h⟩
theorem CodAt.gone (hE1 : E1.Ok) (hE2 : E2.Ok) (h : CodAt E1 E2 Z M1 M d1 xs1 S1 d2 xs2 S2) {M5 M6 : DMem} {d' : DV} {xs' : List α} {S' : List Nat} {z : Nat} {B0 : DBlk} (h1 : SlAt E1 M5 d' xs' S') (h2 : ∀ b B, M b = some B → b ∉ S1 → b ∉ Z → M5 b = some B) (h3 : ∀ b ∈ S', b ∈ S1 ∨ M b = none) (h4 : S'.Nodup)
    (hh : ∀ b ∈ Z, M5 b ≠ none) (hz : z ∈ Z) (hz1 : M1 z ≠ none) (hM6 : M6 = M5.ins z B0) (hZ1 : ∀ y ∈ Z, M1 y ≠ none) : CodAt E1 E2 Z M1 M6 d' xs' S' d2 xs2 S2 := by
  obtain ⟨n1, n2, n3⟩ := List.nodup_append.1 h.nd
  have hq : ∀ y, y ≠ z → M6 y = M5 y := fun y hy => by rw [hM6, DMem.ins_ne _ _ hy]
  have old : ∀ y, M y = none → M1 y = none := fun y hy => by
    cases e : M1 y with
    | none => rfl
    | some B => exact absurd hy (h.here y (by rw [e]; simp))
  have hS' : ∀ y ∈ S', M1 y = none := fun y hy => by
    rcases h3 y hy with h5 | h5
    · exact h.new y (by simp [h5])
    · exact old y h5
  have hd : ∀ y ∈ S', y ∉ S2 := fun y hy hy2 => by
    rcases h3 y hy with h5 | h5
    · exact n3 y h5 y hy2 rfl
    · exact h.m.here hE2 y hy2 h5
  have hnz : ∀ y, M1 y = none → y ≠ z := fun y hy e => hz1 (e ▸ hy)
  refine ⟨h1.frame hE1 fun y hy => hq y (hnz y (hS' y hy)), h.m.frame hE2 fun y hy => ?_, List.nodup_append.2 ⟨h4, n2, fun a ha b hb e => hd a ha (e ▸ hb)⟩, fun y hy => ?_, fun x B hB hx => ?_, fun x hx => ?_⟩
  · obtain ⟨B, hB⟩ := Option.ne_none_iff_exists'.1 (h.m.here hE2 y hy)
    have hy1 := h.new y (by simp [hy])
    rw [hq y (hnz y hy1), hB]
    exact h2 y B hB (fun hh => n3 y hh y hy rfl) fun hh => hZ1 y hh hy1
  · rcases List.mem_append.1 hy with hy | hy
    · exact hS' y hy
    · exact h.new y (by simp [hy])
  · have hxz : x ≠ z := fun e => hx (e ▸ hz)
    rw [hq x hxz]
    exact h2 x B (h.keep x B hB hx) (fun hh => by have := h.new x (by simp [hh]); rw [this] at hB; cases hB) hx
  · by_cases e : x = z
    · subst e; rw [hM6, DMem.ins_same]; simp
    · rw [hq x e]
      by_cases ez : x ∈ Z
      · exact hh x ez
      · obtain ⟨B, hB⟩ := Option.ne_none_iff_exists'.1 hx
        rw [h2 x B (h.keep x B hB ez) (fun hh => hx (h.new x (by simp [hh]))) ez]; simp
theorem CodAt.swap (h : CodAt E1 E2 Z M1 M d1 xs1 S1 d2 xs2 S2) : CodAt E2 E1 Z M1 M d2 xs2 S2 d1 xs1 S1 := by
  obtain ⟨n1, n2, n3⟩ := List.nodup_append.1 h.nd
  exact ⟨h.m, h.c, List.nodup_append.2 ⟨n2, n1, fun a ha b hb e => n3 b hb a ha e.symm⟩, fun y hy => h.new y (by simp only [List.mem_append] at hy ⊢; exact hy.symm), h.keep, h.here⟩
end
theorem CopySrcs_pc {M : DMem} (l : List Src) (hl : l.length * 16 ≤ 140737488355328) {R : DV → DMem → Prop}
    (hR : ∀ d M' S, SlAt srcE M' d l S → S.Nodup → (∀ x ∈ S, M x = none) → SubD M M' → R d M') : PC Tryz.prog F_swagelaw0_CopySrcs [slD Src.c l] R M := by
  refine pc_swagelaw0_CopySrcs (by simp) ?_
  simp only [S_swagelaw0_CopySrcs, R_swagelaw0_CopySrcs, MU_swagelaw0_CopySrcs, SW, SV, wpD, evDL, evDM, evD, bldLD, wpSp, DMem.mt, beq_self_eq_true, seval]
  have h := (SlAt.nil (E := srcE) (M := M)).app srcE_ok List.nodup_nil (e := 136) (bytes := 16) (ys := l) (ds := l.flatMap Src.c) (T := []) (k := l.length) RowAt.flat (fun x hx => by simp at hx) rfl (by simp; omega) (by simp; omega) (Post := R) fun d' M' S' h1 h2 h3 h4 => hR d' M' S' (by simpa using h1) (h4 List.nodup_nil) (fun x hx => by
      rcases h3 x hx with h | h | h
      · simp at h
      · simp at h
      · exact h) fun b B hB => h2 b B hB (by simp)
  exact h
theorem CopyCode_pc {M : DMem} (c : Cod) (hz : SzC c) (hsrc : ∀ m ∈ c.metas, m.length * 64 ≤ 140737488351232 ∧ ∀ x ∈ m, x.locals.length * 16 ≤ 140737488351232 ∧ x.stack.length * 16 ≤ 140737488351232) {R : DV → DMem → Prop}
    (hR : ∀ dc dm M' Sc Sm, SlAt irE M' dc c.code Sc → SlAt metaE M' dm c.metas Sm → (Sc ++ Sm).Nodup → (∀ y ∈ Sc ++ Sm, M y = none) → SubD M M' → R (.agg [.int .i64 c.fn, .int .i64 c.regs, dc, dm]) M') : PC Tryz.prog F_swagelaw0_CopyCode [.agg c.c] R M := by
  refine pc_swagelaw0_CopyCode (by simp) ?_
  simp only [S_swagelaw0_CopyCode, R_swagelaw0_CopyCode, MU_swagelaw0_CopyCode, SW, SV, wpD, evDL, evDM, evD, bldLD, wpSp, DMem.mt, beq_self_eq_true, seval]
  intro o N1 ho hN1
  try simp only [SW, SV, wpD, evDL, evDM, evD, bldLD, wpSp, DMem.mt, beq_self_eq_true, seval]
  intro q3 M1 hq3 hM1
  have hoq : o ≠ q3 := by rintro rfl; rw [hN1, DMem.ins_same] at hq3; cases hq3
  have hoM : M o = none := ho
  have hqM : M q3 = none := by rw [hN1, DMem.ins_ne _ _ (Ne.symm hoq)] at hq3; exact hq3
  have ho1 : M1 o = some ⟨29, 4, [.int .i64 0, .int .i64 0, .zsl, .zsl]⟩ := by rw [hM1, DMem.ins_ne _ _ hoq, hN1, DMem.ins_same]
  have hq1 : M1 q3 = some ⟨29, 4, [.int .i64 c.fn, .int .i64 c.regs, .zsl, .zsl]⟩ := by rw [hM1, DMem.ins_same]
  have k1 : SubD M M1 := fun y B hB => by
    rw [hM1, DMem.ins_ne _ _ (by rintro rfl; rw [hqM] at hB; cases hB), hN1, DMem.ins_ne _ _ (by rintro rfl; rw [hoM] at hB; cases hB)]; exact hB
  clear hM1 hN1 hq3 ho
  have hZ1 : ∀ y ∈ [q3], M1 y ≠ none := fun y hy => by simp at hy; subst hy; rw [hq1]; simp
  have hzn := hz.n
  have hzm := hz.m
  try simp only [SW, SV, wpD, evDL, evDM, evD, bldLD, wpSp, DMem.mt, beq_self_eq_true, seval]
  refine ⟨fun k δ M' => ∃ (i : Nat) (dc : DV) (Sc : List Nat), i ≤ c.code.length ∧ k = c.code.length - i ∧ δ 1 = .ip c.c ∧ δ 2 = .mp o 0 ∧ δ 3 = .mp q3 0 ∧ δ 4 = .int .i64 i ∧ M' q3 = some ⟨29, 4, [.int .i64 c.fn, .int .i64 c.regs, dc, .zsl]⟩ ∧ CodAt irE metaE [q3] M1 M' dc (c.code.take i) Sc .zsl [] [], c.code.length,
    ⟨0, .zsl, [], Nat.zero_le _, rfl, rfl, rfl, rfl, rfl, hq1, CodAt.start trivial⟩, ?_⟩
  rintro k δ M' ⟨i, dc, Sc, hi, rfl, h1, h2, h3, h4, hMq, hC⟩
  simp only [S1_swagelaw0_CopyCode, MU_swagelaw0_CopyCode, h1, h2, h3, h4, SW, SV, wpD, evDL, evDM, evD, bldLD, wpSp, DMem.mt, beq_self_eq_true, seval, decide_eq_true_eq, decide_eq_false_iff_not]
  refine ⟨fun hlt => ?_, fun hge => ?_⟩
  · have hil : i < c.code.length := by omega
    simp only [ix_slD Irc.len hil, ldn_irc, h1, h2, h3, h4, SW, SV, wpD, evDL, evDM, evD, bldLD, wpSp, DMem.mt, beq_self_eq_true, seval]
    intro q5 N2 hq5 hN2
    have hza := hz.a _ (List.getElem_mem hil)
    generalize hx : c.code[i] = x at *
    have hq5M : M' q5 = none := hq5
    have hN2q : N2 q5 = some ⟨50, 9, x.c⟩ := by rw [hN2, DMem.ins_same]
    have k2 : SubD M' N2 := fun y B hB => by rw [hN2, DMem.ins_ne _ _ (by rintro rfl; rw [hq5M] at hB; cases hB)]; exact hB
    have hN2' : N2 = M'.ins q5 ⟨50, 9, x.c⟩ := hN2
    clear hN2 hq5
    simp only [hN2q, h1, h2, h3, h4, SW, SV, wpD, evDL, evDM, evD, bldLD, wpSp, DMem.mt, beq_self_eq_true, seval]
    refine (SlAt.nil (E := intE) (M := N2)).app intE_ok List.nodup_nil (e := 3) (bytes := 8) (ys := x.args) (ds := x.args.map (.int .i64)) (T := []) (k := x.args.length) RowAt.ints (fun x hx => by simp at hx) rfl (by simp; omega) (by simp; omega) fun dA N3 SA a1 a2 a3 a4 => ?_
    have a1 : SlAt intE N3 dA x.args SA := by simpa using a1
    have a2 : SubD N2 N3 := fun b B hB => a2 b B hB (by simp)
    have a3 : ∀ b ∈ SA, N2 b = none := fun b hb => by
      rcases a3 b hb with h | h | h
      · simp at h
      · simp at h
      · exact h
    have a4 : SA.Nodup := a4 List.nodup_nil
    have hqA : q5 ∉ SA := fun hh => by have := a3 q5 hh; rw [hN2q] at this; cases this
    refine stD (a2 q5 _ hN2q) a1.cell rfl (by simp) (by simp) (by simp only [List.all_cons, List.all_nil, a1.plain] <;> rfl) fun N4 hN4 => ?_
    have h4q : N4 q5 = some ⟨50, 9, [.int .i64 x.kind, .int .i64 x.r, .int .i64 x.a, .int .i64 x.b, .int .i64 x.k, dA, .int .i64 x.cost, .int .i64 x.mt, .int .i64 x.pc]⟩ := by rw [hN4, DMem.ins_same] <;> rfl
    have n4 : ∀ y, y ≠ q5 → N4 y = N3 y := fun y hy => by rw [hN4, DMem.ins_ne _ _ hy]
    have k4 : ∀ y B, M' y = some B → N4 y = some B := fun y B hB => by rw [n4 y (by rintro rfl; rw [hq5M] at hB; cases hB)]; exact a2 y B (k2 y B hB)
    have z4 : ∀ y, N4 y = none → M' y = none := fun y hy => by
      cases e : M' y with
      | none => rfl
      | some B => rw [k4 y B e] at hy; cases hy
    have zA : ∀ y ∈ SA, M' y = none := fun y hy => by
      have := a3 y hy
      cases e : M' y with
      | none => rfl
      | some B => rw [k2 y B e] at this; cases this
    have hA4 : SlAt intE N4 dA x.args SA := a1.frame intE_ok fun y hy => n4 y (by rintro rfl; exact hqA hy)
    clear hN4 a1 a2 a3
    have hMq4 := k4 q3 _ hMq
    have hnc : Sc.Nodup := (List.nodup_append.1 hC.nd).1
    have hc4 : SlAt irE N4 dc (c.code.take i) Sc := hC.c.frame irE_ok fun y hy => by
      obtain ⟨B, hB⟩ := Option.ne_none_iff_exists'.1 (hC.c.here irE_ok y hy)
      rw [hB, k4 y B hB]
    have hti : (c.code.take i).length = i := by rw [List.length_take]; omega
    simp only [hMq4, h4q, h1, h2, h3, h4, SW, SV, wpD, evDL, evDM, evD, bldLD, wpSp, DMem.mt, beq_self_eq_true, seval]
    refine hc4.app irE_ok hnc (ys := [x]) (ds := [.int .i64 x.kind, .int .i64 x.r, .int .i64 x.a, .int .i64 x.b, .int .i64 x.k, dA, .int .i64 x.cost, .int .i64 x.mt, .int .i64 x.pc]) (T := SA) (k := 1) (bytes := 88) (RowAt.one ⟨dA, rfl, hA4⟩) (fun y hy hh => hC.c.here irE_ok y hh (zA y hy)) rfl (by rw [hti]; omega) (by rw [hti]; omega) fun d' N9 S' b1 b2 b3 b4 => ?_
    have hqc : q3 ∉ Sc := fun hh => by have := hC.new q3 (by simp [hh]); rw [hq1] at this; cases this
    have hMq9 := b2 q3 _ hMq4 hqc
    try simp only [h1, h2, h3, h4, SW, SV, wpD, evDL, evDM, evD, bldLD, wpSp, DMem.mt, beq_self_eq_true, seval]
    refine stD hMq9 b1.cell rfl (by simp) (by simp) (by simp only [List.all_cons, List.all_nil, b1.plain] <;> rfl) fun N10 hN10 => ?_
    have ei : wr64 ((i : Int) + 1) = ((i + 1 : Nat) : Int) := w64s (by omega)
    try simp only [h1, h2, h3, h4, ei, SW, SV, wpD, evDL, evDM, evD, bldLD, wpSp, DMem.mt, beq_self_eq_true, seval]
    refine ⟨c.code.length - (i + 1), N10, by omega, SubD.refl _, i + 1, d', S', by omega, rfl, rfl, by rw [hN10, DMem.ins_same] <;> rfl, ?_⟩
    rw [List.take_succ_eq_append_getElem hil, hx]
    refine hC.gone irE_ok metaE_ok b1 (fun b B hB hbS _ => b2 b B (k4 b B hB) hbS) (fun b hb => ?_) (b4 a4) (fun b hb => by simp at hb; subst hb; rw [hMq9]; simp) (z := q3) (by simp) (by rw [hq1]; simp) hN10 hZ1
    rcases b3 b hb with h | h | h
    · exact .inl h
    · exact .inr (zA b h)
    · exact .inr (z4 b h)
  · have hie : i = c.code.length := by omega
    subst hie
    rw [List.take_length] at hC
    simp only [S8_swagelaw0_CopyCode, MU_swagelaw0_CopyCode, h1, h2, h3, h4, SW, SV, wpD, evDL, evDM, evD, bldLD, wpSp, DMem.mt, beq_self_eq_true, seval]
    refine ⟨fun k δ M' => ∃ (i : Nat) (dm : DV) (Sm : List Nat), i ≤ c.metas.length ∧ k = c.metas.length - i ∧ δ 1 = .ip c.c ∧ δ 2 = .mp o 0 ∧ δ 3 = .mp q3 0 ∧ δ 6 = .int .i64 i ∧ M' q3 = some ⟨29, 4, [.int .i64 c.fn, .int .i64 c.regs, dc, dm]⟩ ∧ CodAt irE metaE [q3] M1 M' dc c.code Sc dm (c.metas.take i) Sm, c.metas.length,
      ⟨0, .zsl, [], Nat.zero_le _, rfl, h1, h2, h3, rfl, hMq, hC⟩, ?_⟩
    clear h1 h2 h3 h4 hMq hC
    rintro k δ M' ⟨i, dm, Sm, hi, rfl, h1, h2, h3, h6, hMq, hC⟩
    simp only [S6_swagelaw0_CopyCode, MU_swagelaw0_CopyCode, h1, h2, h3, h6, SW, SV, wpD, evDL, evDM, evD, bldLD, wpSp, DMem.mt, beq_self_eq_true, seval, decide_eq_true_eq, decide_eq_false_iff_not]
    refine ⟨fun hlt => ?_, fun hge => ?_⟩
    · have hil : i < c.metas.length := by omega
      obtain ⟨hml, hms⟩ := hsrc _ (List.getElem_mem hil)
      have hix : ixD 1 (slD metaC c.metas) (.int .i64 (i : Int)) = some (.ip (slD Part.c c.metas[i] :: (c.metas.drop (i + 1)).flatMap metaC)) := ix_slD metaC_len hil
      generalize hm : c.metas[i] = m at *
      intro q7 N1 hq7 hN1
      have hq7M : M' q7 = none := hq7
      have hN1q : N1 q7 = some ⟨79, 1, [.zsl]⟩ := by rw [hN1, DMem.ins_same]
      have k7 : SubD M' N1 := fun y B hB => by rw [hN1, DMem.ins_ne _ _ (by rintro rfl; rw [hq7M] at hB; cases hB)]; exact hB
      have hZ7 : ∀ y ∈ [q7], N1 y ≠ none := fun y hy => by simp at hy; subst hy; rw [hN1q]; simp
      have hq37 : q3 ≠ q7 := by rintro rfl; rw [hMq] at hq7M; cases hq7M
      have z7 : ∀ y, N1 y = none → M' y = none := fun y hy => by
        cases e : M' y with
        | none => rfl
        | some B => rw [k7 y B e] at hy; cases hy
      clear hN1 hq7
      refine ⟨fun k δ N => ∃ (j : Nat) (dp : DV) (Sp : List Nat), j ≤ m.length ∧ k = m.length - j ∧ δ 1 = .ip c.c ∧ δ 2 = .mp o 0 ∧ δ 3 = .mp q3 0 ∧ δ 6 = .int .i64 i ∧ δ 7 = .mp q7 0 ∧ δ 8 = .int .i64 j ∧ N q7 = some ⟨79, 1, [dp]⟩ ∧ CodAt partE partE [q7] N1 N dp (m.take j) Sp .zsl [] [], m.length,
        ⟨0, .zsl, [], Nat.zero_le _, rfl, h1, h2, h3, h6, rfl, rfl, hN1q, CodAt.start trivial⟩, ?_⟩
      clear h1 h2 h3 h6
      rintro k δ N ⟨j, dp, Sp, hj, rfl, h1, h2, h3, h6, h7, h8, hNq, hP⟩
      simp only [S4_swagelaw0_CopyCode, MU_swagelaw0_CopyCode, h1, h2, h3, h6, h7, h8, hix, SW, SV, wpD, evDL, evDM, evD, bldLD, wpSp, DMem.mt, beq_self_eq_true, seval, decide_eq_true_eq, decide_eq_false_iff_not]
      refine ⟨fun hlt => ?_, fun hge => ?_⟩
      · have hjl : j < m.length := by omega
        obtain ⟨zl, zs⟩ := hms _ (List.getElem_mem hjl)
        have hl4 : ∀ K : DMem, ∀ x : Part, ∀ r : List DV, ldnD K 4 (.ip (.int .i64 x.fn :: .int .i64 x.pc :: slD Src.c x.locals :: slD Src.c x.stack :: r)) = some (.agg x.c) := fun K x r => by simp [ldnD]
        simp only [ix_slD Part.len hjl, hl4, SW, SV, wpD, evDL, evDM, evD, bldLD, wpSp, DMem.mt, beq_self_eq_true, seval]
        generalize hx : m[j] = x at *
        intro q9 N2 hq9 hN2
        have hq9N : N q9 = none := hq9
        have h2q : N2 q9 = some ⟨69, 4, x.c⟩ := by rw [hN2, DMem.ins_same]
        have k2 : SubD N N2 := fun y B hB => by rw [hN2, DMem.ins_ne _ _ (by rintro rfl; rw [hq9N] at hB; cases hB)]; exact hB
        clear hN2 hq9
        simp only [h2q, h1, h2, h3, h6, h7, h8, SW, SV, wpD, evDL, evDM, evD, bldLD, wpSp, DMem.mt, beq_self_eq_true, seval]
        refine CopySrcs_pc x.locals (by omega) fun dA N3 SA a1 a2 a3 a4 => ?_
        simp only [S3_swagelaw0_CopyCode, MU_swagelaw0_CopyCode, h1, h2, h3, h6, h7, h8, SW, SV, wpD, evDL, evDM, evD, bldLD, wpSp, DMem.mt, beq_self_eq_true, seval]
        have hqA : q9 ∉ SA := fun hh => by have := a3 q9 hh; rw [h2q] at this; cases this
        refine stD (a4 q9 _ h2q) a1.cell rfl (by simp) (by simp) (by simp only [List.all_cons, List.all_nil, a1.plain] <;> rfl) fun N4 hN4 => ?_
        have h4q : N4 q9 = some ⟨69, 4, [.int .i64 x.fn, .int .i64 x.pc, dA, slD Src.c x.stack]⟩ := by rw [hN4, DMem.ins_same] <;> rfl
        have n4 : ∀ y, y ≠ q9 → N4 y = N3 y := fun y hy => by rw [hN4, DMem.ins_ne _ _ hy]
        have hA4 : SlAt srcE N4 dA x.locals SA := a1.frame srcE_ok fun y hy => n4 y (by rintro rfl; exact hqA hy)
        clear hN4
        simp only [h4q, h1, h2, h3, h6, h7, h8, SW, SV, wpD, evDL, evDM, evD, bldLD, wpSp, DMem.mt, beq_self_eq_true, seval]
        refine CopySrcs_pc x.stack (by omega) fun dB N5 SB b1 b2 b3 b4 => ?_
        simp only [S2_swagelaw0_CopyCode, MU_swagelaw0_CopyCode, h1, h2, h3, h6, h7, h8, SW, SV, wpD, evDL, evDM, evD, bldLD, wpSp, DMem.mt, beq_self_eq_true, seval]
        have hqB : q9 ∉ SB := fun hh => by have := b3 q9 hh; rw [h4q] at this; cases this
        refine stD (b4 q9 _ h4q) b1.cell rfl (by simp) (by simp) (by simp only [List.all_cons, List.all_nil, b1.plain] <;> rfl) fun N6 hN6 => ?_
        have h6q : N6 q9 = some ⟨69, 4, [.int .i64 x.fn, .int .i64 x.pc, dA, dB]⟩ := by rw [hN6, DMem.ins_same] <;> rfl
        have n6 : ∀ y, y ≠ q9 → N6 y = N5 y := fun y hy => by rw [hN6, DMem.ins_ne _ _ hy]
        have hB6 : SlAt srcE N6 dB x.stack SB := b1.frame srcE_ok fun y hy => n6 y (by rintro rfl; exact hqB hy)
        have hA6 : SlAt srcE N6 dA x.locals SA := (hA4.sub srcE_ok b4).frame srcE_ok fun y hy => n6 y (by rintro rfl; exact hqA hy)
        clear hN6
        have k6 : ∀ y B, N y = some B → N6 y = some B := fun y B hB => by
          have hy : y ≠ q9 := by rintro rfl; rw [hq9N] at hB; cases hB
          rw [n6 y hy]; refine b4 y B ?_
          rw [n4 y hy]; exact a4 y B (k2 y B hB)
        have z6 : ∀ y, N6 y = none → N y = none := fun y hy => by
          cases e : N y with
          | none => rfl
          | some B => rw [k6 y B e] at hy; cases hy
        have zA : ∀ y ∈ SA, N y = none := fun y hy => by
          have := a3 y hy
          cases e : N y with
          | none => rfl
          | some B => rw [k2 y B e] at this; cases this
        have zB : ∀ y ∈ SB, N y = none := fun y hy => by
          have hyq : y ≠ q9 := by rintro rfl; exact hqB hy
          have := b3 y hy
          cases e : N y with
          | none => rfl
          | some B => rw [n4 y hyq, a4 y B (k2 y B e)] at this; cases this
        have dAB : ∀ y ∈ SA, y ∉ SB := fun y hy hh => by
          have h5 := b3 y hh
          rw [n4 y (by rintro rfl; exact hqA hy)] at h5
          exact a1.here srcE_ok y hy h5
        have hNq6 := k6 q7 _ hNq
        have hnp : Sp.Nodup := (List.nodup_append.1 hP.nd).1
        have hp6 : SlAt partE N6 dp (m.take j) Sp := hP.c.frame partE_ok fun y hy => by
          obtain ⟨B, hB⟩ := Option.ne_none_iff_exists'.1 (hP.c.here partE_ok y hy)
          rw [hB, k6 y B hB]
        have hti : (m.take j).length = j := by rw [List.length_take]; omega
        simp only [hNq6, h6q, h1, h2, h3, h6, h7, h8, SW, SV, wpD, evDL, evDM, evD, bldLD, wpSp, DMem.mt, beq_self_eq_true, seval]
        refine hp6.app partE_ok hnp (ys := [x]) (ds := [.int .i64 x.fn, .int .i64 x.pc, dA, dB]) (T := SA ++ SB) (k := 1) (bytes := 64) (RowAt.one ⟨dA, dB, SA, SB, rfl, hA6, hB6, rfl⟩) (fun y hy hh => ?_) rfl (by rw [hti]; omega) (by rw [hti]; omega) fun d' N9 S' g1 g2 g3 g4 => ?_
        · rcases List.mem_append.1 hy with hy | hy
          · exact hP.c.here partE_ok y hh (zA y hy)
          · exact hP.c.here partE_ok y hh (zB y hy)
        have hqp : q7 ∉ Sp := fun hh => by have := hP.new q7 (by simp [hh]); rw [hN1q] at this; cases this
        have hNq9 := g2 q7 _ hNq6 hqp
        try simp only [h1, h2, h3, h6, h7, h8, SW, SV, wpD, evDL, evDM, evD, bldLD, wpSp, DMem.mt, beq_self_eq_true, seval]
        refine stD hNq9 g1.cell rfl (by simp) (by simp) (by simp only [List.all_cons, List.all_nil, g1.plain] <;> rfl) fun N10 hN10 => ?_
        have ej : wr64 ((j : Int) + 1) = ((j + 1 : Nat) : Int) := w64s (by omega)
        try simp only [h1, h2, h3, h6, h7, h8, ej, SW, SV, wpD, evDL, evDM, evD, bldLD, wpSp, DMem.mt, beq_self_eq_true, seval]
        refine ⟨m.length - (j + 1), N10, by omega, SubD.refl _, j + 1, d', S', by omega, rfl, rfl, by rw [hN10, DMem.ins_same] <;> rfl, ?_⟩
        rw [List.take_succ_eq_append_getElem hjl, hx]
        refine hP.gone partE_ok partE_ok g1 (fun b B hB hbS _ => g2 b B (k6 b B hB) hbS) (fun b hb => ?_) (g4 (List.nodup_append.2 ⟨a2, b2, fun a ha b hb e => dAB a ha (e ▸ hb)⟩)) (fun b hb => by simp at hb; subst hb; rw [hNq9]; simp) (z := q7) (by simp) (by rw [hN1q]; simp) hN10 hZ7
        rcases g3 b hb with h | h | h
        · exact .inl h
        · rcases List.mem_append.1 h with h | h
          · exact .inr (zA b h)
          · exact .inr (zB b h)
        · exact .inr (z6 b h)
      · have hje : j = m.length := by omega
        subst hje
        rw [List.take_length] at hP
        have hMqN : N q3 = some ⟨29, 4, [.int .i64 c.fn, .int .i64 c.regs, dc, dm]⟩ := hP.keep q3 _ (k7 q3 _ hMq) (by simpa using hq37)
        have kN : ∀ y B, M' y = some B → N y = some B := fun y B hB => hP.keep y B (k7 y B hB) (by simp; rintro rfl; rw [hq7M] at hB; cases hB)
        have zN : ∀ y, N y = none → M' y = none := fun y hy => by
          cases e : M' y with
          | none => rfl
          | some B => rw [kN y B e] at hy; cases hy
        have zS : ∀ y ∈ Sp, M' y = none := fun y hy => z7 y (hP.new y (by simp [hy]))
        simp only [S5_swagelaw0_CopyCode, MU_swagelaw0_CopyCode, h1, h2, h3, h6, h7, h8, hMqN, hNq, ldnM, SW, SV, wpD, evDL, evDM, evD, bldLD, wpSp, DMem.mt, beq_self_eq_true, seval]
        have hnm : Sm.Nodup := (List.nodup_append.1 hC.nd).2.1
        have hmN : SlAt metaE N dm (c.metas.take i) Sm := hC.m.frame metaE_ok fun y hy => by
          obtain ⟨B, hB⟩ := Option.ne_none_iff_exists'.1 (hC.m.here metaE_ok y hy)
          rw [hB, kN y B hB]
        have hti : (c.metas.take i).length = i := by rw [List.length_take]; omega
        refine hmN.app metaE_ok hnm (ys := [m]) (ds := [dp]) (T := Sp) (k := 1) (bytes := 24) (RowAt.one ⟨dp, rfl, hP.c⟩) (fun y hy hh => hC.m.here metaE_ok y hh (zS y hy)) rfl (by rw [hti]; omega) (by rw [hti]; omega) fun d' N9 S' g1 g2 g3 g4 => ?_
        have hqm : q3 ∉ Sm := fun hh => by have := hC.new q3 (by simp [hh]); rw [hq1] at this; cases this
        have hMq9 := g2 q3 _ hMqN hqm
        try simp only [h1, h2, h3, h6, h7, h8, SW, SV, wpD, evDL, evDM, evD, bldLD, wpSp, DMem.mt, beq_self_eq_true, seval]
        refine stD hMq9 g1.cell rfl (by simp) (by simp) (by simp only [List.all_cons, List.all_nil, g1.plain] <;> rfl) fun N10 hN10 => ?_
        have ei : wr64 ((i : Int) + 1) = ((i + 1 : Nat) : Int) := w64s (by omega)
        try simp only [h1, h2, h3, h6, h7, h8, ei, SW, SV, wpD, evDL, evDM, evD, bldLD, wpSp, DMem.mt, beq_self_eq_true, seval]
        refine ⟨c.metas.length - (i + 1), N10, by omega, SubD.refl _, i + 1, d', S', by omega, rfl, rfl, by rw [hN10, DMem.ins_same] <;> rfl, ?_⟩
        rw [List.take_succ_eq_append_getElem hil, hm]
        refine (hC.swap.gone metaE_ok irE_ok g1 (fun b B hB hbS _ => g2 b B (kN b B hB) hbS) (fun b hb => ?_) (g4 (List.nodup_append.1 hP.nd).1) (fun b hb => by simp at hb; subst hb; rw [hMq9]; simp) (z := q3) (by simp) (by rw [hq1]; simp) hN10 hZ1).swap
        rcases g3 b hb with h | h | h
        · exact .inl h
        · exact .inr (zS b h)
        · exact .inr (zN b h)
    · have hie : i = c.metas.length := by omega
      subst hie
      rw [List.take_length] at hC
      simp only [S7_swagelaw0_CopyCode, MU_swagelaw0_CopyCode, h1, h2, h3, h6, hMq, ldnM, SW, SV, wpD, evDL, evDM, evD, bldLD, wpSp, DMem.mt, beq_self_eq_true, seval]
      have ho' := hC.keep o _ ho1 (by simp; exact hoq)
      refine stD ho' rfl rfl (by simp) (by simp) (by simp only [List.all_cons, List.all_nil, hC.c.plain, hC.m.plain] <;> rfl) fun N5 hN5 => ?_
      have ho5 : N5 o = some ⟨29, 4, [.int .i64 c.fn, .int .i64 c.regs, dc, dm]⟩ := by rw [hN5, DMem.ins_same] <;> rfl
      have n5 : ∀ y, y ≠ o → N5 y = M' y := fun y hy => by rw [hN5, DMem.ins_ne _ _ hy]
      have hoS : ∀ y ∈ Sc ++ Sm, y ≠ o := fun y hy => by rintro rfl; have := hC.new y hy; rw [ho1] at this; cases this
      simp only [h2, ho5, ldnM, SW, SV, wpD, evDL, evDM, evD, bldLD, wpSp, DMem.mt, beq_self_eq_true, seval]
      refine hR dc dm N5 Sc Sm (hC.c.frame irE_ok fun y hy => n5 y (hoS y (by simp [hy]))) (hC.m.frame metaE_ok fun y hy => n5 y (hoS y (by simp [hy]))) hC.nd (fun y hy => ?_) fun y B hB => ?_
      · have := hC.new y hy
        cases e : M y with
        | none => rfl
        | some B => rw [k1 y B e] at this; cases this
      · rw [n5 y (by rintro rfl; rw [hoM] at hB; cases hB)]
        exact hC.keep y B (k1 y B hB) (by simp; rintro rfl; rw [hqM] at hB; cases hB)
end Go.Proofs.YticlgdhhnjpkjaaGreatDoor.Pf
namespace Go.Proofs.YticlgdhhnjpkjaaGreatDoor.Pf
open Go Go.RowKit Go.Proofs Go.Proofs.YticlgdhhnjpkjaaGreatDoor.Mw Go.Proofs.YticlgdhhnjpkjaaGreatDoor.Sx
set_option linter.unusedVariables false
set_option linter.unusedSimpArgs false
set_option maxRecDepth 8000
theorem CopyCodeR_pc {M : DMem} (c : Cod) (hz : SzC c) (hsrc : ∀ m ∈ c.metas, m.length * 64 ≤ 140737488351232 ∧ ∀ x ∈ m, x.locals.length * 16 ≤ 140737488351232 ∧ x.stack.length * 16 ≤ 140737488351232) {R : DV → DMem → Prop}
    (hR : ∀ dc dm M' Sc Sm, SlAt irE M' dc c.code Sc → SlAt metaE M' dm c.metas Sm → (Sc ++ Sm).Nodup → (∀ y ∈ Sc ++ Sm, M y = none) → SubD M M' → R (.agg [.int .i64 c.fn, .int .i64 c.regs, dc, dm]) M') : PC Tryz.prog F_swageref9_CopyCode [.agg c.c] R M := by
  refine pc_swageref9_CopyCode (by simp) ?_
  simp only [S_swageref9_CopyCode, R_swageref9_CopyCode, MU_swageref9_CopyCode, SW, SV, wpD, evDL, evDM, evD, bldLD, wpSp, DMem.mt, beq_self_eq_true, seval]
  intro o N1 ho hN1
  try simp only [SW, SV, wpD, evDL, evDM, evD, bldLD, wpSp, DMem.mt, beq_self_eq_true, seval]
  intro q3 M1 hq3 hM1
  have hoq : o ≠ q3 := by rintro rfl; rw [hN1, DMem.ins_same] at hq3; cases hq3
  have hoM : M o = none := ho
  have hqM : M q3 = none := by rw [hN1, DMem.ins_ne _ _ (Ne.symm hoq)] at hq3; exact hq3
  have ho1 : M1 o = some ⟨29, 4, [.int .i64 0, .int .i64 0, .zsl, .zsl]⟩ := by rw [hM1, DMem.ins_ne _ _ hoq, hN1, DMem.ins_same]
  have hq1 : M1 q3 = some ⟨29, 4, [.int .i64 c.fn, .int .i64 c.regs, .zsl, .zsl]⟩ := by rw [hM1, DMem.ins_same]
  have k1 : SubD M M1 := fun y B hB => by
    rw [hM1, DMem.ins_ne _ _ (by rintro rfl; rw [hqM] at hB; cases hB), hN1, DMem.ins_ne _ _ (by rintro rfl; rw [hoM] at hB; cases hB)]; exact hB
  clear hM1 hN1 hq3 ho
  have hZ1 : ∀ y ∈ [q3], M1 y ≠ none := fun y hy => by simp at hy; subst hy; rw [hq1]; simp
  have hzn := hz.n
  have hzm := hz.m
  try simp only [SW, SV, wpD, evDL, evDM, evD, bldLD, wpSp, DMem.mt, beq_self_eq_true, seval]
  refine ⟨fun k δ M' => ∃ (i : Nat) (dc : DV) (Sc : List Nat), i ≤ c.code.length ∧ k = c.code.length - i ∧ δ 1 = .ip c.c ∧ δ 2 = .mp o 0 ∧ δ 3 = .mp q3 0 ∧ δ 4 = .int .i64 i ∧ M' q3 = some ⟨29, 4, [.int .i64 c.fn, .int .i64 c.regs, dc, .zsl]⟩ ∧ CodAt irE metaE [q3] M1 M' dc (c.code.take i) Sc .zsl [] [], c.code.length,
    ⟨0, .zsl, [], Nat.zero_le _, rfl, rfl, rfl, rfl, rfl, hq1, CodAt.start trivial⟩, ?_⟩
  rintro k δ M' ⟨i, dc, Sc, hi, rfl, h1, h2, h3, h4, hMq, hC⟩
  simp only [S1_swageref9_CopyCode, MU_swageref9_CopyCode, h1, h2, h3, h4, SW, SV, wpD, evDL, evDM, evD, bldLD, wpSp, DMem.mt, beq_self_eq_true, seval, decide_eq_true_eq, decide_eq_false_iff_not]
  refine ⟨fun hlt => ?_, fun hge => ?_⟩
  · have hil : i < c.code.length := by omega
    simp only [ix_slD Irc.len hil, ldn_irc, h1, h2, h3, h4, SW, SV, wpD, evDL, evDM, evD, bldLD, wpSp, DMem.mt, beq_self_eq_true, seval]
    intro q5 N2 hq5 hN2
    have hza := hz.a _ (List.getElem_mem hil)
    generalize hx : c.code[i] = x at *
    have hq5M : M' q5 = none := hq5
    have hN2q : N2 q5 = some ⟨50, 9, x.c⟩ := by rw [hN2, DMem.ins_same]
    have k2 : SubD M' N2 := fun y B hB => by rw [hN2, DMem.ins_ne _ _ (by rintro rfl; rw [hq5M] at hB; cases hB)]; exact hB
    have hN2' : N2 = M'.ins q5 ⟨50, 9, x.c⟩ := hN2
    clear hN2 hq5
    simp only [hN2q, h1, h2, h3, h4, SW, SV, wpD, evDL, evDM, evD, bldLD, wpSp, DMem.mt, beq_self_eq_true, seval]
    refine (SlAt.nil (E := intE) (M := N2)).app intE_ok List.nodup_nil (e := 3) (bytes := 8) (ys := x.args) (ds := x.args.map (.int .i64)) (T := []) (k := x.args.length) RowAt.ints (fun x hx => by simp at hx) rfl (by simp; omega) (by simp; omega) fun dA N3 SA a1 a2 a3 a4 => ?_
    have a1 : SlAt intE N3 dA x.args SA := by simpa using a1
    have a2 : SubD N2 N3 := fun b B hB => a2 b B hB (by simp)
    have a3 : ∀ b ∈ SA, N2 b = none := fun b hb => by
      rcases a3 b hb with h | h | h
      · simp at h
      · simp at h
      · exact h
    have a4 : SA.Nodup := a4 List.nodup_nil
    have hqA : q5 ∉ SA := fun hh => by have := a3 q5 hh; rw [hN2q] at this; cases this
    refine stD (a2 q5 _ hN2q) a1.cell rfl (by simp) (by simp) (by simp only [List.all_cons, List.all_nil, a1.plain] <;> rfl) fun N4 hN4 => ?_
    have h4q : N4 q5 = some ⟨50, 9, [.int .i64 x.kind, .int .i64 x.r, .int .i64 x.a, .int .i64 x.b, .int .i64 x.k, dA, .int .i64 x.cost, .int .i64 x.mt, .int .i64 x.pc]⟩ := by rw [hN4, DMem.ins_same] <;> rfl
    have n4 : ∀ y, y ≠ q5 → N4 y = N3 y := fun y hy => by rw [hN4, DMem.ins_ne _ _ hy]
    have k4 : ∀ y B, M' y = some B → N4 y = some B := fun y B hB => by rw [n4 y (by rintro rfl; rw [hq5M] at hB; cases hB)]; exact a2 y B (k2 y B hB)
    have z4 : ∀ y, N4 y = none → M' y = none := fun y hy => by
      cases e : M' y with
      | none => rfl
      | some B => rw [k4 y B e] at hy; cases hy
    have zA : ∀ y ∈ SA, M' y = none := fun y hy => by
      have := a3 y hy
      cases e : M' y with
      | none => rfl
      | some B => rw [k2 y B e] at this; cases this
    have hA4 : SlAt intE N4 dA x.args SA := a1.frame intE_ok fun y hy => n4 y (by rintro rfl; exact hqA hy)
    clear hN4 a1 a2 a3
    have hMq4 := k4 q3 _ hMq
    have hnc : Sc.Nodup := (List.nodup_append.1 hC.nd).1
    have hc4 : SlAt irE N4 dc (c.code.take i) Sc := hC.c.frame irE_ok fun y hy => by
      obtain ⟨B, hB⟩ := Option.ne_none_iff_exists'.1 (hC.c.here irE_ok y hy)
      rw [hB, k4 y B hB]
    have hti : (c.code.take i).length = i := by rw [List.length_take]; omega
    simp only [hMq4, h4q, h1, h2, h3, h4, SW, SV, wpD, evDL, evDM, evD, bldLD, wpSp, DMem.mt, beq_self_eq_true, seval]
    refine hc4.app irE_ok hnc (ys := [x]) (ds := [.int .i64 x.kind, .int .i64 x.r, .int .i64 x.a, .int .i64 x.b, .int .i64 x.k, dA, .int .i64 x.cost, .int .i64 x.mt, .int .i64 x.pc]) (T := SA) (k := 1) (bytes := 88) (RowAt.one ⟨dA, rfl, hA4⟩) (fun y hy hh => hC.c.here irE_ok y hh (zA y hy)) rfl (by rw [hti]; omega) (by rw [hti]; omega) fun d' N9 S' b1 b2 b3 b4 => ?_
    have hqc : q3 ∉ Sc := fun hh => by have := hC.new q3 (by simp [hh]); rw [hq1] at this; cases this
    have hMq9 := b2 q3 _ hMq4 hqc
    try simp only [h1, h2, h3, h4, SW, SV, wpD, evDL, evDM, evD, bldLD, wpSp, DMem.mt, beq_self_eq_true, seval]
    refine stD hMq9 b1.cell rfl (by simp) (by simp) (by simp only [List.all_cons, List.all_nil, b1.plain] <;> rfl) fun N10 hN10 => ?_
    have ei : wr64 ((i : Int) + 1) = ((i + 1 : Nat) : Int) := w64s (by omega)
    try simp only [h1, h2, h3, h4, ei, SW, SV, wpD, evDL, evDM, evD, bldLD, wpSp, DMem.mt, beq_self_eq_true, seval]
    refine ⟨c.code.length - (i + 1), N10, by omega, SubD.refl _, i + 1, d', S', by omega, rfl, rfl, by rw [hN10, DMem.ins_same] <;> rfl, ?_⟩
    rw [List.take_succ_eq_append_getElem hil, hx]
    refine hC.gone irE_ok metaE_ok b1 (fun b B hB hbS _ => b2 b B (k4 b B hB) hbS) (fun b hb => ?_) (b4 a4) (fun b hb => by simp at hb; subst hb; rw [hMq9]; simp) (z := q3) (by simp) (by rw [hq1]; simp) hN10 hZ1
    rcases b3 b hb with h | h | h
    · exact .inl h
    · exact .inr (zA b h)
    · exact .inr (z4 b h)
  · have hie : i = c.code.length := by omega
    subst hie
    rw [List.take_length] at hC
    simp only [S6_swageref9_CopyCode, MU_swageref9_CopyCode, h1, h2, h3, h4, SW, SV, wpD, evDL, evDM, evD, bldLD, wpSp, DMem.mt, beq_self_eq_true, seval]
    refine ⟨fun k δ M' => ∃ (i : Nat) (dm : DV) (Sm : List Nat), i ≤ c.metas.length ∧ k = c.metas.length - i ∧ δ 1 = .ip c.c ∧ δ 2 = .mp o 0 ∧ δ 3 = .mp q3 0 ∧ δ 6 = .int .i64 i ∧ M' q3 = some ⟨29, 4, [.int .i64 c.fn, .int .i64 c.regs, dc, dm]⟩ ∧ CodAt irE metaE [q3] M1 M' dc c.code Sc dm (c.metas.take i) Sm, c.metas.length,
      ⟨0, .zsl, [], Nat.zero_le _, rfl, h1, h2, h3, rfl, hMq, hC⟩, ?_⟩
    clear h1 h2 h3 h4 hMq hC
    rintro k δ M' ⟨i, dm, Sm, hi, rfl, h1, h2, h3, h6, hMq, hC⟩
    simp only [S4_swageref9_CopyCode, MU_swageref9_CopyCode, h1, h2, h3, h6, SW, SV, wpD, evDL, evDM, evD, bldLD, wpSp, DMem.mt, beq_self_eq_true, seval, decide_eq_true_eq, decide_eq_false_iff_not]
    refine ⟨fun hlt => ?_, fun hge => ?_⟩
    · have hil : i < c.metas.length := by omega
      obtain ⟨hml, hms⟩ := hsrc _ (List.getElem_mem hil)
      have hix : ixD 1 (slD metaC c.metas) (.int .i64 (i : Int)) = some (.ip (slD Part.c c.metas[i] :: (c.metas.drop (i + 1)).flatMap metaC)) := ix_slD metaC_len hil
      generalize hm : c.metas[i] = m at *
      intro q7 N1 hq7 hN1
      have hq7M : M' q7 = none := hq7
      have hN1q : N1 q7 = some ⟨79, 1, [.zsl]⟩ := by rw [hN1, DMem.ins_same]
      have k7 : SubD M' N1 := fun y B hB => by rw [hN1, DMem.ins_ne _ _ (by rintro rfl; rw [hq7M] at hB; cases hB)]; exact hB
      have hZ7 : ∀ y ∈ [q7], N1 y ≠ none := fun y hy => by simp at hy; subst hy; rw [hN1q]; simp
      have hq37 : q3 ≠ q7 := by rintro rfl; rw [hMq] at hq7M; cases hq7M
      have z7 : ∀ y, N1 y = none → M' y = none := fun y hy => by
        cases e : M' y with
        | none => rfl
        | some B => rw [k7 y B e] at hy; cases hy
      clear hN1 hq7
      refine ⟨fun k δ N => ∃ (j : Nat) (dp : DV) (Sp : List Nat), j ≤ m.length ∧ k = m.length - j ∧ δ 1 = .ip c.c ∧ δ 2 = .mp o 0 ∧ δ 3 = .mp q3 0 ∧ δ 6 = .int .i64 i ∧ δ 7 = .mp q7 0 ∧ δ 8 = .int .i64 j ∧ N q7 = some ⟨79, 1, [dp]⟩ ∧ CodAt partE partE [q7] N1 N dp (m.take j) Sp .zsl [] [], m.length,
        ⟨0, .zsl, [], Nat.zero_le _, rfl, h1, h2, h3, h6, rfl, rfl, hN1q, CodAt.start trivial⟩, ?_⟩
      clear h1 h2 h3 h6
      rintro k δ N ⟨j, dp, Sp, hj, rfl, h1, h2, h3, h6, h7, h8, hNq, hP⟩
      simp only [S2_swageref9_CopyCode, MU_swageref9_CopyCode, h1, h2, h3, h6, h7, h8, hix, SW, SV, wpD, evDL, evDM, evD, bldLD, wpSp, DMem.mt, beq_self_eq_true, seval, decide_eq_true_eq, decide_eq_false_iff_not]
      refine ⟨fun hlt => ?_, fun hge => ?_⟩
      · have hjl : j < m.length := by omega
        obtain ⟨zl, zs⟩ := hms _ (List.getElem_mem hjl)
        have hl4 : ∀ K : DMem, ∀ x : Part, ∀ r : List DV, ldnD K 4 (.ip (.int .i64 x.fn :: .int .i64 x.pc :: slD Src.c x.locals :: slD Src.c x.stack :: r)) = some (.agg x.c) := fun K x r => by simp [ldnD]
        simp only [ix_slD Part.len hjl, hl4, SW, SV, wpD, evDL, evDM, evD, bldLD, wpSp, DMem.mt, beq_self_eq_true, seval]
        generalize hx : m[j] = x at *
        intro q9 N2 hq9 hN2
        have hq9N : N q9 = none := hq9
        have h2q : N2 q9 = some ⟨69, 4, x.c⟩ := by rw [hN2, DMem.ins_same]
        have k2 : SubD N N2 := fun y B hB => by rw [hN2, DMem.ins_ne _ _ (by rintro rfl; rw [hq9N] at hB; cases hB)]; exact hB
        clear hN2 hq9
        simp only [h2q, h1, h2, h3, h6, h7, h8, SW, SV, wpD, evDL, evDM, evD, bldLD, wpSp, DMem.mt, beq_self_eq_true, seval]
        refine (SlAt.nil (E := srcE) (M := N2)).app srcE_ok List.nodup_nil (e := 136) (bytes := 16) (ys := x.locals) (ds := (x.locals).flatMap Src.c) (T := []) (k := (x.locals).length) RowAt.flat (fun x hx => by simp at hx) rfl (by simp; omega) (by simp; omega) fun dA N3 SA a1 a4 a3 a2 => ?_
        have a1 : SlAt srcE N3 dA x.locals SA := by simpa using a1
        have a4 : SubD N2 N3 := fun b B hB => a4 b B hB (by simp)
        have a3 : ∀ b ∈ SA, N2 b = none := fun b hb => by
          rcases a3 b hb with h | h | h
          · simp at h
          · simp at h
          · exact h
        have a2 : SA.Nodup := a2 List.nodup_nil
        try simp only [a4 q9 _ h2q, h1, h2, h3, h6, h7, h8, SW, SV, wpD, evDL, evDM, evD, bldLD, wpSp, DMem.mt, beq_self_eq_true, seval]
        have hqA : q9 ∉ SA := fun hh => by have := a3 q9 hh; rw [h2q] at this; cases this
        refine stD (a4 q9 _ h2q) a1.cell rfl (by simp) (by simp) (by simp only [List.all_cons, List.all_nil, a1.plain] <;> rfl) fun N4 hN4 => ?_
        have h4q : N4 q9 = some ⟨69, 4, [.int .i64 x.fn, .int .i64 x.pc, dA, slD Src.c x.stack]⟩ := by rw [hN4, DMem.ins_same] <;> rfl
        have n4 : ∀ y, y ≠ q9 → N4 y = N3 y := fun y hy => by rw [hN4, DMem.ins_ne _ _ hy]
        have hA4 : SlAt srcE N4 dA x.locals SA := a1.frame srcE_ok fun y hy => n4 y (by rintro rfl; exact hqA hy)
        clear hN4
        simp only [h4q, h1, h2, h3, h6, h7, h8, SW, SV, wpD, evDL, evDM, evD, bldLD, wpSp, DMem.mt, beq_self_eq_true, seval]
        refine (SlAt.nil (E := srcE) (M := N4)).app srcE_ok List.nodup_nil (e := 136) (bytes := 16) (ys := x.stack) (ds := (x.stack).flatMap Src.c) (T := []) (k := (x.stack).length) RowAt.flat (fun x hx => by simp at hx) rfl (by simp; omega) (by simp; omega) fun dB N5 SB b1 b4 b3 b2 => ?_
        have b1 : SlAt srcE N5 dB x.stack SB := by simpa using b1
        have b4 : SubD N4 N5 := fun b B hB => b4 b B hB (by simp)
        have b3 : ∀ b ∈ SB, N4 b = none := fun b hb => by
          rcases b3 b hb with h | h | h
          · simp at h
          · simp at h
          · exact h
        have b2 : SB.Nodup := b2 List.nodup_nil
        try simp only [b4 q9 _ h4q, h1, h2, h3, h6, h7, h8, SW, SV, wpD, evDL, evDM, evD, bldLD, wpSp, DMem.mt, beq_self_eq_true, seval]
        have hqB : q9 ∉ SB := fun hh => by have := b3 q9 hh; rw [h4q] at this; cases this
        refine stD (b4 q9 _ h4q) b1.cell rfl (by simp) (by simp) (by simp only [List.all_cons, List.all_nil, b1.plain] <;> rfl) fun N6 hN6 => ?_
        have h6q : N6 q9 = some ⟨69, 4, [.int .i64 x.fn, .int .i64 x.pc, dA, dB]⟩ := by rw [hN6, DMem.ins_same] <;> rfl
        have n6 : ∀ y, y ≠ q9 → N6 y = N5 y := fun y hy => by rw [hN6, DMem.ins_ne _ _ hy]
        have hB6 : SlAt srcE N6 dB x.stack SB := b1.frame srcE_ok fun y hy => n6 y (by rintro rfl; exact hqB hy)
        have hA6 : SlAt srcE N6 dA x.locals SA := (hA4.sub srcE_ok b4).frame srcE_ok fun y hy => n6 y (by rintro rfl; exact hqA hy)
        clear hN6
        have k6 : ∀ y B, N y = some B → N6 y = some B := fun y B hB => by
          have hy : y ≠ q9 := by rintro rfl; rw [hq9N] at hB; cases hB
          rw [n6 y hy]; refine b4 y B ?_
          rw [n4 y hy]; exact a4 y B (k2 y B hB)
        have z6 : ∀ y, N6 y = none → N y = none := fun y hy => by
          cases e : N y with
          | none => rfl
          | some B => rw [k6 y B e] at hy; cases hy
        have zA : ∀ y ∈ SA, N y = none := fun y hy => by
          have := a3 y hy
          cases e : N y with
          | none => rfl
          | some B => rw [k2 y B e] at this; cases this
        have zB : ∀ y ∈ SB, N y = none := fun y hy => by
          have hyq : y ≠ q9 := by rintro rfl; exact hqB hy
          have := b3 y hy
          cases e : N y with
          | none => rfl
          | some B => rw [n4 y hyq, a4 y B (k2 y B e)] at this; cases this
        have dAB : ∀ y ∈ SA, y ∉ SB := fun y hy hh => by
          have h5 := b3 y hh
          rw [n4 y (by rintro rfl; exact hqA hy)] at h5
          exact a1.here srcE_ok y hy h5
        have hNq6 := k6 q7 _ hNq
        have hnp : Sp.Nodup := (List.nodup_append.1 hP.nd).1
        have hp6 : SlAt partE N6 dp (m.take j) Sp := hP.c.frame partE_ok fun y hy => by
          obtain ⟨B, hB⟩ := Option.ne_none_iff_exists'.1 (hP.c.here partE_ok y hy)
          rw [hB, k6 y B hB]
        have hti : (m.take j).length = j := by rw [List.length_take]; omega
        simp only [hNq6, h6q, h1, h2, h3, h6, h7, h8, SW, SV, wpD, evDL, evDM, evD, bldLD, wpSp, DMem.mt, beq_self_eq_true, seval]
        refine hp6.app partE_ok hnp (ys := [x]) (ds := [.int .i64 x.fn, .int .i64 x.pc, dA, dB]) (T := SA ++ SB) (k := 1) (bytes := 64) (RowAt.one ⟨dA, dB, SA, SB, rfl, hA6, hB6, rfl⟩) (fun y hy hh => ?_) rfl (by rw [hti]; omega) (by rw [hti]; omega) fun d' N9 S' g1 g2 g3 g4 => ?_
        · rcases List.mem_append.1 hy with hy | hy
          · exact hP.c.here partE_ok y hh (zA y hy)
          · exact hP.c.here partE_ok y hh (zB y hy)
        have hqp : q7 ∉ Sp := fun hh => by have := hP.new q7 (by simp [hh]); rw [hN1q] at this; cases this
        have hNq9 := g2 q7 _ hNq6 hqp
        try simp only [h1, h2, h3, h6, h7, h8, SW, SV, wpD, evDL, evDM, evD, bldLD, wpSp, DMem.mt, beq_self_eq_true, seval]
        refine stD hNq9 g1.cell rfl (by simp) (by simp) (by simp only [List.all_cons, List.all_nil, g1.plain] <;> rfl) fun N10 hN10 => ?_
        have ej : wr64 ((j : Int) + 1) = ((j + 1 : Nat) : Int) := w64s (by omega)
        try simp only [h1, h2, h3, h6, h7, h8, ej, SW, SV, wpD, evDL, evDM, evD, bldLD, wpSp, DMem.mt, beq_self_eq_true, seval]
        refine ⟨m.length - (j + 1), N10, by omega, SubD.refl _, j + 1, d', S', by omega, rfl, rfl, by rw [hN10, DMem.ins_same] <;> rfl, ?_⟩
        rw [List.take_succ_eq_append_getElem hjl, hx]
        refine hP.gone partE_ok partE_ok g1 (fun b B hB hbS _ => g2 b B (k6 b B hB) hbS) (fun b hb => ?_) (g4 (List.nodup_append.2 ⟨a2, b2, fun a ha b hb e => dAB a ha (e ▸ hb)⟩)) (fun b hb => by simp at hb; subst hb; rw [hNq9]; simp) (z := q7) (by simp) (by rw [hN1q]; simp) hN10 hZ7
        rcases g3 b hb with h | h | h
        · exact .inl h
        · rcases List.mem_append.1 h with h | h
          · exact .inr (zA b h)
          · exact .inr (zB b h)
        · exact .inr (z6 b h)
      · have hje : j = m.length := by omega
        subst hje
        rw [List.take_length] at hP
        have hMqN : N q3 = some ⟨29, 4, [.int .i64 c.fn, .int .i64 c.regs, dc, dm]⟩ := hP.keep q3 _ (k7 q3 _ hMq) (by simpa using hq37)
        have kN : ∀ y B, M' y = some B → N y = some B := fun y B hB => hP.keep y B (k7 y B hB) (by simp; rintro rfl; rw [hq7M] at hB; cases hB)
        have zN : ∀ y, N y = none → M' y = none := fun y hy => by
          cases e : M' y with
          | none => rfl
          | some B => rw [kN y B e] at hy; cases hy
        have zS : ∀ y ∈ Sp, M' y = none := fun y hy => z7 y (hP.new y (by simp [hy]))
        simp only [S3_swageref9_CopyCode, MU_swageref9_CopyCode, h1, h2, h3, h6, h7, h8, hMqN, hNq, ldnM, SW, SV, wpD, evDL, evDM, evD, bldLD, wpSp, DMem.mt, beq_self_eq_true, seval]
        have hnm : Sm.Nodup := (List.nodup_append.1 hC.nd).2.1
        have hmN : SlAt metaE N dm (c.metas.take i) Sm := hC.m.frame metaE_ok fun y hy => by
          obtain ⟨B, hB⟩ := Option.ne_none_iff_exists'.1 (hC.m.here metaE_ok y hy)
          rw [hB, kN y B hB]
        have hti : (c.metas.take i).length = i := by rw [List.length_take]; omega
        refine hmN.app metaE_ok hnm (ys := [m]) (ds := [dp]) (T := Sp) (k := 1) (bytes := 24) (RowAt.one ⟨dp, rfl, hP.c⟩) (fun y hy hh => hC.m.here metaE_ok y hh (zS y hy)) rfl (by rw [hti]; omega) (by rw [hti]; omega) fun d' N9 S' g1 g2 g3 g4 => ?_
        have hqm : q3 ∉ Sm := fun hh => by have := hC.new q3 (by simp [hh]); rw [hq1] at this; cases this
        have hMq9 := g2 q3 _ hMqN hqm
        try simp only [h1, h2, h3, h6, h7, h8, SW, SV, wpD, evDL, evDM, evD, bldLD, wpSp, DMem.mt, beq_self_eq_true, seval]
        refine stD hMq9 g1.cell rfl (by simp) (by simp) (by simp only [List.all_cons, List.all_nil, g1.plain] <;> rfl) fun N10 hN10 => ?_
        have ei : wr64 ((i : Int) + 1) = ((i + 1 : Nat) : Int) := w64s (by omega)
        try simp only [h1, h2, h3, h6, h7, h8, ei, SW, SV, wpD, evDL, evDM, evD, bldLD, wpSp, DMem.mt, beq_self_eq_true, seval]
        refine ⟨c.metas.length - (i + 1), N10, by omega, SubD.refl _, i + 1, d', S', by omega, rfl, rfl, by rw [hN10, DMem.ins_same] <;> rfl, ?_⟩
        rw [List.take_succ_eq_append_getElem hil, hm]
        refine (hC.swap.gone metaE_ok irE_ok g1 (fun b B hB hbS _ => g2 b B (kN b B hB) hbS) (fun b hb => ?_) (g4 (List.nodup_append.1 hP.nd).1) (fun b hb => by simp at hb; subst hb; rw [hMq9]; simp) (z := q3) (by simp) (by rw [hq1]; simp) hN10 hZ1).swap
        rcases g3 b hb with h | h | h
        · exact .inl h
        · exact .inr (zS b h)
        · exact .inr (zN b h)
    · have hie : i = c.metas.length := by omega
      subst hie
      rw [List.take_length] at hC
      simp only [S5_swageref9_CopyCode, MU_swageref9_CopyCode, h1, h2, h3, h6, hMq, ldnM, SW, SV, wpD, evDL, evDM, evD, bldLD, wpSp, DMem.mt, beq_self_eq_true, seval]
      have ho' := hC.keep o _ ho1 (by simp; exact hoq)
      refine stD ho' rfl rfl (by simp) (by simp) (by simp only [List.all_cons, List.all_nil, hC.c.plain, hC.m.plain] <;> rfl) fun N5 hN5 => ?_
      have ho5 : N5 o = some ⟨29, 4, [.int .i64 c.fn, .int .i64 c.regs, dc, dm]⟩ := by rw [hN5, DMem.ins_same] <;> rfl
      have n5 : ∀ y, y ≠ o → N5 y = M' y := fun y hy => by rw [hN5, DMem.ins_ne _ _ hy]
      have hoS : ∀ y ∈ Sc ++ Sm, y ≠ o := fun y hy => by rintro rfl; have := hC.new y hy; rw [ho1] at this; cases this
      simp only [h2, ho5, ldnM, SW, SV, wpD, evDL, evDM, evD, bldLD, wpSp, DMem.mt, beq_self_eq_true, seval]
      refine hR dc dm N5 Sc Sm (hC.c.frame irE_ok fun y hy => n5 y (hoS y (by simp [hy]))) (hC.m.frame metaE_ok fun y hy => n5 y (hoS y (by simp [hy]))) hC.nd (fun y hy => ?_) fun y B hB => ?_
      · have := hC.new y hy
        cases e : M y with
        | none => rfl
        | some B => rw [k1 y B e] at this; cases this
      · rw [n5 y (by rintro rfl; rw [hoM] at hB; cases hB)]
        exact hC.keep y B (k1 y B hB) (by simp; rintro rfl; rw [hqM] at hB; cases hB)
end Go.Proofs.YticlgdhhnjpkjaaGreatDoor.Pf
namespace Go.Proofs.YticlgdhhnjpkjaaGreatDoor.Pf
open Go Go.RowKit Go.Proofs Go.Proofs.YticlgdhhnjpkjaaGreatDoor.Mw Go.Proofs.YticlgdhhnjpkjaaGreatDoor.Sx
set_option linter.unusedVariables false
set_option linter.unusedSimpArgs false
set_option maxRecDepth 8000
end Go.Proofs.YticlgdhhnjpkjaaGreatDoor.Pf
namespace Go.Proofs.YticlgdhhnjpkjaaGreatDoor.Pf
open Go Go.RowKit Go.Proofs Go.Proofs.YticlgdhhnjpkjaaGreatDoor.Mw Go.Proofs.YticlgdhhnjpkjaaGreatDoor.Sx
set_option linter.unusedVariables false
set_option linter.unusedSimpArgs false
set_option maxRecDepth 8000
def irG : El Irc := ⟨9, Irc.c, 1, fun M x cs S => (∃ d, cs = [.int .i64 x.kind, .int .i64 x.r, .int .i64 x.a, .int .i64 x.b, .int .i64 x.k, d, .int .i64 x.cost, .int .i64 x.mt, .int .i64 x.pc] ∧ (d = slI x.args ∨ (d = .zsl ∧ x.args = []))) ∧ S = []⟩
theorem irG_ok : irG.Ok where
  pos := by decide
  len := by rintro M x cs S ⟨⟨d, rfl, _⟩, _⟩; rfl
  clen := fun x => rfl
  frame := fun h _ => h
  fz := by
    rintro M x cs S k ⟨⟨d, rfl, h⟩, _⟩ hk
    obtain ⟨j, rfl⟩ : ∃ j, k = j + 1 := ⟨k - 1, by have : 1 ≤ k := hk; omega⟩
    simp only [List.map_cons, List.map_nil, fz_int]
    rcases h with rfl | ⟨rfl, h⟩
    · have e := fzmap_froz (FrozL.nil.cons (Froz.slI x.args)) M (j + 1)
      simp only [List.map_cons, List.map_nil, List.cons.injEq, and_true] at e
      rw [e] <;> rfl
    · rw [fz_zsl]; simp only [irG, Irc.c, h] <;> rfl
  plain := by
    rintro M x cs S ⟨⟨d, rfl, h⟩, _⟩
    rcases h with rfl | ⟨rfl, h⟩ <;> rfl
  here := by rintro M x cs S ⟨⟨d, rfl, h⟩, rfl⟩ b hb; simp at hb
def metaG : El (List Part) := flatE metaC 1
theorem metaG_ok : metaG.Ok := flatE_ok (by decide) metaC_len metaC_froz (fun x => rfl)
end Go.Proofs.YticlgdhhnjpkjaaGreatDoor.Pf
namespace Go.Proofs.YticlgdhhnjpkjaaGreatDoor.Pf
open Go Go.RowKit Go.Proofs Go.Proofs.YticlgdhhnjpkjaaGreatDoor.Mw Go.Proofs.YticlgdhhnjpkjaaGreatDoor.Sx
set_option linter.unusedVariables false
set_option linter.unusedSimpArgs false
set_option maxRecDepth 8000
variable {α : Type}
def mixE (E : El α) : El (α × Bool) := ⟨E.sz, fun x => E.c x.1, E.k, fun M x cs S => if x.2 = true then E.rep M x.1 cs S else cs = E.c x.1 ∧ S = []⟩
theorem mixE_ok {E : El α} (hE : E.Ok) (hf : ∀ x, FrozL (E.c x)) (hp : ∀ x, (E.c x).all plainD = true) : (mixE E).Ok where
  pos := hE.pos
  len := by
    rintro M ⟨x, b⟩ cs S h
    cases b
    · obtain ⟨rfl, rfl⟩ := h; exact hE.clen x
    · exact hE.len (h : E.rep M x cs S)
  clen := fun x => hE.clen x.1
  frame := by
    rintro M M' ⟨x, b⟩ cs S h hk
    cases b
    · exact h
    · exact hE.frame (h : E.rep M x cs S) hk
  fz := by
    rintro M ⟨x, b⟩ cs S k h hk
    cases b
    · obtain ⟨rfl, rfl⟩ := h; exact fzmap_froz (hf x) M k
    · exact hE.fz (h : E.rep M x cs S) hk
  plain := by
    rintro M ⟨x, b⟩ cs S h
    cases b
    · obtain ⟨rfl, rfl⟩ := h; exact hp x
    · exact hE.plain (h : E.rep M x cs S)
  here := by
    rintro M ⟨x, b⟩ cs S h y hy
    cases b
    · obtain ⟨rfl, rfl⟩ := h; simp at hy
    · exact hE.here (h : E.rep M x cs S) y hy
theorem RowAt.raw {E : El α} {M : DMem} : ∀ (xs : List α), RowAt (mixE E) M (xs.map (·, false)) (xs.flatMap E.c) []
  | [] => ⟨rfl, rfl⟩
  | x :: xs => ⟨E.c x, xs.flatMap E.c, [], [], rfl, rfl, ⟨rfl, rfl⟩, RowAt.raw xs⟩
theorem RowAt.unmix {E : El α} {M : DMem} : ∀ {xs : List α} {cs : List DV} {S : List Nat}, RowAt (mixE E) M (xs.map (·, true)) cs S → RowAt E M xs cs S
  | [], cs, S, h => h
  | x :: xs, cs, S, ⟨c1, c2, S1, S2, e1, e2, h1, h2⟩ => ⟨c1, c2, S1, S2, e1, e2, h1, RowAt.unmix h2⟩
theorem SlAt.raw {E : El α} {M : DMem} {d : DV} {xs : List α} {S : List Nat} (h : SlAt (flatE E.c E.sz) M d xs S) : SlAt (mixE E) M d (xs.map (·, false)) S := by
  rcases h with ⟨h, h1, h2⟩ | ⟨b, c, ty, cs, S', h, h1, h2, h3, h4, h5⟩
  · exact .inl ⟨h, by rw [h1] <;> rfl, h2⟩
  · obtain ⟨rfl, rfl⟩ := RowAt.flat_eq h2
    exact .inr ⟨b, c, ty, _, [], by rw [List.length_map]; exact h, h1, RowAt.raw xs, h3, by rw [List.length_map]; exact h4, h5⟩
theorem SlAt.unmix {E : El α} {M : DMem} {d : DV} {xs : List α} {S : List Nat} (h : SlAt (mixE E) M d (xs.map (·, true)) S) : SlAt E M d xs S := by
  rcases h with ⟨h, h1, h2⟩ | ⟨b, c, ty, cs, S', h, h1, h2, h3, h4, h5⟩
  · exact .inl ⟨h, by simpa using h1, h2⟩
  · exact .inr ⟨b, c, ty, cs, S', by rw [List.length_map] at h; exact h, h1, RowAt.unmix h2, h3, by rw [List.length_map] at h4; exact h4, h5⟩
theorem SlAt.inner2 {E : El α} (hE : E.Ok) {M : DMem} {d : DV} {xs : List α} {S : List Nat} (h : SlAt E M d xs S) (hS : S.Nodup) {i : Nat} (hi : i < xs.length) :
    ∃ b c ty c1 cx c2 S1 Sx S2, d = .msl b 0 xs.length c ∧ M b = some ⟨ty, c * E.sz, c1 ++ cx ++ c2⟩ ∧ c1.length = i * E.sz ∧ cx.length = E.sz ∧ E.rep M xs[i] cx Sx ∧ S = b :: (S1 ++ Sx ++ S2) ∧ xs.length ≤ c ∧
      (∀ M' y cy Sy, E.rep M' y cy Sy → M' b = some ⟨ty, c * E.sz, c1 ++ cy ++ c2⟩ → (∀ x ∈ S1 ++ S2, M' x = M x) → SlAt E M' d (xs.set i y) (b :: (S1 ++ Sy ++ S2))) := by
  obtain ⟨b, c, ty, cs, S', rfl, hM, hr, rfl, hc⟩ := h.at (by omega)
  obtain ⟨c1, cx, c2, S1, Sx, S2, rfl, rfl, hl, hx, h1, h2⟩ := hr.get hE hi
  refine ⟨b, c, ty, c1, cx, c2, S1, Sx, S2, rfl, hM, hl, hE.len hx, hx, rfl, hc, fun M' y cy Sy hy hM' hk => ?_⟩
  have k1 : RowAt E M' (xs.take i) c1 S1 := h1.frame hE fun x hx => hk x (by simp [hx])
  have k2 : RowAt E M' (xs.drop (i + 1)) c2 S2 := h2.frame hE fun x hx => hk x (by simp [hx])
  exact .inr ⟨b, c, ty, _, _, by rw [List.length_set], hM', RowAt.put hi k1 hy k2, rfl, by rw [List.length_set]; exact hc, by omega⟩
theorem Irc.plain (x : Irc) : x.c.all plainD = true := rfl
theorem metaC_plain (x : List Part) : (metaC x).all plainD = true := rfl
def irF : El Irc := flatE Irc.c 9
theorem irF_ok : irF.Ok := flatE_ok (by decide) Irc.len Irc.froz Irc.plain
def metaF : El (List Part) := flatE metaC 1
theorem metaF_ok : metaF.Ok := flatE_ok (by decide) metaC_len metaC_froz metaC_plain
def irM : El (Irc × Bool) := mixE irE
theorem irM_ok : irM.Ok := mixE_ok irE_ok Irc.froz Irc.plain
def metaM : El (List Part × Bool) := mixE metaE
theorem metaM_ok : metaM.Ok := mixE_ok metaE_ok metaC_froz metaC_plain
theorem CloneIr_pc {M : DMem} (l : List Irc) (hl : l.length * 88 ≤ 140737488355328) {R : DV → DMem → Prop}
    (hR : ∀ d M' S, SlAt irF M' d l S → S.Nodup → (∀ x ∈ S, M x = none) → SubD M M' → R d M') : PC Tryz.prog F_slices_Clone_api_Ir_api_Ir [slD Irc.c l] R M := by
  rcases Nat.eq_zero_or_pos l.length with h0 | h0
  · have hl0 : l = [] := List.eq_nil_of_length_eq_zero h0
    subst hl0
    refine pc_nils fun a c => ?_
    refine pc_slices_Clone_api_Ir_api_Ir (by simp) ?_
    simp only [S_slices_Clone_api_Ir_api_Ir, R_slices_Clone_api_Ir_api_Ir, MU_slices_Clone_api_Ir_api_Ir, MU_slices_Clone_api_Ir_api_Ir, SW, SV, wpD, evDL, evDM, evD, bldLD, wpSp, DMem.mt, beq_self_eq_true, seval]
    have hz := hR .zsl M [] SlAt.nil List.nodup_nil (by simp) (SubD.refl M)
    exact ⟨fun _ => hz, fun _ => ⟨0, [], ⟨rfl, rfl, rfl⟩, rfl, 0, by decide, by decide, rfl, fun _ => hz, fun h => absurd h (by decide)⟩⟩
  · refine pc_slices_Clone_api_Ir_api_Ir (by simp) ?_
    have he : eqzD false (slD Irc.c l) = some (.bool false) := eqzI h0
    simp only [S_slices_Clone_api_Ir_api_Ir, R_slices_Clone_api_Ir_api_Ir, MU_slices_Clone_api_Ir_api_Ir, MU_slices_Clone_api_Ir_api_Ir, he, SW, SV, wpD, evDL, evDM, evD, bldLD, wpSp, DMem.mt, beq_self_eq_true, seval]
    have h := (SlAt.nil (E := irF) (M := M)).app irF_ok List.nodup_nil (e := 50) (bytes := 88) (ys := l) (ds := l.flatMap Irc.c) (T := []) (k := l.length) RowAt.flat (fun x hx => by simp at hx) rfl (by simp; omega) (by simp; omega) (Post := R) fun d' M' S' h1 h2 h3 h4 => hR d' M' S' (by simpa using h1) (h4 List.nodup_nil) (fun x hx => by
        rcases h3 x hx with h | h | h
        · simp at h
        · simp at h
        · exact h) fun b B hB => h2 b B hB (by simp)
    exact h
theorem CloneM_pc {M : DMem} (l : List (List Part)) (hl : l.length * 24 ≤ 140737488355328) {R : DV → DMem → Prop}
    (hR : ∀ d M' S, SlAt metaF M' d l S → S.Nodup → (∀ x ∈ S, M x = none) → SubD M M' → R d M') : PC Tryz.prog F_slices_Clone_api_Meta_api_Meta [slD metaC l] R M := by
  rcases Nat.eq_zero_or_pos l.length with h0 | h0
  · have hl0 : l = [] := List.eq_nil_of_length_eq_zero h0
    subst hl0
    refine pc_nils fun a c => ?_
    refine pc_slices_Clone_api_Meta_api_Meta (by simp) ?_
    simp only [S_slices_Clone_api_Meta_api_Meta, R_slices_Clone_api_Meta_api_Meta, MU_slices_Clone_api_Meta_api_Meta, MU_slices_Clone_api_Meta_api_Meta, SW, SV, wpD, evDL, evDM, evD, bldLD, wpSp, DMem.mt, beq_self_eq_true, seval]
    have hz := hR .zsl M [] SlAt.nil List.nodup_nil (by simp) (SubD.refl M)
    exact ⟨fun _ => hz, fun _ => ⟨0, [], ⟨rfl, rfl, rfl⟩, rfl, 0, by decide, by decide, rfl, fun _ => hz, fun h => absurd h (by decide)⟩⟩
  · refine pc_slices_Clone_api_Meta_api_Meta (by simp) ?_
    have he : eqzD false (slD metaC l) = some (.bool false) := eqzI h0
    simp only [S_slices_Clone_api_Meta_api_Meta, R_slices_Clone_api_Meta_api_Meta, MU_slices_Clone_api_Meta_api_Meta, MU_slices_Clone_api_Meta_api_Meta, he, SW, SV, wpD, evDL, evDM, evD, bldLD, wpSp, DMem.mt, beq_self_eq_true, seval]
    have h := (SlAt.nil (E := metaF) (M := M)).app metaF_ok List.nodup_nil (e := 79) (bytes := 24) (ys := l) (ds := l.flatMap metaC) (T := []) (k := l.length) RowAt.flat (fun x hx => by simp at hx) rfl (by simp; omega) (by simp; omega) (Post := R) fun d' M' S' h1 h2 h3 h4 => hR d' M' S' (by simpa using h1) (h4 List.nodup_nil) (fun x hx => by
        rcases h3 x hx with h | h | h
        · simp at h
        · simp at h
        · exact h) fun b B hB => h2 b B hB (by simp)
    exact h
theorem st_one {M : DMem} {b off n ty : Nat} {cs : List DV} (hM : M b = some ⟨ty, n, cs⟩) (hl : cs.length = n) (ho : off < n) {w : DV} (hw : cellsD w = some [w]) (hpl : plainD w = true) {Post : DV → DMem → Prop} (hP : ∀ M', M' b = some ⟨ty, n, cs.set off w⟩ → (∀ y, y ≠ b → M' y = M y) → Post (.raw undef) M') : StoreD M 1 (.mp b off) w Post := by
  refine stD hM hw rfl (by omega) (by omega) (by simp [hpl]) fun M' hM' => ?_
  rw [splD_one (by omega)] at hM'
  exact hP M' (by rw [hM', DMem.ins_same]) fun y hy => by rw [hM', DMem.ins_ne _ _ hy]
def halfM (l : List α) (i : Nat) : List (α × Bool) := (l.take i).map (·, true) ++ (l.drop i).map (·, false)
theorem halfM_len (l : List α) {i : Nat} (h : i ≤ l.length) : (halfM l i).length = l.length := by unfold halfM; simp; omega
theorem halfM_end (l : List α) : halfM l l.length = l.map (·, true) := by unfold halfM; simp
theorem halfM_get (l : List α) {i : Nat} (h : i < l.length) (h' : i < (halfM l i).length) : (halfM l i)[i] = (l[i], false) := by
  have e : (halfM l i)[i]? = some (l[i], false) := by
    unfold halfM
    rw [List.getElem?_append_right (by simp; omega)]
    simp [List.length_take, Nat.min_eq_left (Nat.le_of_lt h), List.getElem?_drop, h]
  rw [List.getElem?_eq_getElem h'] at e
  exact Option.some.inj e
theorem halfM_set (l : List α) {i : Nat} (h : i < l.length) : (halfM l i).set i (l[i], true) = halfM l (i + 1) := by
  unfold halfM
  have e : ((l.take i).map fun x => (x, true)).length = i := by rw [List.length_map, List.length_take, Nat.min_eq_left (Nat.le_of_lt h)]
  rw [List.set_append_right _ _ (by rw [e]; exact Nat.le_refl i), e, Nat.sub_self, List.drop_eq_getElem_cons h, List.map_cons, List.set_cons_zero, List.take_succ_eq_append_getElem h, List.map_append, List.append_assoc] <;> rfl
end Go.Proofs.YticlgdhhnjpkjaaGreatDoor.Pf
namespace Go.Proofs.YticlgdhhnjpkjaaGreatDoor.Pf
open Go Go.RowKit Go.Proofs Go.Proofs.YticlgdhhnjpkjaaGreatDoor.Mw Go.Proofs.YticlgdhhnjpkjaaGreatDoor.Sx
set_option linter.unusedVariables false
set_option linter.unusedSimpArgs false
set_option maxRecDepth 8000
theorem ldn4_ip (M : DMem) (a b c d : DV) : ldnD M 4 (.ip [a, b, c, d]) = some (.agg [a, b, c, d]) := rfl
theorem ld_ip2 (M : DMem) (a b c d : DV) : (faD 2 (.ip [a, b, c, d])).bind (ldD M) = some c := rfl
theorem ld_ip3 (M : DMem) (a b c d : DV) : (faD 3 (.ip [a, b, c, d])).bind (ldD M) = some d := rfl
theorem Copy_pc {M : DMem} (c : Cod) (hcl : c.code.length ≤ 1000) (hca : ∀ x ∈ c.code, x.args.length ≤ 1000) (hml : c.metas.length ≤ 1000) (hm : ∀ m ∈ c.metas, SizeM m) {R : DV → DMem → Prop}
    (hR : ∀ dc dm M' Sc Sm, SlAt irE M' dc c.code Sc → SlAt metaE M' dm c.metas Sm → (Sc ++ Sm).Nodup → (∀ x ∈ Sc ++ Sm, M x = none) → SubD M M' → R (.agg [.int .i64 c.fn, .int .i64 c.regs, dc, dm]) M') : PC Tryz.prog F_ir_Copy [.ip [.int .i64 c.fn, .int .i64 c.regs, slD Irc.c c.code, slD metaC c.metas]] R M := by
  refine pc_ir_Copy (by simp) ?_
  simp only [S_ir_Copy, R_ir_Copy, MU_ir_Copy, ldn4_ip, SW, SV, wpD, evDL, evDM, evD, bldLD, wpSp, DMem.mt, beq_self_eq_true, seval]
  intro r M1 hr hM1 o M2 ho hM2
  have hro : r ≠ o := by rintro rfl; rw [hM1, DMem.ins_same] at ho; cases ho
  have hr2 : M2 r = some ⟨29, 4, [.int .i64 0, .int .i64 0, .zsl, .zsl]⟩ := by rw [hM2, DMem.ins_ne _ _ hro, hM1, DMem.ins_same]
  have ho2 : M2 o = some ⟨29, 4, [.int .i64 c.fn, .int .i64 c.regs, slD Irc.c c.code, slD metaC c.metas]⟩ := by rw [hM2, DMem.ins_same]
  have hrM : M r = none := hr
  have hoM : M o = none := by rw [hM1, DMem.ins_ne _ _ (Ne.symm hro)] at ho; exact ho
  have k2 : SubD M M2 := fun x B hB => by
    rw [hM2, DMem.ins_ne _ _ (by rintro rfl; rw [hoM] at hB; cases hB), hM1, DMem.ins_ne _ _ (by rintro rfl; rw [hrM] at hB; cases hB)]; exact hB
  clear hM1 hM2 hr ho
  simp only [raw0_ir_Copy, P0_ir_Copy, MU_ir_Copy, ho2, ld_ip2, ld_ip3, SW, SV, wpD, evDL, evDM, evD, bldLD, wpSp, DMem.mt, beq_self_eq_true, seval]
  refine CloneIr_pc c.code (by omega) fun d0 M3 S0 hd0 nd0 f0 k3 => ?_
  have hr3 := k3 r _ hr2
  have ho3 := k3 o _ ho2
  refine CloneM_pc c.metas (by omega) fun d1 M4 S1 hd1 nd1 f1 k4 => ?_
  have hr4 := k4 r _ hr3
  have ho4 := k4 o _ ho3
  refine st_one ho4 rfl (by decide) hd0.cell hd0.plain fun M5 hM5 n5 => ?_
  refine st_one hM5 rfl (by decide) hd1.cell hd1.plain fun M6 ho6 n6 => ?_
  have ho6 : M6 o = some ⟨29, 4, [.int .i64 c.fn, .int .i64 c.regs, d0, d1]⟩ := ho6
  have nn : ∀ y, y ≠ o → M6 y = M4 y := fun y hy => (n6 y hy).trans (n5 y hy)
  have hr6 : M6 r = some ⟨29, 4, [.int .i64 0, .int .i64 0, .zsl, .zsl]⟩ := (nn r hro).trans hr4
  have hoS0 : o ∉ S0 := fun hh => by have := f0 o hh; rw [ho2] at this; cases this
  have hrS0 : r ∉ S0 := fun hh => by have := f0 r hh; rw [hr2] at this; cases this
  have hoS1 : o ∉ S1 := fun hh => by have := f1 o hh; rw [ho3] at this; cases this
  have hrS1 : r ∉ S1 := fun hh => by have := f1 r hh; rw [hr3] at this; cases this
  have k6 : SubD M M6 := fun x B hB => by rw [nn x (by rintro rfl; rw [hoM] at hB; cases hB)]; exact k4 x B (k3 x B (k2 x B hB))
  have hc6 : SlAt irF M6 d0 c.code S0 := (hd0.sub irF_ok k4).frame irF_ok fun b hb => nn b (by rintro rfl; exact hoS0 hb)
  have hm6 : SlAt metaF M6 d1 c.metas S1 := hd1.frame metaF_ok fun b hb => nn b (by rintro rfl; exact hoS1 hb)
  have f0' : ∀ x ∈ S0, M x = none := fun x hx => by
    cases e : M x with
    | none => rfl
    | some B => have := k2 x B e; rw [f0 x hx] at this; cases this
  have f1' : ∀ x ∈ S1, M x = none := fun x hx => by
    cases e : M x with
    | none => rfl
    | some B => have := k3 x B (k2 x B e); rw [f1 x hx] at this; cases this
  have d01 : ∀ x ∈ S0, x ∉ S1 := fun x hx hh => hd0.here irF_ok x hx (f1 x hh)
  have hcM : SlAt irM M6 d0 (halfM c.code 0) S0 := SlAt.raw (E := irE) hc6
  clear hM5 n5 n6 nn hr3 ho3 hr4 ho4 hd0 hd1 f0 f1 k3 k4 hc6
  simp only [S5_ir_Copy, MU_ir_Copy, ho6, SW, SV, wpD, evDL, evDM, evD, bldLD, wpSp, DMem.mt, beq_self_eq_true, seval]
  have hl0 : lenD d0 = some (.int .i64 c.code.length) := by have := hcM.lenD; rw [halfM_len _ (Nat.zero_le _)] at this; exact this
  simp only [hl0, SW, SV, wpD, evDL, evDM, evD, bldLD, wpSp, DMem.mt, beq_self_eq_true, seval]
  refine ⟨fun n δ M' => ∃ (i : Nat) (S : List Nat), i ≤ c.code.length ∧ n = c.code.length - i ∧ δ 2 = .mp r 0 ∧ δ 3 = .mp o 0 ∧ δ 23 = .int .i64 c.code.length ∧ δ 24 = .int .i64 i ∧
      M' o = some ⟨29, 4, [.int .i64 c.fn, .int .i64 c.regs, d0, d1]⟩ ∧ M' r = some ⟨29, 4, [.int .i64 0, .int .i64 0, .zsl, .zsl]⟩ ∧ SlAt irM M' d0 (halfM c.code i) S ∧ S.Nodup ∧ (∀ x ∈ S, M x = none) ∧ o ∉ S ∧ r ∉ S ∧
      SlAt metaF M' d1 c.metas S1 ∧ (∀ x ∈ S, x ∉ S1) ∧ SubD M M', c.code.length,
    ⟨0, S0, Nat.zero_le _, rfl, rfl, rfl, rfl, rfl, ho6, hr6, hcM, nd0, f0', hoS0, hrS0, hm6, d01, k6⟩, ?_⟩
  rintro n δ M' ⟨i, S, hi, rfl, h2, h3, h23, h24, hMo, hMr, hs, nd, fr, hoS, hrS, hms, hdis, hsub⟩
  simp only [S1_ir_Copy, MU_ir_Copy, raw1_ir_Copy, P1_ir_Copy, h2, h3, h23, h24, hMo, SW, SV, wpD, evDL, evDM, evD, bldLD, wpSp, DMem.mt, beq_self_eq_true, seval, decide_eq_true_eq, decide_eq_false_iff_not]
  refine ⟨fun hlt => ?_, fun hge => ?_⟩
  · have hil : i < c.code.length := by omega
    have hlen := halfM_len c.code hi
    have hx := halfM_get c.code hil (by rw [hlen]; exact hil)
    obtain ⟨b, cc, ty, c1, cx, c2, T1, Tx, T2, hd, hMb, hl1, hlx, hcx, hSe, hcl2, hput⟩ := SlAt.inner2 irM_ok hs nd (i := i) (by rw [hlen]; exact hil)
    rw [hx] at hcx
    obtain ⟨rfl, rfl⟩ := hcx
    rw [hlen] at hd hcl2
    subst hd
    subst hSe
    have hl1 : c1.length = i * 9 := hl1
    have hlx : ∀ x : Irc, x.c.length = 9 := Irc.len
    replace hMb : M' b = some ⟨ty, cc * irM.sz, c1 ++ c.code[i].c ++ c2⟩ := hMb
    have ge : ldD M' (.mp b (0 + i * 9 + 5)) = some (slI c.code[i].args) := by
      rw [ldM, hMb]; show (c1 ++ c.code[i].c ++ _)[0 + i * 9 + 5]? = _; rw [Nat.zero_add, get_field hl1 (by rw [hlx]; decide)] <;> rfl
    have hbo : b ≠ o := fun e => hoS (by rw [← e]; simp)
    have hbr : b ≠ r := fun e => hrS (by rw [← e]; simp)
    refine ⟨_, ixM hil, _, rfl, _, ge, ixM hil, rfl, ge, CloneI_pc c.code[i].args (by have := hca _ (List.getElem_mem hil); omega) fun dA M7 SA hA ndA fA kA => ?_⟩
    have hMo7 := kA o _ hMo
    have hMr7 := kA r _ hMr
    have hMb7 := kA b _ hMb
    refine ⟨_, ixM hil, _, rfl, by rw [hMo7] <;> rfl, ixM hil, rfl, ?_⟩
    refine stD hMb7 hA.cell rfl (by rw [List.length_append, List.length_append, hl1, hlx]; omega) (by show 0 + i * 9 + 5 + 1 ≤ cc * 9; omega) (by simp only [List.all_cons, List.all_nil, hA.plain] <;> rfl) fun M8 hM8 => ?_
    rw [Nat.zero_add, splD_field hl1 (by rw [hlx]; decide)] at hM8
    have hMb8 : M8 b = some ⟨ty, cc * irM.sz, c1 ++ [.int .i64 c.code[i].kind, .int .i64 c.code[i].r, .int .i64 c.code[i].a, .int .i64 c.code[i].b, .int .i64 c.code[i].k, dA, .int .i64 c.code[i].cost, .int .i64 c.code[i].mt, .int .i64 c.code[i].pc] ++ c2⟩ := by rw [hM8, DMem.ins_same] <;> rfl
    have n8 : ∀ x, x ≠ b → M8 x = M7 x := fun x hx => by rw [hM8, DMem.ins_ne _ _ hx]
    have bA : b ∉ SA := fun hh => by have := fA b hh; rw [hMb] at this; cases this
    have oA : o ∉ SA := fun hh => by have := fA o hh; rw [hMo] at this; cases this
    have rA : r ∉ SA := fun hh => by have := fA r hh; rw [hMr] at this; cases this
    have here' : ∀ x ∈ T1 ++ T2, M' x ≠ none := fun x hx => hs.here irM_ok x (by simp at hx ⊢; exact .inr hx)
    have nd' := List.nodup_cons.1 nd
    rw [List.append_nil] at nd'
    have hbT : b ∉ T1 ++ T2 := nd'.1
    obtain ⟨ndT1, ndT2, ndT⟩ := List.nodup_append.1 nd'.2
    have fAM : ∀ x ∈ SA, M x = none := fun x hx => by
      cases e : M x with
      | none => rfl
      | some B => have := hsub x B e; rw [fA x hx] at this; cases this
    have hs8 := hput M8 (c.code[i], true) _ SA (show irE.rep M8 c.code[i] _ SA from ⟨dA, rfl, hA.frame intE_ok fun x hx => n8 x (by rintro rfl; exact bA hx)⟩) hMb8 (fun x hx => by
      have hxb : x ≠ b := by rintro rfl; exact hbT hx
      obtain ⟨B, hB⟩ := Option.ne_none_iff_exists'.1 (here' x hx)
      rw [n8 x hxb, kA x B hB, hB])
    rw [halfM_set _ hil] at hs8
    have inS : ∀ x ∈ b :: (T1 ++ SA ++ T2), x ∈ b :: (T1 ++ [] ++ T2) ∨ x ∈ SA := fun x hx => by
      simp only [List.mem_cons, List.mem_append, List.not_mem_nil, or_false] at hx ⊢
      rcases hx with h | (h | h) | h
      · exact .inl (.inl h)
      · exact .inl (.inr (.inl h))
      · exact .inr h
      · exact .inl (.inr (.inr h))
    have kM : ∀ x, x ∉ b :: (T1 ++ [] ++ T2) → ∀ B, M' x = some B → M8 x = some B := fun x hx B hB => by
      rw [n8 x (by rintro rfl; exact hx (by simp))]; exact kA x B hB
    refine ⟨c.code.length - (i + 1), M8, by omega, SubD.refl _, i + 1, b :: (T1 ++ SA ++ T2), by omega, rfl, w64s (by omega), kM o hoS _ hMo, kM r hrS _ hMr, hs8, ?_, fun x hx => ?_, fun hh => ?_, fun hh => ?_, ?_, fun x hx => ?_, fun x B hB => ?_⟩
    · have dA1 : ∀ x ∈ T1 ++ T2, x ∉ SA := fun x hx hh => here' x hx (fA x hh)
      refine List.nodup_cons.2 ⟨?_, List.nodup_append.2 ⟨List.nodup_append.2 ⟨ndT1, ndA, fun x hx y hy e => dA1 x (by simp [hx]) (e ▸ hy)⟩, ndT2, fun x hx y hy e => ?_⟩⟩
      · intro hh
        simp only [List.mem_append] at hh
        rcases hh with (h | h) | h
        · exact hbT (by simp [h])
        · exact bA h
        · exact hbT (by simp [h])
      · rcases List.mem_append.1 hx with h | h
        · exact ndT x h y hy e
        · exact dA1 y (by simp [hy]) (e ▸ h)
    · rcases inS x hx with h | h
      · exact fr x h
      · exact fAM x h
    · rcases inS o hh with h | h
      · exact hoS h
      · exact oA h
    · rcases inS r hh with h | h
      · exact hrS h
      · exact rA h
    · refine hms.frame metaF_ok fun x hx => ?_
      obtain ⟨B, hB⟩ := Option.ne_none_iff_exists'.1 (hms.here metaF_ok x hx)
      rw [hB]
      exact kM x (fun hh => hdis x hh hx) B hB
    · rcases inS x hx with h | h
      · exact hdis x h
      · intro hh; exact hms.here metaF_ok x hh (fA x h)
    · exact kM x (fun hh => by rw [fr x hh] at hB; cases hB) B (hsub x B hB)
  · have hie : i = c.code.length := by omega
    subst hie
    have hc : SlAt irE M' d0 c.code S := SlAt.unmix (E := irE) (by rw [← halfM_end]; exact hs)
    have hmM : SlAt metaM M' d1 (halfM c.metas 0) S1 := SlAt.raw (E := metaE) hms
    have hl1 : lenD d1 = some (.int .i64 c.metas.length) := hms.lenD
    simp only [S4_ir_Copy, MU_ir_Copy, h2, h3, hMo, hl1, SW, SV, wpD, evDL, evDM, evD, bldLD, wpSp, DMem.mt, beq_self_eq_true, seval]
    refine ⟨fun n δ M9 => ∃ (i : Nat) (Q : List Nat), i ≤ c.metas.length ∧ n = c.metas.length - i ∧ δ 2 = .mp r 0 ∧ δ 3 = .mp o 0 ∧ δ 42 = .int .i64 c.metas.length ∧ δ 43 = .int .i64 i ∧
        M9 o = some ⟨29, 4, [.int .i64 c.fn, .int .i64 c.regs, d0, d1]⟩ ∧ M9 r = some ⟨29, 4, [.int .i64 0, .int .i64 0, .zsl, .zsl]⟩ ∧ SlAt metaM M9 d1 (halfM c.metas i) Q ∧ Q.Nodup ∧ (∀ x ∈ Q, M x = none) ∧ o ∉ Q ∧ r ∉ Q ∧
        SlAt irE M9 d0 c.code S ∧ (∀ x ∈ Q, x ∉ S) ∧ SubD M M9, c.metas.length,
      ⟨0, S1, Nat.zero_le _, rfl, h2, h3, rfl, rfl, hMo, hMr, hmM, nd1, f1', hoS1, hrS1, hc, fun x hx hh => hdis x hh hx, hsub⟩, ?_⟩
    clear hs hms hcM hm6 hr6 ho6 hMo hMr hsub hc hmM k2 k6 hr2 ho2 hge h2 h3 h23 h24
    have ndS := nd
    have frS := fr
    rintro n δ M' ⟨i, Q, hi, rfl, h2, h3, h42, h43, hMo, hMr, hs, nd, fr, hoS', hrS', hms, hdis, hsub⟩
    simp only [S2_ir_Copy, MU_ir_Copy, raw2_ir_Copy, P2_ir_Copy, h2, h3, h42, h43, hMo, SW, SV, wpD, evDL, evDM, evD, bldLD, wpSp, DMem.mt, beq_self_eq_true, seval, decide_eq_true_eq, decide_eq_false_iff_not]
    refine ⟨fun hlt => ?_, fun hge => ?_⟩
    · have hil : i < c.metas.length := by omega
      have hlen := halfM_len c.metas hi
      have hx := halfM_get c.metas hil (by rw [hlen]; exact hil)
      obtain ⟨b, cc, ty, c1, cx, c2, T1, Tx, T2, hd, hMb, hl1', hlx, hcx, hSe, hcl2, hput⟩ := SlAt.inner2 metaM_ok hs nd (i := i) (by rw [hlen]; exact hil)
      rw [hx] at hcx
      obtain ⟨rfl, rfl⟩ := hcx
      rw [hlen] at hd hcl2
      subst hd
      subst hSe
      have hl1 : c1.length = i := by have : c1.length = i * 1 := hl1'; omega
      replace hMb : M' b = some ⟨ty, cc, c1 ++ metaC c.metas[i] ++ c2⟩ := by rw [hMb]; show some (DBlk.mk ty (cc * 1) _) = _; rw [Nat.mul_one] <;> rfl
      have ge : ldnD M' 1 (.mp b (0 + i * 1)) = some (.agg [slD Part.c c.metas[i]]) := by
        rw [ldnM, hMb, Nat.zero_add, Nat.mul_one]
        show (if i + 1 ≤ (c1 ++ metaC c.metas[i] ++ c2).length then some (DV.agg (((c1 ++ metaC c.metas[i] ++ c2).drop i).take 1)) else none) = _
        rw [if_pos (by rw [List.length_append, List.length_append, hl1, metaC_len]; omega), take_field hl1 (metaC_len _)]
      have hbo : b ≠ o := fun e => hoS' (by rw [← e]; simp)
      have hbr : b ≠ r := fun e => hrS' (by rw [← e]; simp)
      refine ⟨_, ixM hil, _, ge, ixM hil, ge, CopyMeta_pc c.metas[i] (hm _ (List.getElem_mem hil)) (ClP.isl (hm _ (List.getElem_mem hil)).1) fun dA M7 SA hA ndA fA kA => ?_⟩
      have hMo7 := kA o _ hMo
      have hMr7 := kA r _ hMr
      have hMb7 := kA b _ hMb
      refine ⟨_, ixM hil, by rw [hMo7] <;> rfl, ixM hil, ?_⟩
      refine stD (y := .agg [dA]) (cs := [dA]) hMb7 rfl rfl (by rw [List.length_append, List.length_append, hl1, metaC_len]; omega) (by omega) (by simp only [List.all_cons, List.all_nil, hA.plain] <;> rfl) fun M8 hM8 => ?_
      have es : splD (c1 ++ metaC c.metas[i] ++ c2) i [dA] = c1 ++ (metaC c.metas[i]).set 0 dA ++ c2 := splD_field (off := 0) hl1 (by rw [metaC_len]; decide)
      rw [Nat.zero_add, Nat.mul_one, es] at hM8
      have hMb8 : M8 b = some ⟨ty, cc * metaM.sz, c1 ++ [dA] ++ c2⟩ := by rw [hM8, DMem.ins_same]; show _ = some (DBlk.mk ty (cc * 1) _); rw [Nat.mul_one] <;> rfl
      have n8 : ∀ x, x ≠ b → M8 x = M7 x := fun x hx => by rw [hM8, DMem.ins_ne _ _ hx]
      have bA : b ∉ SA := fun hh => by have := fA b hh; rw [hMb] at this; cases this
      have oA : o ∉ SA := fun hh => by have := fA o hh; rw [hMo] at this; cases this
      have rA : r ∉ SA := fun hh => by have := fA r hh; rw [hMr] at this; cases this
      have here' : ∀ x ∈ T1 ++ T2, M' x ≠ none := fun x hx => hs.here metaM_ok x (by simp at hx ⊢; exact .inr hx)
      have nd' := List.nodup_cons.1 nd
      rw [List.append_nil] at nd'
      have hbT : b ∉ T1 ++ T2 := nd'.1
      obtain ⟨ndT1, ndT2, ndT⟩ := List.nodup_append.1 nd'.2
      have fAM : ∀ x ∈ SA, M x = none := fun x hx => by
        cases e : M x with
        | none => rfl
        | some B => have := hsub x B e; rw [fA x hx] at this; cases this
      have hs8 := hput M8 (c.metas[i], true) _ SA (show metaE.rep M8 c.metas[i] _ SA from ⟨dA, rfl, hA.frame partE_ok fun x hx => n8 x (by rintro rfl; exact bA hx)⟩) hMb8 (fun x hx => by
        have hxb : x ≠ b := by rintro rfl; exact hbT hx
        obtain ⟨B, hB⟩ := Option.ne_none_iff_exists'.1 (here' x hx)
        rw [n8 x hxb, kA x B hB, hB])
      rw [halfM_set _ hil] at hs8
      have inS : ∀ x ∈ b :: (T1 ++ SA ++ T2), x ∈ b :: (T1 ++ [] ++ T2) ∨ x ∈ SA := fun x hx => by
        simp only [List.mem_cons, List.mem_append, List.not_mem_nil, or_false] at hx ⊢
        rcases hx with h | (h | h) | h
        · exact .inl (.inl h)
        · exact .inl (.inr (.inl h))
        · exact .inr h
        · exact .inl (.inr (.inr h))
      have kM : ∀ x, x ∉ b :: (T1 ++ [] ++ T2) → ∀ B, M' x = some B → M8 x = some B := fun x hx B hB => by
        rw [n8 x (by rintro rfl; exact hx (by simp))]; exact kA x B hB
      refine ⟨c.metas.length - (i + 1), M8, by omega, SubD.refl _, i + 1, b :: (T1 ++ SA ++ T2), by omega, rfl, w64s (by omega), kM o hoS' _ hMo, kM r hrS' _ hMr, hs8, ?_, fun x hx => ?_, fun hh => ?_, fun hh => ?_, ?_, fun x hx => ?_, fun x B hB => ?_⟩
      · have dA1 : ∀ x ∈ T1 ++ T2, x ∉ SA := fun x hx hh => here' x hx (fA x hh)
        refine List.nodup_cons.2 ⟨?_, List.nodup_append.2 ⟨List.nodup_append.2 ⟨ndT1, ndA, fun x hx y hy e => dA1 x (by simp [hx]) (e ▸ hy)⟩, ndT2, fun x hx y hy e => ?_⟩⟩
        · intro hh
          simp only [List.mem_append] at hh
          rcases hh with (h | h) | h
          · exact hbT (by simp [h])
          · exact bA h
          · exact hbT (by simp [h])
        · rcases List.mem_append.1 hx with h | h
          · exact ndT x h y hy e
          · exact dA1 y (by simp [hy]) (e ▸ h)
      · rcases inS x hx with h | h
        · exact fr x h
        · exact fAM x h
      · rcases inS o hh with h | h
        · exact hoS' h
        · exact oA h
      · rcases inS r hh with h | h
        · exact hrS' h
        · exact rA h
      · refine hms.frame irE_ok fun x hx => ?_
        obtain ⟨B, hB⟩ := Option.ne_none_iff_exists'.1 (hms.here irE_ok x hx)
        rw [hB]
        exact kM x (fun hh => hdis x hh hx) B hB
      · rcases inS x hx with h | h
        · exact hdis x h
        · intro hh; exact hms.here irE_ok x hh (fA x h)
      · exact kM x (fun hh => by rw [fr x hh] at hB; cases hB) B (hsub x B hB)
    · have hie : i = c.metas.length := by omega
      subst hie
      have hm' : SlAt metaE M' d1 c.metas Q := SlAt.unmix (E := metaE) (by rw [← halfM_end]; exact hs)
      simp only [S3_ir_Copy, MU_ir_Copy, h2, h3, hMo, SW, SV, wpD, evDL, evDM, evD, bldLD, wpSp, DMem.mt, beq_self_eq_true, seval]
      refine stD (y := .agg [.int .i64 c.fn, .int .i64 c.regs, d0, d1]) (cs := [.int .i64 c.fn, .int .i64 c.regs, d0, d1]) hMr rfl rfl (by simp) (by simp) (by simp only [List.all_cons, List.all_nil, hm'.plain, hms.plain] <;> rfl) fun M8 hM8 => ?_
      have hMr8 : M8 r = some ⟨29, 4, [.int .i64 c.fn, .int .i64 c.regs, d0, d1]⟩ := by rw [hM8, DMem.ins_same] <;> rfl
      have n8 : ∀ x, x ≠ r → M8 x = M' x := fun x hx => by rw [hM8, DMem.ins_ne _ _ hx]
      refine ⟨_, by rw [hMr8] <;> rfl, hR d0 d1 M8 S Q (hms.frame irE_ok fun x hx => n8 x (by rintro rfl; exact hrS hx)) (hm'.frame metaE_ok fun x hx => n8 x (by rintro rfl; exact hrS' hx)) ?_ ?_ ?_⟩
      · exact List.nodup_append.2 ⟨ndS, nd, fun x hx y hy e => hdis y hy (e ▸ hx)⟩
      · intro x hx
        rcases List.mem_append.1 hx with h | h
        · exact frS x h
        · exact fr x h
      · intro x B hB
        rw [n8 x (by rintro rfl; rw [hrM] at hB; cases hB)]; exact hsub x B hB
end Go.Proofs.YticlgdhhnjpkjaaGreatDoor.Pf
