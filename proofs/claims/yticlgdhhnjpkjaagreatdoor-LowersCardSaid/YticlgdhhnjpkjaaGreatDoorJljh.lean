/- Wb Wc Wd We Wf Wg Wh Wi Wj Vj Vk Vl Vi Vm Vn Vo Vp Wk Xp Ya Yd Ye Yf Yg Zh Zo Wm Wn Wl Wo: joined texts of this claim. No condition. -/
import Derived.Test.YticlgdhhnjpkjaaGreatDoorJljf
import Derived.Test.YticlgdhhnjpkjaaGreatDoorJljg
import Derived.WalkKit
import Derived.LaidEql
import Derived.Stop.Asserts
import Derived.RowKitTokens
import Derived.WideLaws
namespace Go.Proofs.YticlgdhhnjpkjaaGreatDoor.Pf
open Go Go.RowKit Go.Proofs Go.Proofs.YticlgdhhnjpkjaaGreatDoor.Mw Go.Proofs.YticlgdhhnjpkjaaGreatDoor.Sx
set_option linter.unusedVariables false
set_option linter.unusedSimpArgs false
set_option maxRecDepth 4000
theorem slD_ints (l : List Int) : slD intE.c l = slI l := by simp [slD, slI, intE, ← List.map_eq_flatMap]
def srcE : El Src := flatE Src.c 2
theorem srcE_ok : srcE.Ok := flatE_ok (by decide) Src.len Src.froz (fun x => rfl)
def partE : El Part := ⟨4, Part.c, 1, fun M x cs S => ∃ d1 d2 S1 S2, cs = [.int .i64 x.fn, .int .i64 x.pc, d1, d2] ∧ SlAt srcE M d1 x.locals S1 ∧ SlAt srcE M d2 x.stack S2 ∧ S = S1 ++ S2⟩
theorem partE_ok : partE.Ok where
  pos := by decide
  len := by rintro M x cs S ⟨d1, d2, S1, S2, rfl, _⟩; rfl
  clen := fun x => rfl
  frame := by
    rintro M M' x cs S ⟨d1, d2, S1, S2, rfl, h1, h2, rfl⟩ hk
    exact ⟨d1, d2, S1, S2, rfl, h1.frame srcE_ok fun b hb => hk b (by simp [hb]), h2.frame srcE_ok fun b hb => hk b (by simp [hb]), rfl⟩
  fz := by
    rintro M x cs S k ⟨d1, d2, S1, S2, rfl, h1, h2, rfl⟩ hk
    obtain ⟨j, rfl⟩ : ∃ j, k = j + 1 := ⟨k - 1, by have : 1 ≤ k := hk; omega⟩
    simp only [List.map_cons, List.map_nil, fz_int]
    rw [h1.fz srcE_ok (k := j) (Nat.zero_le _), h2.fz srcE_ok (k := j) (Nat.zero_le _)] <;> rfl
  plain := by
    rintro M x cs S ⟨d1, d2, S1, S2, rfl, h1, h2, rfl⟩
    simp only [List.all_cons, List.all_nil, h1.plain, h2.plain] <;> rfl
  here := by
    rintro M x cs S ⟨d1, d2, S1, S2, rfl, h1, h2, rfl⟩ b hb
    rcases List.mem_append.1 hb with hb | hb
    · exact h1.here srcE_ok b hb
    · exact h2.here srcE_ok b hb
def metaE : El (List Part) := ⟨1, metaC, 2, fun M x cs S => ∃ d, cs = [d] ∧ SlAt partE M d x S⟩
theorem metaE_ok : metaE.Ok where
  pos := by decide
  len := by rintro M x cs S ⟨d, rfl, _⟩; rfl
  clen := fun x => rfl
  frame := by rintro M M' x cs S ⟨d, rfl, h⟩ hk; exact ⟨d, rfl, h.frame partE_ok hk⟩
  fz := by
    rintro M x cs S k ⟨d, rfl, h⟩ hk
    obtain ⟨j, rfl⟩ : ∃ j, k = j + 1 := ⟨k - 1, by have : 2 ≤ k := hk; omega⟩
    simp only [List.map_cons, List.map_nil]
    rw [h.fz partE_ok (k := j) (by have : 2 ≤ j + 1 := hk; show 1 ≤ j; omega)] <;> rfl
  plain := by rintro M x cs S ⟨d, rfl, h⟩; simp only [List.all_cons, List.all_nil, h.plain] <;> rfl
  here := by rintro M x cs S ⟨d, rfl, h⟩ b hb; exact h.here partE_ok b hb
def irE : El Irc := ⟨9, Irc.c, 1, fun M x cs S => ∃ d, cs = [.int .i64 x.kind, .int .i64 x.r, .int .i64 x.a, .int .i64 x.b, .int .i64 x.k, d, .int .i64 x.cost, .int .i64 x.mt, .int .i64 x.pc] ∧ SlAt intE M d x.args S⟩
theorem irE_ok : irE.Ok where
  pos := by decide
  len := by rintro M x cs S ⟨d, rfl, _⟩; rfl
  clen := fun x => rfl
  frame := by rintro M M' x cs S ⟨d, rfl, h⟩ hk; exact ⟨d, rfl, h.frame intE_ok hk⟩
  fz := by
    rintro M x cs S k ⟨d, rfl, h⟩ hk
    obtain ⟨j, rfl⟩ : ∃ j, k = j + 1 := ⟨k - 1, by have : 1 ≤ k := hk; omega⟩
    simp only [List.map_cons, List.map_nil, fz_int]
    rw [h.fz intE_ok (k := j) (Nat.zero_le _), slD_ints] <;> rfl
  plain := by rintro M x cs S ⟨d, rfl, h⟩; simp only [List.all_cons, List.all_nil, h.plain] <;> rfl
  here := by rintro M x cs S ⟨d, rfl, h⟩ b hb; exact h.here intE_ok b hb
theorem pc_nils {P : Program} {f : FuncId} {cs : List DV} {R : DV → DMem → Prop} {M : DMem} (h : ∀ a c, PC P f [.raw (.slice a 0 c)] R M) : PC P f [.isl 0 cs] R M := by
  intro F m vals hM hr hF ho
  obtain ⟨h1, h2⟩ := hr
  match vals, h2 with
  | [v], _ =>
    have hv := h1.1
    simp only [Rep] at hv
    obtain ⟨a, c, rfl, _⟩ := hv
    exact h a c F m _ hM ⟨⟨by simp only [Rep], trivial⟩, rfl⟩ hF ho
def partF : El Part := flatE Part.c 4
theorem partF_ok : partF.Ok := flatE_ok (by decide) Part.len Part.froz (fun x => rfl)
theorem CloneI_pc {M : DMem} (l : List Int) (hl : l.length * 8 ≤ 140737488355328) {R : DV → DMem → Prop}
    (hR : ∀ d M' S, SlAt intE M' d l S → S.Nodup → (∀ x ∈ S, M x = none) → SubD M M' → R d M') : PC Tryz.prog F_slices_Clone_int_int [slI l] R M := by
  rcases Nat.eq_zero_or_pos l.length with h0 | h0
  · have hl0 : l = [] := List.eq_nil_of_length_eq_zero h0
    subst hl0
    refine pc_nils fun a c => ?_
    refine pc_slices_Clone_int_int (by simp) ?_
    simp only [S_slices_Clone_int_int, R_slices_Clone_int_int, MU_slices_Clone_int_int, MU_slices_Clone_int_int, SW, SV, wpD, evDL, evDM, evD, bldLD, wpSp, DMem.mt, beq_self_eq_true, seval]
    have hz := hR .zsl M [] SlAt.nil List.nodup_nil (by simp) (SubD.refl M)
    exact ⟨fun _ => hz, fun _ => ⟨0, [], ⟨rfl, rfl, rfl⟩, rfl, 0, by decide, by decide, rfl, fun _ => hz, fun h => absurd h (by decide)⟩⟩
  · refine pc_slices_Clone_int_int (by simp) ?_
    have he : eqzD false (slI l) = some (.bool false) := eqzI h0
    simp only [S_slices_Clone_int_int, R_slices_Clone_int_int, MU_slices_Clone_int_int, MU_slices_Clone_int_int, he, SW, SV, wpD, evDL, evDM, evD, bldLD, wpSp, DMem.mt, beq_self_eq_true, seval]
    have h := (SlAt.nil (E := intE) (M := M)).app intE_ok List.nodup_nil (e := 3) (bytes := 8) (ys := l) (ds := l.map (.int .i64)) (T := []) (k := l.length) RowAt.ints (fun x hx => by simp at hx) rfl (by simp; omega) (by simp; omega) (Post := R) fun d' M' S' h1 h2 h3 h4 => hR d' M' S' (by simpa using h1) (h4 List.nodup_nil) (fun x hx => by
        rcases h3 x hx with h | h | h
        · simp at h
        · simp at h
        · exact h) fun b B hB => h2 b B hB (by simp)
    exact h
theorem CloneS_pc {M : DMem} (l : List Src) (hl : l.length * 16 ≤ 140737488355328) {R : DV → DMem → Prop}
    (hR : ∀ d M' S, SlAt srcE M' d l S → S.Nodup → (∀ x ∈ S, M x = none) → SubD M M' → R d M') : PC Tryz.prog F_slices_Clone_api_Src_api_Src [slD Src.c l] R M := by
  rcases Nat.eq_zero_or_pos l.length with h0 | h0
  · have hl0 : l = [] := List.eq_nil_of_length_eq_zero h0
    subst hl0
    refine pc_nils fun a c => ?_
    refine pc_slices_Clone_api_Src_api_Src (by simp) ?_
    simp only [S_slices_Clone_api_Src_api_Src, R_slices_Clone_api_Src_api_Src, MU_slices_Clone_api_Src_api_Src, MU_slices_Clone_api_Src_api_Src, SW, SV, wpD, evDL, evDM, evD, bldLD, wpSp, DMem.mt, beq_self_eq_true, seval]
    have hz := hR .zsl M [] SlAt.nil List.nodup_nil (by simp) (SubD.refl M)
    exact ⟨fun _ => hz, fun _ => ⟨0, [], ⟨rfl, rfl, rfl⟩, rfl, 0, by decide, by decide, rfl, fun _ => hz, fun h => absurd h (by decide)⟩⟩
  · refine pc_slices_Clone_api_Src_api_Src (by simp) ?_
    have he : eqzD false (slD Src.c l) = some (.bool false) := eqzI h0
    simp only [S_slices_Clone_api_Src_api_Src, R_slices_Clone_api_Src_api_Src, MU_slices_Clone_api_Src_api_Src, MU_slices_Clone_api_Src_api_Src, he, SW, SV, wpD, evDL, evDM, evD, bldLD, wpSp, DMem.mt, beq_self_eq_true, seval]
    have h := (SlAt.nil (E := srcE) (M := M)).app srcE_ok List.nodup_nil (e := 136) (bytes := 16) (ys := l) (ds := l.flatMap Src.c) (T := []) (k := l.length) RowAt.flat (fun x hx => by simp at hx) rfl (by simp; omega) (by simp; omega) (Post := R) fun d' M' S' h1 h2 h3 h4 => hR d' M' S' (by simpa using h1) (h4 List.nodup_nil) (fun x hx => by
        rcases h3 x hx with h | h | h
        · simp at h
        · simp at h
        · exact h) fun b B hB => h2 b B hB (by simp)
    exact h
theorem CloneP_pc {M : DMem} (l : List Part) (hl : l.length * 64 ≤ 140737488355328) {R : DV → DMem → Prop}
    (hR : ∀ d M' S, SlAt partF M' d l S → S.Nodup → (∀ x ∈ S, M x = none) → SubD M M' → R d M') : PC Tryz.prog F_slices_Clone_api_Part_api_Part [slD Part.c l] R M := by
  rcases Nat.eq_zero_or_pos l.length with h0 | h0
  · have hl0 : l = [] := List.eq_nil_of_length_eq_zero h0
    subst hl0
    refine pc_nils fun a c => ?_
    refine pc_slices_Clone_api_Part_api_Part (by simp) ?_
    simp only [S_slices_Clone_api_Part_api_Part, R_slices_Clone_api_Part_api_Part, MU_slices_Clone_api_Part_api_Part, MU_slices_Clone_api_Part_api_Part, SW, SV, wpD, evDL, evDM, evD, bldLD, wpSp, DMem.mt, beq_self_eq_true, seval]
    have hz := hR .zsl M [] SlAt.nil List.nodup_nil (by simp) (SubD.refl M)
    exact ⟨fun _ => hz, fun _ => ⟨0, [], ⟨rfl, rfl, rfl⟩, rfl, 0, by decide, by decide, rfl, fun _ => hz, fun h => absurd h (by decide)⟩⟩
  · refine pc_slices_Clone_api_Part_api_Part (by simp) ?_
    have he : eqzD false (slD Part.c l) = some (.bool false) := eqzI h0
    simp only [S_slices_Clone_api_Part_api_Part, R_slices_Clone_api_Part_api_Part, MU_slices_Clone_api_Part_api_Part, MU_slices_Clone_api_Part_api_Part, he, SW, SV, wpD, evDL, evDM, evD, bldLD, wpSp, DMem.mt, beq_self_eq_true, seval]
    have h := (SlAt.nil (E := partF) (M := M)).app partF_ok List.nodup_nil (e := 69) (bytes := 64) (ys := l) (ds := l.flatMap Part.c) (T := []) (k := l.length) RowAt.flat (fun x hx => by simp at hx) rfl (by simp; omega) (by simp; omega) (Post := R) fun d' M' S' h1 h2 h3 h4 => hR d' M' S' (by simpa using h1) (h4 List.nodup_nil) (fun x hx => by
        rcases h3 x hx with h | h | h
        · simp at h
        · simp at h
        · exact h) fun b B hB => h2 b B hB (by simp)
    exact h
theorem row_pc {M : DMem} (from' : Int) (k : Nat) (hk : k ≤ 1000) (hf : 0 ≤ from' ∧ from' ≤ 100000) {R : DV → DMem → Prop}
    (hR : ∀ d M' S, SlAt srcE M' d (rowS from' k) S → S.Nodup → (∀ x ∈ S, M x = none) → SubD M M' → R d M') : PC Tryz.prog F_lower_row [.int .i64 from', .int .i64 k] R M := by
  refine pc_lower_row (by simp) ?_
  simp only [S_lower_row, R_lower_row, MU_lower_row, SW, SV, wpD, evDL, evDM, evD, bldLD, wpSp, DMem.mt, beq_self_eq_true, seval]
  refine ⟨fun n δ M' => ∃ (i : Nat) (S : List Nat), i ≤ k ∧ n = k - i ∧ δ 0 = .int .i64 from' ∧ δ 7 = .int .i64 k ∧ δ 8 = .int .i64 i ∧ SlAt srcE M' (δ 5) (rowS from' i) S ∧ S.Nodup ∧ (∀ x ∈ S, M x = none) ∧ SubD M M', k,
    ⟨0, [], Nat.zero_le _, rfl, rfl, rfl, rfl, SlAt.nil, List.nodup_nil, fun x hx => by simp at hx, SubD.refl _⟩, ?_⟩
  rintro n δ M' ⟨i, S, hi, rfl, h0, h7, h8, hs, hnd, hS, hsub⟩
  simp only [S1_lower_row, MU_lower_row, h0, h7, h8, SW, SV, wpD, evDL, evDM, evD, bldLD, wpSp, DMem.mt, beq_self_eq_true, seval, decide_eq_true_eq, decide_eq_false_iff_not]
  refine ⟨fun hlt => ?_, fun hge => ?_⟩
  · have hik : i < k := by omega
    have e1 : wr64 (from' + (i : Int)) = from' + i := w64 (by omega)
    have hlen : (rowS from' i).length = i := by simp [rowS]
    simp only [e1]
    refine hs.app srcE_ok hnd (ys := [⟨false, from' + i⟩]) (ds := [.bool false, .int .i64 (from' + i)]) (T := []) (RowAt.one ⟨rfl, rfl⟩) (fun x hx => by simp at hx) rfl (by rw [hlen]; omega) (by rw [hlen]; omega) fun d' M2 S' h1 h2 h3 h4 => ?_
    try simp only [h0, h7, h8, w64s (show i < 4611686018427387905 by omega), SW, SV, wpD, evDL, evDM, evD, bldLD, wpSp, DMem.mt, beq_self_eq_true, seval]
    refine ⟨k - (i + 1), M2, by omega, SubD.refl _, i + 1, S', by omega, rfl, rfl, ?_, h4 List.nodup_nil, fun x hx => ?_, fun x B hB => ?_⟩
    · have : rowS from' (i + 1) = rowS from' i ++ [⟨false, from' + i⟩] := by simp [rowS, List.range_succ]
      rw [this]; exact h1
    · rcases h3 x hx with h | h | h
      · exact hS x h
      · simp at h
      · cases e : M x with
        | none => rfl
        | some B => have := hsub x B e; rw [h] at this; cases this
    · exact h2 x B (hsub x B hB) fun hh => by rw [hS x hh] at hB; cases hB
  · have : i = k := by omega
    subst this
    try simp only [SW, SV, wpD, evDL, evDM, evD, bldLD, wpSp, DMem.mt, beq_self_eq_true, seval]
    exact hR _ M' S hs hnd hS hsub
end Go.Proofs.YticlgdhhnjpkjaaGreatDoor.Pf
namespace Go.Proofs.YticlgdhhnjpkjaaGreatDoor.Pf
open Go Go.RowKit Go.Proofs Go.Proofs.YticlgdhhnjpkjaaGreatDoor.Mw Go.Proofs.YticlgdhhnjpkjaaGreatDoor.Sx
set_option linter.unusedVariables false
set_option linter.unusedSimpArgs false
set_option maxRecDepth 4000
def DMem.only (M : DMem) (S : List Nat) : DMem := fun b => if b ∈ S then M b else none
theorem DMem.only_sub (M : DMem) (S : List Nat) : SubD (DMem.only M S) M := fun b B h => by
  unfold DMem.only at h; split at h
  · exact h
  · cases h
theorem DMem.only_in {M : DMem} {S : List Nat} {b : Nat} (h : b ∈ S) : DMem.only M S b = M b := by unfold DMem.only; rw [if_pos h]
def ThE {α : Type} (E : El α) : Prop := ∀ M x cs S, E.rep M x cs S → thawedL cs = true ∧ ∀ b ∈ S, ∀ B, M b = some B → thawedL B.cs = true
theorem ThE.row {α : Type} {E : El α} (ht : ThE E) {M : DMem} : ∀ {xs : List α} {cs : List DV} {S : List Nat}, RowAt E M xs cs S → thawedL cs = true ∧ ∀ b ∈ S, ∀ B, M b = some B → thawedL B.cs = true
  | [], cs, S, h => by rw [h.1, h.2]; exact ⟨rfl, fun b hb => by simp at hb⟩
  | x :: xs, cs, S, ⟨c1, c2, S1, S2, e1, e2, h1, h2⟩ => by
    obtain ⟨g1, g2⟩ := ht _ _ _ _ h1
    obtain ⟨g3, g4⟩ := ThE.row ht h2
    rw [e1, e2, thawedL_append, g1, g3]
    refine ⟨rfl, fun b hb => ?_⟩
    rcases List.mem_append.1 hb with hb | hb
    · exact g2 b hb
    · exact g4 b hb
theorem ThE.sl {α : Type} {E : El α} (ht : ThE E) {M : DMem} {d : DV} {xs : List α} {S : List Nat} (h : SlAt E M d xs S) : thawed d = true ∧ ∀ b ∈ S, ∀ B, M b = some B → thawedL B.cs = true := by
  obtain ⟨rfl, rfl, rfl⟩ | ⟨b, c, ty, cs, S', rfl, hM, hr, rfl, _⟩ := h
  · exact ⟨rfl, fun b hb => by simp at hb⟩
  · obtain ⟨g1, g2⟩ := ht.row hr
    refine ⟨rfl, fun x hx B hB => ?_⟩
    rcases List.mem_cons.1 hx with rfl | hx
    · rw [hM] at hB; cases hB; exact g1
    · exact g2 x hx B hB
theorem intE_th : ThE intE := by rintro M x cs S ⟨rfl, rfl⟩; exact ⟨rfl, fun b hb => by simp at hb⟩
theorem srcE_th : ThE srcE := by rintro M x cs S ⟨rfl, rfl⟩; exact ⟨rfl, fun b hb => by simp at hb⟩
theorem partE_th : ThE partE := by
  rintro M x cs S ⟨d1, d2, S1, S2, rfl, h1, h2, rfl⟩
  obtain ⟨a1, a2⟩ := srcE_th.sl h1
  obtain ⟨b1, b2⟩ := srcE_th.sl h2
  refine ⟨by simp only [thawedL, a1, b1] <;> rfl, fun b hb => ?_⟩
  rcases List.mem_append.1 hb with hb | hb
  · exact a2 b hb
  · exact b2 b hb
theorem metaE_th : ThE metaE := by
  rintro M x cs S ⟨d, rfl, h⟩
  obtain ⟨a1, a2⟩ := partE_th.sl h
  exact ⟨by simp only [thawedL, a1] <;> rfl, a2⟩
theorem irE_th : ThE irE := by
  rintro M x cs S ⟨d, rfl, h⟩
  obtain ⟨a1, a2⟩ := intE_th.sl h
  exact ⟨by simp only [thawedL, a1] <;> rfl, a2⟩
theorem pt_only {M : DMem} {S : List Nat} {d0 d : DV} (h1 : thawed d0 = true) (h2 : ∀ b ∈ S, ∀ B, M b = some B → thawedL B.cs = true) (h3 : fz (DMem.only M S) 4 d0 = d) : ∃ M2, SubD M2 M ∧ Thaw d0 M2 ∧ ∀ m v, Rep m (fz M2 4 d0) v → Rep m d v := by
  refine ⟨DMem.only M S, DMem.only_sub M S, ⟨h1, fun b B hb => ?_⟩, fun m v hv => by rw [← h3]; exact hv⟩
  unfold DMem.only at hb
  split at hb
  · rename_i hm; exact h2 b hm B hb
  · cases hb
theorem SlAt.only {α : Type} {E : El α} (hE : E.Ok) {M : DMem} {d : DV} {xs : List α} {S T : List Nat} (h : SlAt E M d xs S) (hs : ∀ b ∈ S, b ∈ T) : SlAt E (DMem.only M T) d xs S := h.frame hE fun b hb => DMem.only_in (hs b hb)
theorem Plain_pt (p : List Fnc) (fn : Nat) (pc : Int) (h : Nat) (base : Int) (hfn : fn < p.length) (hl : 0 ≤ p[fn].locals ∧ p[fn].locals ≤ 8) (hh : h ≤ 8) (hb : 0 ≤ base ∧ base ≤ 1000) :
    Pt Tryz.prog F_lower_Plain [.ip [slD Fnc.c p], .int .i64 fn, .int .i64 pc, .int .i64 h, .int .i64 base] (.agg (plainP p[fn] fn pc h base).c) := by
  refine Pt.of (pc_lower_Plain (by simp) ?_)
  obtain ⟨n, hn⟩ := Int.eq_ofNat_of_zero_le hl.1
  simp only [S_lower_Plain, R_lower_Plain, MU_lower_Plain, ix_slD Fnc.len hfn, SW, SV, wpD, evDL, evDM, evD, bldLD, wpSp, DMem.mt, beq_self_eq_true, seval]
  intro q M1 hM1
  rw [hn]
  refine row_pc base n (by omega) (by omega) fun d1 M2 S1 h1 n1 f1 k1 => ?_
  have e1 : wr64 (base + (n : Int)) = base + n := w64 (by omega)
  simp only [S2_lower_Plain, MU_lower_Plain, e1, SW, SV, wpD, evDL, evDM, evD, bldLD, wpSp, DMem.mt, beq_self_eq_true, seval]
  refine row_pc (base + n) h (by omega) (by omega) fun d2 M3 S2 h2 n2 f2 k2 => ?_
  have h13 := SlAt.sub srcE_ok h1 k2
  simp only [S1_lower_Plain, MU_lower_Plain, h13.cell, h2.cell, SW, SV, wpD, evDL, evDM, evD, bldLD, wpSp, DMem.mt, beq_self_eq_true, seval]
  have hq3 : M3 q = some ⟨69, 4, [.int .i64 0, .int .i64 0, .zsl, .zsl]⟩ := k2 q _ (k1 q _ (by rw [hM1, DMem.ins_same]))
  refine stD hq3 rfl rfl (by simp) (by simp) (by simp only [List.all_cons, List.all_nil, h13.plain, h2.plain] <;> rfl) fun M4 hM4 => ?_
  have hq4 : M4 q = some ⟨69, 4, [.int .i64 fn, .int .i64 pc, d1, d2]⟩ := by rw [hM4, DMem.ins_same] <;> rfl
  have hqS1 : q ∉ S1 := fun hh => by have := f1 q hh; rw [hM1, DMem.ins_same] at this; cases this
  have hqS2 : q ∉ S2 := fun hh => by have := f2 q hh; rw [k1 q _ (by rw [hM1, DMem.ins_same])] at this; cases this
  have g1 : SlAt srcE M4 d1 (rowS base n) S1 := h13.frame srcE_ok fun b hb => by rw [hM4, DMem.ins_ne _ _ (by rintro rfl; exact hqS1 hb)]
  have g2 : SlAt srcE M4 d2 (rowS (base + n) h) S2 := h2.frame srcE_ok fun b hb => by rw [hM4, DMem.ins_ne _ _ (by rintro rfl; exact hqS2 hb)]
  obtain ⟨t1, t2⟩ := srcE_th.sl g1
  obtain ⟨t3, t4⟩ := srcE_th.sl g2
  have g1' := SlAt.only srcE_ok g1 (T := S1 ++ S2) (fun b hb => by simp [hb])
  have g2' := SlAt.only srcE_ok g2 (T := S1 ++ S2) (fun b hb => by simp [hb])
  simp only [ldnM, hq4, SW, SV, wpD, evDL, evDM, evD, bldLD, wpSp, DMem.mt, beq_self_eq_true, seval]
  refine pt_only (S := S1 ++ S2) (by simp only [thawed, thawedL, t1, t3] <;> rfl) (fun b hb => ?_) ?_
  · rcases List.mem_append.1 hb with hb | hb
    · exact t2 b hb
    · exact t4 b hb
  · rw [fz_agg]
    simp only [List.map_cons, List.map_nil, fz_int]
    rw [g1'.fz srcE_ok (k := 3) (by decide), g2'.fz srcE_ok (k := 3) (by decide)]
    unfold plainP
    simp only [hn, Int.toNat_natCast] <;> rfl
end Go.Proofs.YticlgdhhnjpkjaaGreatDoor.Pf
namespace Go.Proofs.YticlgdhhnjpkjaaGreatDoor.Pf
open Go Go.RowKit Go.Proofs Go.Proofs.YticlgdhhnjpkjaaGreatDoor.Mw Go.Proofs.YticlgdhhnjpkjaaGreatDoor.Sx
set_option linter.unusedVariables false
set_option linter.unusedSimpArgs false
set_option maxRecDepth 8000
def irD (k r a b kk pc : Int) (d : DV) : List DV := [.int .i64 k, .int .i64 r, .int .i64 a, .int .i64 b, .int .i64 kk, d, .int .i64 1, .int .i64 0, .int .i64 pc]
theorem ins_end {M : DMem} {δ : DEnv} {q8 q9 : Nat} {x : Irc} {d : DV} {S : List Nat} (h8 : δ 8 = .mp q8 0) (h9 : δ 9 = .mp q9 0) (h89 : q8 ≠ q9) {cs8 : List DV} (hM8 : M q8 = some ⟨50, 9, cs8⟩) (hl8 : cs8.length = 9)
    (hM9 : M q9 = some ⟨50, 9, [.int .i64 x.kind, .int .i64 x.r, .int .i64 x.a, .int .i64 x.b, .int .i64 x.k, d, .int .i64 x.cost, .int .i64 x.mt, .int .i64 x.pc]⟩) (hs : SlAt intE M d x.args S) (h8S : q8 ∉ S) {KK : DEnv → DMem → Prop} {XX : Nat → DEnv → DMem → Prop} :
    wpD Tryz.prog MU_lower_ins (fun f => roL.contains f) (fun t => G_lower_ins.contains t) 123 S3_lower_ins KK XX (fun δ M' => ∃ d, ldnD M' 9 (δ 8) = some d ∧ ∃ M2, SubD M2 M' ∧ Thaw d M2 ∧ ∀ m v, Rep m (fz M2 4 d) v → Rep m (.agg x.c) v) δ M := by
  simp only [S3_lower_ins, MU_lower_ins, h8, h9, hM9, ldnM, SW, SV, wpD, evDL, evDM, evD, bldLD, wpSp, DMem.mt, beq_self_eq_true, seval]
  refine stD hM8 rfl rfl (by omega) (by simp) (by simp only [List.all_cons, List.all_nil, hs.plain] <;> rfl) fun M4 hM4 => ?_
  have hq4 : M4 q8 = some ⟨50, 9, [.int .i64 x.kind, .int .i64 x.r, .int .i64 x.a, .int .i64 x.b, .int .i64 x.k, d, .int .i64 x.cost, .int .i64 x.mt, .int .i64 x.pc]⟩ := by
    rw [hM4, DMem.ins_same]
    congr 2
    unfold splD
    rw [List.drop_eq_nil_of_le (by simp; omega)]
    simp
  have g1 : SlAt intE M4 d x.args S := hs.frame intE_ok fun b hb => by rw [hM4, DMem.ins_ne _ _ (by rintro rfl; exact h8S hb)]
  obtain ⟨t1, t2⟩ := intE_th.sl g1
  have g1' := SlAt.only intE_ok g1 (T := S) (fun b hb => hb)
  simp only [ldnM, hq4, SW, SV, wpD, evDL, evDM, evD, bldLD, wpSp, DMem.mt, beq_self_eq_true, seval]
  refine pt_only (S := S) (by simp only [thawed, thawedL, t1] <;> rfl) t2 ?_
  rw [fz_agg]
  simp only [List.map_cons, List.map_nil, fz_int]
  rw [g1'.fz intE_ok (k := 3) (by decide), slD_ints]
theorem st9 {M : DMem} {q i : Nat} {v : Int} {cs : List DV} {Post : DV → DMem → Prop} (h : M q = some ⟨50, 9, cs⟩) (hl : cs.length = 9) (hi : i < 9)
    (hP : ∀ M', M' q = some ⟨50, 9, cs.set i (.int .i64 v)⟩ → (∀ x, x ≠ q → M' x = M x) → Post (.raw undef) M') : StoreD M 1 (.mp q i) (.int .i64 v) Post := by
  refine stD h rfl rfl (by omega) (by omega) rfl fun M' hM' => hP M' ?_ fun x hx => by rw [hM', DMem.ins_ne _ _ hx]
  rw [hM', DMem.ins_same, splD_one (by omega)]
theorem ins_pt (p : List Fnc) (x : Ins) (pc top : Int) (hx : mayB x = true) (ht : 0 ≤ top ∧ top ≤ 1000) (hc : x.kind = 14 → 0 ≤ x.a ∧ x.a < p.length ∧ 0 ≤ argsOf p x.a ∧ argsOf p x.a ≤ 4) :
    Pt Tryz.prog F_lower_ins [.ip [slD Fnc.c p], .agg x.c, .int .i64 pc, .int .i64 top] (.agg (irL p x pc top).c) := by
  refine Pt.of (pc_lower_ins (by simp) ?_)
  have w1 : wr64 (top - 1) = top - 1 := w64 (by omega)
  have w2 : wr64 (top - 2) = top - 2 := w64 (by omega)
  simp only [S_lower_ins, R_lower_ins, MU_lower_ins, SW, SV, wpD, evDL, evDM, evD, bldLD, wpSp, DMem.mt, beq_self_eq_true, seval]
  intro q8 M1 hM1 q9 M2 hq9 hM2
  have h89 : q8 ≠ q9 := by rintro rfl; rw [hM1, DMem.ins_same] at hq9; cases hq9
  have h8 : M2 q8 = some ⟨50, 9, [.int .i64 0, .int .i64 0, .int .i64 0, .int .i64 0, .int .i64 0, .zsl, .int .i64 0, .int .i64 0, .int .i64 0]⟩ := by rw [hM2, DMem.ins_ne _ _ h89, hM1, DMem.ins_same]
  have h9 : M2 q9 = some ⟨50, 9, irD 0 0 0 0 0 pc .zsl⟩ := by rw [hM2, DMem.ins_same] <;> rfl
  have hlow : ∀ b, M2 b ≠ none → b = q8 ∨ b = q9 := fun b hb => by
    rw [hM2] at hb
    by_cases e : b = q9
    · exact .inr e
    · rw [DMem.ins_ne _ _ e, hM1] at hb
      by_cases e2 : b = q8
      · exact .inl e2
      · rw [DMem.ins_ne _ _ e2] at hb; exact absurd rfl hb
  clear hM1 hM2 hq9 M1
  have hk := may_kind hx
  obtain ⟨k, a⟩ := x
  simp only at hk hc
  unfold irD at h9
  rcases hk with rfl | rfl | rfl | rfl | rfl | rfl | rfl | rfl | rfl | rfl | rfl | rfl | rfl | rfl | rfl | rfl | rfl
  · have e : irL p ⟨0, a⟩ pc top = ⟨1, top, 0, 0, a, [], 1, 0, pc⟩ := by simp [irL]
    rw [e]
    simp only [raw0_lower_ins, P0_lower_ins, MU_lower_ins, h9, w1, w2, SW, SV, wpD, evDL, evDM, evD, bldLD, wpSp, DMem.mt, beq_self_eq_true, seval]
    refine st9 (i := 0) (v := 1) h9 rfl (by decide) fun N1 g1 k1 => ?_
    try simp only [SW, SV, wpD, evDL, evDM, evD, bldLD, wpSp, DMem.mt, beq_self_eq_true, seval]
    refine st9 (i := 1) (v := top) g1 rfl (by decide) fun N2 g2 k2 => ?_
    try simp only [SW, SV, wpD, evDL, evDM, evD, bldLD, wpSp, DMem.mt, beq_self_eq_true, seval]
    refine st9 (i := 4) (v := a) g2 rfl (by decide) fun N3 g3 k3 => ?_
    try simp only [SW, SV, wpD, evDL, evDM, evD, bldLD, wpSp, DMem.mt, beq_self_eq_true, seval]
    exact ins_end (x := ⟨1, top, 0, 0, a, [], 1, 0, pc⟩) (d := .zsl) (S := []) rfl rfl h89 (by rw [k3 q8 h89, k2 q8 h89, k1 q8 h89]; exact h8) rfl g3 SlAt.nil (by simp)
  · have e : irL p ⟨1, a⟩ pc top = ⟨2, top, a, 0, 0, [], 1, 0, pc⟩ := by simp [irL]
    rw [e]
    simp only [raw1_lower_ins, P1_lower_ins, MU_lower_ins, h9, w1, w2, SW, SV, wpD, evDL, evDM, evD, bldLD, wpSp, DMem.mt, beq_self_eq_true, seval]
    refine st9 (i := 0) (v := 2) h9 rfl (by decide) fun N1 g1 k1 => ?_
    try simp only [SW, SV, wpD, evDL, evDM, evD, bldLD, wpSp, DMem.mt, beq_self_eq_true, seval]
    refine st9 (i := 1) (v := top) g1 rfl (by decide) fun N2 g2 k2 => ?_
    try simp only [SW, SV, wpD, evDL, evDM, evD, bldLD, wpSp, DMem.mt, beq_self_eq_true, seval]
    refine st9 (i := 2) (v := a) g2 rfl (by decide) fun N3 g3 k3 => ?_
    try simp only [SW, SV, wpD, evDL, evDM, evD, bldLD, wpSp, DMem.mt, beq_self_eq_true, seval]
    exact ins_end (x := ⟨2, top, a, 0, 0, [], 1, 0, pc⟩) (d := .zsl) (S := []) rfl rfl h89 (by rw [k3 q8 h89, k2 q8 h89, k1 q8 h89]; exact h8) rfl g3 SlAt.nil (by simp)
  · have e : irL p ⟨2, a⟩ pc top = ⟨2, a, (top - 1), 0, 0, [], 1, 0, pc⟩ := by simp [irL]
    rw [e]
    simp only [raw2_lower_ins, P2_lower_ins, MU_lower_ins, h9, w1, w2, SW, SV, wpD, evDL, evDM, evD, bldLD, wpSp, DMem.mt, beq_self_eq_true, seval]
    refine st9 (i := 0) (v := 2) h9 rfl (by decide) fun N1 g1 k1 => ?_
    try simp only [SW, SV, wpD, evDL, evDM, evD, bldLD, wpSp, DMem.mt, beq_self_eq_true, seval]
    refine st9 (i := 1) (v := a) g1 rfl (by decide) fun N2 g2 k2 => ?_
    try simp only [SW, SV, wpD, evDL, evDM, evD, bldLD, wpSp, DMem.mt, beq_self_eq_true, seval]
    refine st9 (i := 2) (v := (top - 1)) g2 rfl (by decide) fun N3 g3 k3 => ?_
    try simp only [SW, SV, wpD, evDL, evDM, evD, bldLD, wpSp, DMem.mt, beq_self_eq_true, seval]
    exact ins_end (x := ⟨2, a, (top - 1), 0, 0, [], 1, 0, pc⟩) (d := .zsl) (S := []) rfl rfl h89 (by rw [k3 q8 h89, k2 q8 h89, k1 q8 h89]; exact h8) rfl g3 SlAt.nil (by simp)
  · have e : irL p ⟨3, a⟩ pc top = ⟨3, (top - 2), (top - 2), (top - 1), 3, [], 1, 0, pc⟩ := by simp [irL]
    rw [e]
    simp only [raw6_lower_ins, P6_lower_ins, MU_lower_ins, h9, w1, w2, SW, SV, wpD, evDL, evDM, evD, bldLD, wpSp, DMem.mt, beq_self_eq_true, seval]
    refine st9 (i := 0) (v := 3) h9 rfl (by decide) fun N1 g1 k1 => ?_
    try simp only [SW, SV, wpD, evDL, evDM, evD, bldLD, wpSp, DMem.mt, beq_self_eq_true, seval]
    refine st9 (i := 1) (v := (top - 2)) g1 rfl (by decide) fun N2 g2 k2 => ?_
    try simp only [SW, SV, wpD, evDL, evDM, evD, bldLD, wpSp, DMem.mt, beq_self_eq_true, seval]
    refine st9 (i := 2) (v := (top - 2)) g2 rfl (by decide) fun N3 g3 k3 => ?_
    try simp only [SW, SV, wpD, evDL, evDM, evD, bldLD, wpSp, DMem.mt, beq_self_eq_true, seval]
    refine st9 (i := 3) (v := (top - 1)) g3 rfl (by decide) fun N4 g4 k4 => ?_
    try simp only [SW, SV, wpD, evDL, evDM, evD, bldLD, wpSp, DMem.mt, beq_self_eq_true, seval]
    refine st9 (i := 4) (v := 3) g4 rfl (by decide) fun N5 g5 k5 => ?_
    try simp only [SW, SV, wpD, evDL, evDM, evD, bldLD, wpSp, DMem.mt, beq_self_eq_true, seval]
    exact ins_end (x := ⟨3, (top - 2), (top - 2), (top - 1), 3, [], 1, 0, pc⟩) (d := .zsl) (S := []) rfl rfl h89 (by rw [k5 q8 h89, k4 q8 h89, k3 q8 h89, k2 q8 h89, k1 q8 h89]; exact h8) rfl g5 SlAt.nil (by simp)
  · have e : irL p ⟨4, a⟩ pc top = ⟨3, (top - 2), (top - 2), (top - 1), 4, [], 1, 0, pc⟩ := by simp [irL]
    rw [e]
    simp only [raw6_lower_ins, P6_lower_ins, MU_lower_ins, h9, w1, w2, SW, SV, wpD, evDL, evDM, evD, bldLD, wpSp, DMem.mt, beq_self_eq_true, seval]
    refine st9 (i := 0) (v := 3) h9 rfl (by decide) fun N1 g1 k1 => ?_
    try simp only [SW, SV, wpD, evDL, evDM, evD, bldLD, wpSp, DMem.mt, beq_self_eq_true, seval]
    refine st9 (i := 1) (v := (top - 2)) g1 rfl (by decide) fun N2 g2 k2 => ?_
    try simp only [SW, SV, wpD, evDL, evDM, evD, bldLD, wpSp, DMem.mt, beq_self_eq_true, seval]
    refine st9 (i := 2) (v := (top - 2)) g2 rfl (by decide) fun N3 g3 k3 => ?_
    try simp only [SW, SV, wpD, evDL, evDM, evD, bldLD, wpSp, DMem.mt, beq_self_eq_true, seval]
    refine st9 (i := 3) (v := (top - 1)) g3 rfl (by decide) fun N4 g4 k4 => ?_
    try simp only [SW, SV, wpD, evDL, evDM, evD, bldLD, wpSp, DMem.mt, beq_self_eq_true, seval]
    refine st9 (i := 4) (v := 4) g4 rfl (by decide) fun N5 g5 k5 => ?_
    try simp only [SW, SV, wpD, evDL, evDM, evD, bldLD, wpSp, DMem.mt, beq_self_eq_true, seval]
    exact ins_end (x := ⟨3, (top - 2), (top - 2), (top - 1), 4, [], 1, 0, pc⟩) (d := .zsl) (S := []) rfl rfl h89 (by rw [k5 q8 h89, k4 q8 h89, k3 q8 h89, k2 q8 h89, k1 q8 h89]; exact h8) rfl g5 SlAt.nil (by simp)
  · have e : irL p ⟨5, a⟩ pc top = ⟨3, (top - 2), (top - 2), (top - 1), 5, [], 1, 0, pc⟩ := by simp [irL]
    rw [e]
    simp only [raw6_lower_ins, P6_lower_ins, MU_lower_ins, h9, w1, w2, SW, SV, wpD, evDL, evDM, evD, bldLD, wpSp, DMem.mt, beq_self_eq_true, seval]
    refine st9 (i := 0) (v := 3) h9 rfl (by decide) fun N1 g1 k1 => ?_
    try simp only [SW, SV, wpD, evDL, evDM, evD, bldLD, wpSp, DMem.mt, beq_self_eq_true, seval]
    refine st9 (i := 1) (v := (top - 2)) g1 rfl (by decide) fun N2 g2 k2 => ?_
    try simp only [SW, SV, wpD, evDL, evDM, evD, bldLD, wpSp, DMem.mt, beq_self_eq_true, seval]
    refine st9 (i := 2) (v := (top - 2)) g2 rfl (by decide) fun N3 g3 k3 => ?_
    try simp only [SW, SV, wpD, evDL, evDM, evD, bldLD, wpSp, DMem.mt, beq_self_eq_true, seval]
    refine st9 (i := 3) (v := (top - 1)) g3 rfl (by decide) fun N4 g4 k4 => ?_
    try simp only [SW, SV, wpD, evDL, evDM, evD, bldLD, wpSp, DMem.mt, beq_self_eq_true, seval]
    refine st9 (i := 4) (v := 5) g4 rfl (by decide) fun N5 g5 k5 => ?_
    try simp only [SW, SV, wpD, evDL, evDM, evD, bldLD, wpSp, DMem.mt, beq_self_eq_true, seval]
    exact ins_end (x := ⟨3, (top - 2), (top - 2), (top - 1), 5, [], 1, 0, pc⟩) (d := .zsl) (S := []) rfl rfl h89 (by rw [k5 q8 h89, k4 q8 h89, k3 q8 h89, k2 q8 h89, k1 q8 h89]; exact h8) rfl g5 SlAt.nil (by simp)
  · have e : irL p ⟨6, a⟩ pc top = ⟨3, (top - 2), (top - 2), (top - 1), 6, [], 1, 0, pc⟩ := by simp [irL]
    rw [e]
    simp only [raw6_lower_ins, P6_lower_ins, MU_lower_ins, h9, w1, w2, SW, SV, wpD, evDL, evDM, evD, bldLD, wpSp, DMem.mt, beq_self_eq_true, seval]
    refine st9 (i := 0) (v := 3) h9 rfl (by decide) fun N1 g1 k1 => ?_
    try simp only [SW, SV, wpD, evDL, evDM, evD, bldLD, wpSp, DMem.mt, beq_self_eq_true, seval]
    refine st9 (i := 1) (v := (top - 2)) g1 rfl (by decide) fun N2 g2 k2 => ?_
    try simp only [SW, SV, wpD, evDL, evDM, evD, bldLD, wpSp, DMem.mt, beq_self_eq_true, seval]
    refine st9 (i := 2) (v := (top - 2)) g2 rfl (by decide) fun N3 g3 k3 => ?_
    try simp only [SW, SV, wpD, evDL, evDM, evD, bldLD, wpSp, DMem.mt, beq_self_eq_true, seval]
    refine st9 (i := 3) (v := (top - 1)) g3 rfl (by decide) fun N4 g4 k4 => ?_
    try simp only [SW, SV, wpD, evDL, evDM, evD, bldLD, wpSp, DMem.mt, beq_self_eq_true, seval]
    refine st9 (i := 4) (v := 6) g4 rfl (by decide) fun N5 g5 k5 => ?_
    try simp only [SW, SV, wpD, evDL, evDM, evD, bldLD, wpSp, DMem.mt, beq_self_eq_true, seval]
    exact ins_end (x := ⟨3, (top - 2), (top - 2), (top - 1), 6, [], 1, 0, pc⟩) (d := .zsl) (S := []) rfl rfl h89 (by rw [k5 q8 h89, k4 q8 h89, k3 q8 h89, k2 q8 h89, k1 q8 h89]; exact h8) rfl g5 SlAt.nil (by simp)
  · have e : irL p ⟨7, a⟩ pc top = ⟨3, (top - 2), (top - 2), (top - 1), 7, [], 1, 0, pc⟩ := by simp [irL]
    rw [e]
    simp only [raw6_lower_ins, P6_lower_ins, MU_lower_ins, h9, w1, w2, SW, SV, wpD, evDL, evDM, evD, bldLD, wpSp, DMem.mt, beq_self_eq_true, seval]
    refine st9 (i := 0) (v := 3) h9 rfl (by decide) fun N1 g1 k1 => ?_
    try simp only [SW, SV, wpD, evDL, evDM, evD, bldLD, wpSp, DMem.mt, beq_self_eq_true, seval]
    refine st9 (i := 1) (v := (top - 2)) g1 rfl (by decide) fun N2 g2 k2 => ?_
    try simp only [SW, SV, wpD, evDL, evDM, evD, bldLD, wpSp, DMem.mt, beq_self_eq_true, seval]
    refine st9 (i := 2) (v := (top - 2)) g2 rfl (by decide) fun N3 g3 k3 => ?_
    try simp only [SW, SV, wpD, evDL, evDM, evD, bldLD, wpSp, DMem.mt, beq_self_eq_true, seval]
    refine st9 (i := 3) (v := (top - 1)) g3 rfl (by decide) fun N4 g4 k4 => ?_
    try simp only [SW, SV, wpD, evDL, evDM, evD, bldLD, wpSp, DMem.mt, beq_self_eq_true, seval]
    refine st9 (i := 4) (v := 7) g4 rfl (by decide) fun N5 g5 k5 => ?_
    try simp only [SW, SV, wpD, evDL, evDM, evD, bldLD, wpSp, DMem.mt, beq_self_eq_true, seval]
    exact ins_end (x := ⟨3, (top - 2), (top - 2), (top - 1), 7, [], 1, 0, pc⟩) (d := .zsl) (S := []) rfl rfl h89 (by rw [k5 q8 h89, k4 q8 h89, k3 q8 h89, k2 q8 h89, k1 q8 h89]; exact h8) rfl g5 SlAt.nil (by simp)
  · have e : irL p ⟨8, a⟩ pc top = ⟨3, (top - 2), (top - 2), (top - 1), 8, [], 1, 0, pc⟩ := by simp [irL]
    rw [e]
    simp only [raw6_lower_ins, P6_lower_ins, MU_lower_ins, h9, w1, w2, SW, SV, wpD, evDL, evDM, evD, bldLD, wpSp, DMem.mt, beq_self_eq_true, seval]
    refine st9 (i := 0) (v := 3) h9 rfl (by decide) fun N1 g1 k1 => ?_
    try simp only [SW, SV, wpD, evDL, evDM, evD, bldLD, wpSp, DMem.mt, beq_self_eq_true, seval]
    refine st9 (i := 1) (v := (top - 2)) g1 rfl (by decide) fun N2 g2 k2 => ?_
    try simp only [SW, SV, wpD, evDL, evDM, evD, bldLD, wpSp, DMem.mt, beq_self_eq_true, seval]
    refine st9 (i := 2) (v := (top - 2)) g2 rfl (by decide) fun N3 g3 k3 => ?_
    try simp only [SW, SV, wpD, evDL, evDM, evD, bldLD, wpSp, DMem.mt, beq_self_eq_true, seval]
    refine st9 (i := 3) (v := (top - 1)) g3 rfl (by decide) fun N4 g4 k4 => ?_
    try simp only [SW, SV, wpD, evDL, evDM, evD, bldLD, wpSp, DMem.mt, beq_self_eq_true, seval]
    refine st9 (i := 4) (v := 8) g4 rfl (by decide) fun N5 g5 k5 => ?_
    try simp only [SW, SV, wpD, evDL, evDM, evD, bldLD, wpSp, DMem.mt, beq_self_eq_true, seval]
    exact ins_end (x := ⟨3, (top - 2), (top - 2), (top - 1), 8, [], 1, 0, pc⟩) (d := .zsl) (S := []) rfl rfl h89 (by rw [k5 q8 h89, k4 q8 h89, k3 q8 h89, k2 q8 h89, k1 q8 h89]; exact h8) rfl g5 SlAt.nil (by simp)
  · have e : irL p ⟨9, a⟩ pc top = ⟨3, (top - 2), (top - 2), (top - 1), 9, [], 1, 0, pc⟩ := by simp [irL]
    rw [e]
    simp only [raw6_lower_ins, P6_lower_ins, MU_lower_ins, h9, w1, w2, SW, SV, wpD, evDL, evDM, evD, bldLD, wpSp, DMem.mt, beq_self_eq_true, seval]
    refine st9 (i := 0) (v := 3) h9 rfl (by decide) fun N1 g1 k1 => ?_
    try simp only [SW, SV, wpD, evDL, evDM, evD, bldLD, wpSp, DMem.mt, beq_self_eq_true, seval]
    refine st9 (i := 1) (v := (top - 2)) g1 rfl (by decide) fun N2 g2 k2 => ?_
    try simp only [SW, SV, wpD, evDL, evDM, evD, bldLD, wpSp, DMem.mt, beq_self_eq_true, seval]
    refine st9 (i := 2) (v := (top - 2)) g2 rfl (by decide) fun N3 g3 k3 => ?_
    try simp only [SW, SV, wpD, evDL, evDM, evD, bldLD, wpSp, DMem.mt, beq_self_eq_true, seval]
    refine st9 (i := 3) (v := (top - 1)) g3 rfl (by decide) fun N4 g4 k4 => ?_
    try simp only [SW, SV, wpD, evDL, evDM, evD, bldLD, wpSp, DMem.mt, beq_self_eq_true, seval]
    refine st9 (i := 4) (v := 9) g4 rfl (by decide) fun N5 g5 k5 => ?_
    try simp only [SW, SV, wpD, evDL, evDM, evD, bldLD, wpSp, DMem.mt, beq_self_eq_true, seval]
    exact ins_end (x := ⟨3, (top - 2), (top - 2), (top - 1), 9, [], 1, 0, pc⟩) (d := .zsl) (S := []) rfl rfl h89 (by rw [k5 q8 h89, k4 q8 h89, k3 q8 h89, k2 q8 h89, k1 q8 h89]; exact h8) rfl g5 SlAt.nil (by simp)
  · have e : irL p ⟨10, a⟩ pc top = ⟨2, top, (top - 1), 0, 0, [], 1, 0, pc⟩ := by simp [irL]
    rw [e]
    simp only [MU_lower_ins, h9, w1, w2, SW, SV, wpD, evDL, evDM, evD, bldLD, wpSp, DMem.mt, beq_self_eq_true, seval]
    refine st9 (i := 0) (v := 2) h9 rfl (by decide) fun N1 g1 k1 => ?_
    try simp only [SW, SV, wpD, evDL, evDM, evD, bldLD, wpSp, DMem.mt, beq_self_eq_true, seval]
    refine st9 (i := 1) (v := top) g1 rfl (by decide) fun N2 g2 k2 => ?_
    try simp only [SW, SV, wpD, evDL, evDM, evD, bldLD, wpSp, DMem.mt, beq_self_eq_true, seval]
    refine st9 (i := 2) (v := (top - 1)) g2 rfl (by decide) fun N3 g3 k3 => ?_
    try simp only [SW, SV, wpD, evDL, evDM, evD, bldLD, wpSp, DMem.mt, beq_self_eq_true, seval]
    exact ins_end (x := ⟨2, top, (top - 1), 0, 0, [], 1, 0, pc⟩) (d := .zsl) (S := []) rfl rfl h89 (by rw [k3 q8 h89, k2 q8 h89, k1 q8 h89]; exact h8) rfl g3 SlAt.nil (by simp)
  · have e : irL p ⟨11, a⟩ pc top = ⟨0, 0, 0, 0, 0, [], 1, 0, pc⟩ := by simp [irL]
    rw [e]
    simp only [MU_lower_ins, h9, w1, w2, SW, SV, wpD, evDL, evDM, evD, bldLD, wpSp, DMem.mt, beq_self_eq_true, seval]
    refine st9 (i := 0) (v := 0) h9 rfl (by decide) fun N1 g1 k1 => ?_
    try simp only [SW, SV, wpD, evDL, evDM, evD, bldLD, wpSp, DMem.mt, beq_self_eq_true, seval]
    exact ins_end (x := ⟨0, 0, 0, 0, 0, [], 1, 0, pc⟩) (d := .zsl) (S := []) rfl rfl h89 (by rw [k1 q8 h89]; exact h8) rfl g1 SlAt.nil (by simp)
  · have e : irL p ⟨12, a⟩ pc top = ⟨4, 0, 0, 0, a, [], 1, 0, pc⟩ := by simp [irL]
    rw [e]
    simp only [raw3_lower_ins, P3_lower_ins, MU_lower_ins, h9, w1, w2, SW, SV, wpD, evDL, evDM, evD, bldLD, wpSp, DMem.mt, beq_self_eq_true, seval]
    refine st9 (i := 0) (v := 4) h9 rfl (by decide) fun N1 g1 k1 => ?_
    try simp only [SW, SV, wpD, evDL, evDM, evD, bldLD, wpSp, DMem.mt, beq_self_eq_true, seval]
    refine st9 (i := 4) (v := a) g1 rfl (by decide) fun N2 g2 k2 => ?_
    try simp only [SW, SV, wpD, evDL, evDM, evD, bldLD, wpSp, DMem.mt, beq_self_eq_true, seval]
    exact ins_end (x := ⟨4, 0, 0, 0, a, [], 1, 0, pc⟩) (d := .zsl) (S := []) rfl rfl h89 (by rw [k2 q8 h89, k1 q8 h89]; exact h8) rfl g2 SlAt.nil (by simp)
  · have e : irL p ⟨13, a⟩ pc top = ⟨5, 0, (top - 1), 0, a, [], 1, 0, pc⟩ := by simp [irL]
    rw [e]
    simp only [raw4_lower_ins, P4_lower_ins, MU_lower_ins, h9, w1, w2, SW, SV, wpD, evDL, evDM, evD, bldLD, wpSp, DMem.mt, beq_self_eq_true, seval]
    refine st9 (i := 0) (v := 5) h9 rfl (by decide) fun N1 g1 k1 => ?_
    try simp only [SW, SV, wpD, evDL, evDM, evD, bldLD, wpSp, DMem.mt, beq_self_eq_true, seval]
    refine st9 (i := 4) (v := a) g1 rfl (by decide) fun N2 g2 k2 => ?_
    try simp only [SW, SV, wpD, evDL, evDM, evD, bldLD, wpSp, DMem.mt, beq_self_eq_true, seval]
    refine st9 (i := 2) (v := (top - 1)) g2 rfl (by decide) fun N3 g3 k3 => ?_
    try simp only [SW, SV, wpD, evDL, evDM, evD, bldLD, wpSp, DMem.mt, beq_self_eq_true, seval]
    exact ins_end (x := ⟨5, 0, (top - 1), 0, a, [], 1, 0, pc⟩) (d := .zsl) (S := []) rfl rfl h89 (by rw [k3 q8 h89, k2 q8 h89, k1 q8 h89]; exact h8) rfl g3 SlAt.nil (by simp)
  · obtain ⟨c1, c2, c3, c4⟩ := hc rfl
    obtain ⟨n, rfl⟩ := Int.eq_ofNat_of_zero_le c1
    have hn : n < p.length := by omega
    have ha : argsOf p (n : Int) = p[n].args := by unfold argsOf; rw [Int.toNat_natCast, List.getElem?_eq_getElem hn]
    rw [ha] at c3 c4
    obtain ⟨m, hm⟩ := Int.eq_ofNat_of_zero_le c3
    have hm4 : m ≤ 4 := by omega
    have e : irL p ⟨14, n⟩ pc top = ⟨6, top - m, 0, 0, n, (List.range m).map (fun i : Nat => top - (m : Int) + (i : Int)), 1, 0, pc⟩ := by
      simp [irL, ha, hm]
    rw [e]
    have w3 : wr64 (top - (m : Int)) = top - m := w64 (by omega)
    simp only [raw5_lower_ins, P5_lower_ins, MU_lower_ins, h9, ix_slD Fnc.len hn, hm, w3, SW, SV, wpD, evDL, evDM, evD, bldLD, wpSp, DMem.mt, beq_self_eq_true, seval]
    refine st9 (i := 0) (v := 6) h9 rfl (by decide) fun N1 g1 k1 => ?_
    try simp only [SW, SV, wpD, evDL, evDM, evD, bldLD, wpSp, DMem.mt, beq_self_eq_true, seval]
    refine st9 (i := 1) (v := top - m) g1 rfl (by decide) fun N2 g2 k2 => ?_
    try simp only [SW, SV, wpD, evDL, evDM, evD, bldLD, wpSp, DMem.mt, beq_self_eq_true, seval]
    refine st9 (i := 4) (v := n) g2 rfl (by decide) fun N3 g3 k3 => ?_
    have h8' : N3 q8 = some ⟨50, 9, [.int .i64 0, .int .i64 0, .int .i64 0, .int .i64 0, .int .i64 0, .zsl, .int .i64 0, .int .i64 0, .int .i64 0]⟩ := by rw [k3 q8 h89, k2 q8 h89, k1 q8 h89]; exact h8
    replace g3 : N3 q9 = some ⟨50, 9, [.int .i64 6, .int .i64 (top - m), .int .i64 0, .int .i64 0, .int .i64 n, .zsl, .int .i64 1, .int .i64 0, .int .i64 pc]⟩ := g3
    clear g1 g2 k1 k2 k3 h8 h9 hlow
    simp only [S2_lower_ins, MU_lower_ins, g3, SW, SV, wpD, evDL, evDM, evD, bldLD, wpSp, DMem.mt, beq_self_eq_true, seval]
    refine ⟨fun f δ M => ∃ (i : Nat) (d : DV) (S : List Nat), i ≤ m ∧ f = m - i ∧ δ 3 = .int .i64 top ∧ δ 8 = .mp q8 0 ∧ δ 9 = .mp q9 0 ∧ δ 10 = .int .i64 (top - m + i) ∧ M q8 = some ⟨50, 9, [.int .i64 0, .int .i64 0, .int .i64 0, .int .i64 0, .int .i64 0, .zsl, .int .i64 0, .int .i64 0, .int .i64 0]⟩ ∧
        M q9 = some ⟨50, 9, [.int .i64 6, .int .i64 (top - m), .int .i64 0, .int .i64 0, .int .i64 n, d, .int .i64 1, .int .i64 0, .int .i64 pc]⟩ ∧ SlAt intE M d ((List.range i).map (fun j : Nat => top - (m : Int) + (j : Int))) S ∧ S.Nodup ∧ q8 ∉ S ∧ q9 ∉ S, m,
      ⟨0, .zsl, [], Nat.zero_le _, rfl, rfl, rfl, rfl, by show DV.int IntKind.i64 (top - m) = _; congr 1; omega, h8', g3, SlAt.nil, List.nodup_nil, by simp, by simp⟩, ?_⟩
    clear g3 h8'
    rintro f δ M ⟨i, d, S, hi, rfl, h3, h8, h9, h10, hM8, hM9, hs, hnd, h8S, h9S⟩
    simp only [S1_lower_ins, MU_lower_ins, h3, h8, h9, h10, hM9, SW, SV, wpD, evDL, evDM, evD, bldLD, wpSp, DMem.mt, beq_self_eq_true, seval, decide_eq_true_eq, decide_eq_false_iff_not]
    refine ⟨fun hlt => ?_, fun hge => ?_⟩
    · have hlen : ((List.range i).map (fun j : Nat => top - (m : Int) + (j : Int))).length = i := by simp
      refine hs.app intE_ok hnd (ys := [top - m + i]) (ds := [.int .i64 (top - m + i)]) (T := []) (RowAt.one ⟨rfl, rfl⟩) (fun x hx => by simp at hx) rfl (by rw [hlen]; omega) (by rw [hlen]; omega) fun d' M9 S' hsl9 hk9 hS9 hnd9 => ?_
      have hq9 := hk9 q9 _ hM9 h9S
      have hq8 := hk9 q8 _ hM8 h8S
      have h9S' : q9 ∉ S' := fun hh => by
        rcases hS9 q9 hh with h | h | h
        · exact h9S h
        · simp at h
        · rw [hM9] at h; cases h
      have h8S' : q8 ∉ S' := fun hh => by
        rcases hS9 q8 hh with h | h | h
        · exact h8S h
        · simp at h
        · rw [hM8] at h; cases h
      try simp only [h3, h8, h9, h10, SW, SV, wpD, evDL, evDM, evD, bldLD, wpSp, DMem.mt, beq_self_eq_true, seval]
      refine stD hq9 (hsl9.cell) rfl (by simp) (by simp) (by simp only [List.all_cons, List.all_nil, hsl9.plain] <;> rfl) fun M10 hM10 => ?_
      have e10 : wr64 (top - (m : Int) + (i : Int) + 1) = top - m + ((i + 1 : Nat) : Int) := by rw [w64 (by omega)]; omega
      try simp only [h3, h8, h9, h10, e10, SW, SV, wpD, evDL, evDM, evD, bldLD, wpSp, DMem.mt, beq_self_eq_true, seval]
      refine ⟨m - (i + 1), M10, by omega, SubD.refl _, i + 1, d', S', by omega, rfl, rfl, ?_, by rw [hM10, DMem.ins_same] <;> rfl, ?_, hnd9 List.nodup_nil, h8S', h9S'⟩
      · rw [hM10, DMem.ins_ne _ _ h89]; exact hq8
      · rw [List.range_succ, List.map_append]
        exact hsl9.frame intE_ok fun x hx => by rw [hM10, DMem.ins_ne _ _ (by rintro rfl; exact h9S' hx)]
    · have him : i = m := by omega
      subst him
      try simp only [SW, SV, wpD, evDL, evDM, evD, bldLD, wpSp, DMem.mt, beq_self_eq_true, seval]
      exact ins_end (x := ⟨6, top - i, 0, 0, n, (List.range i).map (fun j : Nat => top - (i : Int) + (j : Int)), 1, 0, pc⟩) (by exact h8) (by exact h9) h89 hM8 rfl hM9 hs h8S
  · have e : irL p ⟨15, a⟩ pc top = ⟨7, 0, (top - 1), 0, 0, [], 1, 0, pc⟩ := by simp [irL]
    rw [e]
    simp only [MU_lower_ins, h9, w1, w2, SW, SV, wpD, evDL, evDM, evD, bldLD, wpSp, DMem.mt, beq_self_eq_true, seval]
    refine st9 (i := 0) (v := 7) h9 rfl (by decide) fun N1 g1 k1 => ?_
    try simp only [SW, SV, wpD, evDL, evDM, evD, bldLD, wpSp, DMem.mt, beq_self_eq_true, seval]
    refine st9 (i := 2) (v := (top - 1)) g1 rfl (by decide) fun N2 g2 k2 => ?_
    try simp only [SW, SV, wpD, evDL, evDM, evD, bldLD, wpSp, DMem.mt, beq_self_eq_true, seval]
    exact ins_end (x := ⟨7, 0, (top - 1), 0, 0, [], 1, 0, pc⟩) (d := .zsl) (S := []) rfl rfl h89 (by rw [k2 q8 h89, k1 q8 h89]; exact h8) rfl g2 SlAt.nil (by simp)
  · have e : irL p ⟨16, a⟩ pc top = ⟨8, 0, (top - 1), 0, 0, [], 1, 0, pc⟩ := by simp [irL]
    rw [e]
    simp only [MU_lower_ins, h9, w1, w2, SW, SV, wpD, evDL, evDM, evD, bldLD, wpSp, DMem.mt, beq_self_eq_true, seval]
    refine st9 (i := 0) (v := 8) h9 rfl (by decide) fun N1 g1 k1 => ?_
    try simp only [SW, SV, wpD, evDL, evDM, evD, bldLD, wpSp, DMem.mt, beq_self_eq_true, seval]
    refine st9 (i := 2) (v := (top - 1)) g1 rfl (by decide) fun N2 g2 k2 => ?_
    try simp only [SW, SV, wpD, evDL, evDM, evD, bldLD, wpSp, DMem.mt, beq_self_eq_true, seval]
    exact ins_end (x := ⟨8, 0, (top - 1), 0, 0, [], 1, 0, pc⟩) (d := .zsl) (S := []) rfl rfl h89 (by rw [k2 q8 h89, k1 q8 h89]; exact h8) rfl g2 SlAt.nil (by simp)
end Go.Proofs.YticlgdhhnjpkjaaGreatDoor.Pf
namespace Go.Proofs.YticlgdhhnjpkjaaGreatDoor.Pf
open Go Go.RowKit Go.Proofs Go.Proofs.YticlgdhhnjpkjaaGreatDoor.Mw Go.Proofs.YticlgdhhnjpkjaaGreatDoor.Sx
set_option linter.unusedVariables false
set_option linter.unusedSimpArgs false
set_option maxRecDepth 8000
def WrAt (M : DMem) (wb : Nat) (fn regs : Int) (w : Low) (S : List Nat) : Prop :=
  ∃ dc dm sb Sc Sm, M wb = some ⟨99, 5, [.int .i64 fn, .int .i64 regs, dc, dm, .msl sb 0 w.starts.length w.starts.length]⟩ ∧ SlAt irE M dc w.code Sc ∧ SlAt metaE M dm w.metas Sm ∧
    M sb = some ⟨3, w.starts.length, w.starts.map (.int .i64)⟩ ∧ S = wb :: sb :: (Sc ++ Sm) ∧ S.Nodup
theorem Write_pc {M : DMem} (fn regs : Int) (n : Nat) (hn : n ≤ 1000) {R : DV → DMem → Prop}
    (hR : ∀ wb M' S, WrAt M' wb fn regs ⟨[], [], List.replicate n 0⟩ S → (∀ x ∈ S, M x = none) → SubD M M' → R (.mp wb 0) M') : PC Tryz.prog F_ir_Write [.int .i64 fn, .int .i64 regs, .int .i64 n] R M := by
  refine pc_ir_Write (by simp) ?_
  simp only [S_ir_Write, R_ir_Write, MU_ir_Write, SW, SV, wpD, evDL, evDM, evD, bldLD, wpSp, DMem.mt, beq_self_eq_true, seval]
  refine mkI (by omega) fun sb M1 hsb hM1 => ?_
  simp only [SW, SV, wpD, evDL, evDM, evD, bldLD, wpSp, DMem.mt, beq_self_eq_true, seval]
  intro wb M2 hwb hM2
  have hsw : sb ≠ wb := by rintro rfl; rw [hM1, DMem.ins_same] at hwb; cases hwb
  have hwM : M wb = none := by rw [hM1, DMem.ins_ne _ _ (Ne.symm hsw)] at hwb; exact hwb
  try simp only [SW, SV, wpD, evDL, evDM, evD, bldLD, wpSp, DMem.mt, beq_self_eq_true, seval]
  refine hR wb M2 [wb, sb] ⟨.zsl, .zsl, sb, [], [], ?_, SlAt.nil, SlAt.nil, ?_, rfl, ?_⟩ (fun x hx => ?_) fun x B hB => ?_
  · rw [hM2, DMem.ins_same]; simp
  · rw [hM2, DMem.ins_ne _ _ hsw, hM1, DMem.ins_same]; simp
  · simp; exact Ne.symm hsw
  · rcases List.mem_cons.1 hx with rfl | hx
    · exact hwM
    · simp at hx; subst hx; exact hsb
  · have e1 : x ≠ wb := by rintro rfl; rw [hwM] at hB; cases hB
    have e2 : x ≠ sb := by rintro rfl; rw [hsb] at hB; cases hB
    rw [hM2, DMem.ins_ne _ _ e1, hM1, DMem.ins_ne _ _ e2]; exact hB
theorem At_pc {M : DMem} {wb : Nat} {fn regs : Int} {w : Low} {S : List Nat} (h : WrAt M wb fn regs w S) (pc : Nat) (hp : pc < w.starts.length) {R : DV → DMem → Prop}
    (hR : ∀ M', WrAt M' wb fn regs ⟨w.code, w.metas, w.starts.set pc w.code.length⟩ S → (∀ x, x ∉ S → M' x = M x) → R (.tup []) M') : PC Tryz.prog F_ir_Writer_At [.mp wb 0, .int .i64 pc] R M := by
  obtain ⟨dc, dm, sb, Sc, Sm, hM, hc, hm, hs, rfl, hnd⟩ := h
  refine pc_ir_Writer_At (by simp) ?_
  simp only [S_ir_Writer_At, raw0_ir_Writer_At, P0_ir_Writer_At, R_ir_Writer_At, MU_ir_Writer_At, hM, hc.lenD, ixM hp, SW, SV, wpD, evDL, evDM, evD, bldLD, wpSp, DMem.mt, beq_self_eq_true, seval]
  refine stI hs hp (Nat.le_refl _) fun M' hM' => ?_
  try simp only [SW, SV, wpD, evDL, evDM, evD, bldLD, wpSp, DMem.mt, beq_self_eq_true, seval]
  have hnd' := List.nodup_cons.1 hnd
  have hnd2 := List.nodup_cons.1 hnd'.2
  have hws : wb ≠ sb := by rintro rfl; exact hnd'.1 (by simp)
  refine hR M' ⟨dc, dm, sb, Sc, Sm, ?_, ?_, ?_, ?_, rfl, hnd⟩ fun x hx => ?_
  · rw [hM', DMem.ins_ne _ _ hws, List.length_set]; exact hM
  · exact hc.frame irE_ok fun b hb => by rw [hM', DMem.ins_ne _ _ (by rintro rfl; exact hnd2.1 (by simp [hb]))]
  · exact hm.frame metaE_ok fun b hb => by rw [hM', DMem.ins_ne _ _ (by rintro rfl; exact hnd2.1 (by simp [hb]))]
  · rw [hM', DMem.ins_same, List.length_set]
  · rw [hM', DMem.ins_ne _ _ (by rintro rfl; exact hx (by simp))]
theorem Put_pc {M : DMem} {wb : Nat} {fn regs : Int} {w : Low} {S : List Nat} (h : WrAt M wb fn regs w S) (x : Irc) (hl : w.code.length ≤ 100000) (hx : x.args.length ≤ 100000) {R : DV → DMem → Prop}
    (hR : ∀ M' S', WrAt M' wb fn regs ⟨w.code ++ [x], w.metas, w.starts⟩ S' → (∀ y B, y ∉ S → M y = some B → M' y = some B) → (∀ y ∈ S', y ∈ S ∨ M y = none) → R (.tup []) M') : PC Tryz.prog F_ir_Writer_Put [.mp wb 0, .agg x.c] R M := by
  obtain ⟨dc, dm, sb, Sc, Sm, hM, hc, hm, hs, rfl, hnd⟩ := h
  refine pc_ir_Writer_Put (by simp) ?_
  simp only [S_ir_Writer_Put, R_ir_Writer_Put, MU_ir_Writer_Put, SW, SV, wpD, evDL, evDM, evD, bldLD, wpSp, DMem.mt, beq_self_eq_true, seval]
  intro q M1 hq hM1
  have hqw : q ≠ wb := by rintro rfl; rw [hM] at hq; cases hq
  have hqs : q ≠ sb := by rintro rfl; rw [hs] at hq; cases hq
  have hqc : q ∉ Sc := fun hh => hc.here irE_ok q hh hq
  have hqm : q ∉ Sm := fun hh => hm.here metaE_ok q hh hq
  have hq1 : M1 q = some ⟨50, 9, x.c⟩ := by rw [hM1, DMem.ins_same]
  have k1 : ∀ y B, M y = some B → M1 y = some B := fun y B hB => by rw [hM1, DMem.ins_ne _ _ (by rintro rfl; rw [hq] at hB; cases hB)]; exact hB
  simp only [hq1, SW, SV, wpD, evDL, evDM, evD, bldLD, wpSp, DMem.mt, beq_self_eq_true, seval]
  refine CloneI_pc x.args (by omega) fun d M2 T hd hT fT k2 => ?_
  have hq2 := k2 q _ hq1
  simp only [S1_ir_Writer_Put, MU_ir_Writer_Put, SW, SV, wpD, evDL, evDM, evD, bldLD, wpSp, DMem.mt, beq_self_eq_true, seval]
  refine stD hq2 (hd.cell) rfl (by simp) (by simp) (by simp only [List.all_cons, List.all_nil, hd.plain] <;> rfl) fun M3 hM3 => ?_
  have hqT : q ∉ T := fun hh => by have := fT q hh; rw [hq1] at this; cases this
  have hd3 : SlAt intE M3 d x.args T := hd.frame intE_ok fun b hb => by rw [hM3, DMem.ins_ne _ _ (by rintro rfl; exact hqT hb)]
  have hq3 : M3 q = some ⟨50, 9, [.int .i64 x.kind, .int .i64 x.r, .int .i64 x.a, .int .i64 x.b, .int .i64 x.k, d, .int .i64 x.cost, .int .i64 x.mt, .int .i64 x.pc]⟩ := by rw [hM3, DMem.ins_same] <;> rfl
  have k3 : ∀ y B, M y = some B → M3 y = some B := fun y B hB => by rw [hM3, DMem.ins_ne _ _ (by rintro rfl; rw [hq] at hB; cases hB)]; exact k2 y B (k1 y B hB)
  have fT' : ∀ y ∈ T, M y = none := fun y hy => by
    cases e : M y with
    | none => rfl
    | some B => have := k1 y B e; rw [fT y hy] at this; cases this
  have hc3 : SlAt irE M3 dc w.code Sc := hc.sub irE_ok k3
  have hm3 : SlAt metaE M3 dm w.metas Sm := hm.sub metaE_ok k3
  have hM3w := k3 wb _ hM
  have hM3s := k3 sb _ hs
  clear hM3 hM1 hq1 hq2 hd k2 fT
  simp only [raw0_ir_Writer_Put, P0_ir_Writer_Put, MU_ir_Writer_Put, hM3w, hq3, ldnM, freshI, List.map_cons, List.map_nil, SW, SV, wpD, evDL, evDM, evD, bldLD, wpSp, DMem.mt, beq_self_eq_true, seval]
  have hnd1 := List.nodup_cons.1 hnd
  have hnd2 := List.nodup_cons.1 hnd1.2
  obtain ⟨hnc, hnm, hdis⟩ := List.nodup_append.1 hnd2.2
  have hne : ∀ y ∈ Sc, M y ≠ none := fun y hy => hc.here irE_ok y hy
  refine hc3.app irE_ok hnc (k := 1) (bytes := 88) (ys := [x]) (ds := [.int .i64 x.kind, .int .i64 x.r, .int .i64 x.a, .int .i64 x.b, .int .i64 x.k, d, .int .i64 x.cost, .int .i64 x.mt, .int .i64 x.pc]) (T := T) (RowAt.one ⟨d, rfl, hd3⟩) (fun y hy hh => hne y hh (fT' y hy)) rfl (by omega) (by omega) fun dc' M4 Sc' hc4 k4 hS4 hnd4 => ?_
  have hwS : wb ∉ Sc := fun hh => hnd1.1 (by simp [hh])
  have hsS : sb ∉ Sc := fun hh => hnd2.1 (by simp [hh])
  have hM4w := k4 wb _ hM3w hwS
  try simp only [hM4w, SW, SV, wpD, evDL, evDM, evD, bldLD, wpSp, DMem.mt, beq_self_eq_true, seval]
  refine stD hM4w (hc4.cell) rfl (by simp) (by simp) (by simp only [List.all_cons, List.all_nil, hc4.plain] <;> rfl) fun M5 hM5 => ?_
  have hwT : wb ∉ T := fun hh => by have := fT' wb hh; rw [hM] at this; cases this
  have hsT : sb ∉ T := fun hh => by have := fT' sb hh; rw [hs] at this; cases this
  have hws : wb ≠ sb := by rintro rfl; exact hnd1.1 (by simp)
  have inS : ∀ y ∈ Sc', y ∈ Sc ∨ M y = none := fun y hy => by
    rcases hS4 y hy with h | h | h
    · exact .inl h
    · exact .inr (fT' y h)
    · right
      cases e : M y with
      | none => rfl
      | some B => have := k3 y B e; rw [h] at this; cases this
  have hwS' : wb ∉ Sc' := fun hh => by
    rcases inS wb hh with h | h
    · exact hwS h
    · rw [hM] at h; cases h
  have hsS' : sb ∉ Sc' := fun hh => by
    rcases inS sb hh with h | h
    · exact hsS h
    · rw [hs] at h; cases h
  have hwm : wb ∉ Sm := fun hh => hnd1.1 (by simp [hh])
  have hsm : sb ∉ Sm := fun hh => hnd2.1 (by simp [hh])
  have hmc : ∀ y ∈ Sm, y ∉ Sc := fun y hy hh => hdis y hh y hy rfl
  have hmc' : ∀ y ∈ Sm, y ∉ Sc' := fun y hy hh => by
    rcases inS y hh with h | h
    · exact hmc y hy h
    · exact hm.here metaE_ok y hy h
  try simp only [SW, SV, wpD, evDL, evDM, evD, bldLD, wpSp, DMem.mt, beq_self_eq_true, seval]
  refine hR M5 (wb :: sb :: (Sc' ++ Sm)) ⟨dc', dm, sb, Sc', Sm, by rw [hM5, DMem.ins_same] <;> rfl, ?_, ?_, ?_, rfl, ?_⟩ (fun y B hy hB => ?_) fun y hy => ?_
  · exact hc4.frame irE_ok fun b hb => by rw [hM5, DMem.ins_ne _ _ (by rintro rfl; exact hwS' hb)]
  · exact hm3.frame metaE_ok fun b hb => by
      obtain ⟨B, hB⟩ := Option.ne_none_iff_exists'.1 (hm3.here metaE_ok b hb)
      rw [hM5, DMem.ins_ne _ _ (by rintro rfl; exact hwm hb), hB, k4 b B hB (hmc b hb)]
  · rw [hM5, DMem.ins_ne _ _ (Ne.symm hws)]; exact k4 sb _ hM3s hsS
  · refine List.nodup_cons.2 ⟨?_, List.nodup_cons.2 ⟨?_, List.nodup_append.2 ⟨hnd4 hT, hnm, fun y hy z hz e => hmc' z hz (e ▸ hy)⟩⟩⟩
    · simp [hws, hwS', hwm]
    · simp [hsS', hsm]
  · simp only [List.mem_cons, List.mem_append, not_or] at hy
    rw [hM5, DMem.ins_ne _ _ hy.1]
    exact k4 y B (k3 y B hB) hy.2.2.1
  · simp only [List.mem_cons, List.mem_append] at hy ⊢
    rcases hy with h | h | h | h
    · exact .inl (.inl h)
    · exact .inl (.inr (.inl h))
    · rcases inS y h with h | h
      · exact .inl (.inr (.inr (.inl h)))
      · exact .inr h
    · exact .inl (.inr (.inr (.inr h)))
end Go.Proofs.YticlgdhhnjpkjaaGreatDoor.Pf
namespace Go.Proofs.YticlgdhhnjpkjaaGreatDoor.Pf
open Go Go.RowKit Go.Proofs Go.Proofs.YticlgdhhnjpkjaaGreatDoor.Mw Go.Proofs.YticlgdhhnjpkjaaGreatDoor.Sx
set_option linter.unusedVariables false
set_option linter.unusedSimpArgs false
set_option maxRecDepth 8000
theorem part_drop (l : List Part) {i : Nat} (h : i < l.length) : (l.drop i).flatMap Part.c = [.int .i64 l[i].fn, .int .i64 l[i].pc, slD Src.c l[i].locals, slD Src.c l[i].stack] ++ (l.drop (i + 1)).flatMap Part.c := by
  rw [List.drop_eq_getElem_cons h, List.flatMap_cons]
def SizeM (l : List Part) : Prop := l.length * 64 ≤ 140737488355328 ∧ ∀ x ∈ l, x.locals.length * 16 ≤ 140737488355328 ∧ x.stack.length * 16 ≤ 140737488355328
structure ClP (M : DMem) (d0 : DV) (l : List Part) : Prop where
  plain : plainD d0 = true
  cell : cellsD d0 = some [d0]
  cl : ∀ {M' : DMem}, SubD M M' → ∀ {R : DV → DMem → Prop}, (∀ d M'' S, SlAt partF M'' d l S → S.Nodup → (∀ x ∈ S, M' x = none) → SubD M' M'' → R d M'') → PC Tryz.prog F_slices_Clone_api_Part_api_Part [d0] R M'
theorem ClP.isl {M : DMem} {l : List Part} (hl : l.length * 64 ≤ 140737488355328) : ClP M (slD Part.c l) l := ⟨rfl, rfl, fun _ _ h => CloneP_pc l hl h⟩
theorem ClP.one {M : DMem} {b : Nat} {ty : TypeId} {x : Part} (hM : M b = some ⟨ty, 4, x.c⟩) : ClP M (.msl b 0 1 1) [x] := by
  refine ⟨rfl, rfl, fun {M'} hs {R} hR => ?_⟩
  have hb := hs b _ hM
  refine pc_slices_Clone_api_Part_api_Part (by simp) ?_
  have he : eqzD false (.msl b 0 1 1) = some (.bool false) := rfl
  simp only [S_slices_Clone_api_Part_api_Part, R_slices_Clone_api_Part_api_Part, MU_slices_Clone_api_Part_api_Part, MU_slices_Clone_api_Part_api_Part, he, SW, SV, wpD, evDL, evDM, evD, bldLD, wpSp, DMem.mt, beq_self_eq_true, seval]
  have h := (SlAt.nil (E := partF) (M := M')).app partF_ok List.nodup_nil (e := 69) (bytes := 64) (ys := [x]) (ds := x.c) (T := []) (k := 1) (RowAt.one ⟨rfl, rfl⟩) (fun x hx => by simp at hx) rfl (by simp) (by simp) (Post := R) fun d' M' S' h1 h2 h3 h4 => hR d' M' S' (by simpa using h1) (h4 List.nodup_nil) (fun x hx => by
      rcases h3 x hx with h | h | h
      · simp at h
      · simp at h
      · exact h) fun b B hB => h2 b B hB (by simp)
  obtain ⟨k, news, hr, h'⟩ := h
  refine ⟨k, news, ?_, h'⟩
  obtain ⟨h1, h2, h3, h4⟩ := hr
  subst h1
  exact ⟨rfl, _, hb, by simp, by rw [h4] <;> rfl⟩
theorem CopyMeta_pc {M : DMem} {d0 : DV} (l : List Part) (hl : SizeM l) (hC : ClP M d0 l) {R : DV → DMem → Prop}
    (hR : ∀ d M' S, SlAt partE M' d l S → S.Nodup → (∀ x ∈ S, M x = none) → SubD M M' → R (.agg [d]) M') : PC Tryz.prog F_ir_CopyMeta [.agg [d0]] R M := by
  refine pc_ir_CopyMeta (by simp) ?_
  simp only [S_ir_CopyMeta, R_ir_CopyMeta, MU_ir_CopyMeta, SW, SV, wpD, evDL, evDM, evD, bldLD, wpSp, DMem.mt, beq_self_eq_true, seval]
  intro o M1 ho hM1
  try simp only [SW, SV, wpD, evDL, evDM, evD, bldLD, wpSp, DMem.mt, beq_self_eq_true, seval]
  intro r M2 hr hM2
  have hor : o ≠ r := by rintro rfl; rw [hM1, DMem.ins_same] at hr; cases hr
  have ho2 : M2 o = some ⟨79, 1, [d0]⟩ := by rw [hM2, DMem.ins_ne _ _ hor, hM1, DMem.ins_same]
  have hr2 : M2 r = some ⟨79, 1, [.zsl]⟩ := by rw [hM2, DMem.ins_same]
  have hoM : M o = none := ho
  have hrM : M r = none := by rw [hM1, DMem.ins_ne _ _ (Ne.symm hor)] at hr; exact hr
  have k2 : ∀ x B, M x = some B → M2 x = some B := fun x B hB => by
    rw [hM2, DMem.ins_ne _ _ (by rintro rfl; rw [hrM] at hB; cases hB), hM1, DMem.ins_ne _ _ (by rintro rfl; rw [hoM] at hB; cases hB)]; exact hB
  clear hM1 hM2 ho hr
  simp only [ho2, SW, SV, wpD, evDL, evDM, evD, bldLD, wpSp, DMem.mt, beq_self_eq_true, seval]
  refine hC.cl k2 fun d M3 S0 hd nd0 f0 k3 => ?_
  have ho3 := k3 o _ ho2
  have hr3 := k3 r _ hr2
  simp only [S3_ir_CopyMeta, MU_ir_CopyMeta, SW, SV, wpD, evDL, evDM, evD, bldLD, wpSp, DMem.mt, beq_self_eq_true, seval]
  refine stD ho3 (hd.cell) rfl (by simp) (by simp) (by simp only [List.all_cons, List.all_nil, hd.plain] <;> rfl) fun M4 hM4 => ?_
  have ho4 : M4 o = some ⟨79, 1, [d]⟩ := by rw [hM4, DMem.ins_same] <;> rfl
  have hr4 : M4 r = some ⟨79, 1, [.zsl]⟩ := by rw [hM4, DMem.ins_ne _ _ (Ne.symm hor)]; exact hr3
  have hoS0 : o ∉ S0 := fun hh => by have := f0 o hh; rw [ho2] at this; cases this
  have hrS0 : r ∉ S0 := fun hh => by have := f0 r hh; rw [hr2] at this; cases this
  have hd4 : SlAt partF M4 d l S0 := hd.frame partF_ok fun b hb => by rw [hM4, DMem.ins_ne _ _ (by rintro rfl; exact hoS0 hb)]
  have k4 : ∀ x B, M x = some B → M4 x = some B := fun x B hB => by rw [hM4, DMem.ins_ne _ _ (by rintro rfl; rw [hoM] at hB; cases hB)]; exact k3 x B (k2 x B hB)
  have fM : ∀ x ∈ S0, M x = none := fun x hx => by
    cases e : M x with
    | none => rfl
    | some B => have := k2 x B e; rw [f0 x hx] at this; cases this
  clear hM4 ho3 hr3 hd f0 k3 k2
  simp only [ho4, hd4.lenD, SW, SV, wpD, evDL, evDM, evD, bldLD, wpSp, DMem.mt, beq_self_eq_true, seval]
  rcases Nat.eq_zero_or_pos l.length with h0 | h0
  · have hl0 : l = [] := List.eq_nil_of_length_eq_zero h0
    subst hl0
    have hdE : SlAt partE M4 d [] S0 := by
      rcases hd4 with ⟨h, h1, h2⟩ | ⟨b, c, ty, cs, S', h, h1, h2, h3, h4, h5⟩
      · exact .inl ⟨h, h1, h2⟩
      · exact .inr ⟨b, c, ty, cs, S', h, h1, h2, h3, h4, h5⟩
    refine ⟨fun n δ M' => n = 0 ∧ δ 1 = .mp o 0 ∧ δ 2 = .mp r 0 ∧ δ 10 = .int .i64 0 ∧ δ 11 = .int .i64 0 ∧ M' = M4, 0, ⟨rfl, rfl, rfl, rfl, rfl, rfl⟩, ?_⟩
    rintro n δ M' ⟨rfl, h1, h2, h10, h11, rfl⟩
    simp only [S1_ir_CopyMeta, S2_ir_CopyMeta, MU_ir_CopyMeta, h1, h2, h10, h11, ho4, hr4, SW, SV, wpD, evDL, evDM, evD, bldLD, wpSp, DMem.mt, beq_self_eq_true, seval]
    have hrC : cellsD (.agg [d]) = some [d] := rfl
    refine stD hr4 hrC rfl (by simp) (by simp) (by simp only [List.all_cons, List.all_nil, hd4.plain] <;> rfl) fun M9 hM9 => ?_
    have hM9r : M9 r = some ⟨79, 1, [d]⟩ := by rw [hM9, DMem.ins_same] <;> rfl
    have n9 : ∀ x, x ≠ r → M9 x = M' x := fun x hx => by rw [hM9, DMem.ins_ne _ _ hx]
    refine ⟨_, by rw [hM9r] <;> rfl, hR _ M9 S0 (hdE.frame partE_ok fun x hx => n9 x (by rintro rfl; exact hrS0 hx)) nd0 fM ?_⟩
    intro x B hB
    rw [n9 x (by rintro rfl; rw [hrM] at hB; cases hB)]
    exact k4 x B hB
  · obtain ⟨b, c, ty, cs, S', hdb, hMb, hrow, hSe, hcl⟩ := hd4.at h0
    obtain ⟨rfl, rfl⟩ := RowAt.flat_eq hrow
    subst hdb; subst hSe
    refine ⟨fun n δ M' => ∃ (i : Nat) (c1 : List DV) (S1 : List Nat), i ≤ l.length ∧ n = l.length - i ∧ δ 1 = .mp o 0 ∧ δ 2 = .mp r 0 ∧ δ 10 = .int .i64 l.length ∧ δ 11 = .int .i64 i ∧
      M' o = some ⟨79, 1, [.msl b 0 l.length c]⟩ ∧ M' r = some ⟨79, 1, [.zsl]⟩ ∧ M' b = some ⟨ty, c * 4, c1 ++ (l.drop i).flatMap Part.c⟩ ∧ RowAt partE M' (l.take i) c1 S1 ∧ S1.Nodup ∧ (∀ x ∈ S1, M4 x = none) ∧ SubD M M' ∧ (∀ x, M' x = none → M4 x = none), l.length,
      ⟨0, [], [], Nat.zero_le _, rfl, rfl, rfl, rfl, rfl, ho4, hr4, hMb, RowAt.nil, List.nodup_nil, fun x hx => by simp at hx, k4, fun x h => h⟩, ?_⟩
    rintro n δ M' ⟨i, c1, S1, hi, rfl, h1, h2, h10, h11, hMo, hMr, hMb', hr1, nd1, f1, hsub, z1⟩
    simp only [S1_ir_CopyMeta, MU_ir_CopyMeta, raw0_ir_CopyMeta, P0_ir_CopyMeta, h1, h2, h10, h11, hMo, SW, SV, wpD, evDL, evDM, evD, bldLD, wpSp, DMem.mt, beq_self_eq_true, seval, decide_eq_true_eq, decide_eq_false_iff_not]
    refine ⟨fun hlt => ?_, fun hge => ?_⟩
    · have hil : i < l.length := by omega
      have hlc : c1.length = i * 4 := by have := hr1.len partE_ok; rw [List.length_take, Nat.min_eq_left hi] at this; exact this
      rw [part_drop l hil, ← List.append_assoc] at hMb'
      have ge : ∀ {off : Nat} {v : DV} {cx : List DV} {K : DMem}, K b = some ⟨ty, c * 4, c1 ++ cx ++ (l.drop (i + 1)).flatMap Part.c⟩ → off < cx.length → cx[off]? = some v → ldD K (.mp b (0 + i * 4 + off)) = some v := fun {off v cx K} h1 h2 h3 => by
        rw [ldM, h1]; show (c1 ++ cx ++ _)[0 + i * 4 + off]? = _; rw [Nat.zero_add, get_field hlc h2]; exact h3
      refine ⟨_, ixM hil, _, rfl, _, ge hMb' (by simp) rfl, _, ixM hil, _, rfl, _, ge hMb' (by simp) rfl, ixM hil, rfl, ge hMb' (by simp) rfl, ixM hil, rfl, ge hMb' (by simp) rfl, CloneS_pc _ (hl.2 _ (List.getElem_mem hil)).1 fun dA M5 SA hA ndA fA kA => ?_⟩
      have hMo5 := kA o _ hMo
      have hMr5 := kA r _ hMr
      have hMb5 := kA b _ hMb'
      refine ⟨by rw [hMo5] <;> rfl, by rw [hMo5] <;> rfl, by rw [hMo5] <;> rfl, ixM hil, rfl, ge hMb5 (by simp) rfl, CloneS_pc _ (hl.2 _ (List.getElem_mem hil)).2 fun dB M6 SB hB ndB fB kB => ?_⟩
      have hMo6 := kB o _ hMo5
      have hMr6 := kB r _ hMr5
      have hMb6 := kB b _ hMb5
      refine ⟨_, ixM hil, _, rfl, by rw [hMo6] <;> rfl, by rw [hMo6] <;> rfl, ixM hil, rfl, ?_⟩
      have hbo : b ≠ o := by rintro rfl; exact hoS0 (by simp)
      have hbr : b ≠ r := by rintro rfl; exact hrS0 (by simp)
      refine stD hMb6 hA.cell rfl (by simp [hlc]) (by omega) (by simp only [List.all_cons, List.all_nil, hA.plain] <;> rfl) fun M7 hM7 => ?_
      rw [Nat.zero_add, splD_field hlc (by simp)] at hM7
      have hMb7 : M7 b = some ⟨ty, c * 4, c1 ++ [.int .i64 l[i].fn, .int .i64 l[i].pc, dA, slD Src.c l[i].stack] ++ (l.drop (i + 1)).flatMap Part.c⟩ := by rw [hM7, DMem.ins_same] <;> rfl
      have n7 : ∀ x, x ≠ b → M7 x = M6 x := fun x hx => by rw [hM7, DMem.ins_ne _ _ hx]
      refine ⟨_, ixM hil, _, rfl, by rw [n7 o (Ne.symm hbo), hMo6] <;> rfl, ixM hil, rfl, ?_⟩
      refine stD hMb7 hB.cell rfl (by simp [hlc]) (by omega) (by simp only [List.all_cons, List.all_nil, hB.plain] <;> rfl) fun M8 hM8 => ?_
      rw [Nat.zero_add, splD_field hlc (by simp)] at hM8
      have hMb8 : M8 b = some ⟨ty, c * 4, c1 ++ [.int .i64 l[i].fn, .int .i64 l[i].pc, dA, dB] ++ (l.drop (i + 1)).flatMap Part.c⟩ := by rw [hM8, DMem.ins_same] <;> rfl
      have n8 : ∀ x, x ≠ b → M8 x = M6 x := fun x hx => by rw [hM8, DMem.ins_ne _ _ hx, n7 x hx]
      clear hM7 hM8 hMb7 n7
      have bA : b ∉ SA := fun hh => by have := fA b hh; rw [hMb'] at this; cases this
      have bB : b ∉ SB := fun hh => by have := fB b hh; rw [hMb5] at this; cases this
      have b1 : b ∉ S1 := fun hh => by have := f1 b hh; rw [hMb] at this; cases this
      have hA6 : SlAt srcE M6 dA l[i].locals SA := hA.sub srcE_ok kB
      have hr6 : RowAt partE M6 (l.take i) c1 S1 := hr1.frame partE_ok fun x hx => by
        cases e : M' x with
        | none => exact absurd e (hr1.here partE_ok x hx)
        | some B => exact kB x B (kA x B e)
      have sA : ∀ x ∈ S1, x ∉ SA := fun x hx hh => hr1.here partE_ok x hx (fA x hh)
      have sB : ∀ x ∈ S1, x ∉ SB := fun x hx hh => by
        cases e : M' x with
        | none => exact hr1.here partE_ok x hx e
        | some B => have := kA x B e; rw [fB x hh] at this; cases this
      have sAB : ∀ x ∈ SA, x ∉ SB := fun x hx hh => hA.here srcE_ok x hx (fB x hh)
      have kM : SubD M M6 := fun x B h => kB x B (kA x B (hsub x B h))
      refine ⟨l.length - (i + 1), M8, by omega, SubD.refl _, i + 1, c1 ++ [.int .i64 l[i].fn, .int .i64 l[i].pc, dA, dB], S1 ++ (SA ++ SB), by omega, rfl, w64s (by have := hl.1; omega), by rw [n8 o (Ne.symm hbo), hMo6], by rw [n8 r (Ne.symm hbr), hMr6], hMb8, ?_, ?_, ?_, ?_, ?_⟩
      · rw [show l.take (i + 1) = l.take i ++ [l[i]] by rw [List.take_succ_eq_append_getElem hil]]
        refine RowAt.append (hr6.frame partE_ok fun x hx => n8 x (by rintro rfl; exact b1 hx)) (RowAt.one ⟨dA, dB, SA, SB, rfl, ?_, ?_, rfl⟩)
        · exact hA6.frame srcE_ok fun x hx => n8 x (by rintro rfl; exact bA hx)
        · exact hB.frame srcE_ok fun x hx => n8 x (by rintro rfl; exact bB hx)
      · refine List.nodup_append.2 ⟨nd1, List.nodup_append.2 ⟨ndA, ndB, fun x hx y hy e => sAB x hx (e ▸ hy)⟩, fun x hx y hy e => ?_⟩
        subst e
        rcases List.mem_append.1 hy with h | h
        · exact sA x hx h
        · exact sB x hx h
      · intro x hx
        rcases List.mem_append.1 hx with h | h
        · exact f1 x h
        rcases List.mem_append.1 h with h | h
        · exact z1 x (fA x h)
        · refine z1 x ?_
          cases e : M' x with
          | none => rfl
          | some B => have := kA x B e; rw [fB x h] at this; cases this
      · intro x B hB
        rw [n8 x (by rintro rfl; rw [fM x (by simp)] at hB; cases hB)]
        exact kM x B hB
      · intro x hx
        by_cases hxb : x = b
        · subst hxb; rw [hMb8] at hx; cases hx
        · rw [n8 x hxb] at hx
          refine z1 x ?_
          cases e : M' x with
          | none => rfl
          | some B => have := kB x B (kA x B e); rw [hx] at this; cases this
    · have : i = l.length := by omega
      subst this
      simp only [S2_ir_CopyMeta, h1, h2, hMo, hMr, SW, SV, wpD, evDL, evDM, evD, bldLD, wpSp, DMem.mt, beq_self_eq_true, seval]
      refine stD hMr (cs := [.msl b 0 l.length c]) rfl rfl (by simp) (by simp) rfl fun M9 hM9 => ?_
      have hM9r : M9 r = some ⟨79, 1, [.msl b 0 l.length c]⟩ := by rw [hM9, DMem.ins_same] <;> rfl
      have n9 : ∀ x, x ≠ r → M9 x = M' x := fun x hx => by rw [hM9, DMem.ins_ne _ _ hx]
      refine ⟨_, by rw [hM9r] <;> rfl, hR _ M9 (b :: S1) ?_ ?_ ?_ ?_⟩
      · have hrS1 : r ∉ S1 := fun hh => by have := f1 r hh; rw [hr4] at this; cases this
        have hbr : b ≠ r := by rintro rfl; exact hrS0 (by simp)
        refine .inr ⟨b, c, ty, c1, S1, rfl, by rw [n9 b hbr, hMb', List.drop_length, List.flatMap_nil, List.append_nil] <;> rfl, ?_, rfl, hcl, by omega⟩
        rw [List.take_length] at hr1
        exact hr1.frame partE_ok fun x hx => n9 x (by rintro rfl; exact hrS1 hx)
      · exact List.nodup_cons.2 ⟨fun hh => (by have := f1 b hh; rw [hMb] at this; cases this), nd1⟩
      · intro x hx
        rcases List.mem_cons.1 hx with rfl | h
        · exact fM x (by simp)
        · have := f1 x h
          cases e : M x with
          | none => rfl
          | some B => have h2 := k4 x B e; rw [this] at h2; cases h2
      · intro x B hB
        rw [n9 x (by rintro rfl; rw [hrM] at hB; cases hB)]
        exact hsub x B hB
end Go.Proofs.YticlgdhhnjpkjaaGreatDoor.Pf
namespace Go.Proofs.YticlgdhhnjpkjaaGreatDoor.Pf
open Go Go.RowKit Go.Proofs Go.Proofs.YticlgdhhnjpkjaaGreatDoor.Mw Go.Proofs.YticlgdhhnjpkjaaGreatDoor.Sx
set_option linter.unusedVariables false
set_option linter.unusedSimpArgs false
set_option maxRecDepth 8000
theorem Meta_pc {M : DMem} {wb : Nat} {fn regs : Int} {w : Low} {S : List Nat} (h : WrAt M wb fn regs w S) {d0 : DV} (l : List Part) (hl : SizeM l) (hC : ClP M d0 l) (hlm : w.metas.length ≤ 100000) {R : DV → DMem → Prop}
    (hR : ∀ M' S', WrAt M' wb fn regs ⟨w.code, w.metas ++ [l], w.starts⟩ S' → (∀ y B, y ∉ S → M y = some B → M' y = some B) → (∀ y ∈ S', y ∈ S ∨ M y = none) → R (.int .i64 w.metas.length) M') : PC Tryz.prog F_ir_Writer_Meta [.mp wb 0, d0] R M := by
  obtain ⟨dc, dm, sb, Sc, Sm, hM, hc, hm, hs, rfl, hnd⟩ := h
  refine pc_ir_Writer_Meta (by simp) ?_
  simp only [S_ir_Writer_Meta, R_ir_Writer_Meta, MU_ir_Writer_Meta, SW, SV, wpD, evDL, evDM, evD, bldLD, wpSp, DMem.mt, beq_self_eq_true, seval]
  simp only [raw0_ir_Writer_Meta, P0_ir_Writer_Meta, MU_ir_Writer_Meta, hM, hC.cell, ldnM, freshI, List.map_cons, List.map_nil, SW, SV, wpD, evDL, evDM, evD, bldLD, wpSp, DMem.mt, beq_self_eq_true, seval]
  have hnd1 := List.nodup_cons.1 hnd
  have hnd2 := List.nodup_cons.1 hnd1.2
  obtain ⟨hnc, hnm, hdis⟩ := List.nodup_append.1 hnd2.2
  refine CopyMeta_pc l hl hC fun d M3 T hd hT fT' k3 => ?_
  have hM3w := k3 wb _ hM
  have hM3s := k3 sb _ hs
  have hc3 : SlAt irE M3 dc w.code Sc := hc.sub irE_ok k3
  have hm3 : SlAt metaE M3 dm w.metas Sm := hm.sub metaE_ok k3
  have hne : ∀ y ∈ Sm, M y ≠ none := fun y hy => hm.here metaE_ok y hy
  have hcd : cellsD (.agg [d]) = some [d] := rfl
  simp only [hcd, hM3w, SW, SV, wpD, evDL, evDM, evD, bldLD, wpSp, DMem.mt, beq_self_eq_true, seval]
  refine hm3.app metaE_ok hnm (k := 1) (bytes := 24) (ys := [l]) (ds := [d]) (T := T) (RowAt.one ⟨d, rfl, hd⟩) (fun y hy hh => hne y hh (fT' y hy)) rfl (by omega) (by omega) fun dm' M4 Sm' hm4 k4 hS4 hnd4 => ?_
  have hwS : wb ∉ Sm := fun hh => hnd1.1 (by simp [hh])
  have hsS : sb ∉ Sm := fun hh => hnd2.1 (by simp [hh])
  have hM4w := k4 wb _ hM3w hwS
  refine stD hM4w (hm4.cell) rfl (by simp) (by simp) (by simp only [List.all_cons, List.all_nil, hm4.plain] <;> rfl) fun M5 hM5 => ?_
  have hM5w : M5 wb = some ⟨99, 5, [.int .i64 fn, .int .i64 regs, dc, dm', .msl sb 0 w.starts.length w.starts.length]⟩ := by rw [hM5, DMem.ins_same] <;> rfl
  have hwT : wb ∉ T := fun hh => by have := fT' wb hh; rw [hM] at this; cases this
  have hsT : sb ∉ T := fun hh => by have := fT' sb hh; rw [hs] at this; cases this
  have hws : wb ≠ sb := by rintro rfl; exact hnd1.1 (by simp)
  have inS : ∀ y ∈ Sm', y ∈ Sm ∨ M y = none := fun y hy => by
    rcases hS4 y hy with h | h | h
    · exact .inl h
    · exact .inr (fT' y h)
    · right
      cases e : M y with
      | none => rfl
      | some B => have := k3 y B e; rw [h] at this; cases this
  have hwS' : wb ∉ Sm' := fun hh => by
    rcases inS wb hh with h | h
    · exact hwS h
    · rw [hM] at h; cases h
  have hsS' : sb ∉ Sm' := fun hh => by
    rcases inS sb hh with h | h
    · exact hsS h
    · rw [hs] at h; cases h
  have hwc : wb ∉ Sc := fun hh => hnd1.1 (by simp [hh])
  have hsc : sb ∉ Sc := fun hh => hnd2.1 (by simp [hh])
  have hcm : ∀ y ∈ Sc, y ∉ Sm := fun y hy hh => hdis y hy y hh rfl
  have hcm' : ∀ y ∈ Sc, y ∉ Sm' := fun y hy hh => by
    rcases inS y hh with h | h
    · exact hcm y hy h
    · exact hc.here irE_ok y hy h
  have hm5 : SlAt metaE M5 dm' (w.metas ++ [l]) Sm' := hm4.frame metaE_ok fun b hb => by rw [hM5, DMem.ins_ne _ _ (by rintro rfl; exact hwS' hb)]
  have ew : wr64 (((w.metas ++ [l]).length : Int) - 1) = w.metas.length := by rw [w64 (by simp; omega)]; simp
  simp only [S1_ir_Writer_Meta, MU_ir_Writer_Meta, hM5w, hm5.lenD, ew, SW, SV, wpD, evDL, evDM, evD, bldLD, wpSp, DMem.mt, beq_self_eq_true, seval]
  refine hR M5 (wb :: sb :: (Sc ++ Sm')) ⟨dc, dm', sb, Sc, Sm', hM5w, ?_, hm5, ?_, rfl, ?_⟩ (fun y B hy hB => ?_) fun y hy => ?_
  · exact hc3.frame irE_ok fun b hb => by
      obtain ⟨B, hB⟩ := Option.ne_none_iff_exists'.1 (hc3.here irE_ok b hb)
      rw [hM5, DMem.ins_ne _ _ (by rintro rfl; exact hwc hb), hB, k4 b B hB (hcm b hb)]
  · rw [hM5, DMem.ins_ne _ _ (Ne.symm hws)]; exact k4 sb _ hM3s hsS
  · refine List.nodup_cons.2 ⟨?_, List.nodup_cons.2 ⟨?_, List.nodup_append.2 ⟨hnc, hnd4 hT, fun y hy z hz e => hcm' y hy (e ▸ hz)⟩⟩⟩
    · simp [hws, hwS', hwc]
    · simp [hsS', hsc]
  · simp only [List.mem_cons, List.mem_append, not_or] at hy
    rw [hM5, DMem.ins_ne _ _ hy.1]
    exact k4 y B (k3 y B hB) hy.2.2.2
  · simp only [List.mem_cons, List.mem_append] at hy ⊢
    rcases hy with h | h | h | h
    · exact .inl (.inl h)
    · exact .inl (.inr (.inl h))
    · exact .inl (.inr (.inr (.inl h)))
    · rcases inS y h with h | h
      · exact .inl (.inr (.inr (.inr h)))
      · exact .inr h
end Go.Proofs.YticlgdhhnjpkjaaGreatDoor.Pf
namespace Go.Proofs.YticlgdhhnjpkjaaGreatDoor.Pf
open Go Go.RowKit Go.Proofs Go.Proofs.YticlgdhhnjpkjaaGreatDoor.Mw Go.Proofs.YticlgdhhnjpkjaaGreatDoor.Sx
set_option linter.unusedVariables false
set_option linter.unusedSimpArgs false
set_option maxRecDepth 8000
theorem Goes_pf (k : Int) : pf Tryz.prog F_ir_Goes [.int .i64 k] = some (.bool (goesB k)) := by
  refine pf_of (v := .bool _) (pc_ir_Goes (by simp) ?_) ((FrozL.nil).cons (Froz.int _ _)) rfl rfl
  simp only [S_ir_Goes, R_ir_Goes, MU_ir_Goes, MU_ir_Goes, SW, SV, wpD, evDL, evDM, evD, bldLD, wpSp, DMem.mt, beq_self_eq_true, seval, goesB]
theorem half_set {α : Type} (f : α → α) (l : List α) {i : Nat} (h : i < l.length) : ((l.take i).map f ++ l.drop i).set i (f l[i]) = (l.take (i + 1)).map f ++ l.drop (i + 1) := by
  have e : ((l.take i).map f).length = i := by rw [List.length_map, List.length_take, Nat.min_eq_left (by omega)]
  rw [List.set_append_right _ _ (by omega), e, Nat.sub_self, List.drop_eq_getElem_cons h, List.set_cons_zero, List.take_succ_eq_append_getElem h, List.map_append]
  simp
theorem half_get {α : Type} (f : α → α) (l : List α) {i : Nat} (h : i < l.length) (h' : i < ((l.take i).map f ++ l.drop i).length) : ((l.take i).map f ++ l.drop i)[i] = l[i] := by
  have e : ((l.take i).map f).length = i := by rw [List.length_map, List.length_take, Nat.min_eq_left (by omega)]
  rw [List.getElem_append_right (by omega)]
  simp only [e, Nat.sub_self, List.getElem_drop, Nat.add_zero]
theorem half_len {α : Type} (f : α → α) (l : List α) {i : Nat} (h : i ≤ l.length) : ((l.take i).map f ++ l.drop i).length = l.length := by
  simp; omega
theorem Done_pc {M : DMem} {wb : Nat} {fn regs : Int} {w : Low} {S : List Nat} (h : WrAt M wb fn regs w S) (hl : w.code.length ≤ 100000) (hlm : w.metas.length ≤ 100000) (hk : ∀ x ∈ w.code, goesB x.kind = true → 0 ≤ x.k ∧ x.k < w.starts.length) {R : DV → DMem → Prop}
    (hR : ∀ dc dm M' Sc Sm, SlAt irE M' dc (w.code.map (placed w.starts)) Sc → SlAt metaE M' dm w.metas Sm → (Sc ++ Sm).Nodup → (∀ y ∈ Sc ++ Sm, y ∈ S) → (∀ y B, y ∉ S → M y = some B → M' y = some B) →
      R (.tup [.agg [.int .i64 fn, .int .i64 regs, dc, dm], .bool (decide (w.code.length ≤ 256) && decide (w.metas.length ≤ 64))]) M') : PC Tryz.prog F_ir_Writer_Done [.mp wb 0] R M := by
  obtain ⟨dc, dm, sb, Sc, Sm, hM, hc, hm, hs, rfl, hnd⟩ := h
  refine pc_ir_Writer_Done (by simp) ?_
  simp only [S_ir_Writer_Done, R_ir_Writer_Done, MU_ir_Writer_Done, SW, SV, wpD, evDL, evDM, evD, bldLD, wpSp, DMem.mt, beq_self_eq_true, seval]
  intro q M1 hq hM1
  have hqM : M q = none := hq
  have hwM := hM
  have hnd1 := List.nodup_cons.1 hnd
  have hnd2 := List.nodup_cons.1 hnd1.2
  obtain ⟨hnc, hnm, hdis⟩ := List.nodup_append.1 hnd2.2
  have hws : wb ≠ sb := by rintro rfl; exact hnd1.1 (by simp)
  have hwc : wb ∉ Sc := fun hh => hnd1.1 (by simp [hh])
  have hsc : sb ∉ Sc := fun hh => hnd2.1 (by simp [hh])
  have k1 : SubD M M1 := fun y B hB => by rw [hM1, DMem.ins_ne _ _ (by rintro rfl; rw [hqM] at hB; cases hB)]; exact hB
  have hq1 : M1 q = some ⟨29, 4, [.int .i64 0, .int .i64 0, .zsl, .zsl]⟩ := by rw [hM1, DMem.ins_same]
  have hM1w := k1 wb _ hM
  have hM1s := k1 sb _ hs
  have hc1 : SlAt irE M1 dc w.code Sc := hc.sub irE_ok k1
  have hqc : q ∉ Sc := fun hh => hc.here irE_ok q hh hqM
  have hqm : q ∉ Sm := fun hh => hm.here metaE_ok q hh hqM
  have hqw : q ≠ wb := by rintro rfl; rw [hM] at hqM; cases hqM
  have hqs : q ≠ sb := by rintro rfl; rw [hs] at hqM; cases hqM
  clear hM1 hq
  simp only [hM1w, hc1.lenD, SW, SV, wpD, evDL, evDM, evD, bldLD, wpSp, DMem.mt, beq_self_eq_true, seval]
  refine ⟨fun n δ M' => ∃ (i : Nat), i ≤ w.code.length ∧ n = w.code.length - i ∧ δ 0 = .mp wb 0 ∧ δ 2 = .mp q 0 ∧ δ 3 = .bool false ∧ δ 11 = .int .i64 w.code.length ∧ δ 12 = .int .i64 i ∧
      SlAt irE M' dc ((w.code.take i).map (placed w.starts) ++ w.code.drop i) Sc ∧ (∀ y, y ∉ Sc → M' y = M1 y), w.code.length,
    ⟨0, Nat.zero_le _, rfl, rfl, rfl, rfl, rfl, rfl, by simpa using hc1, fun y _ => rfl⟩, ?_⟩
  rintro n δ M' ⟨i, hi, rfl, h0, h2, h3, h11, h12, hci, hkeep⟩
  have hMw := (hkeep wb hwc).trans hM1w
  have hMs := (hkeep sb hsc).trans hM1s
  have hMq := (hkeep q hqc).trans hq1
  simp only [S1_ir_Writer_Done, MU_ir_Writer_Done, h0, h2, h11, h12, hMw, SW, SV, wpD, evDL, evDM, evD, bldLD, wpSp, DMem.mt, beq_self_eq_true, seval, decide_eq_true_eq, decide_eq_false_iff_not]
  refine ⟨fun hlt => ?_, fun hge => ?_⟩
  · have hil : i < w.code.length := by omega
    have hlen := half_len (placed w.starts) w.code hi
    have hx := half_get (placed w.starts) w.code hil (by rw [hlen]; exact hil)
    obtain ⟨b, c, ty, c1, cx, c2, S1, Sx, S2, hd, hMb, hl1, hlx, ⟨da, hcx, hda⟩, hSe, hcl, _, hput⟩ := hci.inner irE_ok hnc (i := i) (by rw [hlen]; exact hil)
    rw [hlen] at hd hcl
    rw [hx] at hcx hda
    subst hcx
    have hl1 : c1.length = i * 9 := hl1
    have ge : ∀ {off : Nat} {v : DV} {cx : List DV}, M' b = some ⟨ty, c * 9, c1 ++ cx ++ c2⟩ → off < cx.length → cx[off]? = some v → ldD M' (.mp b (i * 9 + off)) = some v := fun {off v cx} h1 h2 h3 => by
      rw [ldM, h1]; show (c1 ++ cx ++ _)[i * 9 + off]? = _; rw [get_field hl1 h2]; exact h3
    have hix : ixD 9 dc (.int .i64 (i : Int)) = some (.mp b (i * 9)) := by rw [hd, ixM hil, Nat.zero_add]
    have hg0 := ge hMb (off := 0) (by simp) rfl
    have hg4 := ge hMb (off := 4) (by simp) rfl
    have hbS : b ∈ Sc := by rw [hSe]; simp
    simp only [Nat.add_zero] at hg0
    have ei : wr64 ((i : Int) + 1) = ((i + 1 : Nat) : Int) := w64s (by omega)
    simp only [hix, hg0, Goes_pf, Nat.add_zero, fz_int, List.map_cons, List.map_nil, SW, SV, wpD, evDL, evDM, evD, bldLD, wpSp, DMem.mt, beq_self_eq_true, seval]
    cases hgo : goesB w.code[i].kind with
    | true =>
      obtain ⟨hk0, hk1⟩ := hk _ (List.getElem_mem hil) hgo
      obtain ⟨kn, hkn⟩ := Int.eq_ofNat_of_zero_le hk0
      have hkl : kn < w.starts.length := by omega
      rw [hkn] at hg4
      simp only [raw0_ir_Writer_Done, P0_ir_Writer_Done, MU_ir_Writer_Done, h0, h2, h3, h11, h12, hMw, hMs, hg4, ixM hkl, ei, SW, SV, wpD, evDL, evDM, evD, bldLD, wpSp, DMem.mt, beq_self_eq_true, seval]
      have hgs : (w.starts.map (DV.int .i64))[kn]? = some (.int .i64 w.starts[kn]) := by simp [hkl]
      refine ⟨_, hgs, hgs, ?_⟩
      refine stD hMb rfl rfl (by simp [hl1]) (by show i * 9 + 4 + 1 ≤ c * 9; omega) rfl fun M2 hM2 => ?_
      rw [splD_field hl1 (by simp)] at hM2
      refine ⟨w.code.length - (i + 1), M2, by omega, SubD.refl _, i + 1, by omega, rfl, rfl, ?_, fun y hy => ?_⟩
      · rw [← half_set (placed w.starts) w.code hil]
        have hpl : placed w.starts w.code[i] = { w.code[i] with k := w.starts[kn] } := by
          unfold placed
          rw [hgo, if_pos rfl]
          congr 1
          rw [hkn]; simp [hkl]
        refine hput M2 (placed w.starts w.code[i]) _ ?_ hM2
        rw [hpl]
        exact ⟨da, rfl, hda⟩
      · rw [hM2, DMem.ins_ne _ _ (by rintro rfl; exact hy hbS)]; exact hkeep y hy
    | false =>
      simp only [h0, h2, h3, h11, h12, ei, SW, SV, wpD, evDL, evDM, evD, bldLD, wpSp, DMem.mt, beq_self_eq_true, seval]
      refine ⟨w.code.length - (i + 1), M', by omega, SubD.refl _, i + 1, by omega, rfl, rfl, ?_, hkeep⟩
      have hpl : placed w.starts w.code[i] = w.code[i] := by unfold placed; rw [hgo] <;> rfl
      rw [← half_set (placed w.starts) w.code hil, hpl]
      rw [show (List.map (placed w.starts) (List.take i w.code) ++ List.drop i w.code).set i w.code[i] = List.map (placed w.starts) (List.take i w.code) ++ List.drop i w.code by
        conv => lhs; arg 3; rw [← hx]
        exact List.set_getElem_self _]
      exact hci
  · have : i = w.code.length := by omega
    subst this
    rw [List.take_length, List.drop_length, List.append_nil] at hci
    have hmm : SlAt metaE M' dm w.metas Sm := (hm.sub metaE_ok k1).frame metaE_ok fun y hy => hkeep y fun hh => hdis y hh y hy rfl
    have hlen : (w.code.map (placed w.starts)).length = w.code.length := List.length_map ..
    have fin : ∀ (x : Bool) (M2 : DMem), M2 = M'.ins q ⟨29, 4, [.int .i64 fn, .int .i64 regs, dc, dm]⟩ → x = (decide (w.code.length ≤ 256) && decide (w.metas.length ≤ 64)) → R (.tup [.agg [.int .i64 fn, .int .i64 regs, dc, dm], .bool x]) M2 := by
      rintro x M2 hM2 rfl
      refine hR dc dm M2 Sc Sm (hci.frame irE_ok fun y hy => ?_) (hmm.frame metaE_ok fun y hy => ?_) (List.nodup_append.2 ⟨hnc, hnm, hdis⟩) (fun y hy => by simp only [List.mem_cons]; exact .inr (.inr hy)) fun y B hy hB => ?_
      · rw [hM2, DMem.ins_ne _ _ (by rintro rfl; exact hqc hy)]
      · rw [hM2, DMem.ins_ne _ _ (by rintro rfl; exact hqm hy)]
      · rw [hM2, DMem.ins_ne _ _ (by rintro rfl; rw [hqM] at hB; cases hB), hkeep y (fun hh => hy (by simp [hh]))]
        exact k1 y B hB
    by_cases h256 : w.code.length ≤ 256
    · have e1 : decide (((w.code.map (placed w.starts)).length : Int) ≤ 256) = true := by rw [hlen]; exact decide_eq_true (by omega)
      have e2 : decide ((w.metas.length : Int) ≤ 64) = decide (w.metas.length ≤ 64) := decide_eq_decide.2 (by omega)
      simp only [raw1_ir_Writer_Done, P1_ir_Writer_Done, MU_ir_Writer_Done, h0, h2, h3, hMw, ldnM, hci.lenD, e1, grdTT, hmm.lenD, e2, SW, SV, wpD, evDL, evDM, evD, bldLD, wpSp, DMem.mt, beq_self_eq_true, seval]
      refine stD hMq rfl rfl (by simp) (by simp) (by simp only [List.all_cons, List.all_nil, hci.plain, hmm.plain] <;> rfl) fun M2 hM2 => ?_
      have hq2 : M2 q = some ⟨29, 4, [.int .i64 fn, .int .i64 regs, dc, dm]⟩ := by rw [hM2, DMem.ins_same] <;> rfl
      try simp only [h2, hq2, ldnM, grdTT, SW, SV, wpD, evDL, evDM, evD, bldLD, wpSp, DMem.mt, beq_self_eq_true, seval]
      exact ⟨by rw [hM2, DMem.ins_ne _ _ (Ne.symm hqw), hMw] <;> rfl, fin _ M2 (by rw [hM2] <;> rfl) (by rw [decide_eq_true h256] <;> rfl)⟩
    · have e1 : decide (((w.code.map (placed w.starts)).length : Int) ≤ 256) = false := by rw [hlen]; exact decide_eq_false (by omega)
      simp only [raw1_ir_Writer_Done, P1_ir_Writer_Done, MU_ir_Writer_Done, h0, h2, h3, hMw, ldnM, hci.lenD, e1, grdTF, SW, SV, wpD, evDL, evDM, evD, bldLD, wpSp, DMem.mt, beq_self_eq_true, seval]
      refine stD hMq rfl rfl (by simp) (by simp) (by simp only [List.all_cons, List.all_nil, hci.plain, hmm.plain] <;> rfl) fun M2 hM2 => ?_
      have hq2 : M2 q = some ⟨29, 4, [.int .i64 fn, .int .i64 regs, dc, dm]⟩ := by rw [hM2, DMem.ins_same] <;> rfl
      try simp only [h2, hq2, ldnM, grdTF, SW, SV, wpD, evDL, evDM, evD, bldLD, wpSp, DMem.mt, beq_self_eq_true, seval]
      exact fin _ M2 (by rw [hM2] <;> rfl) (by rw [decide_eq_false h256] <;> rfl)
end Go.Proofs.YticlgdhhnjpkjaaGreatDoor.Pf
namespace Go.Proofs.YticlgdhhnjpkjaaGreatDoor.Pf
open Go Go.RowKit Go.Proofs Go.Proofs.YticlgdhhnjpkjaaGreatDoor.Mw Go.Proofs.YticlgdhhnjpkjaaGreatDoor.Sx
set_option linter.unusedVariables false
set_option linter.unusedSimpArgs false
structure OneOk (h : Int) (l L q L2 q2 : List Int) : Prop where
  len : L2.length = L.length
  keep : ∀ (i : Nat) (v : Int), L[i]? = some v → v ≠ -1 → L2[i]? = some v
  told : ∀ y ∈ l, L2[y.toNat]? = some h
  from' : ∀ i : Nat, L2[i]? = L[i]? ∨ ((∃ y ∈ l, i = y.toNat) ∧ L2[i]? = some h ∧ (∃ y ∈ q2, i = y.toNat))
  grow : ∀ x ∈ q, x ∈ q2
  new : ∀ x ∈ q2, x ∈ q ∨ x ∈ l
  cnt : neg1 L2 + q2.length = neg1 L + q.length
theorem hOne_ok {h : Int} (hh : h ≠ -1) : ∀ {l L q L2 q2 : List Int}, hOne h l L q = some (L2, q2) → OneOk h l L q L2 q2
  | [], L, q, L2, q2, e => by
    simp only [hOne] at e; cases e
    exact ⟨rfl, fun _ _ h _ => h, by simp, fun i => .inl rfl, fun _ h => h, fun _ h => .inl h, rfl⟩
  | to :: r, L, q, L2, q2, e => by
    rw [hOne_cons] at e
    split at e
    · rename_i h1
      have ih := hOne_ok hh e
      have hlt := (List.getElem?_eq_some_iff.1 h1).1
      have hset : (L.set to.toNat h)[to.toNat]? = some h := by rw [List.getElem?_set]; simp [hlt]
      refine ⟨by rw [ih.len, List.length_set], fun i v hi hv => ?_, fun y hy => ?_, fun i => ?_, fun x hx => ih.grow x (by simp [hx]), fun x hx => ?_, ?_⟩
      · refine ih.keep i v ?_ hv
        rw [List.getElem?_set]
        split
        · rename_i e1; subst e1; rw [h1] at hi; cases hi; exact absurd rfl hv
        · exact hi
      · rcases List.mem_cons.1 hy with rfl | hy
        · exact ih.keep _ _ hset hh
        · exact ih.told y hy
      · rcases ih.from' i with h2 | ⟨⟨y, hy, e1⟩, h3, h4⟩
        · rw [h2, List.getElem?_set]
          split
          · rename_i e1
            refine .inr ⟨⟨to, by simp, e1.symm⟩, by simp [hlt], ⟨to, ih.grow to (by simp), e1.symm⟩⟩
          · exact .inl rfl
        · exact .inr ⟨⟨y, by simp [hy], e1⟩, h3, h4⟩
      · rcases ih.new x hx with h2 | h2
        · rcases List.mem_append.1 h2 with h2 | h2
          · exact .inl h2
          · simp at h2; exact .inr (by simp [h2])
        · exact .inr (by simp [h2])
      · have := ih.cnt
        have := neg1_set hlt (List.getElem?_eq_some_iff.1 h1).2 hh
        simp only [List.length_append, List.length_cons, List.length_nil] at *
        omega
    · split at e
      · rename_i h1 h2
        have ih := hOne_ok hh e
        refine ⟨ih.len, ih.keep, fun y hy => ?_, fun i => ?_, ih.grow, fun x hx => ?_, ih.cnt⟩
        · rcases List.mem_cons.1 hy with rfl | hy
          · exact ih.keep _ _ h2 hh
          · exact ih.told y hy
        · rcases ih.from' i with h3 | ⟨⟨y, hy, e1⟩, h3, h4⟩
          · exact .inl h3
          · exact .inr ⟨⟨y, by simp [hy], e1⟩, h3, h4⟩
        · rcases ih.new x hx with h3 | h3
          · exact .inl h3
          · exact .inr (by simp [h3])
      · cases e
structure HI (p : List Fnc) (f : Fnc) (L q : List Int) : Prop where
  len : L.length = f.code.length
  zero : L[0]? = some 0
  val : ∀ (i : Nat) (v : Int), L[i]? = some v → v ≠ -1 → 0 ≤ v ∧ v ≤ 8 ∧ Rch (nxF f) i
  inq : ∀ x ∈ q, ∃ i : Nat, x = i ∧ i < L.length ∧ ∃ v, L[i]? = some v ∧ v ≠ -1
  done : ∀ (i : Nat) (v : Int) (x : Ins), L[i]? = some v → v ≠ -1 → f.code[i]? = some x → (i : Int) ∉ q → takesF x (argsF p x) ≤ v ∧ v - takesF x (argsF p x) + putsF x ≤ 8 ∧ ∀ y ∈ nxF f i, L[y]? = some (v - takesF x (argsF p x) + putsF x)
theorem hRun_ok {p : List Fnc} {f : Fnc} (hp : ∀ g ∈ p, fnB g = true) (hf : fmayB f.code = true) : ∀ {k : Nat} {L q out : List Int}, HI p f L q → neg1 L + q.length ≤ k → hRun p f k L q = .ok out → HI p f out []
  | 0, L, q, out, hI, hc, e => by
    have : q = [] := List.eq_nil_of_length_eq_zero (by omega)
    subst this
    simp only [hRun] at e; cases e; exact hI
  | k + 1, L, [], out, hI, hc, e => by
    simp only [hRun] at e; cases e; exact hI
  | k + 1, L, pc :: q, out, hI, hc, e => by
    obtain ⟨n, rfl, hnL, v, hv, hv1⟩ := hI.inq pc (by simp)
    have hn : n < f.code.length := by rw [← hI.len]; exact hnL
    obtain ⟨hv0, hv8, hrch⟩ := hI.val n v hv hv1
    have hLv : L[n] = v := by rw [List.getElem?_eq_getElem hnL] at hv; exact Option.some.inj hv
    rw [hRun_pop p f k n L q hn hnL, hLv] at e
    split at e
    · cases e
    rename_i hbad
    have hT := takesF_in f.code[n] (argsF_in hp f.code[n])
    have hP := putsF_in f.code[n]
    generalize hh : v - takesF f.code[n] (argsF p f.code[n]) + putsF f.code[n] = h at e hbad
    have hh0 : 0 ≤ h ∧ h ≤ 8 := by omega
    split at e
    · rename_i o q' ho
      have hok := hOne_ok (by omega) ho
      refine hRun_ok hp hf ?_ (by have := hok.cnt; simp only [List.length_cons] at hc; omega) e
      refine ⟨hok.len.trans hI.len, hok.keep _ _ hI.zero (by decide), fun i w hi hw => ?_, fun x hx => ?_, fun i w x hi hw hx hq => ?_⟩
      · rcases hok.from' i with h1 | ⟨⟨y, hy, e1⟩, h2, h3⟩
        · rw [h1] at hi; exact hI.val i w hi hw
        · rw [h2] at hi; cases hi
          refine ⟨hh0.1, hh0.2, .step hrch ?_⟩
          simp only [nxF, List.mem_map]
          exact ⟨y, hy, e1.symm⟩
      · rcases hok.new x hx with h1 | h1
        · obtain ⟨i, rfl, h2, w, h3, h4⟩ := hI.inq x (by simp [h1])
          exact ⟨i, rfl, by rw [hok.len]; exact h2, w, hok.keep i w h3 h4, h4⟩
        · obtain ⟨g1, g2⟩ := nextF_mem hf h1
          obtain ⟨i, rfl⟩ := Int.eq_ofNat_of_zero_le g1
          exact ⟨i, rfl, by rw [hok.len, hI.len]; omega, h, by have := hok.told _ h1; simpa using this, by omega⟩
      · have hold : ∀ {w' : Int}, L[i]? = some w' → w' ≠ -1 → w' = w := fun h1 h2 => by
          have := hok.keep i _ h1 h2; rw [this] at hi; exact Option.some.inj hi
        by_cases hin : i = n
        · subst hin
          have hwv : v = w := hold hv hv1
          subst hwv
          have hxe : x = f.code[i] := by rw [List.getElem?_eq_getElem hn] at hx; exact (Option.some.inj hx).symm
          subst hxe
          refine ⟨by omega, by omega, fun y hy => ?_⟩
          rw [hh]
          simp only [nxF, List.mem_map] at hy
          obtain ⟨z, hz, rfl⟩ := hy
          exact hok.told z hz
        · rcases hok.from' i with h1 | ⟨_, h2, ⟨y, hy, e1⟩⟩
          · rw [h1] at hi
            have hq0 : (i : Int) ∉ ((n : Int) :: q) := by
              intro hh'
              rcases List.mem_cons.1 hh' with h2 | h2
              · exact hin (by omega)
              · exact hq (hok.grow _ h2)
            obtain ⟨g1, g2, g3⟩ := hI.done i w x hi hw hx hq0
            refine ⟨g1, g2, fun y hy => hok.keep _ _ (g3 y hy) ?_⟩
            have := takesF_in x (argsF_in hp x)
            have := putsF_in x
            omega
          · exfalso
            refine hq ?_
            rcases hok.new y hy with h3 | h3
            · obtain ⟨j, rfl, _⟩ := hI.inq y (by simp [h3])
              simp at e1; subst e1; exact hy
            · have := (nextF_mem hf h3).1
              rw [e1, Int.toNat_of_nonneg this]; exact hy
    · cases e
theorem heights_ok {p : List Fnc} {f : Fnc} (hp : ∀ g ∈ p, fnB g = true) (hf : fmayB f.code = true) {out : List Int} (h : heightsE p f = .ok out) : HI p f out [] := by
  have h1 := (fmay_le hf).1
  refine hRun_ok hp hf (k := f.code.length) (L := startH f.code.length) (q := [0]) ?_ (by rw [startH_neg h1]; simp only [List.length_cons, List.length_nil]; omega) h
  have hz : (startH f.code.length)[0]? = some 0 := by unfold startH; rw [List.getElem?_set_self (by rw [List.length_replicate]; omega)]
  refine ⟨by simp [startH], hz, fun i v hi hv => ?_, fun x hx => ?_, fun i v x hi hv hx hq => ?_⟩
  · by_cases h0 : i = 0
    · subst h0; rw [hz] at hi; cases hi; exact ⟨by omega, by omega, .zero⟩
    · unfold startH at hi
      rw [List.getElem?_set_ne (by omega)] at hi
      rw [List.getElem?_replicate] at hi
      split at hi
      · cases hi; exact absurd rfl hv
      · cases hi
  · simp at hx; subst hx
    exact ⟨0, rfl, by rw [startH, List.length_set, List.length_replicate]; omega, 0, hz, by decide⟩
  · by_cases h0 : i = 0
    · subst h0; simp at hq
    · unfold startH at hi
      rw [List.getElem?_set_ne (by omega), List.getElem?_replicate] at hi
      split at hi
      · cases hi; exact absurd rfl hv
      · cases hi
end Go.Proofs.YticlgdhhnjpkjaaGreatDoor.Pf
namespace Go.Proofs.YticlgdhhnjpkjaaGreatDoor.Pf
open Go Go.RowKit Go.Proofs Go.Proofs.YticlgdhhnjpkjaaGreatDoor.Mw Go.Proofs.YticlgdhhnjpkjaaGreatDoor.Sx
set_option linter.unusedVariables false
set_option linter.unusedSimpArgs false
theorem verify_ok {p : List Fnc} (h : verifyE p = 0) : packB p = true ∧ ∀ i, i < p.length → (heightsR p (i : Int)).2.2 = 0 := by
  have hp : packB p = true := by
    cases e : packB p with
    | true => rfl
    | false => unfold verifyE allR at h; rw [if_neg (by simp [e])] at h; exact absurd h (by decide)
  refine ⟨hp, fun i => ?_⟩
  induction i using Nat.strongRecOn with
  | ind i ih =>
    intro hi
    by_cases he : (heightsR p (i : Int)).2.2 = 0
    · exact he
    · have := verify_hit hp hi he fun j hj => ih j hj (by omega)
      unfold verifyE at h
      rw [this] at h
      exact absurd h he
theorem verify_rows {p : List Fnc} (h : verifyE p = 0) : allR p = ((List.range p.length).map (fun i : Nat => (heightsR p (i : Int)).1), 0) := verify_miss (verify_ok h).1 (verify_ok h).2
theorem plainE_out {p : List Fnc} {f : Fnc} {r : List Bool} (h : plainE p f r = none) {i : Nat} (hi : i < f.code.length) (hr : r[i]? = some true) : outB p f f.code[i] = false := by
  unfold plainE at h
  split at h
  · cases h
  · rename_i hn
    have := List.find?_eq_none.1 hn i (List.mem_range.2 hi)
    simp only [List.getD_eq_getElem?_getD, hr, List.getElem?_eq_getElem hi, Option.getD_some, Bool.true_and] at this
    simpa using this
theorem plainE_ne {p : List Fnc} {f : Fnc} {r : List Bool} {pc e : Int} (h : plainE p f r = some (pc, e)) : e ≠ 0 := by
  unfold plainE at h
  split at h
  · cases h; decide
  · simp only at h
    split at h
    · cases h; decide
    · cases h
structure HF (p : List Fnc) (f : Fnc) (hs : List Int) : Prop where
  fn : fnB f = true
  hi : HI p f hs []
  out : ∀ (i : Nat) (h : i < f.code.length) (v : Int), hs[i]? = some v → v ≠ -1 → outB p f f.code[i] = false
theorem pack_len {p : List Fnc} (h : packB p = true) : p.length ≤ 8 := by
  unfold packB at h
  simp only [Bool.and_eq_true, decide_eq_true_eq] at h
  exact h.1.2
theorem fn_loc {f : Fnc} (h : fnB f = true) : 0 ≤ f.args ∧ f.args ≤ 4 ∧ f.args ≤ f.locals ∧ f.locals ≤ 8 := by
  unfold fnB at h
  simp only [Bool.and_eq_true, decide_eq_true_eq] at h
  exact ⟨h.1.1.1.1, h.1.1.1.2, h.1.1.2, h.1.2⟩
theorem heights_hf {p : List Fnc} (hp : packB p = true) {n : Nat} (hn : n < p.length) (h : (heightsR p (n : Int)).2.2 = 0) : HF p p[n] (heightsR p (n : Int)).1 := by
  have hg := pack_fn hp
  have hf := hg _ (List.getElem_mem hn)
  have hm := fn_may hf
  unfold heightsR at h ⊢
  rw [if_pos ⟨hp, by omega, by omega⟩] at h ⊢
  simp only [Int.toNat_natCast, List.getElem?_eq_getElem hn] at h ⊢
  split at h
  · rename_i pc e he
    exact absurd h (plainE_ne he)
  · rename_i he
    split at h
    · rename_i out ho
      have hi := heights_ok hg hm ho
      exact ⟨hf, hi, fun i hil v hv hv1 => plainE_out he hil (reach_all hm i (hi.val i v hv hv1).2.2)⟩
    · exact absurd (show (502 : Int) = 0 from h) (by decide)
end Go.Proofs.YticlgdhhnjpkjaaGreatDoor.Pf
namespace Go.Proofs.YticlgdhhnjpkjaaGreatDoor.Pf
open Go Go.RowKit Go.Proofs Go.Extern.Stop Go.Stop Go.Extern
set_option linter.unusedVariables false
set_option maxRecDepth 20000
set_option linter.unusedSimpArgs false
theorem as_nil (t : Value) (w : World) :
    Calls Tryz.prog 138 #[.nilIface, t] w fun e w' => e = .returned (.bool false) ∧ w' = w := by
  go_enter Tryz.func138, Tryz.ntmps138
  go_wp2
  go_ret
  exact ⟨rfl, rfl⟩

theorem as_valueOf27 (t : Addr) (w : World) : (ReflectliteValue.unpack (.iface 195 (.pointer (some t)))).run Tryz.prog w
    = .ok (.agg #[.pointer (some ⟨1, 195, none⟩), .pointer (some ⟨w.heap.size, 0, none⟩), .int .u64 150]) (w.alloc (.cells #[.pointer (some t)] 195)) := by kernel_rfl
theorem as_type27 (a : Addr) (w : World) : (ReflectliteValue.methodAny (ReflectliteValue.valueError "reflectlite.Value.Type" 0) (fun t _ _ _ => ReflectliteType.toType t) #[.agg #[.pointer (some ⟨1, 195, none⟩), .pointer (some a), .int .u64 150]]).run Tryz.prog w
    = .ok (.iface 228 (.agg #[.pointer (some ⟨1, 195, none⟩)])) w := by kernel_rfl
theorem as_methodKind (h : Value) (w : World) : (Go.method 370 228 (.agg #[h]) "Kind").run Tryz.prog w = .ok (176, h) w := by kernel_rfl
theorem as_kind27 (w : World) : ((ReflectliteType.abiMethod fun t => (fun a : Nat => Value.int IntKind.u8 (a : Int)) <$> Rtype.kind t) #[.pointer (some ⟨1, 195, none⟩)]).run Tryz.prog w = .ok (.int .u8 22) w := by kernel_rfl
theorem as_kind25 (w : World) : ((ReflectliteType.abiMethod fun t => (fun a : Nat => Value.int IntKind.u8 (a : Int)) <$> Rtype.kind t) #[.pointer (some ⟨1, 185, none⟩)]).run Tryz.prog w = .ok (.int .u8 22) w := by kernel_rfl

theorem rlm (z : Sem Value) (f : TypeId → Addr → Nat → Nat → Sem Value) (v : Value) :
    ReflectliteValue.method z f #[v] = (do match ← ReflectliteValue.parts v with | none => z | some (t, a, fl) => f t a fl (fl % 32)) := rfl
theorem as_parts27 (a : Addr) (w : World) : (ReflectliteValue.parts (.agg #[.pointer (some ⟨1, 195, none⟩), .pointer (some a), .int .u64 150])).run Tryz.prog w = .ok (some (195, a, 150)) w := by kernel_rfl
theorem as_isNil27 (a p : Addr) (W : World) (ha : W.cell? a = some (.pointer (some p))) :
    (ReflectliteValue.method (ReflectliteValue.valueError "reflectlite.Value.IsNil" 0) ReflectliteValue.isNil #[.agg #[.pointer (some ⟨1, 195, none⟩), .pointer (some a), .int .u64 150]]).run Tryz.prog W = .ok (.bool false) W := by
  rw [rlm]
  simp only [Sem.run_bind, as_parts27, Result.andThen]
  simp [ReflectliteValue.isNil, loadVar, isAgg, underlying, Tryz.underlying195, ha, Result.andThen]

theorem as_methodElem (h : Value) (w : World) : (Go.method 370 228 (.agg #[h]) "Elem").run Tryz.prog w = .ok (188, .agg #[h]) w := by kernel_rfl
theorem as_methodImplements (h : Value) (w : World) : (Go.method 370 228 (.agg #[h]) "Implements").run Tryz.prog w = .ok (189, .agg #[h]) w := by kernel_rfl
theorem as_methodAssignableTo (h : Value) (w : World) : (Go.method 370 228 (.agg #[h]) "AssignableTo").run Tryz.prog w = .ok (186, .agg #[h]) w := by kernel_rfl
theorem as_elem27 (w : World) : (ReflectliteType.method ReflectliteType.elem #[.agg #[.pointer (some ⟨1, 195, none⟩)]]).run Tryz.prog w = .ok (.iface 228 (.agg #[.pointer (some ⟨1, 185, none⟩)])) w := by kernel_rfl
theorem as_implements25 (w : World) : (ReflectliteType.relation "Implements" ReflectliteType.implements_ #[.agg #[.pointer (some ⟨1, 185, none⟩)], .iface 228 (.agg #[.pointer (some ⟨1, 162, none⟩)])]).run Tryz.prog w = .ok (.bool true) w := by kernel_rfl
theorem as_typeOf25 (v : Value) (w : World) : (ReflectliteType.typeOf #[.iface 185 v]).run Tryz.prog w = .ok (.iface 228 (.agg #[.pointer (some ⟨1, 185, none⟩)])) w := by kernel_rfl
theorem as_assignable25 (w : World) : (ReflectliteType.relation "AssignableTo" ReflectliteType.assignableTo #[.agg #[.pointer (some ⟨1, 185, none⟩)], .iface 228 (.agg #[.pointer (some ⟨1, 185, none⟩)])]).run Tryz.prog w = .ok (.bool true) w := by kernel_rfl
theorem as_valueOf25 (e : Addr) (w : World) : (ReflectliteValue.unpack (.iface 185 (.pointer (some e)))).run Tryz.prog w
    = .ok (.agg #[.pointer (some ⟨1, 185, none⟩), .pointer (some ⟨w.heap.size, 0, none⟩), .int .u64 150]) (w.alloc (.cells #[.pointer (some e)] 185)) := by kernel_rfl

theorem as_elemOf27 (w : World) : (Rtype.elem? 195).run Tryz.prog w = .ok (some 185) w := by kernel_rfl
theorem as_mk25 (p : Addr) (w : World) : (ReflectliteValue.mk 185 p ReflectliteValue.flagAddr).run Tryz.prog w = .ok (.agg #[.pointer (some ⟨1, 185, none⟩), .pointer (some p), .int .u64 406]) w := by kernel_rfl
theorem as_elemV27 (a p : Addr) (W : World) (ha : W.cell? a = some (.pointer (some p))) :
    (ReflectliteValue.method (ReflectliteValue.valueError "reflectlite.Value.Elem" 0) ReflectliteValue.elem #[.agg #[.pointer (some ⟨1, 195, none⟩), .pointer (some a), .int .u64 150]]).run Tryz.prog W
      = .ok (.agg #[.pointer (some ⟨1, 185, none⟩), .pointer (some p), .int .u64 406]) W := by
  rw [rlm]
  simp only [Sem.run_bind, as_parts27, Result.andThen]
  simp [ReflectliteValue.elem, loadVar, isAgg, underlying, Tryz.underlying195, ha, Result.andThen, as_elemOf27, as_mk25]
theorem rls (v x : Value) : ReflectliteValue.set #[v, x] = (do
    let (some (dst, a, fl), some (src, b, _)) := (← ReflectliteValue.parts v, ← ReflectliteValue.parts x)
      | unsupported (.noEntry "extern/(internal/reflectlite.Value).Set.zeroValue")
    if fl / ReflectliteValue.flagAddr % 2 == 0 then unsupported (.noEntry "extern/(internal/reflectlite.Value).Set.unaddressable")
    let val ← loadVar src b
    if ← Rtype.directlyAssignable dst src then storeVar dst a val
    else if ← Rtype.implements dst src then
      if (← Rtype.kind src) == 20 then
        match val with
        | .nilIface => unsupported (.noEntry "extern/reflectlite: a nil value of one interface type handed on as a value of another")
        | _ => storeVar dst a val
      else storeVar dst a (.iface src val)
    else panicString ("reflectlite.Set: value of type " ++ (← Rtype.spelt src) ++ " is not assignable to type " ++ (← Rtype.spelt dst))
    pure (.tuple #[])) := rfl
theorem as_parts25a (a : Addr) (w : World) : (ReflectliteValue.parts (.agg #[.pointer (some ⟨1, 185, none⟩), .pointer (some a), .int .u64 406])).run Tryz.prog w = .ok (some (185, a, 406)) w := by kernel_rfl
theorem as_parts25 (a : Addr) (w : World) : (ReflectliteValue.parts (.agg #[.pointer (some ⟨1, 185, none⟩), .pointer (some a), .int .u64 150])).run Tryz.prog w = .ok (some (185, a, 150)) w := by kernel_rfl
theorem as_direct25 (w : World) : (Rtype.directlyAssignable 185 185).run Tryz.prog w = .ok true w := by kernel_rfl
theorem as_set25 (ta b e : Addr) (old : Value) (W : World) (hb : W.cell? b = some (.pointer (some e))) (ht : W.cell? ta = some old) (hf : W.frozen? ta = false) :
    (ReflectliteValue.set #[.agg #[.pointer (some ⟨1, 185, none⟩), .pointer (some ta), .int .u64 406], .agg #[.pointer (some ⟨1, 185, none⟩), .pointer (some b), .int .u64 150]]).run Tryz.prog W
      = .ok (.tuple #[]) (W.setCell ta (.pointer (some e))) := by
  rw [rls]
  simp only [Sem.run_bind, as_parts25a, as_parts25, Result.andThen]
  simp [ReflectliteValue.flagAddr, loadVar, isAgg, underlying, Tryz.underlying185, hb, Result.andThen, as_direct25, storeVar, Value.cells, storeCells, Addr.add]
  rw [run_store Tryz.prog W ta _ _ (by rfl)]
  simp [ht, hf]

set_option maxHeartbeats 4000000 in
theorem as_hit (e t : Addr) (old : Value) (w : World) (hg : w.cell? ⟨0, 0, none⟩ = some (.iface 228 (.agg #[.pointer (some ⟨1, 162, none⟩)]))) (ht0 : w.cell? t = some old) (hf0 : w.frozen? t = false) :
    Calls Tryz.prog 138 #[.iface 185 (.pointer (some e)), .iface 195 (.pointer (some t))] w fun ev w' => ev = .returned (.bool true) ∧ w' = ((((w.alloc (.cells #[.pointer (some t)] 195)).alloc (.cells #[.pointer (some ⟨1, 195, none⟩), .pointer (some ⟨w.heap.size, 0, none⟩), .int .u64 150] 213)).alloc (.cells #[.pointer (some ⟨1, 195, none⟩), .pointer (some ⟨w.heap.size, 0, none⟩), .int .u64 150] 213)).alloc (.cells #[.pointer (some e)] 185)).setCell t (.pointer (some e)) := by
  have h6 := @run_callFunc_extern Tryz.prog 152 _ (fun args => ReflectliteValue.unpack (args.getD 0 (.tuple #[]))) Tryz.func152 (by kernel_rfl) (by kernel_rfl) (by kernel_rfl) (by kernel_rfl)
  have h7 := @run_callFunc_extern Tryz.prog 153 _ (ReflectliteValue.methodAny (ReflectliteValue.valueError "reflectlite.Value.Type" 0) (fun t _ _ _ => ReflectliteType.toType t)) Tryz.func153 (by kernel_rfl) (by kernel_rfl) (by kernel_rfl) (by kernel_rfl)
  have h8 := @run_callFunc_extern Tryz.prog 154 _ (ReflectliteValue.method (ReflectliteValue.valueError "reflectlite.Value.IsNil" 0) ReflectliteValue.isNil) Tryz.func154 (by kernel_rfl) (by kernel_rfl) (by kernel_rfl) (by kernel_rfl)
  have h27 := @run_callFunc_extern Tryz.prog 176 _ (ReflectliteType.abiMethod fun t => do pure (.int .u8 (← Rtype.kind t))) Tryz.func176 (by kernel_rfl) (by kernel_rfl) (by kernel_rfl) (by kernel_rfl)
  have h37 := @run_callFunc_extern Tryz.prog 188 _ (ReflectliteType.method ReflectliteType.elem) Tryz.func188 (by kernel_rfl) (by kernel_rfl) (by kernel_rfl) (by kernel_rfl)
  have h38 := @run_callFunc_extern Tryz.prog 189 _ (ReflectliteType.relation "Implements" ReflectliteType.implements_) Tryz.func189 (by kernel_rfl) (by kernel_rfl) (by kernel_rfl) (by kernel_rfl)
  have h10 := @run_callFunc_extern Tryz.prog 159 _ ReflectliteType.typeOf Tryz.func159 (by kernel_rfl) (by kernel_rfl) (by kernel_rfl) (by kernel_rfl)
  have h35 := @run_callFunc_extern Tryz.prog 186 _ (ReflectliteType.relation "AssignableTo" ReflectliteType.assignableTo) Tryz.func186 (by kernel_rfl) (by kernel_rfl) (by kernel_rfl) (by kernel_rfl)
  have h11 := @run_callFunc_extern Tryz.prog 160 _ (ReflectliteValue.method (ReflectliteValue.valueError "reflectlite.Value.Elem" 0) ReflectliteValue.elem) Tryz.func160 (by kernel_rfl) (by kernel_rfl) (by kernel_rfl) (by kernel_rfl)
  have h12 := @run_callFunc_extern Tryz.prog 161 _ ReflectliteValue.set Tryz.func161 (by kernel_rfl) (by kernel_rfl) (by kernel_rfl) (by kernel_rfl)
  have tO := as_typeOf25
  have mA := as_methodAssignableTo
  have a25 := as_assignable25
  have v25 := as_valueOf25
  have f6 := as_valueOf27
  have f7 := as_type27
  have mK := as_methodKind
  have mE := as_methodElem
  have mI := as_methodImplements
  have k27 := as_kind27
  have k25 := as_kind25
  have e27 := as_elem27
  have i25 := as_implements25
  have n8 := as_isNil27 ⟨w.heap.size, 0, none⟩ t ((w.alloc (.cells #[.pointer (some t)] 195)).alloc (.cells #[.pointer (some ⟨1, 195, none⟩), .pointer (some ⟨w.heap.size, 0, none⟩), .int .u64 150] 213)) (by simp)
  have hlt : 0 < w.heap.size := by
    rcases Nat.eq_zero_or_pos w.heap.size with h0 | h
    · simp [World.cell?, h0] at hg
    · exact h
  have hg2 : ((w.alloc (.cells #[.pointer (some t)] 195)).alloc (.cells #[.pointer (some ⟨1, 195, none⟩), .pointer (some ⟨w.heap.size, 0, none⟩), .int .u64 150] 213)).cell? ⟨0, 0, none⟩ = some (.iface 228 (.agg #[.pointer (some ⟨1, 162, none⟩)])) := by
    rw [World.cell?_alloc_lt _ _ ⟨0, 0, none⟩ (by simp), World.cell?_alloc_lt _ _ ⟨0, 0, none⟩ hlt]; exact hg
  have htl : t.block < w.heap.size := by
    rcases Nat.lt_or_ge t.block w.heap.size with h | h
    · exact h
    · simp [World.cell?, Array.getElem?_eq_none h] at ht0
  have el := as_elemV27 ⟨w.heap.size, 0, none⟩ t (((w.alloc (.cells #[.pointer (some t)] 195)).alloc (.cells #[.pointer (some ⟨1, 195, none⟩), .pointer (some ⟨w.heap.size, 0, none⟩), .int .u64 150] 213)).alloc (.cells #[.pointer (some ⟨1, 195, none⟩), .pointer (some ⟨w.heap.size, 0, none⟩), .int .u64 150] 213)) (by rw [World.cell?_alloc_lt _ _ ⟨w.heap.size, 0, none⟩ (by simp; omega)]; simp)
  have st := as_set25 t ⟨w.heap.size + 1 + 1 + 1, 0, none⟩ e old ((((w.alloc (.cells #[.pointer (some t)] 195)).alloc (.cells #[.pointer (some ⟨1, 195, none⟩), .pointer (some ⟨w.heap.size, 0, none⟩), .int .u64 150] 213)).alloc (.cells #[.pointer (some ⟨1, 195, none⟩), .pointer (some ⟨w.heap.size, 0, none⟩), .int .u64 150] 213)).alloc (.cells #[.pointer (some e)] 185))
    (by rw [World.cell?_alloc_at _ _ _ _ (by simp)] <;> rfl)
    (by rw [World.cell?_alloc_lt _ _ t (by simp; omega), World.cell?_alloc_lt _ _ t (by simp; omega), World.cell?_alloc_lt _ _ t (by simp; omega), World.cell?_alloc_lt _ _ t htl]; exact ht0)
    (by rw [World.frozen?_alloc_old _ _ t (by simp; omega), World.frozen?_alloc_old _ _ t (by simp; omega), World.frozen?_alloc_old _ _ t (by simp; omega), World.frozen?_alloc_old _ _ t (Nat.ne_of_lt htl)]; exact hf0)
  go_enter Tryz.func138, Tryz.ntmps138
  go_wp2
  refine wp_loop_rounds 1 ?_
  rw [rounds_succ]
  go_wp2
  go_ret
  exact ⟨rfl, rfl⟩
end Go.Proofs.YticlgdhhnjpkjaaGreatDoor.Pf
namespace Go.Proofs.YticlgdhhnjpkjaaGreatDoor.Pf
open Go Go.RowKit Go.Proofs Go.Extern.Stop Go.Stop Go.Extern
set_option linter.unusedVariables false
set_option maxRecDepth 20000
set_option linter.unusedSimpArgs false
theorem ae_valueOf (t : Addr) (w : World) : (ReflectliteValue.unpack (.iface 196 (.pointer (some t)))).run Tryz.prog w
    = .ok (.agg #[.pointer (some ⟨1, 196, none⟩), .pointer (some ⟨w.heap.size, 0, none⟩), .int .u64 150]) (w.alloc (.cells #[.pointer (some t)] 196)) := by kernel_rfl
theorem ae_type (a : Addr) (w : World) : (ReflectliteValue.methodAny (ReflectliteValue.valueError "reflectlite.Value.Type" 0) (fun t _ _ _ => ReflectliteType.toType t) #[.agg #[.pointer (some ⟨1, 196, none⟩), .pointer (some a), .int .u64 150]]).run Tryz.prog w
    = .ok (.iface 228 (.agg #[.pointer (some ⟨1, 196, none⟩)])) w := by kernel_rfl
theorem ae_kindp (w : World) : ((ReflectliteType.abiMethod fun t => (fun a : Nat => Value.int IntKind.u8 (a : Int)) <$> Rtype.kind t) #[.pointer (some ⟨1, 196, none⟩)]).run Tryz.prog w = .ok (.int .u8 22) w := by kernel_rfl
theorem ae_kind (w : World) : ((ReflectliteType.abiMethod fun t => (fun a : Nat => Value.int IntKind.u8 (a : Int)) <$> Rtype.kind t) #[.pointer (some ⟨1, 30, none⟩)]).run Tryz.prog w = .ok (.int .u8 2) w := by kernel_rfl
theorem ae_parts (a : Addr) (w : World) : (ReflectliteValue.parts (.agg #[.pointer (some ⟨1, 196, none⟩), .pointer (some a), .int .u64 150])).run Tryz.prog w = .ok (some (196, a, 150)) w := by kernel_rfl
theorem ae_isNil (a p : Addr) (W : World) (ha : W.cell? a = some (.pointer (some p))) :
    (ReflectliteValue.method (ReflectliteValue.valueError "reflectlite.Value.IsNil" 0) ReflectliteValue.isNil #[.agg #[.pointer (some ⟨1, 196, none⟩), .pointer (some a), .int .u64 150]]).run Tryz.prog W = .ok (.bool false) W := by
  rw [rlm]
  simp only [Sem.run_bind, ae_parts, Result.andThen]
  simp [ReflectliteValue.isNil, loadVar, isAgg, underlying, Tryz.underlying196, ha, Result.andThen]
theorem ae_elem (w : World) : (ReflectliteType.method ReflectliteType.elem #[.agg #[.pointer (some ⟨1, 196, none⟩)]]).run Tryz.prog w = .ok (.iface 228 (.agg #[.pointer (some ⟨1, 30, none⟩)])) w := by kernel_rfl
theorem ae_implements (w : World) : (ReflectliteType.relation "Implements" ReflectliteType.implements_ #[.agg #[.pointer (some ⟨1, 30, none⟩)], .iface 228 (.agg #[.pointer (some ⟨1, 162, none⟩)])]).run Tryz.prog w = .ok (.bool true) w := by kernel_rfl
theorem ae_typeOf (v : Value) (w : World) : (ReflectliteType.typeOf #[.iface 30 v]).run Tryz.prog w = .ok (.iface 228 (.agg #[.pointer (some ⟨1, 30, none⟩)])) w := by kernel_rfl
theorem ae_assignable (w : World) : (ReflectliteType.relation "AssignableTo" ReflectliteType.assignableTo #[.agg #[.pointer (some ⟨1, 30, none⟩)], .iface 228 (.agg #[.pointer (some ⟨1, 30, none⟩)])]).run Tryz.prog w = .ok (.bool true) w := by kernel_rfl
theorem ae_assignableN (w : World) : (ReflectliteType.relation "AssignableTo" ReflectliteType.assignableTo #[.agg #[.pointer (some ⟨1, 185, none⟩)], .iface 228 (.agg #[.pointer (some ⟨1, 30, none⟩)])]).run Tryz.prog w = .ok (.bool false) w := by kernel_rfl
theorem ae_valueOfE (n : Int) (w : World) : (ReflectliteValue.unpack (.iface 30 (.int .i64 n))).run Tryz.prog w
    = .ok (.agg #[.pointer (some ⟨1, 30, none⟩), .pointer (some ⟨w.heap.size, 0, none⟩), .int .u64 130]) (w.alloc (.cells #[.int .i64 n] 30)) := by kernel_rfl
theorem ae_elemOf (w : World) : (Rtype.elem? 196).run Tryz.prog w = .ok (some 30) w := by kernel_rfl
theorem ae_mk (p : Addr) (w : World) : (ReflectliteValue.mk 30 p ReflectliteValue.flagAddr).run Tryz.prog w = .ok (.agg #[.pointer (some ⟨1, 30, none⟩), .pointer (some p), .int .u64 386]) w := by kernel_rfl
theorem ae_elemV (a p : Addr) (W : World) (ha : W.cell? a = some (.pointer (some p))) :
    (ReflectliteValue.method (ReflectliteValue.valueError "reflectlite.Value.Elem" 0) ReflectliteValue.elem #[.agg #[.pointer (some ⟨1, 196, none⟩), .pointer (some a), .int .u64 150]]).run Tryz.prog W
      = .ok (.agg #[.pointer (some ⟨1, 30, none⟩), .pointer (some p), .int .u64 386]) W := by
  rw [rlm]
  simp only [Sem.run_bind, ae_parts, Result.andThen]
  simp [ReflectliteValue.elem, loadVar, isAgg, underlying, Tryz.underlying196, ha, Result.andThen, ae_elemOf, ae_mk]
theorem ae_partsA (a : Addr) (w : World) : (ReflectliteValue.parts (.agg #[.pointer (some ⟨1, 30, none⟩), .pointer (some a), .int .u64 386])).run Tryz.prog w = .ok (some (30, a, 386)) w := by kernel_rfl
theorem ae_partsE (a : Addr) (w : World) : (ReflectliteValue.parts (.agg #[.pointer (some ⟨1, 30, none⟩), .pointer (some a), .int .u64 130])).run Tryz.prog w = .ok (some (30, a, 130)) w := by kernel_rfl
theorem ae_direct (w : World) : (Rtype.directlyAssignable 30 30).run Tryz.prog w = .ok true w := by kernel_rfl
theorem ae_set (ta b : Addr) (n : Int) (old : Value) (W : World) (hb : W.cell? b = some (.int .i64 n)) (ht : W.cell? ta = some old) (hf : W.frozen? ta = false) :
    (ReflectliteValue.set #[.agg #[.pointer (some ⟨1, 30, none⟩), .pointer (some ta), .int .u64 386], .agg #[.pointer (some ⟨1, 30, none⟩), .pointer (some b), .int .u64 130]]).run Tryz.prog W
      = .ok (.tuple #[]) (W.setCell ta (.int .i64 n)) := by
  rw [rls]
  simp only [Sem.run_bind, ae_partsA, ae_partsE, Result.andThen]
  simp [ReflectliteValue.flagAddr, loadVar, isAgg, underlying, Tryz.underlying30, hb, Result.andThen, ae_direct, storeVar, Value.cells, storeCells, Addr.add]
  rw [run_store Tryz.prog W ta _ _ (by rfl)]
  simp [ht, hf]
theorem ae_assA (v : Value) (xT : TypeId) (w : World) : (Instr.typeAssert (.iface 185 v) xT 233 true).run Tryz.prog w = .ok (.tuple #[.nilIface, .bool false]) w := run_typeAssert_lacksB Tryz.underlying233 (by kernel_rfl) (by kernel_rfl) v xT w
theorem ae_assU (e : Addr) (w : World) : (Instr.typeAssert (.iface 185 (.pointer (some e))) 162 236 true).run Tryz.prog w = .ok (.tuple #[.iface 185 (.pointer (some e)), .bool true]) w := by kernel_rfl
theorem ae_methodUnwrap (e : Addr) (w : World) : (Go.method 370 185 (.pointer (some e)) "Unwrap").run Tryz.prog w = .ok (181, .pointer (some e)) w := by kernel_rfl
set_option maxHeartbeats 4000000 in
theorem as_deep (e t : Addr) (n : Int) (old : Value) (w : World) (hv : w.cell? ⟨e.block, e.off + 1, none⟩ = some (.iface 30 (.int .i64 n))) (hg : w.cell? ⟨0, 0, none⟩ = some (.iface 228 (.agg #[.pointer (some ⟨1, 162, none⟩)]))) (ht0 : w.cell? t = some old) (hf0 : w.frozen? t = false) :
    Calls Tryz.prog 138 #[.iface 185 (.pointer (some e)), .iface 196 (.pointer (some t))] w fun ev w' => ev = .returned (.bool true) ∧ w' = ((((w.alloc (.cells #[.pointer (some t)] 196)).alloc (.cells #[.pointer (some ⟨1, 196, none⟩), .pointer (some ⟨w.heap.size, 0, none⟩), .int .u64 150] 213)).alloc (.cells #[.pointer (some ⟨1, 196, none⟩), .pointer (some ⟨w.heap.size, 0, none⟩), .int .u64 150] 213)).alloc (.cells #[.int .i64 n] 30)).setCell t (.int .i64 n) := by
  have h6 := @run_callFunc_extern Tryz.prog 152 _ (fun args => ReflectliteValue.unpack (args.getD 0 (.tuple #[]))) Tryz.func152 (by kernel_rfl) (by kernel_rfl) (by kernel_rfl) (by kernel_rfl)
  have h7 := @run_callFunc_extern Tryz.prog 153 _ (ReflectliteValue.methodAny (ReflectliteValue.valueError "reflectlite.Value.Type" 0) (fun t _ _ _ => ReflectliteType.toType t)) Tryz.func153 (by kernel_rfl) (by kernel_rfl) (by kernel_rfl) (by kernel_rfl)
  have h8 := @run_callFunc_extern Tryz.prog 154 _ (ReflectliteValue.method (ReflectliteValue.valueError "reflectlite.Value.IsNil" 0) ReflectliteValue.isNil) Tryz.func154 (by kernel_rfl) (by kernel_rfl) (by kernel_rfl) (by kernel_rfl)
  have h27 := @run_callFunc_extern Tryz.prog 176 _ (ReflectliteType.abiMethod fun t => do pure (.int .u8 (← Rtype.kind t))) Tryz.func176 (by kernel_rfl) (by kernel_rfl) (by kernel_rfl) (by kernel_rfl)
  have h37 := @run_callFunc_extern Tryz.prog 188 _ (ReflectliteType.method ReflectliteType.elem) Tryz.func188 (by kernel_rfl) (by kernel_rfl) (by kernel_rfl) (by kernel_rfl)
  have h38 := @run_callFunc_extern Tryz.prog 189 _ (ReflectliteType.relation "Implements" ReflectliteType.implements_) Tryz.func189 (by kernel_rfl) (by kernel_rfl) (by kernel_rfl) (by kernel_rfl)
  have h10 := @run_callFunc_extern Tryz.prog 159 _ ReflectliteType.typeOf Tryz.func159 (by kernel_rfl) (by kernel_rfl) (by kernel_rfl) (by kernel_rfl)
  have h35 := @run_callFunc_extern Tryz.prog 186 _ (ReflectliteType.relation "AssignableTo" ReflectliteType.assignableTo) Tryz.func186 (by kernel_rfl) (by kernel_rfl) (by kernel_rfl) (by kernel_rfl)
  have h11 := @run_callFunc_extern Tryz.prog 160 _ (ReflectliteValue.method (ReflectliteValue.valueError "reflectlite.Value.Elem" 0) ReflectliteValue.elem) Tryz.func160 (by kernel_rfl) (by kernel_rfl) (by kernel_rfl) (by kernel_rfl)
  have h12 := @run_callFunc_extern Tryz.prog 161 _ ReflectliteValue.set Tryz.func161 (by kernel_rfl) (by kernel_rfl) (by kernel_rfl) (by kernel_rfl)
  have tO := as_typeOf25
  have mA := as_methodAssignableTo
  have a39 := ae_assignable
  have aN := ae_assignableN
  have tE := ae_typeOf
  have v39 := ae_valueOfE
  have f6 := ae_valueOf
  have f7 := ae_type
  have mK := as_methodKind
  have mE := as_methodElem
  have mI := as_methodImplements
  have k27 := ae_kindp
  have k25 := ae_kind
  have e27 := ae_elem
  have i25 := ae_implements
  have n8 := ae_isNil ⟨w.heap.size, 0, none⟩ t ((w.alloc (.cells #[.pointer (some t)] 196)).alloc (.cells #[.pointer (some ⟨1, 196, none⟩), .pointer (some ⟨w.heap.size, 0, none⟩), .int .u64 150] 213)) (by simp)
  have hlt : 0 < w.heap.size := by
    rcases Nat.eq_zero_or_pos w.heap.size with h0 | h
    · simp [World.cell?, h0] at hg
    · exact h
  have hg2 : ((w.alloc (.cells #[.pointer (some t)] 196)).alloc (.cells #[.pointer (some ⟨1, 196, none⟩), .pointer (some ⟨w.heap.size, 0, none⟩), .int .u64 150] 213)).cell? ⟨0, 0, none⟩ = some (.iface 228 (.agg #[.pointer (some ⟨1, 162, none⟩)])) := by
    rw [World.cell?_alloc_lt _ _ ⟨0, 0, none⟩ (by simp), World.cell?_alloc_lt _ _ ⟨0, 0, none⟩ hlt]; exact hg
  have htl : t.block < w.heap.size := by
    rcases Nat.lt_or_ge t.block w.heap.size with h | h
    · exact h
    · simp [World.cell?, Array.getElem?_eq_none h] at ht0
  have el := ae_elemV ⟨w.heap.size, 0, none⟩ t (((w.alloc (.cells #[.pointer (some t)] 196)).alloc (.cells #[.pointer (some ⟨1, 196, none⟩), .pointer (some ⟨w.heap.size, 0, none⟩), .int .u64 150] 213)).alloc (.cells #[.pointer (some ⟨1, 196, none⟩), .pointer (some ⟨w.heap.size, 0, none⟩), .int .u64 150] 213)) (by rw [World.cell?_alloc_lt _ _ ⟨w.heap.size, 0, none⟩ (by simp; omega)]; simp)
  have st := ae_set t ⟨w.heap.size + 1 + 1 + 1, 0, none⟩ n old ((((w.alloc (.cells #[.pointer (some t)] 196)).alloc (.cells #[.pointer (some ⟨1, 196, none⟩), .pointer (some ⟨w.heap.size, 0, none⟩), .int .u64 150] 213)).alloc (.cells #[.pointer (some ⟨1, 196, none⟩), .pointer (some ⟨w.heap.size, 0, none⟩), .int .u64 150] 213)).alloc (.cells #[.int .i64 n] 30))
    (by rw [World.cell?_alloc_at _ _ _ _ (by simp)] <;> rfl)
    (by rw [World.cell?_alloc_lt _ _ t (by simp; omega), World.cell?_alloc_lt _ _ t (by simp; omega), World.cell?_alloc_lt _ _ t (by simp; omega), World.cell?_alloc_lt _ _ t htl]; exact ht0)
    (by rw [World.frozen?_alloc_old _ _ t (by simp; omega), World.frozen?_alloc_old _ _ t (by simp; omega), World.frozen?_alloc_old _ _ t (by simp; omega), World.frozen?_alloc_old _ _ t (Nat.ne_of_lt htl)]; exact hf0)
  have aA := ae_assA
  have aU := ae_assU
  have mU := ae_methodUnwrap
  have hel : e.block < w.heap.size := by
    rcases Nat.lt_or_ge e.block w.heap.size with h | h
    · exact h
    · simp [World.cell?, Array.getElem?_eq_none h] at hv
  have hv2 : (((w.alloc (.cells #[.pointer (some t)] 196)).alloc (.cells #[.pointer (some ⟨1, 196, none⟩), .pointer (some ⟨w.heap.size, 0, none⟩), .int .u64 150] 213)).alloc (.cells #[.pointer (some ⟨1, 196, none⟩), .pointer (some ⟨w.heap.size, 0, none⟩), .int .u64 150] 213)).cell? ⟨e.block, e.off + 1, none⟩ = some (.iface 30 (.int .i64 n)) := by
    rw [World.cell?_alloc_lt _ _ _ (by simp; omega), World.cell?_alloc_lt _ _ _ (by simp; omega), World.cell?_alloc_lt _ _ _ (by simpa using hel)]; exact hv
  go_enter Tryz.func138, Tryz.ntmps138
  go_wp2
  refine wp_loop_rounds 2 ?_
  rw [rounds_succ]
  go_wp2
  rw [rounds_succ]
  go_wp2
  go_ret
  exact ⟨rfl, rfl⟩
end Go.Proofs.YticlgdhhnjpkjaaGreatDoor.Pf
namespace Go.Proofs.YticlgdhhnjpkjaaGreatDoor.Pf
open Go Go.RowKit Go.Proofs Go.Proofs.YticlgdhhnjpkjaaGreatDoor.Mw Go.Proofs.YticlgdhhnjpkjaaGreatDoor.Sx
set_option linter.unusedVariables false
set_option linter.unusedSimpArgs false
theorem as_callable : Callable Tryz.prog 138 := ⟨_, Tryz.func138, by kernel_rfl, by kernel_rfl, by kernel_rfl⟩
theorem as_nil_pc {t : DV} {R : DV → DMem → Prop} {M : DMem} (hR : R (.bool false) M) : PC Tryz.prog 138 [.raw .nilIface, t] R M := by
  intro F m vals hM hv hF ho
  obtain ⟨x, vs, rfl, hx, hv⟩ : ∃ x vs, vals = x :: vs ∧ Rep m (.raw .nilIface) x ∧ RepL m [t] vs := by
    obtain ⟨h1, h2⟩ := hv
    cases vals with
    | nil => simp at h2
    | cons x vs => exact ⟨x, vs, rfl, h1.1, h1.2, by simp only [List.length_cons, List.length_nil] at h2 ⊢; omega⟩
  obtain ⟨y, rfl, hy⟩ : ∃ y, vs = [y] ∧ Rep m t y := by
    obtain ⟨h1, h2⟩ := hv
    match vs, h2 with
    | [y], _ => exact ⟨y, rfl, h1.1⟩
  have hx' : x = .nilIface := by simpa only [Rep] using hx
  subst hx'
  exact ⟨as_callable, fun w0 w hs => (as_nil y w).mono fun e w' ⟨he, hw⟩ => ⟨_, m, he, hw ▸ hs, .bool false, M, by simp only [Rep], hM, Fin.refl m, hF, ho, hR⟩⟩
theorem sat_frozen {w0 w : World} {m : Mem} (h : Sat w0 w m) {b n ty : Nat} {cs : List Value} (hb : m b = some (.cells ty n false cs)) : w.frozen? ⟨b, 0, none⟩ = false := by
  rcases h.blk _ _ hb with ⟨_, arr, fz, he, _, _, _, hf⟩ | ⟨_, _, q, _, he, _⟩
  · obtain ⟨rfl, _⟩ := hf rfl
    simp [World.frozen?, he]
  · cases q <;> simp [World.frozen?, he, MObj.obj]
theorem sat_glob {w0 w : World} {m : Mem} (h : Sat w0 w m) (hg : Glob m) : w.cell? ⟨0, 0, none⟩ = some (.iface 228 (.agg #[.pointer (some ⟨1, 162, none⟩)])) := by
  obtain ⟨ty, e⟩ := hg 0 _ rfl
  exact h.get (by simp [Mem.get, e])
theorem as_hit_pc (pc e : Int) {b ty : Nat} {old : DV} {R : DV → DMem → Prop} {M : DMem} (hb : M b = some ⟨ty, 1, [old]⟩)
    (hR : R (.bool true) (M.ins b ⟨ty, 1, [.ip [.int .i64 pc, .ifc 30 (.int .i64 e)]]⟩)) : PC Tryz.prog 138 [faultD pc e, .ifc 195 (.mp b 0)] R M := by
  intro F m vals hM hv hF ho
  obtain ⟨x, y, rfl, hx, hy⟩ : ∃ x y, vals = [x, y] ∧ Rep m (faultD pc e) x ∧ Rep m (.ifc 195 (.mp b 0)) y := by
    obtain ⟨h1, h2⟩ := hv
    match vals, h2 with
    | [x, y], _ => exact ⟨x, y, rfl, h1.1, h1.2.1⟩
  simp only [faultD, Rep] at hx hy
  obtain ⟨z, rfl, hz⟩ := hx
  obtain ⟨_, rfl, rfl⟩ := hy
  have hz0 : Rep m (.ip [.int .i64 pc, .ifc 30 (.int .i64 e)]) z := by simpa only [Rep] using hz
  obtain ⟨b', o, ty', N, full, rfl, hz⟩ := hz
  obtain ⟨vs, h1, h2, h3⟩ := hM b _ hb
  obtain ⟨u, rfl⟩ : ∃ u, vs = [u] := by
    match vs, h3 with
    | [u], _ => exact ⟨u, rfl⟩
  have hI : InvD F m (fun _ => .nilp) M (fun _ => .pointer none) m := ⟨fun _ => by simp only [Rep], hM, Fin.refl m, hF, ho⟩
  obtain ⟨k1, k2, k3, k4⟩ := hI.write hb (cs := [.ip [.int .i64 pc, .ifc 30 (.int .i64 e)]]) (vs := [.pointer (some ⟨b', o, none⟩)]) ⟨⟨hz0, trivial⟩, rfl⟩
  refine ⟨as_callable, fun w0 w hs => (as_hit ⟨b', o, none⟩ ⟨b, 0, none⟩ u w (sat_glob hs hM.glob) (hs.get (by simp [Mem.get, h1])) (sat_frozen hs h1)).mono fun ev w' ⟨he, hw⟩ => ⟨_, _, he, ?_, .bool true, _, by simp only [Rep], k1, k2, k3, k4, hR⟩⟩
  subst hw
  exact ((((hs.alloc' _).alloc' _).alloc' _).alloc' _).set (i := 0) h1 (by simp) (by simp) _
theorem as_deep_pc (pc e : Int) {b ty : Nat} {old : DV} {R : DV → DMem → Prop} {M : DMem} (hb : M b = some ⟨ty, 1, [old]⟩)
    (hR : R (.bool true) (M.ins b ⟨ty, 1, [.int .i64 e]⟩)) : PC Tryz.prog 138 [faultD pc e, .ifc 196 (.mp b 0)] R M := by
  intro F m vals hM hv hF ho
  obtain ⟨x, y, rfl, hx, hy⟩ : ∃ x y, vals = [x, y] ∧ Rep m (faultD pc e) x ∧ Rep m (.ifc 196 (.mp b 0)) y := by
    obtain ⟨h1, h2⟩ := hv
    match vals, h2 with
    | [x, y], _ => exact ⟨x, y, rfl, h1.1, h1.2.1⟩
  simp only [faultD, Rep] at hx hy
  obtain ⟨z, rfl, hz⟩ := hx
  obtain ⟨_, rfl, rfl⟩ := hy
  have hz0 : Rep m (.ip [.int .i64 pc, .ifc 30 (.int .i64 e)]) z := by simpa only [Rep] using hz
  obtain ⟨b', o, ty', N, full, rfl, hz⟩ := hz
  have hcell : m.get ⟨b', o + 1, none⟩ = some (.iface 30 (.int .i64 e)) := by
    obtain ⟨hm, hp⟩ := hz
    have h5 : (full.drop o)[1]? = some (.iface 30 (.int .i64 e)) := by
      match hd : full.drop o, hp with
      | x1 :: x2 :: rest, hp =>
        obtain ⟨y, hy, hy2⟩ := hp.2.1
        simp only [Rep] at hy2
        subst hy hy2
        rfl
    rw [List.getElem?_drop] at h5
    simp [Mem.get, hm, h5]
  obtain ⟨vs, h1, h2, h3⟩ := hM b _ hb
  obtain ⟨u, rfl⟩ : ∃ u, vs = [u] := by
    match vs, h3 with
    | [u], _ => exact ⟨u, rfl⟩
  have hI : InvD F m (fun _ => .nilp) M (fun _ => .pointer none) m := ⟨fun _ => by simp only [Rep], hM, Fin.refl m, hF, ho⟩
  obtain ⟨k1, k2, k3, k4⟩ := hI.write hb (cs := [.int .i64 e]) (vs := [.int .i64 e]) ⟨⟨by simp only [Rep], trivial⟩, rfl⟩
  refine ⟨as_callable, fun w0 w hs => (as_deep ⟨b', o, none⟩ ⟨b, 0, none⟩ e u w (hs.get hcell) (sat_glob hs hM.glob) (hs.get (by simp [Mem.get, h1])) (sat_frozen hs h1)).mono fun ev w' ⟨he, hw⟩ => ⟨_, _, he, ?_, .bool true, _, by simp only [Rep], k1, k2, k3, k4, hR⟩⟩
  subst hw
  exact ((((hs.alloc' _).alloc' _).alloc' _).alloc' _).set (i := 0) h1 (by simp) (by simp) _
end Go.Proofs.YticlgdhhnjpkjaaGreatDoor.Pf
namespace Go.Proofs.YticlgdhhnjpkjaaGreatDoor.Pf
open Go Go.RowKit Go.Proofs Go.Proofs.YticlgdhhnjpkjaaGreatDoor.Mw Go.Proofs.YticlgdhhnjpkjaaGreatDoor.Sx
set_option linter.unusedVariables false
set_option linter.unusedSimpArgs false
set_option maxRecDepth 4000
def plainR (r : Option (Int × Int)) : DV := match r with
  | none => .raw .nilIface
  | some (pc, e) => faultD pc e
theorem plain_pu (p : List Fnc) (f : Fnc) (hf : fmayB f.code = true) : Pu Tryz.prog F_verify_plain [.ip [slD Fnc.c p], .ip f.c, slB (reachF f)] (plainR (plainE p f (reachF f))) := by
  obtain ⟨hl1, hl2⟩ := fmay_le hf
  have hrl := reachF_len f
  refine Pu.of (pc_verify_plain (by simp) ?_)
  simp only [S_verify_plain, R_verify_plain, MU_verify_plain, ofV_nilI, SW, SV, wpD, evDL, evDM, evD, bldLD, wpSp, DMem.mt, beq_self_eq_true, seval]
  refine ⟨fun k δ M => ∃ i, i ≤ f.code.length ∧ k = f.code.length - i ∧ δ 0 = .ip [slD Fnc.c p] ∧ δ 1 = .ip f.c ∧ δ 2 = slB (reachF f) ∧ δ 14 = slD Ins.c f.code ∧ δ 15 = .int .i64 f.code.length ∧ δ 16 = .int .i64 i ∧ (∀ j, j < i → badP p f (reachF f) j = false),
    f.code.length, ⟨0, Nat.zero_le _, rfl, rfl, rfl, rfl, rfl, rfl, rfl, fun j hj => absurd hj (by omega)⟩, ?_⟩
  rintro k δ M ⟨i, hi, rfl, h0, h1, h2, h14, h15, h16, hj⟩
  simp only [S1_verify_plain, MU_verify_plain, h0, h1, h2, h14, h15, h16, SW, SV, wpD, evDL, evDM, evD, bldLD, wpSp, DMem.mt, beq_self_eq_true, seval, decide_eq_true_eq, decide_eq_false_iff_not]
  refine ⟨fun hlt => ?_, fun hge => ?_⟩
  · have hlt' : i < f.code.length := by omega
    have hir : i < (reachF f).length := by omega
    have hi62 : i < 4611686018427387905 := by omega
    have hbad : ((reachF f)[i] && outB p f f.code[i]) = badP p f (reachF f) i := by
      unfold badP
      rw [List.getD_eq_getElem?_getD, List.getElem?_eq_getElem hir, List.getD_eq_getElem?_getD, List.getElem?_eq_getElem hlt'] <;> rfl
    simp only [ix_slD Ins.len hlt', h0, h1, h2, h14, h15, h16, SW, SV, wpD, evDL, evDM, evD, bldLD, wpSp, DMem.mt, beq_self_eq_true, seval]
    refine fun q M2 hq hM2 => ?_
    refine stD (hM2 ▸ DMem.ins_same _ _ _) rfl rfl (by simp) (by simp) rfl fun M3 hM3 => ?_
    have hq3 : M3 q = some ⟨63, 2, f.code[i].c⟩ := by rw [hM3, DMem.ins_same] <;> rfl
    simp only [hq3, ix_slB hir, fz_prg, fz_ins, outside_pf, hbad, h0, h1, h2, h14, h15, h16, w64s hi62, of0_nilI, cellsIfc, SW, SV, wpD, evDL, evDM, evD, bldLD, wpSp, DMem.mt, beq_self_eq_true, seval]
    refine ⟨fun hb => ?_, fun hb => ⟨f.code.length - (i + 1), M3, by omega, SubD.refl _, i + 1, by omega, rfl, rfl, fun j hji => ?_⟩⟩
    · rw [plain_hit hlt' hb hj]
      simp only [fz_ifc, fz_ip, fz_int, List.map_cons, List.map_nil, plainR, faultD]
    · rcases Nat.lt_or_ge j i with h | h
      · exact hj j h
      · have : j = i := by omega
        subst this; exact hb
  · have : i = f.code.length := by omega
    subst this
    have hlast : f.code.length - 1 < f.code.length := by omega
    have hlr : f.code.length - 1 < (reachF f).length := by omega
    have el : wr64 ((f.code.length : Int) - 1) = ((f.code.length - 1 : Nat) : Int) := by rw [w64 (by omega)]; omega
    have hpm := plain_miss hj
    rw [List.getD_eq_getElem?_getD, List.getElem?_eq_getElem hlr, List.getD_eq_getElem?_getD, List.getElem?_eq_getElem hlast] at hpm
    simp only [Option.getD_some] at hpm
    simp only [S2_verify_plain, MU_verify_plain, ix_slB hlr, ix_slD Ins.len hlast, el, h0, h1, h2, h14, h15, h16, of0_nilI, ofV_nilI, cellsIfc, fz_raw, SW, SV, wpD, evDL, evDM, evD, bldLD, wpSp, DMem.mt, beq_self_eq_true, seval]
    refine ⟨fun hb => ?_, fun hb => ?_⟩
    · rw [decide_not, decide_not] at hb
      rw [if_pos hb] at hpm
      rw [hpm]
      simp only [fz_ifc, fz_ip, fz_int, List.map_cons, List.map_nil, plainR, faultD]
    · rw [decide_not, decide_not] at hb
      rw [if_neg (by rw [hb]; simp)] at hpm
      rw [hpm] <;> rfl
end Go.Proofs.YticlgdhhnjpkjaaGreatDoor.Pf
namespace Go.Proofs.YticlgdhhnjpkjaaGreatDoor.Pf
open Go Go.RowKit Go.Proofs Go.Proofs.YticlgdhhnjpkjaaGreatDoor.Mw Go.Proofs.YticlgdhhnjpkjaaGreatDoor.Sx
set_option linter.unusedVariables false
set_option linter.unusedSimpArgs false
set_option maxRecDepth 4000
def toldE (r : Option (Int × Int)) : Int × Int := r.getD (0, 0)
theorem told_pu (r : Option (Int × Int)) : Pu Tryz.prog F_verify_told [plainR r] (.tup [.int .i64 (toldE r).1, .int .i64 (toldE r).2]) := by
  refine Pu.of (pc_verify_told (by simp) ?_)
  simp only [S_verify_told, S2_verify_told, S1_verify_told, R_verify_told, MU_verify_told, SW, SV, wpD, evDL, evDM, evD, bldLD, wpSp, DMem.mt, beq_self_eq_true, seval]
  refine fun q M1 h1 b M2 hn h2 => ?_
  have hqb : q ≠ b := by
    rintro rfl
    rw [h1, DMem.ins_same] at hn; cases hn
  have hq2 : M2 q = some ⟨185, 1, [.nilp]⟩ := by rw [h2, DMem.ins_ne _ _ hqb, h1, DMem.ins_same]
  have hb2 : M2 b = some ⟨30, 1, [.int .i64 0]⟩ := by rw [h2, DMem.ins_same]
  cases r with
  | none =>
    refine as_nil_pc ?_
    simp only [plainR, toldE, SW, SV, wpD, evDL, evDM, evD, bldLD, wpSp, DMem.mt, beq_self_eq_true, seval]
  | some x =>
    obtain ⟨pc, e⟩ := x
    refine as_hit_pc pc e hq2 ?_
    simp only [plainR, toldE, SW, SV, wpD, evDL, evDM, evD, bldLD, wpSp, DMem.mt, beq_self_eq_true, seval]
    refine as_deep_pc pc e (by rw [DMem.ins_ne _ _ (Ne.symm hqb)]; exact hb2) ?_
    simp only [plainR, toldE, SW, SV, wpD, evDL, evDM, evD, bldLD, wpSp, DMem.mt, beq_self_eq_true, seval]
    refine ⟨[(2, .int .i64 pc), (3, .int .i64 e)], ?_, ?_⟩
    · rw [DMem.ins_ne _ _ hqb, DMem.ins_same]
      rfl
    · simp only [SW, SV, wpD, evDL, evDM, evD, bldLD, wpSp, DMem.mt, beq_self_eq_true, seval]
end Go.Proofs.YticlgdhhnjpkjaaGreatDoor.Pf
namespace Go.Proofs.YticlgdhhnjpkjaaGreatDoor.Pf
open Go Go.RowKit Go.Proofs Go.Proofs.YticlgdhhnjpkjaaGreatDoor.Mw Go.Proofs.YticlgdhhnjpkjaaGreatDoor.Sx
set_option linter.unusedVariables false
set_option linter.unusedSimpArgs false
theorem effNil (o : Oper) {x : Nat} {s : TypeId} (ho : o.op = .binOp .eql 162 (.tmp x) (.const .nilIface) s) {K : DV → DMem → Prop} {δ : DEnv} {M : DMem} {b : Bool} (hb : (b = true ∧ δ x = .raw .nilIface) ∨ (b = false ∧ ∃ t d, δ x = .ifc t d)) (hK : K (.bool b) M) : EffD Tryz.prog o K δ M := by
  intro F m0 ρ m hI w0 w a hs ha
  have h41 : a.eval (.tmp x) = ρ x := ha _ (by simp [ho, Op.operands])
  have hr := hI.env x
  have hu : Tryz.prog.underlying 162 = some (.interface (Tryz.prog.methodsAt 162)) := by kernel_rfl
  refine wp_of_run (v := .bool b) (w' := w) ?_ ⟨.bool b, m, rfl, hs, .bool b, M, ⟨by simp only [Rep], hI.mem, Fin.refl m, hI.keep, hI.own⟩, hK⟩
  rcases hb with ⟨rfl, h⟩ | ⟨rfl, t, d, h⟩
  · rw [h] at hr
    simp only [Rep] at hr
    rw [hr] at h41
    have h2 := run_eql_nil_nil (P := Tryz.prog) (w := w) 162 hu
    simp only [Act.eval] at h41
    simp [execOp, ho, h41, Act.eval, h2, Result.andThen, eqGuard]
  · rw [h] at hr
    simp only [Rep] at hr
    obtain ⟨y, hy, _⟩ := hr
    rw [hy] at h41
    have h2 := run_eql_held_nil (P := Tryz.prog) (w := w) 162 t y hu
    simp only [Act.eval] at h41
    simp [execOp, ho, h41, Act.eval, h2, Result.andThen, eqGuard]
end Go.Proofs.YticlgdhhnjpkjaaGreatDoor.Pf
namespace Go.Proofs.YticlgdhhnjpkjaaGreatDoor.Pf
open Go Go.RowKit Go.Proofs Go.Proofs.YticlgdhhnjpkjaaGreatDoor.Mw Go.Proofs.YticlgdhhnjpkjaaGreatDoor.Sx
set_option linter.unusedVariables false
set_option linter.unusedSimpArgs false
set_option maxRecDepth 4000
theorem imp_front (cs ds : List DV) : Imp (.ip (cs ++ ds)) (.ip cs) := fun m v r => by
  simp only [Rep] at r ⊢
  obtain ⟨b, o, ty, N, full, h1, h2, h3⟩ := r
  exact ⟨b, o, ty, N, full, h1, h2, RepP.front h3⟩
theorem imp_fn (f : Fnc) (p : DV) (rest : List DV) (x : List DV) : ImpL (p :: .ip (.int .i64 f.args :: .int .i64 f.locals :: slD Ins.c f.code :: rest) :: x) (p :: .ip f.c :: x) :=
  ImpL.cons (fun _ _ h => h) (ImpL.cons (imp_front f.c rest) (ImpL.refl _))
theorem Heights_pu (p : List Fnc) (fn : Int) : Pu Tryz.prog F_verify_Heights [.agg [slD Fnc.c p], .int .i64 fn] (.tup [slI (heightsR p fn).1, .int .i64 (heightsR p fn).2.1, .int .i64 (heightsR p fn).2.2]) := by
  refine Pu.of (pc_verify_Heights (by simp) ?_)
  simp only [S_verify_Heights, R_verify_Heights, MU_verify_Heights, fz_prg, PackMay_pf, ldnI1, SW, SV, wpD, evDL, evDM, evD, bldLD, wpSp, DMem.mt, beq_self_eq_true, seval]
  refine ⟨fun h => ?_, fun h => ?_⟩
  · have hc : ¬ (packB p = true ∧ 0 ≤ fn ∧ fn < p.length) := by
      simp only [Bool.or_eq_true, Bool.not_eq_true', decide_eq_true_eq] at h
      rcases h with (h | h) | h
      · simp [h]
      · omega
      · omega
    have e : heightsR p fn = ([], 0, 500) := by unfold heightsR; rw [if_neg hc]
    rw [e] <;> rfl
  · simp only [Bool.or_eq_false_iff, Bool.not_eq_false', decide_eq_false_iff_not] at h
    obtain ⟨⟨hpk, h0⟩, h1⟩ := h
    obtain ⟨n, rfl⟩ := Int.eq_ofNat_of_zero_le (show 0 ≤ fn by omega)
    have hn : n < p.length := by omega
    have hfn := pack_fn hpk _ (List.getElem_mem hn)
    have hmay := fn_may hfn
    obtain ⟨hl1, hl2⟩ := fmay_le hmay
    have e : heightsR p n = match plainE p p[n] (reachF p[n]) with
      | some (pc, e) => ([], pc, e)
      | none => match heightsE p p[n] with
        | .ok out => (out, 0, 0)
        | .error pc => ([], pc, 502) := by
      unfold heightsR
      rw [if_pos ⟨hpk, by omega, by omega⟩, Int.toNat_natCast, List.getElem?_eq_getElem hn] <;> rfl
    rw [e]
    simp only [ix_slD Fnc.len hn, ldnI1, SW, SV, wpD, evDL, evDM, evD, bldLD, wpSp, DMem.mt, beq_self_eq_true, seval]
    generalize hg : p[n] = f at hfn hmay hl1 hl2 e ⊢
    refine Pu.pc (Reached_pt f).pu ?_
    have er : reachR f = (reachF f, 0) := by simp only [reachR, hmay] <;> rfl
    rw [er]
    simp only [S4_verify_Heights, S3_verify_Heights, S2_verify_Heights, S1_verify_Heights, MU_verify_Heights, ldnI1, SW, SV, wpD, evDL, evDM, evD, bldLD, wpSp, DMem.mt, beq_self_eq_true, seval]
    refine Pu.pc ((plain_pu p f hmay).weak (imp_fn f _ _ _)) ?_
    cases hpl : plainE p f (reachF f) with
    | some x =>
      obtain ⟨pc, e'⟩ := x
      refine effNil _ rfl (b := false) (.inr ⟨rfl, 185, _, by simp only [plainR, faultD, SW, SV, wpD, evDL, evDM, evD, bldLD, wpSp, DMem.mt, beq_self_eq_true, seval] <;> rfl⟩) ?_
      simp only [SW, SV, wpD, evDL, evDM, evD, bldLD, wpSp, DMem.mt, beq_self_eq_true, seval]
      refine Pu.pc (told_pu (some (pc, e'))) ?_
      simp only [toldE, SW, SV, wpD, evDL, evDM, evD, bldLD, wpSp, DMem.mt, beq_self_eq_true, seval] <;> rfl
    | none =>
      refine effNil _ rfl (b := true) (.inl ⟨rfl, by simp only [plainR, SW, SV, wpD, evDL, evDM, evD, bldLD, wpSp, DMem.mt, beq_self_eq_true, seval]⟩) ?_
      simp only [SW, SV, wpD, evDL, evDM, evD, bldLD, wpSp, DMem.mt, beq_self_eq_true, seval]
      have hj : ∀ j, j < f.code.length → badP p f (reachF f) j = false := by
        intro j hlt
        unfold plainE at hpl
        split at hpl
        · cases hpl
        · rename_i hfd
          rw [List.find?_range_eq_none] at hfd
          have h9 := hfd j hlt
          unfold badP
          revert h9
          generalize ((reachF f).getD j false && outB p f (f.code.getD j ⟨0, 0⟩)) = z
          cases z <;> simp
      refine Pu.pc ((heights_pu p f (pack_fn hpk) hmay (plain_none hmay hj)).weak (imp_fn f _ _ _)) ?_
      cases hh : heightsE p f with
      | ok out =>
        simp only [heightsD, SW, SV, wpD, evDL, evDM, evD, bldLD, wpSp, DMem.mt, beq_self_eq_true, seval]
        refine Pu.pc (told_pu none) ?_
        simp only [toldE, SW, SV, wpD, evDL, evDM, evD, bldLD, wpSp, DMem.mt, beq_self_eq_true, seval]
        try rfl
      | error pc =>
        simp only [heightsD, SW, SV, wpD, evDL, evDM, evD, bldLD, wpSp, DMem.mt, beq_self_eq_true, seval]
        refine Pu.pc (told_pu (some (pc, 502))) ?_
        simp only [toldE, SW, SV, wpD, evDL, evDM, evD, bldLD, wpSp, DMem.mt, beq_self_eq_true, seval]
        try rfl
end Go.Proofs.YticlgdhhnjpkjaaGreatDoor.Pf
namespace Go.Proofs.YticlgdhhnjpkjaaGreatDoor.Pf
open Go Go.RowKit Go.Proofs Go.Proofs.YticlgdhhnjpkjaaGreatDoor.Mw Go.Proofs.YticlgdhhnjpkjaaGreatDoor.Sx
set_option linter.unusedVariables false
set_option linter.unusedSimpArgs false
set_option maxRecDepth 4000
def rowsD (l : List (List Int)) : DV := .isl l.length (l.map slI)
theorem All_pu (p : List Fnc) : Pu Tryz.prog F_verify_All [.ip [slD Fnc.c p]] (.tup [rowsD (allR p).1, .int .i64 (allR p).2]) := by
  refine Pu.of (pc_verify_All (by simp) ?_)
  simp only [S_verify_All, R_verify_All, MU_verify_All, fz_prg, PackMay_pf, ldnI1, SW, SV, wpD, evDL, evDM, evD, bldLD, wpSp, DMem.mt, beq_self_eq_true, seval]
  refine ⟨fun h => ?_, fun h => ?_⟩
  · have e : allR p = ([], 500) := by
      unfold allR; rw [if_neg (by simpa using h)]
    rw [e] <;> rfl
  · have hpk : packB p = true := by simpa using h
    have hp8 : p.length ≤ 8 := by
      have := hpk
      unfold packB at this
      simp only [Bool.and_eq_true, decide_eq_true_eq] at this
      exact this.1.2
    simp only [S3_verify_All, SW, SV, wpD, evDL, evDM, evD, bldLD, wpSp, DMem.mt, beq_self_eq_true, seval]
    refine ⟨fun k δ M => ∃ i, i ≤ p.length ∧ k = p.length - i ∧ δ 0 = .ip [slD Fnc.c p] ∧ δ 16 = .int .i64 p.length ∧ δ 17 = .int .i64 i ∧ OwnD M 1 (δ 4) i (((List.range i).map fun j : Nat => (heightsR p (j : Int)).1).map slI) ∧ ∀ j, j < i → (heightsR p (j : Int)).2.2 = 0,
      p.length, ⟨0, Nat.zero_le _, rfl, rfl, rfl, rfl, OwnD.zsl _ _, fun j hj => absurd hj (by omega)⟩, ?_⟩
    rintro k δ M ⟨i, hi, rfl, h0, h16, h17, ho, hj⟩
    simp only [S2_verify_All, MU_verify_All, h0, h16, h17, ldnI1, SW, SV, wpD, evDL, evDM, evD, bldLD, wpSp, DMem.mt, beq_self_eq_true, seval, decide_eq_true_eq, decide_eq_false_iff_not]
    refine ⟨fun hlt => ?_, fun hge => ?_⟩
    · have hlt' : i < p.length := by omega
      refine Pu.pc (Heights_pu p i) ?_
      simp only [S1_verify_All, MU_verify_All, h0, h16, h17, SW, SV, wpD, evDL, evDM, evD, bldLD, wpSp, DMem.mt, beq_self_eq_true, seval, decide_eq_true_eq, decide_eq_false_iff_not]
      refine ⟨fun hne => ?_, fun he => ?_⟩
      · rw [verify_hit hpk hlt' hne hj]
        rfl
      · have he' : (heightsR p (i : Int)).2.2 = 0 := by simpa using he
        refine app_one (x := slI (heightsR p (i : Int)).1) (bytes := 24) ho rfl (by omega) (by omega) fun d M' ho' hg => ?_
        simp only [h0, h16, h17, w64s (show i < 4611686018427387905 by omega), SW, SV, wpD, evDL, evDM, evD, bldLD, wpSp, DMem.mt, beq_self_eq_true, seval]
        refine ⟨p.length - (i + 1), M', by omega, SubD.refl _, i + 1, by omega, rfl, rfl, ?_, fun j hji => ?_⟩
        · rw [List.range_succ, List.map_append, List.map_append]
          exact ho'
        · rcases Nat.lt_or_ge j i with h2 | h2
          · exact hj j h2
          · have : j = i := by omega
            subst this; exact he'
    · have hil : i = p.length := by omega
      subst hil
      try simp only [h0, h16, h17, SW, SV, wpD, evDL, evDM, evD, bldLD, wpSp, DMem.mt, beq_self_eq_true, seval]
      rw [verify_miss hpk hj, ho.fz 3, fzmap_froz (FrozL.map (fun x => Froz.slI x) _)]
      simp only [rowsD, List.length_map, List.length_range]
end Go.Proofs.YticlgdhhnjpkjaaGreatDoor.Pf
namespace Go.Proofs.YticlgdhhnjpkjaaGreatDoor.Pf
open Go Go.RowKit Go.Proofs Go.Proofs.YticlgdhhnjpkjaaGreatDoor.Mw Go.Proofs.YticlgdhhnjpkjaaGreatDoor.Sx
set_option linter.unusedVariables false
set_option linter.unusedSimpArgs false
set_option maxRecDepth 8000
theorem low_len (p : List Fnc) (f : Fnc) (fn : Int) (hs : List Int) : ∀ n, (lowS p f fn hs n).starts.length = n ∧ (lowS p f fn hs n).code.length ≤ 2 * n ∧ (lowS p f fn hs n).metas.length ≤ n
  | 0 => by simp [lowS]
  | n + 1 => by
    obtain ⟨h1, h2, h3⟩ := low_len p f fn hs n
    simp only [lowS, lowStep]
    split
    · simp only [List.length_append, List.length_cons, List.length_nil]; omega
    · split <;> simp only [List.length_append, List.length_cons, List.length_nil] <;> omega
def lowW (p : List Fnc) (f : Fnc) (fn : Int) (hs : List Int) (i : Nat) : Low := ⟨(lowS p f fn hs i).code, (lowS p f fn hs i).metas, (lowS p f fn hs i).starts ++ List.replicate (f.code.length - i) 0⟩
theorem WrAt.sub {M M' : DMem} {wb : Nat} {fn regs : Int} {w : Low} {S : List Nat} (h : WrAt M wb fn regs w S) (k : SubD M M') : WrAt M' wb fn regs w S := by
  obtain ⟨dc, dm, sb, Sc, Sm, hM, hc, hm, hs, rfl, hnd⟩ := h
  exact ⟨dc, dm, sb, Sc, Sm, k _ _ hM, hc.sub irE_ok k, hm.sub metaE_ok k, k _ _ hs, rfl, hnd⟩
theorem WrAt.here {M : DMem} {wb : Nat} {fn regs : Int} {w : Low} {S : List Nat} (h : WrAt M wb fn regs w S) : ∀ y ∈ S, M y ≠ none := by
  obtain ⟨dc, dm, sb, Sc, Sm, hM, hc, hm, hs, rfl, hnd⟩ := h
  intro y hy
  simp only [List.mem_cons, List.mem_append] at hy
  rcases hy with rfl | rfl | h | h
  · rw [hM]; simp
  · rw [hs]; simp
  · exact hc.here irE_ok y h
  · exact hm.here metaE_ok y h
theorem lowW_neg {p : List Fnc} {f : Fnc} {fn : Int} {hs : List Int} {i : Nat} (h : i < hs.length) (hn : hs[i] = -1) (hi : i < f.code.length) (h0 : True) : lowW p f fn hs (i + 1) = lowW p f fn hs i := by
  unfold lowW
  have e : hs.getD i (-1) = -1 := by rw [List.getD_eq_getElem?_getD, List.getElem?_eq_getElem h]; exact hn
  simp only [lowS, lowStep, e, if_true]
  congr 1
  rw [List.append_assoc, show f.code.length - i = (f.code.length - (i + 1)) + 1 by omega, List.replicate_succ] <;> rfl
theorem low_set {s : List Int} {i k : Nat} {c : Int} (h : s.length = i) (hk : 1 ≤ k) : (s ++ List.replicate k 0).set i c = s ++ [c] ++ List.replicate (k - 1) 0 := by
  subst h
  obtain ⟨j, rfl⟩ : ∃ j, k = j + 1 := ⟨k - 1, by omega⟩
  rw [List.set_append_right _ _ (Nat.le_refl _), Nat.sub_self, List.replicate_succ, List.set_cons_zero]
  simp
theorem lowW_put {p : List Fnc} {f : Fnc} {fn : Int} {hs : List Int} {i : Nat} {v : Int} (hv : hs[i]? = some v) (hn : v ≠ -1) (hi : i < f.code.length) (hb : backB f.code[i] i = false) : lowW p f fn hs (i + 1) = ⟨(lowW p f fn hs i).code ++ [irL p f.code[i] i (f.locals + v)], (lowW p f fn hs i).metas, (lowW p f fn hs i).starts.set i (lowW p f fn hs i).code.length⟩ := by
  have e : hs.getD i (-1) = v := by rw [List.getD_eq_getElem?_getD, hv] <;> rfl
  have e2 : f.code.getD i ⟨0, 0⟩ = f.code[i] := by rw [List.getD_eq_getElem?_getD, List.getElem?_eq_getElem hi] <;> rfl
  have hl := (low_len p f fn hs i).1
  unfold lowW
  rw [low_set hl (by omega)]
  simp only [lowS, lowStep, e, e2, if_neg hn, hb, Nat.sub_sub] <;> rfl
theorem lowW_back {p : List Fnc} {f : Fnc} {fn : Int} {hs : List Int} {i : Nat} {v : Int} (hv : hs[i]? = some v) (hn : v ≠ -1) (hi : i < f.code.length) (hb : backB f.code[i] i = true) : lowW p f fn hs (i + 1) = ⟨(lowW p f fn hs i).code ++ [⟨10, 0, 0, 0, 0, [], 0, (lowW p f fn hs i).metas.length, i⟩] ++ [irL p f.code[i] i (f.locals + v)], (lowW p f fn hs i).metas ++ [[plainP f fn i v 0]], (lowW p f fn hs i).starts.set i (lowW p f fn hs i).code.length⟩ := by
  have e : hs.getD i (-1) = v := by rw [List.getD_eq_getElem?_getD, hv] <;> rfl
  have e2 : f.code.getD i ⟨0, 0⟩ = f.code[i] := by rw [List.getD_eq_getElem?_getD, List.getElem?_eq_getElem hi] <;> rfl
  have hl := (low_len p f fn hs i).1
  unfold lowW
  rw [low_set hl (by omega)]
  simp only [lowS, lowStep, e, e2, if_neg hn, hb, Nat.sub_sub, if_true, List.append_assoc] <;> rfl
theorem irL_goes {p : List Fnc} {x : Ins} {pc top : Int} (hk : goesB (irL p x pc top).kind = true) : (x.kind = 12 ∨ x.kind = 13) ∧ (irL p x pc top).k = x.a := by
  by_cases h12 : x.kind = 12
  · simp [irL, h12]
  · by_cases h13 : x.kind = 13
    · simp [irL, h13]
    · exfalso
      unfold irL at hk
      rw [if_neg h12, if_neg h13] at hk
      repeat' split at hk
      all_goals exact absurd hk (by simp [goesB])
theorem low_goes {p : List Fnc} {f : Fnc} {fn : Int} {hs : List Int} (h : HF p f hs) : ∀ {n : Nat}, n ≤ f.code.length → ∀ x ∈ (lowS p f fn hs n).code, goesB x.kind = true → 0 ≤ x.k ∧ x.k < ((f.code.length : Nat) : Int)
  | 0, _, x, hx, _ => by simp [lowS] at hx
  | n + 1, hn, x, hx, hg => by
    have hnl : n < f.code.length := by omega
    have hnh : n < hs.length := by rw [h.hi.len]; exact hnl
    have key : ∀ top : Int, hs[n] ≠ -1 → goesB (irL p f.code[n] n top).kind = true → 0 ≤ (irL p f.code[n] n top).k ∧ (irL p f.code[n] n top).k < ((f.code.length : Nat) : Int) := fun top hne hg => by
      obtain ⟨h1, h2⟩ := irL_goes hg
      rw [h2]
      have h3 := may_jump (fmay_ins (fn_may h.fn) hnl) h1
      have h4 := h.out n hnl _ (List.getElem?_eq_getElem hnh) hne
      refine ⟨h3.1, ?_⟩
      unfold outB at h4
      rw [if_neg (by omega), if_pos h1] at h4
      simpa using h4
    have e : hs.getD n (-1) = hs[n] := by rw [List.getD_eq_getElem?_getD, List.getElem?_eq_getElem hnh] <;> rfl
    have e2 : f.code.getD n ⟨0, 0⟩ = f.code[n] := by rw [List.getD_eq_getElem?_getD, List.getElem?_eq_getElem hnl] <;> rfl
    simp only [lowS, lowStep, e, e2] at hx
    split at hx
    · exact low_goes h (by omega) x hx hg
    · rename_i hne
      split at hx
      · simp only [List.mem_append, List.mem_cons, List.not_mem_nil, or_false] at hx
        rcases hx with hx | rfl | rfl
        · exact low_goes h (by omega) x hx hg
        · exact absurd hg (by simp [goesB])
        · exact key _ hne hg
      · simp only [List.mem_append, List.mem_cons, List.not_mem_nil, or_false] at hx
        rcases hx with hx | rfl
        · exact low_goes h (by omega) x hx hg
        · exact key _ hne hg
theorem imp_zsl : Imp .zsl (slI []) := fun m v h => by
  simp only [slI, Rep] at h ⊢
  obtain ⟨a, rfl⟩ := h
  exact ⟨a, 0, rfl, by simp⟩
theorem imp_ir (w : DV) (k mt pc : Int) : ImpL [w, .agg [.int .i64 k, .int .i64 0, .int .i64 0, .int .i64 0, .int .i64 0, .zsl, .int .i64 0, .int .i64 mt, .int .i64 pc]] [w, .agg (⟨k, 0, 0, 0, 0, [], 0, mt, pc⟩ : Irc).c] :=
  ImpL.cons (Imp.refl _) <| ImpL.cons (Imp.agg (ImpL.cons (Imp.refl _) <| ImpL.cons (Imp.refl _) <| ImpL.cons (Imp.refl _) <| ImpL.cons (Imp.refl _) <| ImpL.cons (Imp.refl _) <| ImpL.cons imp_zsl <| ImpL.refl _)) (ImpL.refl _)
set_option maxHeartbeats 1000000 in
theorem Lower_pc {M : DMem} (p : List Fnc) (fn : Int) {R : DV → DMem → Prop}
    (hR : ∀ dc dm M' Sc Sm, SlAt irE M' dc (lowerR p fn).1.code Sc → SlAt metaE M' dm (lowerR p fn).1.metas Sm → (Sc ++ Sm).Nodup → (∀ y ∈ Sc ++ Sm, M y = none) → SubD M M' →
      R (.tup [.agg [.int .i64 (lowerR p fn).1.fn, .int .i64 (lowerR p fn).1.regs, dc, dm], .int .i64 (lowerR p fn).2]) M') : PC Tryz.prog F_lower_Lower [.agg [slD Fnc.c p], .int .i64 fn] R M := by
  refine pc_lower_Lower (by simp) ?_
  simp only [S_lower_Lower, R_lower_Lower, MU_lower_Lower, SW, SV, wpD, evDL, evDM, evD, bldLD, wpSp, DMem.mt, beq_self_eq_true, seval]
  intro o M1 ho hM1
  refine Pu.pc (All_pu p) ?_
  simp only [S8_lower_Lower, MU_lower_Lower, SW, SV, wpD, evDL, evDM, evD, bldLD, wpSp, DMem.mt, beq_self_eq_true, seval]
  have hoM : M o = none := ho
  have k1 : SubD M M1 := fun y B hB => by rw [hM1, DMem.ins_ne _ _ (by rintro rfl; rw [hoM] at hB; cases hB)]; exact hB
  have ho1 : M1 o = some ⟨29, 4, [.int .i64 0, .int .i64 0, .zsl, .zsl]⟩ := by rw [hM1, DMem.ins_same]
  clear hM1 ho
  refine ⟨fun hb => ?_, fun hb => ?_⟩
  · have e : lowerR p fn = (cod0, 1100) := by
      unfold lowerR
      rw [if_neg]
      simp only [Bool.or_eq_true, decide_eq_true_eq] at hb
      unfold verifyE
      omega
    rw [e] at hR
    refine stD ho1 rfl rfl (by simp) (by simp) rfl fun M2 hM2 => ?_
    have ho2 : M2 o = some ⟨29, 4, [.int .i64 0, .int .i64 0, .zsl, .zsl]⟩ := by rw [hM2, DMem.ins_same] <;> rfl
    refine ⟨_, by rw [ho2] <;> rfl, hR .zsl .zsl M2 [] [] SlAt.nil SlAt.nil List.nodup_nil (fun y hy => by simp at hy) fun y B hB => ?_⟩
    rw [hM2, DMem.ins_ne _ _ (by rintro rfl; rw [hoM] at hB; cases hB)]
    exact k1 y B hB
  · simp only [Bool.or_eq_false_iff, decide_eq_false_iff_not, Decidable.not_not] at hb
    obtain ⟨⟨hv, hf0⟩, hfl⟩ := hb
    obtain ⟨n, rfl⟩ := Int.eq_ofNat_of_zero_le (show 0 ≤ fn by omega)
    have hn : n < p.length := by omega
    have hve : verifyE p = 0 := hv
    obtain ⟨hpk, hall⟩ := verify_ok hve
    have hHF := heights_hf hpk hn (hall n hn)
    have hloc := fn_loc hHF.fn
    have hmay := fn_may hHF.fn
    obtain ⟨hl1, hl2⟩ := fmay_le hmay
    have hp8 := pack_len hpk
    have eR : lowerR p (n : Int) = (lowF p p[n] n, 0) := by
      unfold lowerR
      rw [if_pos ⟨hve, by omega, by omega⟩]
      simp only [Int.toNat_natCast, List.getElem?_eq_getElem hn]
    rw [eR] at hR
    rw [verify_rows hve]
    have e8 : wr64 (p[n].locals + 8) = p[n].locals + 8 := w64 (by omega)
    simp only [ix_slD Fnc.len hn, raw0_lower_Lower, P0_lower_Lower, MU_lower_Lower, e8, SW, SV, wpD, evDL, evDM, evD, bldLD, wpSp, DMem.mt, beq_self_eq_true, seval]
    refine Write_pc n (p[n].locals + 8) p[n].code.length (by omega) fun wb M2 S hw fS k2 => ?_
    have ho2 := k2 o _ ho1
    have fo : ∀ y ∈ S, y ≠ o := fun y hy => by rintro rfl; have := fS y hy; rw [ho1] at this; cases this
    generalize hhs : (heightsR p (n : Int)).1 = hs at hHF
    simp only [S7_lower_Lower, MU_lower_Lower, ldnI1, SW, SV, wpD, evDL, evDM, evD, bldLD, wpSp, DMem.mt, beq_self_eq_true, seval]
    refine ⟨fun k δ M' => ∃ (i : Nat) (S' : List Nat), i ≤ p[n].code.length ∧ k = p[n].code.length - i ∧ δ 1 = .int .i64 n ∧ δ 2 = .ip [slD Fnc.c p] ∧ δ 4 = .mp o 0 ∧ δ 5 = .int .i64 0 ∧
        δ 6 = rowsD ((List.range p.length).map (fun i : Nat => (heightsR p (i : Int)).1)) ∧ δ 8 = .ip (.int .i64 p[n].args :: .int .i64 p[n].locals :: slD Ins.c p[n].code :: (p.drop (n + 1)).flatMap Fnc.c) ∧ δ 9 = .mp wb 0 ∧ δ 52 = slD Ins.c p[n].code ∧ δ 53 = .int .i64 p[n].code.length ∧ δ 54 = .int .i64 i ∧
        WrAt M' wb n (p[n].locals + 8) (lowW p p[n] n hs i) S' ∧ (∀ y ∈ S', M1 y = none) ∧ SubD M1 M', p[n].code.length,
      ⟨0, S, Nat.zero_le _, rfl, rfl, rfl, rfl, rfl, rfl, rfl, rfl, rfl, rfl, rfl, hw, fS, k2⟩, ?_⟩
    clear hw fo fS k2 ho2
    rintro k δ M' ⟨i, S', hi, rfl, h1, h2, h4, h5, h6, h8, h9, h52, h53, h54, hw, fS, k2⟩
    simp only [S4_lower_Lower, MU_lower_Lower, h1, h2, h4, h5, h6, h8, h9, h52, h53, h54, SW, SV, wpD, evDL, evDM, evD, bldLD, wpSp, DMem.mt, beq_self_eq_true, seval, decide_eq_true_eq, decide_eq_false_iff_not]
    refine ⟨fun hlt => ?_, fun hge => ?_⟩
    · have hil : i < p[n].code.length := by omega
      have hix : ixD 1 (rowsD ((List.range p.length).map (fun i : Nat => (heightsR p (i : Int)).1))) (.int .i64 (n : Int)) = some (.ip (slI hs :: (((List.range p.length).map (fun i : Nat => (heightsR p (i : Int)).1)).drop (n + 1)).map slI)) := by
        unfold rowsD
        simp only [ixD, List.length_map, List.length_range]
        rw [if_pos ⟨by omega, by omega⟩, Int.toNat_natCast, Nat.mul_one, List.drop_eq_getElem_cons (by simpa using hn), ← List.map_drop]
        simp only [List.getElem_map, List.getElem_range, hhs]
      have hhl : i < hs.length := by rw [hHF.hi.len]; exact hil
      simp only [ix_slD Ins.len hil, SW, SV, wpD, evDL, evDM, evD, bldLD, wpSp, DMem.mt, beq_self_eq_true, seval]
      intro q M2 hq hM2
      have hqM : M' q = none := hq
      have hq2 : M2 q = some ⟨63, 2, [.int .i64 0, .int .i64 0]⟩ := by rw [hM2, DMem.ins_same]
      have k3 : SubD M' M2 := fun y B hB => by rw [hM2, DMem.ins_ne _ _ (by rintro rfl; rw [hqM] at hB; cases hB)]; exact hB
      refine stD hq2 rfl rfl (by simp) (by simp) rfl fun M3 hM3 => ?_
      have hq3 : M3 q = some ⟨63, 2, [.int .i64 p[n].code[i].kind, .int .i64 p[n].code[i].a]⟩ := by rw [hM3, DMem.ins_same] <;> rfl
      have k4 : SubD M' M3 := fun y B hB => by rw [hM3, DMem.ins_ne _ _ (by rintro rfl; rw [hqM] at hB; cases hB)]; exact k3 y B hB
      clear hM2 hM3 hq2 hq k3
      have hw3 : WrAt M3 wb n (p[n].locals + 8) (lowW p p[n] n hs i) S' := hw.sub k4
      have hqS : q ∉ S' := fun hh => hw.here q hh hqM
      have k5 : SubD M1 M3 := fun y B hB => k4 y B (k2 y B hB)
      have ei : wr64 ((i : Int) + 1) = ((i + 1 : Nat) : Int) := w64s (by omega)
      simp only [h1, h6, hix, ix_slI hhl, SW, SV, wpD, evDL, evDM, evD, bldLD, wpSp, DMem.mt, beq_self_eq_true, seval, decide_eq_true_eq, decide_eq_false_iff_not]
      refine ⟨fun hneg => ?_, fun hpos => ?_⟩
      · try simp only [h1, h2, h4, h5, h6, h8, h9, h52, h53, h54, ei, SW, SV, wpD, evDL, evDM, evD, bldLD, wpSp, DMem.mt, beq_self_eq_true, seval]
        refine ⟨p[n].code.length - (i + 1), M3, by omega, SubD.refl _, i + 1, S', by omega, rfl, rfl, ?_, fS, k5⟩
        rw [lowW_neg hhl hneg hil trivial]
        exact hw3
      · simp only [S3_lower_Lower, MU_lower_Lower, h1, h2, h4, h5, h6, h8, h9, h52, h53, h54, ei, SW, SV, wpD, evDL, evDM, evD, bldLD, wpSp, DMem.mt, beq_self_eq_true, seval]
        have hln := low_len p p[n] n hs i
        have hst : i < (lowW p p[n] n hs i).starts.length := by simp only [lowW, List.length_append, List.length_replicate]; omega
        refine At_pc hw3 i hst fun M4 hw4 k6 => ?_
        have hq4 := (k6 q hqS).trans hq3
        have hqn4 : ∀ y B, y ∉ S' → M3 y = some B → M4 y = some B := fun y B hy hB => by rw [k6 y hy]; exact hB
        obtain ⟨hn0, hn8, _⟩ := hHF.hi.val i _ (List.getElem?_eq_getElem hhl) hpos
        have hout := hHF.out i hil _ (List.getElem?_eq_getElem hhl) hpos
        have hmx := fmay_ins hmay hil
        generalize hxe : p[n].code[i] = x at hq3 hq4 hout hmx
        obtain ⟨hh, hhe⟩ := Int.eq_ofNat_of_zero_le hn0
        have hv0 : hs[i]? = some (hh : Int) := by rw [List.getElem?_eq_getElem hhl, hhe]
        simp only [hhe] at *
        simp only [hq4, SW, SV, wpD, evDL, evDM, evD, bldLD, wpSp, DMem.mt, beq_self_eq_true, seval]
        have hcall : x.kind = 14 → 0 ≤ x.a ∧ x.a < p.length ∧ 0 ≤ argsOf p x.a ∧ argsOf p x.a ≤ 4 := fun hk => by
          have h1 := outB_call hout hk
          have h2 : 0 ≤ x.a := by
            have h3 := hmx
            unfold mayB at h3
            simp only [hk] at h3
            simp at h3; omega
          refine ⟨h2, h1, ?_⟩
          unfold argsOf
          have hlt : x.a.toNat < p.length := by omega
          rw [List.getElem?_eq_getElem hlt]
          exact fnB_args (pack_fn hpk _ (List.getElem_mem hlt))
        have etop : wr64 (p[n].locals + (hh : Int)) = p[n].locals + hh := w64 (by omega)
        have hfz : FrozL [DV.ip [slD Fnc.c p], .agg x.c, .int .i64 (i : Int), .int .i64 (p[n].locals + hh)] := (((FrozL.nil.cons (Froz.int _ _)).cons (Froz.int _ _)).cons (Froz.agg (Ins.froz x))).cons (Froz.ip (FrozL.nil.cons (Froz.slD Fnc.froz p)))
        have hargs : (irL p x i (p[n].locals + hh)).args.length ≤ 100000 := by
          by_cases h14 : x.kind = 14
          · have := hcall h14
            simp only [irL, h14]
            simp; omega
          · have : (irL p x i (p[n].locals + hh)).args = [] := by
              unfold irL
              rw [if_neg h14]
              repeat' split
              all_goals rfl
            rw [this]; decide
        have n4 : ∀ y, M4 y = none → M1 y = none := fun y hy => by
          by_cases hyS : y ∈ S'
          · exact fS y hyS
          · cases e : M1 y with
            | none => rfl
            | some B => have := hqn4 y B hyS (k5 y B e); rw [hy] at this; cases this
        refine ⟨fun hbk => ?_, fun hbk => ?_⟩
        · simp only [h1, h2, h4, h5, h6, h8, h9, h52, h53, h54, SW, SV, wpD, evDL, evDM, evD, bldLD, wpSp, DMem.mt, beq_self_eq_true, seval]
          have hfp : FrozL [DV.ip [slD Fnc.c p], .int .i64 (n : Int), .int .i64 (i : Int), .int .i64 (hh : Int), .int .i64 0] := ((((FrozL.nil.cons (Froz.int _ _)).cons (Froz.int _ _)).cons (Froz.int _ _)).cons (Froz.int _ _)).cons (Froz.ip (FrozL.nil.cons (Froz.slD Fnc.froz p)))
          refine Pt.pc (by rw [fzmap_froz hfp]; exact Plain_pt p n i hh 0 hn (by omega) (by omega) (by omega)) ?_
          simp only [S2_lower_Lower, MU_lower_Lower, h1, h2, h4, h5, h6, h8, h9, h52, h53, h54, SW, SV, wpD, evDL, evDM, evD, bldLD, wpSp, DMem.mt, beq_self_eq_true, seval]
          have hsl : DV.isl 1 (plainP p[n] n i hh 0).c = slD Part.c [plainP p[n] n i hh 0] := by simp [slD]
          have hcl : ClP M4 (.isl 1 (plainP p[n] n i hh 0).c) [plainP p[n] n i hh 0] := by rw [hsl]; exact ClP.isl (by simp)
          have hsz : SizeM [plainP p[n] n i hh 0] := by
            refine ⟨by simp, fun x hx => ?_⟩
            simp only [List.mem_cons, List.not_mem_nil, or_false] at hx
            subst hx
            simp only [plainP, rowS, List.length_map, List.length_range, Int.toNat_natCast]
            omega
          refine Meta_pc hw4 _ hsz hcl (by simp only [lowW]; omega) fun M5 S5 hw5 keep5 in5 => ?_
          simp only [S1_lower_Lower, MU_lower_Lower, h1, h2, h4, h5, h6, h8, h9, h52, h53, h54, SW, SV, wpD, evDL, evDM, evD, bldLD, wpSp, DMem.mt, beq_self_eq_true, seval]
          refine PC.weak (Put_pc hw5 ⟨10, 0, 0, 0, 0, [], 0, (lowW p p[n] n hs i).metas.length, i⟩ (by simp only [lowW]; omega) (by simp) fun M6 S6 hw6 keep6 in6 => ?_) (imp_ir _ _ _ _)
          have hq0 : ∀ {y : Nat}, M4 y ≠ none → y ∉ S' → y ∉ S5 := fun {y} hy h1 h2 => by
            rcases in5 y h2 with h | h
            · exact h1 h
            · exact hy h
          have keep56 : ∀ y B, y ∉ S' → M4 y = some B → M6 y = some B := fun y B hy hB => keep6 y B (hq0 (by rw [hB]; simp) hy) (keep5 y B hy hB)
          have hq6 := keep56 q _ hqS hq4
          have n5 : ∀ y, M5 y = none → M1 y = none := fun y hy => by
            by_cases hyS : y ∈ S'
            · exact fS y hyS
            · refine n4 y ?_
              cases e : M4 y with
              | none => rfl
              | some B => rw [keep5 y B hyS e] at hy; cases hy
          have f5 : ∀ y ∈ S5, M1 y = none := fun y hy => by
            rcases in5 y hy with h | h
            · exact fS y h
            · exact n4 y h
          have n6 : ∀ y, M6 y = none → M1 y = none := fun y hy => by
            by_cases hyS : y ∈ S5
            · exact f5 y hyS
            · refine n5 y ?_
              cases e : M5 y with
              | none => rfl
              | some B => rw [keep6 y B hyS e] at hy; cases hy
          have f6 : ∀ y ∈ S6, M1 y = none := fun y hy => by
            rcases in6 y hy with h | h
            · exact f5 y h
            · exact n5 y h
          simp only [raw1_lower_Lower, P1_lower_Lower, MU_lower_Lower, h1, h2, h4, h5, h6, h8, h9, h52, h53, h54, hq6, ldnM, etop, SW, SV, wpD, evDL, evDM, evD, bldLD, wpSp, DMem.mt, beq_self_eq_true, seval]
          refine Pt.pc (by rw [fzmap_froz hfz]; exact ins_pt p x i (p[n].locals + hh) hmx (by omega) hcall) ?_
          refine Put_pc hw6 (irL p x i (p[n].locals + hh)) (by simp only [lowW, List.length_append, List.length_cons, List.length_nil]; omega) hargs fun M7 S7 hw7 keep7 in7 => ?_
          refine ⟨p[n].code.length - (i + 1), M7, by omega, SubD.refl _, i + 1, S7, by omega, rfl, ei, ?_, fun y hy => ?_, fun y B hB => ?_⟩
          · rw [lowW_back (v := (hh : Int)) hv0 (by omega) hil (by rw [hxe]; exact hbk), hxe]
            exact hw7
          · rcases in7 y hy with h | h
            · exact f6 y h
            · exact n6 y h
          · have hyS : y ∉ S' := fun hh => by rw [fS y hh] at hB; cases hB
            have hyS6 : y ∉ S6 := fun hh => by rw [f6 y hh] at hB; cases hB
            exact keep7 y B hyS6 (keep56 y B hyS (hqn4 y B hyS (k5 y B hB)))
        · simp only [raw1_lower_Lower, P1_lower_Lower, MU_lower_Lower, h1, h2, h4, h5, h6, h8, h9, h52, h53, h54, hq4, ldnM, etop, SW, SV, wpD, evDL, evDM, evD, bldLD, wpSp, DMem.mt, beq_self_eq_true, seval]
          refine Pt.pc (by rw [fzmap_froz hfz]; exact ins_pt p x i (p[n].locals + hh) hmx (by omega) hcall) ?_
          refine Put_pc hw4 (irL p x i (p[n].locals + hh)) (by simp only [lowW]; omega) hargs fun M5 S5 hw5 keep5 in5 => ?_
          refine ⟨p[n].code.length - (i + 1), M5, by omega, SubD.refl _, i + 1, S5, by omega, rfl, ei, ?_, fun y hy => ?_, fun y B hB => ?_⟩
          · rw [lowW_put (v := (hh : Int)) hv0 (by omega) hil (by rw [hxe]; exact hbk), hxe]
            exact hw5
          · rcases in5 y hy with h | h
            · exact fS y h
            · exact n4 y h
          · have hyS : y ∉ S' := fun hh => by rw [fS y hh] at hB; cases hB
            exact keep5 y B hyS (hqn4 y B hyS (k5 y B hB))
    · have : i = p[n].code.length := by omega
      subst this
      simp only [S6_lower_Lower, MU_lower_Lower, h1, h2, h4, h5, h9, SW, SV, wpD, evDL, evDM, evD, bldLD, wpSp, DMem.mt, beq_self_eq_true, seval]
      have hln := low_len p p[n] n hs p[n].code.length
      have hst : (lowW p p[n] n hs p[n].code.length).starts = (lowS p p[n] n hs p[n].code.length).starts := by simp [lowW]
      have hlF : lowF p p[n] n = ⟨n, p[n].locals + 8, (lowS p p[n] n hs p[n].code.length).code.map (placed (lowS p p[n] n hs p[n].code.length).starts), (lowS p p[n] n hs p[n].code.length).metas⟩ := by unfold lowF; rw [hhs]
      refine Done_pc hw (by simp only [lowW]; omega) (by simp only [lowW]; omega) (fun x hx hg => ?_) fun dc dm M5 Sc Sm hc hm nd hin keep => ?_
      · rw [hst, hln.1]
        exact low_goes hHF (Nat.le_refl _) x hx hg
      · rw [hst] at hc
        have ho' := k2 o _ ho1
        have hoS : o ∉ S' := fun hh => by have := fS o hh; rw [ho1] at this; cases this
        have ho5 := keep o _ hoS ho'
        have hl4 : ∀ K : DMem, ldnD K 4 (.ip [.int .i64 n, .int .i64 (p[n].locals + 8), dc, dm]) = some (.agg [.int .i64 n, .int .i64 (p[n].locals + 8), dc, dm]) := fun _ => rfl
        simp only [S5_lower_Lower, MU_lower_Lower, h1, h2, h4, h5, h9, hc.cell, hm.cell, hc.plain, hm.plain, hl4, ldnI1, SW, SV, wpD, evDL, evDM, evD, bldLD, wpSp, DMem.mt, beq_self_eq_true, seval]
        refine stD ho5 rfl rfl (by simp) (by simp) (by simp only [List.all_cons, List.all_nil, hc.plain, hm.plain] <;> rfl) fun M6 hM6 => ?_
        have ho6 : M6 o = some ⟨29, 4, [.int .i64 n, .int .i64 (p[n].locals + 8), dc, dm]⟩ := by rw [hM6, DMem.ins_same] <;> rfl
        have n6 : ∀ y, y ≠ o → M6 y = M5 y := fun y hy => by rw [hM6, DMem.ins_ne _ _ hy]
        have hoin : ∀ y ∈ Sc ++ Sm, y ≠ o := fun y hy => by rintro rfl; exact hoS (hin y hy)
        refine ⟨_, by rw [ho6] <;> rfl, ?_⟩
        rw [hlF] at hR
        refine hR dc dm M6 Sc Sm (hc.frame irE_ok fun y hy => n6 y (hoin y (by simp [hy]))) (hm.frame metaE_ok fun y hy => n6 y (hoin y (by simp [hy]))) nd (fun y hy => ?_) fun y B hB => ?_
        · have := fS y (hin y hy)
          cases e : M y with
          | none => rfl
          | some B => have h3 := k1 y B e; rw [this] at h3; cases h3
        · have hyo : y ≠ o := by rintro rfl; rw [hoM] at hB; cases hB
          rw [n6 y hyo]
          exact keep y B (fun hh => by have := fS y hh; rw [k1 y B hB] at this; cases this) (k2 y B (k1 y B hB))
end Go.Proofs.YticlgdhhnjpkjaaGreatDoor.Pf
namespace Go.Proofs.YticlgdhhnjpkjaaGreatDoor.Pf
open Go Go.RowKit Go.Proofs Go.Proofs.YticlgdhhnjpkjaaGreatDoor.Mw Go.Proofs.YticlgdhhnjpkjaaGreatDoor.Sx
set_option linter.unusedVariables false
set_option linter.unusedSimpArgs false
theorem low_getD {hs : List Int} {n : Nat} {v : Int} (h : hs[n]? = some v) : hs.getD n (-1) = v := by rw [List.getD_eq_getElem?_getD, h] <;> rfl
theorem height_at {p : List Fnc} {n : Nat} (h : (heightsR p (n : Int)).2.2 = 0) {i : Nat} {v : Int} (hv : (heightsR p (n : Int)).1[i]? = some v) : heightF p n i = v := by
  unfold heightF
  have hlt := (List.getElem?_eq_some_iff.1 hv).1
  rw [if_pos ⟨h, by omega, by omega⟩, Int.toNat_natCast, List.getD_eq_getElem?_getD, hv] <;> rfl
theorem mem_comp {y : Int} : ∀ {l : List Int}, y ∈ l → y ∈ compF l
  | [], h => h
  | [a], h => h
  | [a, b], h => by
    simp only [compF]
    split
    · rename_i e; subst e; simpa using h
    · exact h
  | a :: b :: c :: r, h => h
theorem low_start (p : List Fnc) (f : Fnc) (fn : Int) (hs : List Int) : ∀ {n i : Nat}, i < n → (lowS p f fn hs n).starts[i]? = some (if hs.getD i (-1) = -1 then 0 else ((lowS p f fn hs i).code.length : Int))
  | 0, i, hi => absurd hi (by omega)
  | n + 1, i, hi => by
    have hl := (low_len p f fn hs n).1
    have key : ∀ c : Int, ((lowS p f fn hs n).starts ++ [c])[i]? = if i < n then (lowS p f fn hs n).starts[i]? else some c := fun c => by
      split
      · rw [List.getElem?_append_left (by omega)]
      · rw [List.getElem?_append_right (by omega), show i - (lowS p f fn hs n).starts.length = 0 by omega] <;> rfl
    simp only [lowS, lowStep]
    by_cases h1 : i < n
    · have ih := low_start p f fn hs h1
      split
      · simp only [key, if_pos h1, ih]
      · split <;> simp only [key, if_pos h1, ih]
    · have e : i = n := by omega
      subst e
      split
      · rename_i h2; simp only [key, if_neg h1, if_pos h2]
      · rename_i h2; split <;> simp only [key, if_neg h1, if_neg h2]
theorem low_hit {p : List Fnc} {f : Fnc} {fn : Int} {hs : List Int} (hp : ∀ g ∈ p, fnB g = true) (h : HF p f hs) : ∀ {n : Nat}, n ≤ f.code.length → ∀ x ∈ (lowS p f fn hs n).code, goesB x.kind = true → ∃ v, hs[x.k.toNat]? = some v ∧ v ≠ -1
  | 0, _, x, hx, _ => by simp [lowS] at hx
  | n + 1, hn, x, hx, hg => by
    have hnl : n < f.code.length := by omega
    have hnh : n < hs.length := by rw [h.hi.len]; exact hnl
    have key : ∀ top : Int, hs[n] ≠ -1 → goesB (irL p f.code[n] n top).kind = true → ∃ v, hs[(irL p f.code[n] n top).k.toNat]? = some v ∧ v ≠ -1 := fun top hne hg => by
      obtain ⟨h1, h2⟩ := irL_goes hg
      obtain ⟨g1, g2, g3⟩ := h.hi.done n _ f.code[n] (List.getElem?_eq_getElem hnh) hne (List.getElem?_eq_getElem hnl) (by simp)
      have hP := putsF_in f.code[n]
      refine ⟨_, g3 _ ?_, by omega⟩
      rw [h2]
      refine List.mem_map.2 ⟨f.code[n].a, ?_, rfl⟩
      unfold nextF
      rw [List.getElem?_eq_getElem hnl]
      refine mem_comp (List.mem_filter.2 ⟨?_, ?_⟩)
      · unfold rawNext
        rcases h1 with h1 | h1 <;> simp [h1]
      · have h4 := h.out n hnl _ (List.getElem?_eq_getElem hnh) hne
        unfold outB at h4
        rw [if_neg (by omega), if_pos h1] at h4
        simpa using h4
    have e : hs.getD n (-1) = hs[n] := by rw [List.getD_eq_getElem?_getD, List.getElem?_eq_getElem hnh] <;> rfl
    have e2 : f.code.getD n ⟨0, 0⟩ = f.code[n] := by rw [List.getD_eq_getElem?_getD, List.getElem?_eq_getElem hnl] <;> rfl
    simp only [lowS, lowStep, e, e2] at hx
    split at hx
    · exact low_hit hp h (by omega) x hx hg
    · rename_i hne
      split at hx
      · simp only [List.mem_append, List.mem_cons, List.not_mem_nil, or_false] at hx
        rcases hx with hx | rfl | rfl
        · exact low_hit hp h (by omega) x hx hg
        · exact absurd hg (by simp [goesB])
        · exact key _ hne hg
      · simp only [List.mem_append, List.mem_cons, List.not_mem_nil, or_false] at hx
        rcases hx with hx | rfl
        · exact low_hit hp h (by omega) x hx hg
        · exact key _ hne hg
def docS (p : List Fnc) (f : Fnc) (fn : Int) (hs : List Int) (n : Nat) : List Int := (List.range n).map fun i => ((lowS p f fn hs i).code.length : Int)
theorem doc_eq {p : List Fnc} {f : Fnc} {fn : Int} {hs : List Int} (hp : ∀ g ∈ p, fnB g = true) (h : HF p f hs) :
    (lowS p f fn hs f.code.length).code.map (placed (docS p f fn hs f.code.length)) = (lowS p f fn hs f.code.length).code.map (placed (lowS p f fn hs f.code.length).starts) := by
  refine List.map_congr_left fun x hx => ?_
  unfold placed
  split
  · rename_i hg
    obtain ⟨v, hv, hne⟩ := low_hit hp h (Nat.le_refl _) x hx hg
    have hlt : x.k.toNat < f.code.length := by rw [← h.hi.len]; exact (List.getElem?_eq_some_iff.1 hv).1
    have hd : hs.getD x.k.toNat (-1) = v := by rw [List.getD_eq_getElem?_getD, hv] <;> rfl
    congr 1
    rw [List.getD_eq_getElem?_getD, List.getD_eq_getElem?_getD, low_start p f fn hs hlt, hd, if_neg hne]
    unfold docS
    rw [List.getElem?_map, List.getElem?_range hlt] <;> rfl
  · rfl
end Go.Proofs.YticlgdhhnjpkjaaGreatDoor.Pf
namespace Go.Proofs.YticlgdhhnjpkjaaGreatDoor.Pf
open Go Go.RowKit Go.Proofs Go.Proofs.YticlgdhhnjpkjaaGreatDoor.Mw Go.Proofs.YticlgdhhnjpkjaaGreatDoor.Sx
set_option linter.unusedVariables false
set_option linter.unusedSimpArgs false
def regB (regs x : Int) : Bool := decide (0 ≤ x) && decide (x < regs)
def localsOf (p : List Fnc) (fn : Int) : Int := match p[fn.toNat]? with | some f => f.locals | none => 0
def irMayB (p : List Fnc) (regs : Int) (n mm at' : Nat) (x : Irc) : Bool :=
  (decide (0 ≤ x.cost ∧ x.cost ≤ 256) && decide (0 ≤ x.pc ∧ x.pc < 64)) &&
  (if x.kind = 0 ∨ x.kind = 11 then decide (x.r = 0 ∧ x.a = 0 ∧ x.b = 0 ∧ x.k = 0 ∧ x.mt = 0 ∧ x.args = [])
  else if x.kind = 1 then regB regs x.r && isB x.k && decide (x.a = 0 ∧ x.b = 0 ∧ x.mt = 0 ∧ x.args = [])
  else if x.kind = 2 then regB regs x.r && regB regs x.a && decide (x.b = 0 ∧ x.k = 0 ∧ x.mt = 0 ∧ x.args = [])
  else if x.kind = 3 then regB regs x.r && regB regs x.a && regB regs x.b && decide (3 ≤ x.k ∧ x.k ≤ 9) && decide (x.mt = 0 ∧ x.args = [])
  else if x.kind = 4 then decide (0 ≤ x.k ∧ x.k < n ∧ ((at' : Int) < x.k ∨ 0 < x.cost)) && decide (x.r = 0 ∧ x.a = 0 ∧ x.b = 0 ∧ x.mt = 0 ∧ x.args = [])
  else if x.kind = 5 then regB regs x.a && decide (0 ≤ x.k ∧ x.k < n ∧ ((at' : Int) < x.k ∨ 0 < x.cost)) && decide (x.r = 0 ∧ x.b = 0 ∧ x.mt = 0 ∧ x.args = [])
  else if x.kind = 6 then regB regs x.r && decide (0 ≤ x.k ∧ x.k < p.length ∧ 0 < x.cost ∧ (x.args.length : Int) = argsOf p x.k) && x.args.all (regB regs) && decide (x.a = 0 ∧ x.b = 0 ∧ x.mt = 0)
  else if x.kind = 7 then regB regs x.a && decide (0 < x.cost) && decide (x.r = 0 ∧ x.b = 0 ∧ x.k = 0 ∧ x.mt = 0 ∧ x.args = [])
  else if x.kind = 8 then regB regs x.a && decide (x.r = 0 ∧ x.b = 0 ∧ x.k = 0 ∧ x.mt = 0 ∧ x.args = [])
  else if x.kind = 9 then regB regs x.a && decide (x.b = 0 ∨ x.b = 1) && isB x.k && decide (0 ≤ x.mt ∧ x.mt < mm) && decide (x.r = 0 ∧ x.args = [])
  else if x.kind = 10 then decide (0 ≤ x.mt ∧ x.mt < mm) && decide (x.r = 0 ∧ x.a = 0 ∧ x.b = 0 ∧ x.k = 0 ∧ x.args = [])
  else false)
def srcB (regs : Int) (s : Src) : Bool := if s.const = true then isB s.v else regB regs s.v
def partB (p : List Fnc) (regs less : Int) (x : Part) : Bool :=
  decide (0 ≤ heightF p x.fn x.pc) && decide ((x.locals.length : Int) = localsOf p x.fn) && decide ((x.stack.length : Int) = heightF p x.fn x.pc - less) && x.locals.all (srcB regs) && x.stack.all (srcB regs)
def codeAt (p : List Fnc) (fn pc : Int) : Ins := match p[fn.toNat]? with | some f => f.code.getD pc.toNat ⟨0, 0⟩ | none => ⟨0, 0⟩
def behindB (p : List Fnc) (fn pc called : Int) : Bool := decide (0 ≤ heightF p fn (pc - 1)) && decide (codeAt p fn (pc - 1) = ⟨14, called⟩)
def metaB (p : List Fnc) (fn regs : Int) : List Part → Bool
  | [a] => decide (a.fn = fn) && partB p regs 0 a
  | [a, b] => decide (a.fn = fn) && partB p regs 1 a && partB p regs 0 b && behindB p a.fn a.pc b.fn
  | _ => false
def irsB (p : List Fnc) (c : Cod) : Bool := (List.range c.code.length).all fun i => match c.code[i]? with | some x => irMayB p c.regs c.code.length c.metas.length i x | none => true
def lastB (c : Cod) : Bool := match c.code.getLast? with | some x => decide (x.kind = 4 ∨ x.kind = 8) | none => false
def headB (p : List Fnc) (c : Cod) : Bool := decide (verifyE p = 0 ∧ 0 ≤ c.fn ∧ c.fn < p.length ∧ 1 ≤ c.regs ∧ localsOf p c.fn ≤ c.regs ∧ c.regs ≤ 64 ∧ 1 ≤ c.code.length ∧ c.code.length ≤ 256 ∧ c.metas.length ≤ 64)
def codeMayB (p : List Fnc) (c : Cod) : Bool := headB p c && irsB p c && c.metas.all (metaB p c.fn c.regs) && lastB c
theorem low_pre (p : List Fnc) (f : Fnc) (fn : Int) (hs : List Int) (n : Nat) : ∀ k, ∃ l m, (lowS p f fn hs (n + k)).code = (lowS p f fn hs n).code ++ l ∧ (lowS p f fn hs (n + k)).metas = (lowS p f fn hs n).metas ++ m
  | 0 => ⟨[], [], by simp, by simp⟩
  | k + 1 => by
    obtain ⟨l, m, h1, h2⟩ := low_pre p f fn hs n k
    rw [← Nat.add_assoc]
    simp only [lowS, lowStep]
    split
    · exact ⟨l, m, h1, h2⟩
    · split
      · exact ⟨l ++ _, m ++ _, by simp only [h1, List.append_assoc] <;> rfl, by simp only [h2, List.append_assoc] <;> rfl⟩
      · exact ⟨l ++ _, m, by simp only [h1, List.append_assoc] <;> rfl, h2⟩
theorem low_mono (p : List Fnc) (f : Fnc) (fn : Int) (hs : List Int) {n m : Nat} (h : n ≤ m) : (lowS p f fn hs n).code.length ≤ (lowS p f fn hs m).code.length ∧ (lowS p f fn hs n).metas.length ≤ (lowS p f fn hs m).metas.length := by
  obtain ⟨l, k, h1, h2⟩ := low_pre p f fn hs n (m - n)
  rw [Nat.add_sub_cancel' h] at h1 h2
  rw [h1, h2, List.length_append, List.length_append]; omega
theorem low_grow {p : List Fnc} {f : Fnc} {fn : Int} {hs : List Int} {n : Nat} (h : hs.getD n (-1) ≠ -1) : (lowS p f fn hs n).code.length < (lowS p f fn hs (n + 1)).code.length := by
  simp only [lowS, lowStep, if_neg h]
  split <;> simp only [List.length_append, List.length_cons, List.length_nil] <;> omega
theorem low_in (p : List Fnc) (f : Fnc) (fn : Int) (hs : List Int) {n i : Nat} {v : Int} (hv : hs[i]? = some v) (hne : v ≠ -1) (h : i < n) : (lowS p f fn hs i).code.length < (lowS p f fn hs n).code.length := by
  have h1 := low_grow (p := p) (f := f) (fn := fn) (hs := hs) (n := i) (by rw [low_getD hv]; exact hne)
  have h2 := (low_mono p f fn hs (show i + 1 ≤ n by omega)).1
  omega
theorem low_at (p : List Fnc) (f : Fnc) (fn : Int) (hs : List Int) (hl : hs.length = f.code.length) : ∀ {n : Nat}, n ≤ f.code.length → ∀ {j : Nat} {x : Irc}, (lowS p f fn hs n).code[j]? = some x →
    ∃ (i : Nat) (hi : i < f.code.length) (v : Int), i < n ∧ hs[i]? = some v ∧ v ≠ -1 ∧
      ((j = (lowS p f fn hs i).code.length ∧ backB f.code[i] i = true ∧ x = ⟨10, 0, 0, 0, 0, [], 0, (lowS p f fn hs i).metas.length, i⟩ ∧ (lowS p f fn hs i).metas.length < (lowS p f fn hs n).metas.length) ∨
        (x = irL p f.code[i] i (f.locals + v) ∧ ((backB f.code[i] i = false ∧ j = (lowS p f fn hs i).code.length) ∨ (backB f.code[i] i = true ∧ j = (lowS p f fn hs i).code.length + 1))))
  | 0, _, j, x, h => by simp [lowS] at h
  | n + 1, hn, j, x, h => by
    have hnl : n < f.code.length := by omega
    have hnh : n < hs.length := by omega
    have e : hs.getD n (-1) = hs[n] := low_getD (List.getElem?_eq_getElem hnh)
    have e2 : f.code.getD n ⟨0, 0⟩ = f.code[n] := by rw [List.getD_eq_getElem?_getD, List.getElem?_eq_getElem hnl] <;> rfl
    have old : (lowS p f fn hs n).code[j]? = some x → ∃ (i : Nat) (hi : i < f.code.length) (v : Int), i < n + 1 ∧ hs[i]? = some v ∧ v ≠ -1 ∧
      ((j = (lowS p f fn hs i).code.length ∧ backB f.code[i] i = true ∧ x = ⟨10, 0, 0, 0, 0, [], 0, (lowS p f fn hs i).metas.length, i⟩ ∧ (lowS p f fn hs i).metas.length < (lowS p f fn hs (n + 1)).metas.length) ∨
        (x = irL p f.code[i] i (f.locals + v) ∧ ((backB f.code[i] i = false ∧ j = (lowS p f fn hs i).code.length) ∨ (backB f.code[i] i = true ∧ j = (lowS p f fn hs i).code.length + 1)))) := fun h' => by
      obtain ⟨i, hi, v, h1, h2, h3, h4⟩ := low_at p f fn hs hl (by omega) h'
      refine ⟨i, hi, v, by omega, h2, h3, ?_⟩
      rcases h4 with ⟨g1, g2, g3, g4⟩ | h4
      · exact .inl ⟨g1, g2, g3, by have := (low_mono p f fn hs (show n ≤ n + 1 by omega)).2; omega⟩
      · exact .inr h4
    have hme : backB f.code[n] n = true → hs[n] ≠ -1 → (lowS p f fn hs n).metas.length < (lowS p f fn hs (n + 1)).metas.length := fun h1 h2 => by
      simp only [lowS, lowStep, e, e2, if_neg h2, h1, if_true, List.length_append, List.length_cons, List.length_nil]; omega
    have h0 := h
    simp only [lowS, lowStep, e, e2] at h
    split at h
    · exact old h
    · rename_i hne
      split at h
      · rename_i hb
        rcases Nat.lt_or_ge j (lowS p f fn hs n).code.length with hj | hj
        · rw [List.getElem?_append_left hj] at h; exact old h
        · rw [List.getElem?_append_right hj] at h
          refine ⟨n, hnl, hs[n], by omega, List.getElem?_eq_getElem hnh, hne, ?_⟩
          obtain ⟨d, hd⟩ : ∃ d, j = (lowS p f fn hs n).code.length + d := ⟨j - (lowS p f fn hs n).code.length, by omega⟩
          rw [hd, Nat.add_sub_cancel_left] at h
          rcases d with _ | _ | d
          · exact .inl ⟨by omega, hb, (Option.some.inj h).symm, hme hb hne⟩
          · exact .inr ⟨(Option.some.inj h).symm, .inr ⟨hb, by omega⟩⟩
          · simp at h
      · rename_i hb
        rcases Nat.lt_or_ge j (lowS p f fn hs n).code.length with hj | hj
        · rw [List.getElem?_append_left hj] at h; exact old h
        · rw [List.getElem?_append_right hj] at h
          refine ⟨n, hnl, hs[n], by omega, List.getElem?_eq_getElem hnh, hne, ?_⟩
          obtain ⟨d, hd⟩ : ∃ d, j = (lowS p f fn hs n).code.length + d := ⟨j - (lowS p f fn hs n).code.length, by omega⟩
          rw [hd, Nat.add_sub_cancel_left] at h
          rcases d with _ | d
          · exact .inr ⟨(Option.some.inj h).symm, .inl ⟨by simpa using hb, by omega⟩⟩
          · simp at h
theorem low_meta (p : List Fnc) (f : Fnc) (fn : Int) (hs : List Int) (hl : hs.length = f.code.length) : ∀ {n : Nat}, n ≤ f.code.length → ∀ m ∈ (lowS p f fn hs n).metas, ∃ (i : Nat) (v : Int), i < n ∧ hs[i]? = some v ∧ v ≠ -1 ∧ m = [plainP f fn i v 0]
  | 0, _, m, h => by simp [lowS] at h
  | n + 1, hn, m, h => by
    have hnh : n < hs.length := by omega
    have e : hs.getD n (-1) = hs[n] := low_getD (List.getElem?_eq_getElem hnh)
    have old : m ∈ (lowS p f fn hs n).metas → ∃ (i : Nat) (v : Int), i < n + 1 ∧ hs[i]? = some v ∧ v ≠ -1 ∧ m = [plainP f fn i v 0] := fun h' => by
      obtain ⟨i, v, h1, h2⟩ := low_meta p f fn hs hl (by omega) m h'
      exact ⟨i, v, by omega, h2⟩
    simp only [lowS, lowStep, e] at h
    split at h
    · exact old h
    · rename_i hne
      split at h
      · rcases List.mem_append.1 h with h | h
        · exact old h
        · simp at h
          exact ⟨n, hs[n], by omega, List.getElem?_eq_getElem hnh, hne, h⟩
      · exact old h
end Go.Proofs.YticlgdhhnjpkjaaGreatDoor.Pf
namespace Go.Proofs.YticlgdhhnjpkjaaGreatDoor.Pf
open Go Go.RowKit Go.Proofs Go.Proofs.YticlgdhhnjpkjaaGreatDoor.Mw Go.Proofs.YticlgdhhnjpkjaaGreatDoor.Sx
set_option linter.unusedVariables false
set_option linter.unusedSimpArgs false
set_option maxRecDepth 8000
abbrev shD (p : List Fnc) (c : Cod) : DV := .ip [.ip c.c, .ip [slD Fnc.c p], rowsD (allR p).1]
def leavesB (k : Int) : Bool := decide (k = 9) || decide (k = 10)
def setsB (k : Int) : Bool := decide (k = 1) || (decide (k = 2) || (decide (k = 3) || decide (k = 6)))
def kB (p : List Fnc) (n : Nat) (x : Irc) : Bool :=
  if x.kind = 1 then isB x.k
  else if x.kind = 9 then isB x.k && (decide (x.b = 0) || decide (x.b = 1))
  else if x.kind = 3 then decide (3 ≤ x.k) && decide (x.k ≤ 9)
  else if x.kind = 4 ∨ x.kind = 5 then decide (0 ≤ x.k) && decide (x.k < n)
  else if x.kind = 6 then (decide (0 ≤ x.k) && decide (x.k < p.length)) && decide ((x.args.length : Int) = argsOf p x.k)
  else decide (x.k = 0)
def dearB (at' : Nat) (x : Irc) : Bool := decide (x.cost ≤ 256) && (decide (0 < x.cost) || (decide (x.cost = 0) && !((decide (x.kind = 6) || decide (x.kind = 7)) || (goesB x.kind && decide (x.k ≤ at')))))
end Go.Proofs.YticlgdhhnjpkjaaGreatDoor.Pf
namespace Go.Proofs.YticlgdhhnjpkjaaGreatDoor.Pf
open Go Go.RowKit Go.Proofs Go.Proofs.YticlgdhhnjpkjaaGreatDoor.Mw Go.Proofs.YticlgdhhnjpkjaaGreatDoor.Sx
set_option linter.unusedVariables false
set_option linter.unusedSimpArgs false
set_option maxRecDepth 8000
def readsV (x : Irc) : List Int :=
  if x.kind = 3 then [x.b, x.a] else if x.kind = 2 ∨ x.kind = 5 ∨ x.kind = 7 ∨ x.kind = 8 ∨ x.kind = 9 then [x.a] else if x.kind = 6 then x.args else []
def PtrsD (M : DMem) (cs : List DV) (l : List Int) : Prop := cs.length = l.length ∧ ∀ i (h : i < l.length), ∃ d, cs[i]? = some d ∧ nckD d = some d ∧ ∀ M', SubD M M' → ldD M' d = some (.int .i64 l[i])
theorem PtrsD.nil {M : DMem} : PtrsD M [] [] := ⟨rfl, fun i h => absurd h (by simp)⟩
end Go.Proofs.YticlgdhhnjpkjaaGreatDoor.Pf
namespace Go.Proofs.YticlgdhhnjpkjaaGreatDoor.Pf
open Go Go.RowKit Go.Proofs Go.Proofs.YticlgdhhnjpkjaaGreatDoor.Mw Go.Proofs.YticlgdhhnjpkjaaGreatDoor.Sx
set_option linter.unusedVariables false
set_option linter.unusedSimpArgs false
set_option maxRecDepth 8000
def restB (regs : Int) (x : Irc) : Bool :=
  (readsV x).all (regB regs) && ((!setsB x.kind || regB regs x.r) &&
    ((((decide ((if setsB x.kind = true then 0 else x.r) = 0)) && decide ((if x.kind = 3 ∨ x.kind = 9 ∨ x.kind = 2 ∨ x.kind = 5 ∨ x.kind = 7 ∨ x.kind = 8 then 0 else x.a) = 0)) && decide ((if x.kind = 3 ∨ x.kind = 9 then 0 else x.b) = 0)) && decide ((if leavesB x.kind = true then 0 else x.mt) = 0)))
end Go.Proofs.YticlgdhhnjpkjaaGreatDoor.Pf
namespace Go.Proofs.YticlgdhhnjpkjaaGreatDoor.Pf
open Go Go.RowKit Go.Proofs Go.Proofs.YticlgdhhnjpkjaaGreatDoor.Mw Go.Proofs.YticlgdhhnjpkjaaGreatDoor.Sx
set_option linter.unusedVariables false
set_option linter.unusedSimpArgs false
set_option maxRecDepth 8000
theorem height_ge {p : List Fnc} (hv : verifyE p = 0) {n : Nat} (hn : n < p.length) (i : Int) : heightF p n i = -1 ∨ (0 ≤ heightF p n i ∧ heightF p n i ≤ 8 ∧ 0 ≤ i ∧ i < p[n].code.length) := by
  obtain ⟨hpk, hall⟩ := verify_ok hv
  have hH := heights_hf hpk hn (hall n hn)
  unfold heightF
  split
  · rename_i h
    obtain ⟨h1, h2, h3⟩ := h
    have hlt : i.toNat < (heightsR p (n : Int)).1.length := by omega
    rw [List.getD_eq_getElem?_getD, List.getElem?_eq_getElem hlt]
    simp only [Option.getD_some]
    by_cases hne : (heightsR p (n : Int)).1[i.toNat] = -1
    · exact .inl hne
    · have := hH.hi.val i.toNat _ (List.getElem?_eq_getElem hlt) hne
      have hl := hH.hi.len
      exact .inr ⟨this.1, this.2.1, h2, by omega⟩
  · exact .inl rfl
theorem part_fn {p : List Fnc} {regs less : Int} {x : Part} (h : partB p regs less x = true) : 0 ≤ x.fn ∧ x.fn < p.length := by
  unfold partB at h
  simp only [Bool.and_eq_true, decide_eq_true_eq] at h
  have h1 := h.1.1.1.1
  refine Decidable.byContradiction fun hf => ?_
  have : heightF p x.fn x.pc = -1 := by
    unfold heightF
    rw [if_neg]
    rintro ⟨h1, h2, h3⟩
    unfold heightsR at h1
    rw [if_neg (fun hh => hf hh.2)] at h1
    exact absurd h1 (by decide)
  omega
def SzM (m : List Part) : Prop := ∀ x ∈ m, x.locals.length ≤ 4611686018427387904 ∧ x.stack.length ≤ 4611686018427387904
structure SzC (c : Cod) : Prop where
  n : c.code.length * 88 ≤ 140737488351232
  a : ∀ x ∈ c.code, x.args.length * 8 ≤ 140737488351232
  m : c.metas.length * 24 ≤ 140737488351232
  s : ∀ m ∈ c.metas, SzM m
end Go.Proofs.YticlgdhhnjpkjaaGreatDoor.Pf
namespace Go.Proofs.YticlgdhhnjpkjaaGreatDoor.Pf
open Go Go.RowKit Go.Proofs Go.Proofs.YticlgdhhnjpkjaaGreatDoor.Mw Go.Proofs.YticlgdhhnjpkjaaGreatDoor.Sx
set_option linter.unusedVariables false
set_option linter.unusedSimpArgs false
set_option maxRecDepth 8000
structure CodAt {α β : Type} (E1 : El α) (E2 : El β) (Z : List Nat) (M1 M : DMem) (d1 : DV) (xs1 : List α) (S1 : List Nat) (d2 : DV) (xs2 : List β) (S2 : List Nat) : Prop where
  c : SlAt E1 M d1 xs1 S1
  m : SlAt E2 M d2 xs2 S2
  nd : (S1 ++ S2).Nodup
  new : ∀ y ∈ S1 ++ S2, M1 y = none
  keep : ∀ x B, M1 x = some B → x ∉ Z → M x = some B
  here : ∀ x, M1 x ≠ none → M x ≠ none
section
variable {α β : Type} {E1 : El α} {E2 : El β} {Z : List Nat} {M1 M : DMem} {d1 d2 : DV} {xs1 : List α} {xs2 : List β} {S1 S2 : List Nat}
theorem CodAt.gone (hE1 : E1.Ok) (hE2 : E2.Ok) (h : CodAt E1 E2 Z M1 M d1 xs1 S1 d2 xs2 S2) {M5 M6 : DMem} {d' : DV} {xs' : List α} {S' : List Nat} {z : Nat} {B0 : DBlk} (h1 : SlAt E1 M5 d' xs' S') (h2 : ∀ b B, M b = some B → b ∉ S1 → b ∉ Z → M5 b = some B) (h3 : ∀ b ∈ S', b ∈ S1 ∨ M b = none) (h4 : S'.Nodup)
    (hh : ∀ b ∈ Z, M5 b ≠ none) (hz : z ∈ Z) (hz1 : M1 z ≠ none) (hM6 : M6 = M5.ins z B0) (hZ1 : ∀ y ∈ Z, M1 y ≠ none) : CodAt E1 E2 Z M1 M6 d' xs' S' d2 xs2 S2 := by
  obtain ⟨n1, n2, n3⟩ := List.nodup_append.1 h.nd
  have hq : ∀ y, y ≠ z → M6 y = M5 y := fun y hy => by rw [hM6, DMem.ins_ne _ _ hy]
  have old : ∀ y, M y = none → M1 y = none := fun y hy => by
    cases e : M1 y with
    | none => rfl
    | some B => exact absurd hy (h.here y (by rw [e]; simp))
  have hS' : ∀ y ∈ S', M1 y = none := fun y hy => by
    rcases h3 y hy with h5 | h5
    · exact h.new y (by simp [h5])
    · exact old y h5
  have hd : ∀ y ∈ S', y ∉ S2 := fun y hy hy2 => by
    rcases h3 y hy with h5 | h5
    · exact n3 y h5 y hy2 rfl
    · exact h.m.here hE2 y hy2 h5
  have hnz : ∀ y, M1 y = none → y ≠ z := fun y hy e => hz1 (e ▸ hy)
  refine ⟨h1.frame hE1 fun y hy => hq y (hnz y (hS' y hy)), h.m.frame hE2 fun y hy => ?_, List.nodup_append.2 ⟨h4, n2, fun a ha b hb e => hd a ha (e ▸ hb)⟩, fun y hy => ?_, fun x B hB hx => ?_, fun x hx => ?_⟩
  · obtain ⟨B, hB⟩ := Option.ne_none_iff_exists'.1 (h.m.here hE2 y hy)
    have hy1 := h.new y (by simp [hy])
    rw [hq y (hnz y hy1), hB]
    exact h2 y B hB (fun hh => n3 y hh y hy rfl) fun hh => hZ1 y hh hy1
  · rcases List.mem_append.1 hy with hy | hy
    · exact hS' y hy
    · exact h.new y (by simp [hy])
  · have hxz : x ≠ z := fun e => hx (e ▸ hz)
    rw [hq x hxz]
    exact h2 x B (h.keep x B hB hx) (fun hh => by have := h.new x (by simp [hh]); rw [this] at hB; cases hB) hx
  · by_cases e : x = z
    · subst e; rw [hM6, DMem.ins_same]; simp
    · rw [hq x e]
      by_cases ez : x ∈ Z
      · exact hh x ez
      · obtain ⟨B, hB⟩ := Option.ne_none_iff_exists'.1 hx
        rw [h2 x B (h.keep x B hB ez) (fun hh => hx (h.new x (by simp [hh]))) ez]; simp
end
end Go.Proofs.YticlgdhhnjpkjaaGreatDoor.Pf
namespace Go.Proofs.YticlgdhhnjpkjaaGreatDoor.Pf
open Go Go.RowKit Go.Proofs Go.Proofs.YticlgdhhnjpkjaaGreatDoor.Mw Go.Proofs.YticlgdhhnjpkjaaGreatDoor.Sx
set_option linter.unusedVariables false
set_option linter.unusedSimpArgs false
set_option maxRecDepth 8000
theorem get_mid {c1 c2 : List DV} {x : DV} {i : Nat} (h : c1.length = i) : (c1 ++ [x] ++ c2)[i]? = some x := by subst h; simp
theorem spl_mid {c1 c2 : List DV} {x v : DV} {i : Nat} (h : c1.length = i) : splD (c1 ++ [x] ++ c2) i [v] = c1 ++ [v] ++ c2 := by subst h; simp [splD]
theorem SpoilInts_sl {M : DMem} {d : DV} {l : List Int} {S : List Nat} (h : SlAt intE M d l S) (hS : S.Nodup) (hl : l.length ≤ 4611686018427387904) {R : DV → DMem → Prop}
    (hR : ∀ M' l', l'.length = l.length → SlAt intE M' d l' S → (∀ x, x ∉ S → M' x = M x) → R (.tup []) M') : PC Tryz.prog F_swagelaw0_SpoilInts [d] R M := by
  refine pc_swagelaw0_SpoilInts (by simp) ?_
  simp only [S_swagelaw0_SpoilInts, R_swagelaw0_SpoilInts, MU_swagelaw0_SpoilInts, SW, SV, wpD, evDL, evDM, evD, bldLD, wpSp, DMem.mt, beq_self_eq_true, seval]
  refine ⟨fun k δ M' => ∃ i l', i ≤ l.length ∧ k = l.length - i ∧ l'.length = l.length ∧ δ 0 = d ∧ δ 2 = .int .i64 i ∧ SlAt intE M' d l' S ∧ ∀ x, x ∉ S → M' x = M x, l.length, ⟨0, l, Nat.zero_le _, rfl, rfl, rfl, rfl, h, fun _ _ => rfl⟩, ?_⟩
  rintro k δ M' ⟨i, l', hi, rfl, hl', h0, h2, hsl, hk⟩
  simp only [S1_swagelaw0_SpoilInts, MU_swagelaw0_SpoilInts, h0, h2, hsl.lenD, hl', SW, SV, wpD, evDL, evDM, evD, bldLD, wpSp, DMem.mt, beq_self_eq_true, seval, decide_eq_true_eq, decide_eq_false_iff_not]
  refine ⟨fun hlt => ?_, fun hge => ?_⟩
  · have hip : i < l'.length := by omega
    obtain ⟨b, c, ty, c1, cx, c2, S1, Sx, S2, hd, hM, hc1, hcx, ⟨rfl, rfl⟩, hSe, hle, _, put⟩ := hsl.inner intE_ok hS hip
    replace hc1 : c1.length = i := by have : c1.length = i * 1 := hc1; omega
    have hget : (c1 ++ [.int .i64 l'[i]] ++ c2)[i]? = some (DV.int .i64 l'[i]) := get_mid hc1
    have hbS : b ∈ S := by rw [hSe]; simp
    have hdx : ixD 1 d (.int .i64 i) = some (.mp b i) := by rw [hd, ixM hip]; simp
    simp only [hdx, hM, hget, h0, h2, SW, SV, wpD, evDL, evDM, evD, bldLD, wpSp, DMem.mt, beq_self_eq_true, seval]
    refine stD hM rfl rfl (by simp only [List.length_append, hc1]; omega) (by have : intE.sz = 1 := rfl; rw [this]; omega) rfl fun M2 hM2 => ?_
    have hspl : ∀ v, splD (c1 ++ [DV.int .i64 l'[i]] ++ c2) i [v] = c1 ++ [v] ++ c2 := fun v => spl_mid hc1
    rw [hspl] at hM2
    simp only [h0, h2, w64s (show i < 4611686018427387905 by omega), SW, SV, wpD, evDL, evDM, evD, bldLD, wpSp, DMem.mt, beq_self_eq_true, seval]
    refine ⟨l.length - (i + 1), M2, by omega, SubD.refl _, i + 1, _, by omega, rfl, ?_, rfl, put M2 _ _ ⟨rfl, rfl⟩ hM2, fun x hx => ?_⟩
    · rw [List.length_set]; exact hl'
    · rw [hM2, DMem.ins_ne _ _ (by rintro rfl; exact hx hbS)]; exact hk x hx
  · exact hR _ l' hl' hsl hk
theorem SpoilSrcs_sl {M : DMem} {d : DV} {l : List Src} {S : List Nat} (h : SlAt srcE M d l S) (hS : S.Nodup) (hl : l.length ≤ 4611686018427387904) {R : DV → DMem → Prop}
    (hR : ∀ M' l', l'.length = l.length → SlAt srcE M' d l' S → (∀ x, x ∉ S → M' x = M x) → R (.tup []) M') : PC Tryz.prog F_swagelaw0_SpoilSrcs [d] R M := by
  refine pc_swagelaw0_SpoilSrcs (by simp) ?_
  simp only [S_swagelaw0_SpoilSrcs, R_swagelaw0_SpoilSrcs, MU_swagelaw0_SpoilSrcs, SW, SV, wpD, evDL, evDM, evD, bldLD, wpSp, DMem.mt, beq_self_eq_true, seval]
  refine ⟨fun k δ M' => ∃ i l', i ≤ l.length ∧ k = l.length - i ∧ l'.length = l.length ∧ δ 0 = d ∧ δ 2 = .int .i64 i ∧ SlAt srcE M' d l' S ∧ ∀ x, x ∉ S → M' x = M x, l.length, ⟨0, l, Nat.zero_le _, rfl, rfl, rfl, rfl, h, fun _ _ => rfl⟩, ?_⟩
  rintro k δ M' ⟨i, l', hi, rfl, hl', h0, h2, hsl, hk⟩
  simp only [S1_swagelaw0_SpoilSrcs, MU_swagelaw0_SpoilSrcs, h0, h2, hsl.lenD, hl', SW, SV, wpD, evDL, evDM, evD, bldLD, wpSp, DMem.mt, beq_self_eq_true, seval, decide_eq_true_eq, decide_eq_false_iff_not]
  refine ⟨fun hlt => ?_, fun hge => ?_⟩
  · have hip : i < l'.length := by omega
    obtain ⟨b, c, ty, c1, cx, c2, S1, Sx, S2, hd, hM, hc1, hcx, ⟨rfl, rfl⟩, hSe, hle, _, put⟩ := hsl.inner srcE_ok hS hip
    replace hc1 : c1.length = i * 2 := hc1
    have hget : (c1 ++ l'[i].c ++ c2)[i * 2 + 1]? = some (.int .i64 l'[i].v) := by rw [get_field hc1 (by simp)] <;> rfl
    have hbS : b ∈ S := by rw [hSe]; simp
    have hdx : ixD 2 d (.int .i64 i) = some (.mp b (i * 2)) := by rw [hd, ixM hip, Nat.zero_add]
    simp only [hdx, hM, hget, h0, h2, SW, SV, wpD, evDL, evDM, evD, bldLD, wpSp, DMem.mt, beq_self_eq_true, seval]
    refine stD hM rfl rfl (by simp only [List.length_append, hc1, Src.len]; omega) (by have : srcE.sz = 2 := rfl; rw [this]; omega) rfl fun M2 hM2 => ?_
    rw [splD_field hc1 (by simp)] at hM2
    simp only [h0, h2, w64s (show i < 4611686018427387905 by omega), SW, SV, wpD, evDL, evDM, evD, bldLD, wpSp, DMem.mt, beq_self_eq_true, seval]
    refine ⟨l.length - (i + 1), M2, by omega, SubD.refl _, i + 1, _, by omega, rfl, ?_, rfl, put M2 ⟨l'[i].const, bits BinOp.xor IntKind.i64 l'[i].v 90⟩ _ ⟨rfl, rfl⟩ hM2, fun x hx => ?_⟩
    · rw [List.length_set]; exact hl'
    · rw [hM2, DMem.ins_ne _ _ (by rintro rfl; exact hx hbS)]; exact hk x hx
  · exact hR _ l' hl' hsl hk
def BigP (x : Part) : Prop := x.locals.length ≤ 4611686018427387904 ∧ x.stack.length ≤ 4611686018427387904
theorem meta_part {M : DMem} {dm : DV} {ms : List (List Part)} {S : List Nat} (h : SlAt metaE M dm ms S) (hS : S.Nodup) {i : Nat} (hi : i < ms.length) :
    ∃ bM d Sx, ixD 1 dm (.int .i64 i) = some (.mp bM i) ∧ ((M bM).bind fun B => B.cs[i]?) = some d ∧ lenD d = some (.int .i64 ms[i].length) ∧ (∀ x ∈ Sx, x ∈ S) ∧ bM ∈ S ∧ bM ∉ Sx ∧ SlAt partE M d ms[i] Sx ∧ Sx.Nodup ∧
      ∀ M' (l : List Part), SlAt partE M' d l Sx → (∀ x, x ∉ Sx → M' x = M x) → SlAt metaE M' dm (ms.set i l) S := by
  obtain ⟨b, c, ty, c1, cx, c2, S1, Sx, S2, hd, hM, hc1, hcx, ⟨d, rfl, hp⟩, hSe, hle, put1, _⟩ := h.inner metaE_ok hS hi
  replace hc1 : c1.length = i := by have : c1.length = i * 1 := hc1; omega
  have hn := hS
  rw [hSe] at hn
  obtain ⟨hb, hn⟩ := List.nodup_cons.1 hn
  obtain ⟨hn, _, _⟩ := List.nodup_append.1 hn
  obtain ⟨_, hnx, _⟩ := List.nodup_append.1 hn
  refine ⟨b, d, Sx, by rw [hd, ixM hi]; simp, ?_, hp.lenD, fun x hx => by rw [hSe]; simp [hx], by rw [hSe]; simp, fun hh => hb (by simp [hh]), hp, hnx, fun M' l hl hk => put1 M' l ⟨d, rfl, hl⟩ fun x _ hx => hk x hx⟩
  rw [hM]
  show (c1 ++ [d] ++ c2)[i]? = some d
  rw [← hc1]; simp
theorem part_at {M : DMem} {d : DV} {ps : List Part} {S : List Nat} (h : SlAt partE M d ps S) (hS : S.Nodup) {j : Nat} (hj : j < ps.length) :
    ∃ b c ty c1 d1 d2 c2 S1 S2, ixD 4 d (.int .i64 j) = some (.mp b (j * 4)) ∧ M b = some ⟨ty, c * 4, c1 ++ [.int .i64 ps[j].fn, .int .i64 ps[j].pc, d1, d2] ++ c2⟩ ∧ c1.length = j * 4 ∧ ps.length ≤ c ∧ b ∈ S ∧ b ∉ S1 ∧ b ∉ S2 ∧
      SlAt srcE M d1 ps[j].locals S1 ∧ SlAt srcE M d2 ps[j].stack S2 ∧ S1.Nodup ∧ S2.Nodup ∧ (∀ x ∈ S1, x ∈ S) ∧ (∀ x ∈ S2, x ∈ S) ∧
      (∀ M' l, SlAt srcE M' d1 l S1 → (∀ x, x ∉ S1 → M' x = M x) → SlAt partE M' d (ps.set j ⟨ps[j].fn, ps[j].pc, l, ps[j].stack⟩) S) ∧
      (∀ M' l, SlAt srcE M' d2 l S2 → (∀ x, x ∉ S2 → M' x = M x) → SlAt partE M' d (ps.set j ⟨ps[j].fn, ps[j].pc, ps[j].locals, l⟩) S) ∧
      (∀ M' v, M' = M.ins b ⟨ty, c * 4, c1 ++ [.int .i64 ps[j].fn, .int .i64 v, d1, d2] ++ c2⟩ → SlAt partE M' d (ps.set j ⟨ps[j].fn, v, ps[j].locals, ps[j].stack⟩) S) := by
  obtain ⟨b, c, ty, c1, cx, c2, T1, Tx, T2, hd, hM, hc1, hcx, ⟨d1, d2, S1, S2, rfl, hs1, hs2, rfl⟩, hSe, hle, put1, put2⟩ := h.inner partE_ok hS hj
  have hn := hS
  rw [hSe] at hn
  obtain ⟨hb, hn⟩ := List.nodup_cons.1 hn
  obtain ⟨hn, _, _⟩ := List.nodup_append.1 hn
  obtain ⟨_, hnx, _⟩ := List.nodup_append.1 hn
  obtain ⟨hn1, hn2, hdis⟩ := List.nodup_append.1 hnx
  refine ⟨b, c, ty, c1, d1, d2, c2, S1, S2, by rw [hd, ixM hj, Nat.zero_add], hM, hc1, hle, by rw [hSe]; simp, fun hh => hb (by simp [hh]), fun hh => hb (by simp [hh]), hs1, hs2, hn1, hn2, fun x hx => by rw [hSe]; simp [hx], fun x hx => by rw [hSe]; simp [hx], fun M' l hl hk => ?_, fun M' l hl hk => ?_, fun M' v hM' => put2 M' _ _ ⟨d1, d2, S1, S2, rfl, hs1, hs2, rfl⟩ hM'⟩
  · exact put1 M' _ ⟨d1, d2, S1, S2, rfl, hl, hs2.frame srcE_ok fun x hx => hk x fun hh => hdis x hh x hx rfl, rfl⟩ fun x _ hx => hk x fun hh => hx (by simp [hh])
  · exact put1 M' _ ⟨d1, d2, S1, S2, rfl, hs1.frame srcE_ok fun x hx => hk x fun hh => hdis x hx x hh rfl, hl, rfl⟩ fun x _ hx => hk x fun hh => hx (by simp [hh])
set_option maxHeartbeats 2000000 in
theorem SpoilCode_pc {M : DMem} {fn regs : Int} {dc dm : DV} {code : List Irc} {ms : List (List Part)} {Sc Sm : List Nat} (hc : SlAt irE M dc code Sc) (hm : SlAt metaE M dm ms Sm) (hnd : (Sc ++ Sm).Nodup) (hl : code.length ≤ 4611686018427387904) (ha : ∀ x ∈ code, x.args.length ≤ 4611686018427387904)
    (hml : ms.length ≤ 4611686018427387904) (hmp : ∀ m ∈ ms, m.length ≤ 4611686018427387904 ∧ ∀ x ∈ m, BigP x) {R : DV → DMem → Prop}
    (hR : ∀ M', (∀ x, x ∉ Sc ++ Sm → M' x = M x) → R (.tup []) M') : PC Tryz.prog F_swagelaw0_SpoilCode [.agg [.int .i64 fn, .int .i64 regs, dc, dm]] R M := by
  obtain ⟨ndc, ndm, dis⟩ := List.nodup_append.1 hnd
  refine pc_swagelaw0_SpoilCode (by simp) ?_
  simp only [S_swagelaw0_SpoilCode, R_swagelaw0_SpoilCode, MU_swagelaw0_SpoilCode, hc.cell, hm.cell, SW, SV, wpD, evDL, evDM, evD, bldLD, wpSp, DMem.mt, beq_self_eq_true, seval]
  refine ⟨fun k δ M' => ∃ (i : Nat) (l' : List Irc), i ≤ code.length ∧ k = code.length - i ∧ l'.length = code.length ∧ (∀ x ∈ l', x.args.length ≤ 4611686018427387904) ∧ δ 1 = .ip [.int .i64 fn, .int .i64 regs, dc, dm] ∧ δ 2 = .int .i64 i ∧ SlAt irE M' dc l' Sc ∧ (∀ x, x ∉ Sc → M' x = M x), code.length,
    ⟨0, code, Nat.zero_le _, rfl, rfl, ha, rfl, rfl, hc, fun _ _ => rfl⟩, ?_⟩
  rintro k δ M' ⟨i, l', hi, rfl, hl', ha', h1, h2, hsl, hk⟩
  simp only [S1_swagelaw0_SpoilCode, MU_swagelaw0_SpoilCode, h1, h2, hsl.lenD, hl', SW, SV, wpD, evDL, evDM, evD, bldLD, wpSp, DMem.mt, beq_self_eq_true, seval, decide_eq_true_eq, decide_eq_false_iff_not]
  refine ⟨fun hlt => ?_, fun hge => ?_⟩
  · have hip : i < l'.length := by omega
    obtain ⟨b, c, ty, c1, cx, c2, S1, Sx, S2, hd, hM, hc1, hcx, ⟨d1, rfl, hsl1⟩, hSe, hle, put1, _⟩ := hsl.inner irE_ok ndc hip
    replace hc1 : c1.length = i * 9 := hc1
    have hget : (c1 ++ [.int .i64 l'[i].kind, .int .i64 l'[i].r, .int .i64 l'[i].a, .int .i64 l'[i].b, .int .i64 l'[i].k, d1, .int .i64 l'[i].cost, .int .i64 l'[i].mt, .int .i64 l'[i].pc] ++ c2)[i * 9 + 5]? = some d1 := by rw [get_field hc1 (by simp)] <;> rfl
    have hdx : ixD 9 dc (.int .i64 i) = some (.mp b (i * 9)) := by rw [hd, ixM hip, Nat.zero_add]
    have hnx : Sx.Nodup := by
      have hS := ndc
      rw [hSe] at hS
      exact (List.nodup_append.1 (List.nodup_append.1 (List.nodup_cons.1 hS).2).1).2.1
    have hxS : ∀ x ∈ Sx, x ∈ Sc := fun x hx => by rw [hSe]; simp [hx]
    simp only [hdx, hM, hget, h1, h2, SW, SV, wpD, evDL, evDM, evD, bldLD, wpSp, DMem.mt, beq_self_eq_true, seval]
    refine SpoilInts_sl hsl1 hnx (ha' _ (List.getElem_mem hip)) fun M2 l2 hl2 hsl2 hk2 => ?_
    have hsl3 := put1 M2 ⟨l'[i].kind, l'[i].r, l'[i].a, l'[i].b, l'[i].k, l2, l'[i].cost, l'[i].mt, l'[i].pc⟩ ⟨d1, rfl, hsl2⟩ fun x _ hx => hk2 x hx
    have hip3 : i < (l'.set i ⟨l'[i].kind, l'[i].r, l'[i].a, l'[i].b, l'[i].k, l2, l'[i].cost, l'[i].mt, l'[i].pc⟩).length := by rw [List.length_set]; exact hip
    obtain ⟨b', c', ty', e1, ex, e2, T1, Tx, T2, hd', hM2, he1, hex, ⟨d2, rfl, hsl4⟩, hSe', hle', _, put2⟩ := hsl3.inner irE_ok ndc hip3
    replace he1 : e1.length = i * 9 := he1
    rw [hd] at hd'
    have hb : b' = b := by injection hd' with g1 g2 g3 g4; exact g1.symm
    subst hb
    have hbS : b' ∈ Sc := by rw [hSe]; simp
    simp only [List.getElem_set_self] at hM2
    have hget2 : (e1 ++ [.int .i64 l'[i].kind, .int .i64 l'[i].r, .int .i64 l'[i].a, .int .i64 l'[i].b, .int .i64 l'[i].k, d2, .int .i64 l'[i].cost, .int .i64 l'[i].mt, .int .i64 l'[i].pc] ++ e2)[i * 9 + 1]? = some (.int .i64 l'[i].r) := by rw [get_field he1 (by simp)] <;> rfl
    simp only [raw0_swagelaw0_SpoilCode, P0_swagelaw0_SpoilCode, MU_swagelaw0_SpoilCode, hdx, hM2, hget2, h1, h2, SW, SV, wpD, evDL, evDM, evD, bldLD, wpSp, DMem.mt, beq_self_eq_true, seval]
    have hlc : i + 1 ≤ c' := by rw [List.length_set] at hle'; omega
    refine stD hM2 rfl rfl (by simp only [List.length_append, List.length_cons, he1]; omega) (by have : irE.sz = 9 := rfl; rw [this]; omega) rfl fun M3 hM3 => ?_
    rw [splD_field he1 (by simp)] at hM3
    simp only [List.getElem_set_self] at hsl4
    try simp only [h1, h2, w64s (show i < 4611686018427387905 by omega), SW, SV, wpD, evDL, evDM, evD, bldLD, wpSp, DMem.mt, beq_self_eq_true, seval]
    refine ⟨code.length - (i + 1), M3, by omega, SubD.refl _, i + 1, _, by omega, rfl, ?_, ?_, rfl, put2 M3 ⟨l'[i].kind, bits BinOp.xor IntKind.i64 l'[i].r 90, l'[i].a, l'[i].b, l'[i].k, l2, l'[i].cost, l'[i].mt, l'[i].pc⟩ _ ⟨d2, rfl, hsl4⟩ hM3, fun x hx => ?_⟩
    · rw [List.length_set, List.length_set]; exact hl'
    · intro x hx
      rcases List.mem_or_eq_of_mem_set hx with hx | rfl
      · rcases List.mem_or_eq_of_mem_set hx with hx | rfl
        · exact ha' x hx
        · show l2.length ≤ _; rw [hl2]; exact ha' _ (List.getElem_mem hip)
      · show l2.length ≤ _; rw [hl2]; exact ha' _ (List.getElem_mem hip)
    · rw [hM3, DMem.ins_ne _ _ (by rintro rfl; exact hx hbS), hk2 x (fun hh => hx (hxS x hh))]; exact hk x hx
  · have hm' : SlAt metaE M' dm ms Sm := hm.frame metaE_ok fun x hx => hk x fun hh => dis x hh x hx rfl
    have frame : ∀ x, x ∉ Sc ++ Sm → M' x = M x := fun x hx => hk x fun hh => hx (by simp [hh])
    simp only [S5_swagelaw0_SpoilCode, MU_swagelaw0_SpoilCode, h1, SW, SV, wpD, evDL, evDM, evD, bldLD, wpSp, DMem.mt, beq_self_eq_true, seval]
    refine ⟨fun k δ M2 => ∃ (i : Nat) (ms' : List (List Part)), i ≤ ms.length ∧ k = ms.length - i ∧ ms'.length = ms.length ∧ (∀ m ∈ ms', m.length ≤ 4611686018427387904 ∧ ∀ x ∈ m, BigP x) ∧ δ 1 = .ip [.int .i64 fn, .int .i64 regs, dc, dm] ∧ δ 3 = .int .i64 i ∧ SlAt metaE M2 dm ms' Sm ∧ (∀ x, x ∉ Sc ++ Sm → M2 x = M x), ms.length,
      ⟨0, ms, Nat.zero_le _, rfl, rfl, hmp, h1, rfl, hm', frame⟩, ?_⟩
    clear hsl hk h1 h2 hge frame hm'
    rintro k δ M2 ⟨i, ms', hi, rfl, hl2, hmp', h1, h3, hsl, hk⟩
    simp only [S4_swagelaw0_SpoilCode, MU_swagelaw0_SpoilCode, h1, h3, hsl.lenD, hl2, SW, SV, wpD, evDL, evDM, evD, bldLD, wpSp, DMem.mt, beq_self_eq_true, seval, decide_eq_true_eq, decide_eq_false_iff_not]
    refine ⟨fun hlt => ?_, fun hge => hR _ hk⟩
    have him : i < ms'.length := by omega
    refine ⟨fun k δ M3 => ∃ (j : Nat) (ms2 : List (List Part)) (_ : i < ms2.length), j ≤ ms'[i].length ∧ k = ms'[i].length - j ∧ ms2.length = ms.length ∧ ms2[i].length = ms'[i].length ∧ (∀ m ∈ ms2, m.length ≤ 4611686018427387904 ∧ ∀ x ∈ m, BigP x) ∧ δ 1 = .ip [.int .i64 fn, .int .i64 regs, dc, dm] ∧ δ 3 = .int .i64 i ∧ δ 4 = .int .i64 j ∧ SlAt metaE M3 dm ms2 Sm ∧ (∀ x, x ∉ Sc ++ Sm → M3 x = M x), ms'[i].length,
      ⟨0, ms', him, Nat.zero_le _, rfl, hl2, rfl, hmp', h1, h3, rfl, hsl, hk⟩, ?_⟩
    clear hsl hk h1 h3
    rintro k δ M3 ⟨j, ms2, hi2, hj, rfl, hl3, hlj, hmp2, h1, h3, h4, hsl, hk⟩
    obtain ⟨bM, d, Sx, ex, el, en, esub, ebS, ebx, ep, enx, eput⟩ := meta_part hsl ndm hi2
    simp only [S3_swagelaw0_SpoilCode, MU_swagelaw0_SpoilCode, h1, h3, h4, ex, el, en, hlj, SW, SV, wpD, evDL, evDM, evD, bldLD, wpSp, DMem.mt, beq_self_eq_true, seval, decide_eq_true_eq, decide_eq_false_iff_not]
    have hb0 := hmp' _ (List.getElem_mem him)
    refine ⟨fun hltj => ?_, fun hgej => ?_⟩
    · have hjj : j < ms2[i].length := by omega
      obtain ⟨hbig1, hbig2⟩ := hmp2 _ (List.getElem_mem hi2)
      obtain ⟨b, c, ty, c1, d1, d2, c2, T1, T2, px, pM, pc1, pc, pbS, pb1, pb2, ps1, ps2, pn1, pn2, psub1, psub2, pp1, pp2, pp3⟩ := part_at ep enx hjj
      have l2 : ((M3 b).bind fun B => B.cs[j * 4 + 2]?) = some d1 := by rw [pM]; show (c1 ++ _ ++ c2)[j * 4 + 2]? = _; rw [get_field pc1 (by simp)] <;> rfl
      simp only [px, l2, h1, h3, h4, ex, el, SW, SV, wpD, evDL, evDM, evD, bldLD, wpSp, DMem.mt, beq_self_eq_true, seval]
      refine SpoilSrcs_sl ps1 pn1 (hbig2 _ (List.getElem_mem hjj)).1 fun M4 q4 hq4 hs4 hk4 => ?_
      have ep4 := pp1 M4 q4 hs4 hk4
      have bg4 : BigP ⟨ms2[i][j].fn, ms2[i][j].pc, q4, ms2[i][j].stack⟩ := ⟨by show q4.length ≤ _; rw [hq4]; exact (hbig2 _ (List.getElem_mem hjj)).1, (hbig2 _ (List.getElem_mem hjj)).2⟩
      have fr4 : ∀ x, x ∉ Sx → M4 x = M3 x := fun x hx => hk4 x fun hh => hx (psub1 x hh)
      have hl4 : (ms2[i].set j ⟨ms2[i][j].fn, ms2[i][j].pc, q4, ms2[i][j].stack⟩).length = ms2[i].length := List.length_set ..
      have hb4 : ∀ x ∈ ms2[i].set j ⟨ms2[i][j].fn, ms2[i][j].pc, q4, ms2[i][j].stack⟩, BigP x := fun x hx => by
        rcases List.mem_or_eq_of_mem_set hx with hx | rfl
        · exact hbig2 x hx
        · exact bg4
      generalize ms2[i].set j ⟨ms2[i][j].fn, ms2[i][j].pc, q4, ms2[i][j].stack⟩ = ps4 at ep4 hl4 hb4
      have hj4 : j < ps4.length := by omega
      obtain ⟨b4, c4, ty4, e1, g1, g2, e2, U1, U2, qx, qM, qc1, qc, qbS, qb1, qb2, qs1, qs2, qn1, qn2, qsub1, qsub2, qp1, qp2, qp3⟩ := part_at ep4 enx hj4
      have el4 : ((M4 bM).bind fun B => B.cs[i]?) = some d := by rw [fr4 bM ebx]; exact el
      have l3 : ((M4 b4).bind fun B => B.cs[j * 4 + 3]?) = some g2 := by rw [qM]; show (e1 ++ _ ++ e2)[j * 4 + 3]? = _; rw [get_field qc1 (by simp)] <;> rfl
      simp only [S2_swagelaw0_SpoilCode, MU_swagelaw0_SpoilCode, qx, l3, h1, h3, h4, ex, el4, SW, SV, wpD, evDL, evDM, evD, bldLD, wpSp, DMem.mt, beq_self_eq_true, seval]
      refine SpoilSrcs_sl qs2 qn2 (hb4 _ (List.getElem_mem hj4)).2 fun M5 q5 hq5 hs5 hk5 => ?_
      have ep5 := qp2 M5 q5 hs5 hk5
      have fr5 : ∀ x, x ∉ Sx → M5 x = M3 x := fun x hx => (hk5 x fun hh => hx (qsub2 x hh)).trans (fr4 x hx)
      have hl5 : (ps4.set j ⟨ps4[j].fn, ps4[j].pc, ps4[j].locals, q5⟩).length = ms2[i].length := by rw [List.length_set]; exact hl4
      have hb5 : ∀ x ∈ ps4.set j ⟨ps4[j].fn, ps4[j].pc, ps4[j].locals, q5⟩, BigP x := fun x hx => by
        rcases List.mem_or_eq_of_mem_set hx with hx | rfl
        · exact hb4 x hx
        · exact ⟨(hb4 _ (List.getElem_mem hj4)).1, by show q5.length ≤ _; rw [hq5]; exact (hb4 _ (List.getElem_mem hj4)).2⟩
      generalize ps4.set j ⟨ps4[j].fn, ps4[j].pc, ps4[j].locals, q5⟩ = ps5 at ep5 hl5 hb5
      have hj5 : j < ps5.length := by omega
      obtain ⟨b5, c5, ty5, e3, g3, g4, e4, U3, U4, rx, rM, rc1, rc, rbS, rb1, rb2, rs1, rs2, rn1, rn2, rsub1, rsub2, rp1, rp2, rp3⟩ := part_at ep5 enx hj5
      have el5 : ((M5 bM).bind fun B => B.cs[i]?) = some d := by rw [fr5 bM ebx]; exact el
      have l4 : ((M5 b5).bind fun B => B.cs[j * 4 + 1]?) = some (.int .i64 ps5[j].pc) := by rw [rM]; show (e3 ++ _ ++ e4)[j * 4 + 1]? = _; rw [get_field rc1 (by simp)] <;> rfl
      simp only [raw1_swagelaw0_SpoilCode, P1_swagelaw0_SpoilCode, MU_swagelaw0_SpoilCode, rx, l4, h1, h3, h4, ex, el5, SW, SV, wpD, evDL, evDM, evD, bldLD, wpSp, DMem.mt, beq_self_eq_true, seval]
      refine stD rM rfl rfl (by simp only [List.length_append, List.length_cons, rc1]; omega) (by omega) rfl fun M6 hM6 => ?_
      rw [splD_field rc1 (by simp)] at hM6
      have ep6 := rp3 M6 _ hM6
      have fr6 : ∀ x, x ∉ Sx → M6 x = M3 x := fun x hx => by rw [hM6, DMem.ins_ne _ _ (by rintro rfl; exact hx rbS)]; exact fr5 x hx
      have hsl6 := eput M6 _ ep6 fr6
      try simp only [h1, h3, h4, w64s (show j < 4611686018427387905 by omega), SW, SV, wpD, evDL, evDM, evD, bldLD, wpSp, DMem.mt, beq_self_eq_true, seval]
      refine ⟨ms'[i].length - (j + 1), M6, by omega, SubD.refl _, j + 1, _, (by rw [List.length_set]; exact hi2), by omega, rfl, by rw [List.length_set]; exact hl3, ?_, ?_, rfl, hsl6, fun x hx => ?_⟩
      · rw [List.getElem_set_self, List.length_set, hl5, hlj]
      · intro m hm
        rcases List.mem_or_eq_of_mem_set hm with hm | rfl
        · exact hmp2 m hm
        · refine ⟨by rw [List.length_set, hl5]; exact hbig1, fun x hx => ?_⟩
          rcases List.mem_or_eq_of_mem_set hx with hx | rfl
          · exact hb5 x hx
          · have h := hb5 ps5[j] (List.getElem_mem hj5)
            exact ⟨h.1, h.2⟩
      · rw [fr6 x fun hh => hx (by simp [esub x hh])]; exact hk x hx
    · try simp only [h1, h3, h4, w64s (show i < 4611686018427387905 by omega), SW, SV, wpD, evDL, evDM, evD, bldLD, wpSp, DMem.mt, beq_self_eq_true, seval]
      exact ⟨ms.length - (i + 1), M3, by omega, SubD.refl _, i + 1, ms2, by omega, rfl, hl3, hmp2, rfl, hsl, hk⟩
end Go.Proofs.YticlgdhhnjpkjaaGreatDoor.Pf
namespace Go.Proofs.YticlgdhhnjpkjaaGreatDoor.Pf
open Go Go.RowKit Go.Proofs Go.Proofs.YticlgdhhnjpkjaaGreatDoor.Mw Go.Proofs.YticlgdhhnjpkjaaGreatDoor.Sx
set_option linter.unusedVariables false
set_option linter.unusedSimpArgs false
set_option maxRecDepth 8000
theorem one_end {M : DMem} {δ : DEnv} {q8 q9 : Nat} {x : Irc} {d : DV} {S : List Nat} (h8 : δ 6 = .mp q8 0) (h9 : δ 10 = .mp q9 0) (h89 : q8 ≠ q9) {cs8 : List DV} (hM8 : M q8 = some ⟨50, 9, cs8⟩) (hl8 : cs8.length = 9)
    (hM9 : M q9 = some ⟨50, 9, [.int .i64 x.kind, .int .i64 x.r, .int .i64 x.a, .int .i64 x.b, .int .i64 x.k, d, .int .i64 x.cost, .int .i64 x.mt, .int .i64 x.pc]⟩) (hs : SlAt intE M d x.args S) (h8S : q8 ∉ S) {KK : DEnv → DMem → Prop} {XX : Nat → DEnv → DMem → Prop} :
    wpD Tryz.prog MU_swageref9_one (fun f => roL.contains f) (fun t => G_swageref9_one.contains t) 143 S2_swageref9_one KK XX (fun δ M' => ∃ d, ldnD M' 9 (δ 6) = some d ∧ ∃ M2, SubD M2 M' ∧ Thaw d M2 ∧ ∀ m v, Rep m (fz M2 4 d) v → Rep m (.agg x.c) v) δ M := by
  simp only [S2_swageref9_one, MU_swageref9_one, h8, h9, hM9, ldnM, SW, SV, wpD, evDL, evDM, evD, bldLD, wpSp, DMem.mt, beq_self_eq_true, seval]
  refine stD hM8 rfl rfl (by omega) (by simp) (by simp only [List.all_cons, List.all_nil, hs.plain] <;> rfl) fun M4 hM4 => ?_
  have hq4 : M4 q8 = some ⟨50, 9, [.int .i64 x.kind, .int .i64 x.r, .int .i64 x.a, .int .i64 x.b, .int .i64 x.k, d, .int .i64 x.cost, .int .i64 x.mt, .int .i64 x.pc]⟩ := by
    rw [hM4, DMem.ins_same]
    congr 2
    unfold splD
    rw [List.drop_eq_nil_of_le (by simp; omega)]
    simp
  have g1 : SlAt intE M4 d x.args S := hs.frame intE_ok fun b hb => by rw [hM4, DMem.ins_ne _ _ (by rintro rfl; exact h8S hb)]
  obtain ⟨t1, t2⟩ := intE_th.sl g1
  have g1' := SlAt.only intE_ok g1 (T := S) (fun b hb => hb)
  simp only [ldnM, hq4, SW, SV, wpD, evDL, evDM, evD, bldLD, wpSp, DMem.mt, beq_self_eq_true, seval]
  refine pt_only (S := S) (by simp only [thawed, thawedL, t1] <;> rfl) t2 ?_
  rw [fz_agg]
  simp only [List.map_cons, List.map_nil, fz_int]
  rw [g1'.fz intE_ok (k := 3) (by decide), slD_ints]
set_option maxHeartbeats 2000000 in
theorem oneR_pt (p : List Fnc) (fn pc h : Nat) (hfn : fn < p.length) (hpc : pc < p[fn].code.length) (hx : mayB p[fn].code[pc] = true) (hl : 0 ≤ p[fn].locals ∧ p[fn].locals ≤ 8) (hh : h ≤ 8) (hhe : heightF p fn pc = h)
    (hc : p[fn].code[pc].kind = 14 → 0 ≤ p[fn].code[pc].a ∧ p[fn].code[pc].a < p.length ∧ 0 ≤ argsOf p p[fn].code[pc].a ∧ argsOf p p[fn].code[pc].a ≤ 4) :
    Pt Tryz.prog F_swageref9_one [.agg [slD Fnc.c p], .int .i64 fn, .int .i64 pc] (.agg (irL p p[fn].code[pc] pc (p[fn].locals + h)).c) := by
  refine Pt.of (pc_swageref9_one (by simp) ?_)
  have w0 : wr64 (p[fn].locals + (h : Int)) = p[fn].locals + h := w64 (by omega)
  have hl3 : ∀ K : DMem, ∀ r : List DV, ldnD K 3 (.ip (.int .i64 p[fn].args :: .int .i64 p[fn].locals :: slD Ins.c p[fn].code :: r)) = some (.agg p[fn].c) := fun K r => by simp [ldnD]
  have hl2 : ∀ K : DMem, ∀ x : Ins, ∀ r : List DV, ldnD K 2 (.ip (.int .i64 x.kind :: .int .i64 x.a :: r)) = some (.agg x.c) := fun K x r => by simp [ldnD]
  simp (config := { maxSteps := 3000000 }) only [S_swageref9_one, R_swageref9_one, MU_swageref9_one, ix_slD Fnc.len hfn, ix_slD Ins.len hpc, hl3, hl2, HeightR_pf, fz_prg, hhe, w0, ldnI1, SW, SV, wpD, evDL, evDM, evD, bldLD, wpSp, DMem.mt, beq_self_eq_true, seval]
  generalize p[fn].code[pc] = x at *
  intro q8 M1 hM1 q9 M2 hq9 hM2
  have h89 : q8 ≠ q9 := by rintro rfl; rw [hM1, DMem.ins_same] at hq9; cases hq9
  have h8 : M2 q8 = some ⟨50, 9, [.int .i64 0, .int .i64 0, .int .i64 0, .int .i64 0, .int .i64 0, .zsl, .int .i64 0, .int .i64 0, .int .i64 0]⟩ := by rw [hM2, DMem.ins_ne _ _ h89, hM1, DMem.ins_same]
  have h9 : M2 q9 = some ⟨50, 9, irD 0 0 0 0 0 pc .zsl⟩ := by rw [hM2, DMem.ins_same] <;> rfl
  clear hM1 hM2 hq9
  have hk := may_kind hx
  obtain ⟨k, a⟩ := x
  simp only at hk hc
  unfold irD at h9
  generalize hte : p[fn].locals + (h : Int) = top at *
  have w1 : wr64 (top - 1) = top - 1 := w64 (by omega)
  have w2 : wr64 (top - 2) = top - 2 := w64 (by omega)
  rcases hk with rfl | rfl | rfl | rfl | rfl | rfl | rfl | rfl | rfl | rfl | rfl | rfl | rfl | rfl | rfl | rfl | rfl
  all_goals simp only [w1, w2, SW, SV, wpD, evDL, evDM, evD, bldLD, wpSp, DMem.mt, beq_self_eq_true, seval]
  · have e : irL p ⟨0, a⟩ pc top = ⟨1, top, 0, 0, a, [], 1, 0, pc⟩ := by simp [irL]
    rw [e]
    refine st9 (i := 0) (v := 1) h9 rfl (by decide) fun N1 g1 k1 => ?_
    try simp only [w1, w2, SW, SV, wpD, evDL, evDM, evD, bldLD, wpSp, DMem.mt, beq_self_eq_true, seval]
    refine st9 (i := 1) (v := top) g1 rfl (by decide) fun N2 g2 k2 => ?_
    try simp only [w1, w2, SW, SV, wpD, evDL, evDM, evD, bldLD, wpSp, DMem.mt, beq_self_eq_true, seval]
    refine st9 (i := 4) (v := a) g2 rfl (by decide) fun N3 g3 k3 => ?_
    try simp only [w1, w2, SW, SV, wpD, evDL, evDM, evD, bldLD, wpSp, DMem.mt, beq_self_eq_true, seval]
    exact one_end (x := ⟨1, top, 0, 0, a, [], 1, 0, pc⟩) (d := .zsl) (S := []) rfl rfl h89 (by rw [k3 q8 h89, k2 q8 h89, k1 q8 h89]; exact h8) rfl g3 SlAt.nil (by simp)
  · have e : irL p ⟨1, a⟩ pc top = ⟨2, top, a, 0, 0, [], 1, 0, pc⟩ := by simp [irL]
    rw [e]
    refine st9 (i := 0) (v := 2) h9 rfl (by decide) fun N1 g1 k1 => ?_
    try simp only [w1, w2, SW, SV, wpD, evDL, evDM, evD, bldLD, wpSp, DMem.mt, beq_self_eq_true, seval]
    refine st9 (i := 1) (v := top) g1 rfl (by decide) fun N2 g2 k2 => ?_
    try simp only [w1, w2, SW, SV, wpD, evDL, evDM, evD, bldLD, wpSp, DMem.mt, beq_self_eq_true, seval]
    refine st9 (i := 2) (v := a) g2 rfl (by decide) fun N3 g3 k3 => ?_
    try simp only [w1, w2, SW, SV, wpD, evDL, evDM, evD, bldLD, wpSp, DMem.mt, beq_self_eq_true, seval]
    exact one_end (x := ⟨2, top, a, 0, 0, [], 1, 0, pc⟩) (d := .zsl) (S := []) rfl rfl h89 (by rw [k3 q8 h89, k2 q8 h89, k1 q8 h89]; exact h8) rfl g3 SlAt.nil (by simp)
  · have e : irL p ⟨2, a⟩ pc top = ⟨2, a, (top - 1), 0, 0, [], 1, 0, pc⟩ := by simp [irL]
    rw [e]
    refine st9 (i := 0) (v := 2) h9 rfl (by decide) fun N1 g1 k1 => ?_
    try simp only [w1, w2, SW, SV, wpD, evDL, evDM, evD, bldLD, wpSp, DMem.mt, beq_self_eq_true, seval]
    refine st9 (i := 1) (v := a) g1 rfl (by decide) fun N2 g2 k2 => ?_
    try simp only [w1, w2, SW, SV, wpD, evDL, evDM, evD, bldLD, wpSp, DMem.mt, beq_self_eq_true, seval]
    refine st9 (i := 2) (v := (top - 1)) g2 rfl (by decide) fun N3 g3 k3 => ?_
    try simp only [w1, w2, SW, SV, wpD, evDL, evDM, evD, bldLD, wpSp, DMem.mt, beq_self_eq_true, seval]
    exact one_end (x := ⟨2, a, (top - 1), 0, 0, [], 1, 0, pc⟩) (d := .zsl) (S := []) rfl rfl h89 (by rw [k3 q8 h89, k2 q8 h89, k1 q8 h89]; exact h8) rfl g3 SlAt.nil (by simp)
  · have e : irL p ⟨3, a⟩ pc top = ⟨3, (top - 2), (top - 2), (top - 1), 3, [], 1, 0, pc⟩ := by simp [irL]
    rw [e]
    refine st9 (i := 0) (v := 3) h9 rfl (by decide) fun N1 g1 k1 => ?_
    try simp only [w1, w2, SW, SV, wpD, evDL, evDM, evD, bldLD, wpSp, DMem.mt, beq_self_eq_true, seval]
    refine st9 (i := 1) (v := (top - 2)) g1 rfl (by decide) fun N2 g2 k2 => ?_
    try simp only [w1, w2, SW, SV, wpD, evDL, evDM, evD, bldLD, wpSp, DMem.mt, beq_self_eq_true, seval]
    refine st9 (i := 2) (v := (top - 2)) g2 rfl (by decide) fun N3 g3 k3 => ?_
    try simp only [w1, w2, SW, SV, wpD, evDL, evDM, evD, bldLD, wpSp, DMem.mt, beq_self_eq_true, seval]
    refine st9 (i := 3) (v := (top - 1)) g3 rfl (by decide) fun N4 g4 k4 => ?_
    try simp only [w1, w2, SW, SV, wpD, evDL, evDM, evD, bldLD, wpSp, DMem.mt, beq_self_eq_true, seval]
    refine st9 (i := 4) (v := 3) g4 rfl (by decide) fun N5 g5 k5 => ?_
    try simp only [w1, w2, SW, SV, wpD, evDL, evDM, evD, bldLD, wpSp, DMem.mt, beq_self_eq_true, seval]
    exact one_end (x := ⟨3, (top - 2), (top - 2), (top - 1), 3, [], 1, 0, pc⟩) (d := .zsl) (S := []) rfl rfl h89 (by rw [k5 q8 h89, k4 q8 h89, k3 q8 h89, k2 q8 h89, k1 q8 h89]; exact h8) rfl g5 SlAt.nil (by simp)
  · have e : irL p ⟨4, a⟩ pc top = ⟨3, (top - 2), (top - 2), (top - 1), 4, [], 1, 0, pc⟩ := by simp [irL]
    rw [e]
    refine st9 (i := 0) (v := 3) h9 rfl (by decide) fun N1 g1 k1 => ?_
    try simp only [w1, w2, SW, SV, wpD, evDL, evDM, evD, bldLD, wpSp, DMem.mt, beq_self_eq_true, seval]
    refine st9 (i := 1) (v := (top - 2)) g1 rfl (by decide) fun N2 g2 k2 => ?_
    try simp only [w1, w2, SW, SV, wpD, evDL, evDM, evD, bldLD, wpSp, DMem.mt, beq_self_eq_true, seval]
    refine st9 (i := 2) (v := (top - 2)) g2 rfl (by decide) fun N3 g3 k3 => ?_
    try simp only [w1, w2, SW, SV, wpD, evDL, evDM, evD, bldLD, wpSp, DMem.mt, beq_self_eq_true, seval]
    refine st9 (i := 3) (v := (top - 1)) g3 rfl (by decide) fun N4 g4 k4 => ?_
    try simp only [w1, w2, SW, SV, wpD, evDL, evDM, evD, bldLD, wpSp, DMem.mt, beq_self_eq_true, seval]
    refine st9 (i := 4) (v := 4) g4 rfl (by decide) fun N5 g5 k5 => ?_
    try simp only [w1, w2, SW, SV, wpD, evDL, evDM, evD, bldLD, wpSp, DMem.mt, beq_self_eq_true, seval]
    exact one_end (x := ⟨3, (top - 2), (top - 2), (top - 1), 4, [], 1, 0, pc⟩) (d := .zsl) (S := []) rfl rfl h89 (by rw [k5 q8 h89, k4 q8 h89, k3 q8 h89, k2 q8 h89, k1 q8 h89]; exact h8) rfl g5 SlAt.nil (by simp)
  · have e : irL p ⟨5, a⟩ pc top = ⟨3, (top - 2), (top - 2), (top - 1), 5, [], 1, 0, pc⟩ := by simp [irL]
    rw [e]
    refine st9 (i := 0) (v := 3) h9 rfl (by decide) fun N1 g1 k1 => ?_
    try simp only [w1, w2, SW, SV, wpD, evDL, evDM, evD, bldLD, wpSp, DMem.mt, beq_self_eq_true, seval]
    refine st9 (i := 1) (v := (top - 2)) g1 rfl (by decide) fun N2 g2 k2 => ?_
    try simp only [w1, w2, SW, SV, wpD, evDL, evDM, evD, bldLD, wpSp, DMem.mt, beq_self_eq_true, seval]
    refine st9 (i := 2) (v := (top - 2)) g2 rfl (by decide) fun N3 g3 k3 => ?_
    try simp only [w1, w2, SW, SV, wpD, evDL, evDM, evD, bldLD, wpSp, DMem.mt, beq_self_eq_true, seval]
    refine st9 (i := 3) (v := (top - 1)) g3 rfl (by decide) fun N4 g4 k4 => ?_
    try simp only [w1, w2, SW, SV, wpD, evDL, evDM, evD, bldLD, wpSp, DMem.mt, beq_self_eq_true, seval]
    refine st9 (i := 4) (v := 5) g4 rfl (by decide) fun N5 g5 k5 => ?_
    try simp only [w1, w2, SW, SV, wpD, evDL, evDM, evD, bldLD, wpSp, DMem.mt, beq_self_eq_true, seval]
    exact one_end (x := ⟨3, (top - 2), (top - 2), (top - 1), 5, [], 1, 0, pc⟩) (d := .zsl) (S := []) rfl rfl h89 (by rw [k5 q8 h89, k4 q8 h89, k3 q8 h89, k2 q8 h89, k1 q8 h89]; exact h8) rfl g5 SlAt.nil (by simp)
  · have e : irL p ⟨6, a⟩ pc top = ⟨3, (top - 2), (top - 2), (top - 1), 6, [], 1, 0, pc⟩ := by simp [irL]
    rw [e]
    refine st9 (i := 0) (v := 3) h9 rfl (by decide) fun N1 g1 k1 => ?_
    try simp only [w1, w2, SW, SV, wpD, evDL, evDM, evD, bldLD, wpSp, DMem.mt, beq_self_eq_true, seval]
    refine st9 (i := 1) (v := (top - 2)) g1 rfl (by decide) fun N2 g2 k2 => ?_
    try simp only [w1, w2, SW, SV, wpD, evDL, evDM, evD, bldLD, wpSp, DMem.mt, beq_self_eq_true, seval]
    refine st9 (i := 2) (v := (top - 2)) g2 rfl (by decide) fun N3 g3 k3 => ?_
    try simp only [w1, w2, SW, SV, wpD, evDL, evDM, evD, bldLD, wpSp, DMem.mt, beq_self_eq_true, seval]
    refine st9 (i := 3) (v := (top - 1)) g3 rfl (by decide) fun N4 g4 k4 => ?_
    try simp only [w1, w2, SW, SV, wpD, evDL, evDM, evD, bldLD, wpSp, DMem.mt, beq_self_eq_true, seval]
    refine st9 (i := 4) (v := 6) g4 rfl (by decide) fun N5 g5 k5 => ?_
    try simp only [w1, w2, SW, SV, wpD, evDL, evDM, evD, bldLD, wpSp, DMem.mt, beq_self_eq_true, seval]
    exact one_end (x := ⟨3, (top - 2), (top - 2), (top - 1), 6, [], 1, 0, pc⟩) (d := .zsl) (S := []) rfl rfl h89 (by rw [k5 q8 h89, k4 q8 h89, k3 q8 h89, k2 q8 h89, k1 q8 h89]; exact h8) rfl g5 SlAt.nil (by simp)
  · have e : irL p ⟨7, a⟩ pc top = ⟨3, (top - 2), (top - 2), (top - 1), 7, [], 1, 0, pc⟩ := by simp [irL]
    rw [e]
    refine st9 (i := 0) (v := 3) h9 rfl (by decide) fun N1 g1 k1 => ?_
    try simp only [w1, w2, SW, SV, wpD, evDL, evDM, evD, bldLD, wpSp, DMem.mt, beq_self_eq_true, seval]
    refine st9 (i := 1) (v := (top - 2)) g1 rfl (by decide) fun N2 g2 k2 => ?_
    try simp only [w1, w2, SW, SV, wpD, evDL, evDM, evD, bldLD, wpSp, DMem.mt, beq_self_eq_true, seval]
    refine st9 (i := 2) (v := (top - 2)) g2 rfl (by decide) fun N3 g3 k3 => ?_
    try simp only [w1, w2, SW, SV, wpD, evDL, evDM, evD, bldLD, wpSp, DMem.mt, beq_self_eq_true, seval]
    refine st9 (i := 3) (v := (top - 1)) g3 rfl (by decide) fun N4 g4 k4 => ?_
    try simp only [w1, w2, SW, SV, wpD, evDL, evDM, evD, bldLD, wpSp, DMem.mt, beq_self_eq_true, seval]
    refine st9 (i := 4) (v := 7) g4 rfl (by decide) fun N5 g5 k5 => ?_
    try simp only [w1, w2, SW, SV, wpD, evDL, evDM, evD, bldLD, wpSp, DMem.mt, beq_self_eq_true, seval]
    exact one_end (x := ⟨3, (top - 2), (top - 2), (top - 1), 7, [], 1, 0, pc⟩) (d := .zsl) (S := []) rfl rfl h89 (by rw [k5 q8 h89, k4 q8 h89, k3 q8 h89, k2 q8 h89, k1 q8 h89]; exact h8) rfl g5 SlAt.nil (by simp)
  · have e : irL p ⟨8, a⟩ pc top = ⟨3, (top - 2), (top - 2), (top - 1), 8, [], 1, 0, pc⟩ := by simp [irL]
    rw [e]
    refine st9 (i := 0) (v := 3) h9 rfl (by decide) fun N1 g1 k1 => ?_
    try simp only [w1, w2, SW, SV, wpD, evDL, evDM, evD, bldLD, wpSp, DMem.mt, beq_self_eq_true, seval]
    refine st9 (i := 1) (v := (top - 2)) g1 rfl (by decide) fun N2 g2 k2 => ?_
    try simp only [w1, w2, SW, SV, wpD, evDL, evDM, evD, bldLD, wpSp, DMem.mt, beq_self_eq_true, seval]
    refine st9 (i := 2) (v := (top - 2)) g2 rfl (by decide) fun N3 g3 k3 => ?_
    try simp only [w1, w2, SW, SV, wpD, evDL, evDM, evD, bldLD, wpSp, DMem.mt, beq_self_eq_true, seval]
    refine st9 (i := 3) (v := (top - 1)) g3 rfl (by decide) fun N4 g4 k4 => ?_
    try simp only [w1, w2, SW, SV, wpD, evDL, evDM, evD, bldLD, wpSp, DMem.mt, beq_self_eq_true, seval]
    refine st9 (i := 4) (v := 8) g4 rfl (by decide) fun N5 g5 k5 => ?_
    try simp only [w1, w2, SW, SV, wpD, evDL, evDM, evD, bldLD, wpSp, DMem.mt, beq_self_eq_true, seval]
    exact one_end (x := ⟨3, (top - 2), (top - 2), (top - 1), 8, [], 1, 0, pc⟩) (d := .zsl) (S := []) rfl rfl h89 (by rw [k5 q8 h89, k4 q8 h89, k3 q8 h89, k2 q8 h89, k1 q8 h89]; exact h8) rfl g5 SlAt.nil (by simp)
  · have e : irL p ⟨9, a⟩ pc top = ⟨3, (top - 2), (top - 2), (top - 1), 9, [], 1, 0, pc⟩ := by simp [irL]
    rw [e]
    refine st9 (i := 0) (v := 3) h9 rfl (by decide) fun N1 g1 k1 => ?_
    try simp only [w1, w2, SW, SV, wpD, evDL, evDM, evD, bldLD, wpSp, DMem.mt, beq_self_eq_true, seval]
    refine st9 (i := 1) (v := (top - 2)) g1 rfl (by decide) fun N2 g2 k2 => ?_
    try simp only [w1, w2, SW, SV, wpD, evDL, evDM, evD, bldLD, wpSp, DMem.mt, beq_self_eq_true, seval]
    refine st9 (i := 2) (v := (top - 2)) g2 rfl (by decide) fun N3 g3 k3 => ?_
    try simp only [w1, w2, SW, SV, wpD, evDL, evDM, evD, bldLD, wpSp, DMem.mt, beq_self_eq_true, seval]
    refine st9 (i := 3) (v := (top - 1)) g3 rfl (by decide) fun N4 g4 k4 => ?_
    try simp only [w1, w2, SW, SV, wpD, evDL, evDM, evD, bldLD, wpSp, DMem.mt, beq_self_eq_true, seval]
    refine st9 (i := 4) (v := 9) g4 rfl (by decide) fun N5 g5 k5 => ?_
    try simp only [w1, w2, SW, SV, wpD, evDL, evDM, evD, bldLD, wpSp, DMem.mt, beq_self_eq_true, seval]
    exact one_end (x := ⟨3, (top - 2), (top - 2), (top - 1), 9, [], 1, 0, pc⟩) (d := .zsl) (S := []) rfl rfl h89 (by rw [k5 q8 h89, k4 q8 h89, k3 q8 h89, k2 q8 h89, k1 q8 h89]; exact h8) rfl g5 SlAt.nil (by simp)
  · have e : irL p ⟨10, a⟩ pc top = ⟨2, top, (top - 1), 0, 0, [], 1, 0, pc⟩ := by simp [irL]
    rw [e]
    refine st9 (i := 0) (v := 2) h9 rfl (by decide) fun N1 g1 k1 => ?_
    try simp only [w1, w2, SW, SV, wpD, evDL, evDM, evD, bldLD, wpSp, DMem.mt, beq_self_eq_true, seval]
    refine st9 (i := 1) (v := top) g1 rfl (by decide) fun N2 g2 k2 => ?_
    try simp only [w1, w2, SW, SV, wpD, evDL, evDM, evD, bldLD, wpSp, DMem.mt, beq_self_eq_true, seval]
    refine st9 (i := 2) (v := (top - 1)) g2 rfl (by decide) fun N3 g3 k3 => ?_
    try simp only [w1, w2, SW, SV, wpD, evDL, evDM, evD, bldLD, wpSp, DMem.mt, beq_self_eq_true, seval]
    exact one_end (x := ⟨2, top, (top - 1), 0, 0, [], 1, 0, pc⟩) (d := .zsl) (S := []) rfl rfl h89 (by rw [k3 q8 h89, k2 q8 h89, k1 q8 h89]; exact h8) rfl g3 SlAt.nil (by simp)
  · have e : irL p ⟨11, a⟩ pc top = ⟨0, 0, 0, 0, 0, [], 1, 0, pc⟩ := by simp [irL]
    rw [e]
    refine st9 (i := 0) (v := 0) h9 rfl (by decide) fun N1 g1 k1 => ?_
    try simp only [w1, w2, SW, SV, wpD, evDL, evDM, evD, bldLD, wpSp, DMem.mt, beq_self_eq_true, seval]
    exact one_end (x := ⟨0, 0, 0, 0, 0, [], 1, 0, pc⟩) (d := .zsl) (S := []) rfl rfl h89 (by rw [k1 q8 h89]; exact h8) rfl g1 SlAt.nil (by simp)
  · have e : irL p ⟨12, a⟩ pc top = ⟨4, 0, 0, 0, a, [], 1, 0, pc⟩ := by simp [irL]
    rw [e]
    refine st9 (i := 0) (v := 4) h9 rfl (by decide) fun N1 g1 k1 => ?_
    try simp only [w1, w2, SW, SV, wpD, evDL, evDM, evD, bldLD, wpSp, DMem.mt, beq_self_eq_true, seval]
    refine st9 (i := 4) (v := a) g1 rfl (by decide) fun N2 g2 k2 => ?_
    try simp only [w1, w2, SW, SV, wpD, evDL, evDM, evD, bldLD, wpSp, DMem.mt, beq_self_eq_true, seval]
    exact one_end (x := ⟨4, 0, 0, 0, a, [], 1, 0, pc⟩) (d := .zsl) (S := []) rfl rfl h89 (by rw [k2 q8 h89, k1 q8 h89]; exact h8) rfl g2 SlAt.nil (by simp)
  · have e : irL p ⟨13, a⟩ pc top = ⟨5, 0, (top - 1), 0, a, [], 1, 0, pc⟩ := by simp [irL]
    rw [e]
    refine st9 (i := 0) (v := 5) h9 rfl (by decide) fun N1 g1 k1 => ?_
    try simp only [w1, w2, SW, SV, wpD, evDL, evDM, evD, bldLD, wpSp, DMem.mt, beq_self_eq_true, seval]
    refine st9 (i := 2) (v := (top - 1)) g1 rfl (by decide) fun N2 g2 k2 => ?_
    try simp only [w1, w2, SW, SV, wpD, evDL, evDM, evD, bldLD, wpSp, DMem.mt, beq_self_eq_true, seval]
    refine st9 (i := 4) (v := a) g2 rfl (by decide) fun N3 g3 k3 => ?_
    try simp only [w1, w2, SW, SV, wpD, evDL, evDM, evD, bldLD, wpSp, DMem.mt, beq_self_eq_true, seval]
    exact one_end (x := ⟨5, 0, (top - 1), 0, a, [], 1, 0, pc⟩) (d := .zsl) (S := []) rfl rfl h89 (by rw [k3 q8 h89, k2 q8 h89, k1 q8 h89]; exact h8) rfl g3 SlAt.nil (by simp)
  · obtain ⟨c1, c2, c3, c4⟩ := hc rfl
    obtain ⟨n, rfl⟩ := Int.eq_ofNat_of_zero_le c1
    have hn : n < p.length := by omega
    have ha : argsOf p (n : Int) = p[n].args := by unfold argsOf; rw [Int.toNat_natCast, List.getElem?_eq_getElem hn]
    rw [ha] at c3 c4
    obtain ⟨m, hm⟩ := Int.eq_ofNat_of_zero_le c3
    have hm4 : m ≤ 4 := by omega
    have e : irL p ⟨14, n⟩ pc top = ⟨6, top - m, 0, 0, n, (List.range m).map (fun i : Nat => top - (m : Int) + (i : Int)), 1, 0, pc⟩ := by
      simp [irL, ha, hm]
    rw [e]
    have w3 : wr64 (top - (m : Int)) = top - m := w64 (by omega)
    simp only [ix_slD Fnc.len hn, hm, w3, ldnI1, SW, SV, wpD, evDL, evDM, evD, bldLD, wpSp, DMem.mt, beq_self_eq_true, seval]
    refine st9 (i := 0) (v := 6) h9 rfl (by decide) fun N1 g1 k1 => ?_
    refine st9 (i := 1) (v := top - m) g1 rfl (by decide) fun N2 g2 k2 => ?_
    refine st9 (i := 4) (v := n) g2 rfl (by decide) fun N3 g3 k3 => ?_
    have h8' : N3 q8 = some ⟨50, 9, [.int .i64 0, .int .i64 0, .int .i64 0, .int .i64 0, .int .i64 0, .zsl, .int .i64 0, .int .i64 0, .int .i64 0]⟩ := by rw [k3 q8 h89, k2 q8 h89, k1 q8 h89]; exact h8
    replace g3 : N3 q9 = some ⟨50, 9, [.int .i64 6, .int .i64 (top - m), .int .i64 0, .int .i64 0, .int .i64 n, .zsl, .int .i64 1, .int .i64 0, .int .i64 pc]⟩ := g3
    clear g1 g2 k1 k2 k3 h8 h9 hl3 hl2 hx hc
    refine ⟨fun f δ M => ∃ (i : Nat) (d : DV) (S : List Nat), i ≤ m ∧ f = m - i ∧ δ 6 = .mp q8 0 ∧ δ 9 = .int .i64 top ∧ δ 10 = .mp q9 0 ∧ δ 11 = .int .i64 m ∧ δ 12 = .int .i64 i ∧ M q8 = some ⟨50, 9, [.int .i64 0, .int .i64 0, .int .i64 0, .int .i64 0, .int .i64 0, .zsl, .int .i64 0, .int .i64 0, .int .i64 0]⟩ ∧
        M q9 = some ⟨50, 9, [.int .i64 6, .int .i64 (top - m), .int .i64 0, .int .i64 0, .int .i64 n, d, .int .i64 1, .int .i64 0, .int .i64 pc]⟩ ∧ SlAt intE M d ((List.range i).map (fun j : Nat => top - (m : Int) + (j : Int))) S ∧ S.Nodup ∧ q8 ∉ S ∧ q9 ∉ S, m,
      ⟨0, .zsl, [], Nat.zero_le _, rfl, rfl, rfl, rfl, rfl, rfl, h8', g3, SlAt.nil, List.nodup_nil, by simp, by simp⟩, ?_⟩
    clear g3 h8'
    rintro f δ M ⟨i, d, S, hi, rfl, h6, h9, h10, h11, h12, hM8, hM9, hs, hnd, h8S, h9S⟩
    have e1 : wr64 (top - (m : Int) + (i : Int)) = top - m + i := w64 (by omega)
    simp only [S1_swageref9_one, MU_swageref9_one, h6, h9, h10, h11, h12, hM9, w3, e1, SW, SV, wpD, evDL, evDM, evD, bldLD, wpSp, DMem.mt, beq_self_eq_true, seval, decide_eq_true_eq, decide_eq_false_iff_not]
    refine ⟨fun hlt => ?_, fun hge => ?_⟩
    · have hlen : ((List.range i).map (fun j : Nat => top - (m : Int) + (j : Int))).length = i := by simp
      refine hs.app intE_ok hnd (ys := [top - m + i]) (ds := [.int .i64 (top - m + i)]) (T := []) (RowAt.one ⟨rfl, rfl⟩) (fun x hx => by simp at hx) rfl (by rw [hlen]; omega) (by rw [hlen]; omega) fun d' M9 S' hsl9 hk9 hS9 hnd9 => ?_
      have hq9 := hk9 q9 _ hM9 h9S
      have hq8 := hk9 q8 _ hM8 h8S
      have h9S' : q9 ∉ S' := fun hh => by
        rcases hS9 q9 hh with h | h | h
        · exact h9S h
        · simp at h
        · rw [hM9] at h; cases h
      have h8S' : q8 ∉ S' := fun hh => by
        rcases hS9 q8 hh with h | h | h
        · exact h8S h
        · simp at h
        · rw [hM8] at h; cases h
      try simp only [h6, h9, h10, h11, h12, SW, SV, wpD, evDL, evDM, evD, bldLD, wpSp, DMem.mt, beq_self_eq_true, seval]
      refine stD hq9 (hsl9.cell) rfl (by simp) (by simp) (by simp only [List.all_cons, List.all_nil, hsl9.plain] <;> rfl) fun M10 hM10 => ?_
      have e10 : wr64 ((i : Int) + 1) = ((i + 1 : Nat) : Int) := w64s (by omega)
      try simp only [h6, h9, h10, h11, h12, e10, SW, SV, wpD, evDL, evDM, evD, bldLD, wpSp, DMem.mt, beq_self_eq_true, seval]
      refine ⟨m - (i + 1), M10, by omega, SubD.refl _, i + 1, d', S', by omega, rfl, rfl, ?_, by rw [hM10, DMem.ins_same] <;> rfl, ?_, hnd9 List.nodup_nil, h8S', h9S'⟩
      · rw [hM10, DMem.ins_ne _ _ h89]; exact hq8
      · rw [List.range_succ, List.map_append]
        exact hsl9.frame intE_ok fun x hx => by rw [hM10, DMem.ins_ne _ _ (by rintro rfl; exact h9S' hx)]
    · have him : i = m := by omega
      subst him
      try simp only [SW, SV, wpD, evDL, evDM, evD, bldLD, wpSp, DMem.mt, beq_self_eq_true, seval]
      exact one_end (x := ⟨6, top - i, 0, 0, n, (List.range i).map (fun j : Nat => top - (i : Int) + (j : Int)), 1, 0, pc⟩) (by exact h6) (by exact h10) h89 hM8 rfl hM9 hs h8S
  · have e : irL p ⟨15, a⟩ pc top = ⟨7, 0, (top - 1), 0, 0, [], 1, 0, pc⟩ := by simp [irL]
    rw [e]
    refine st9 (i := 0) (v := 7) h9 rfl (by decide) fun N1 g1 k1 => ?_
    try simp only [w1, w2, SW, SV, wpD, evDL, evDM, evD, bldLD, wpSp, DMem.mt, beq_self_eq_true, seval]
    refine st9 (i := 2) (v := (top - 1)) g1 rfl (by decide) fun N2 g2 k2 => ?_
    try simp only [w1, w2, SW, SV, wpD, evDL, evDM, evD, bldLD, wpSp, DMem.mt, beq_self_eq_true, seval]
    exact one_end (x := ⟨7, 0, (top - 1), 0, 0, [], 1, 0, pc⟩) (d := .zsl) (S := []) rfl rfl h89 (by rw [k2 q8 h89, k1 q8 h89]; exact h8) rfl g2 SlAt.nil (by simp)
  · have e : irL p ⟨16, a⟩ pc top = ⟨8, 0, (top - 1), 0, 0, [], 1, 0, pc⟩ := by simp [irL]
    rw [e]
    refine st9 (i := 0) (v := 8) h9 rfl (by decide) fun N1 g1 k1 => ?_
    try simp only [w1, w2, SW, SV, wpD, evDL, evDM, evD, bldLD, wpSp, DMem.mt, beq_self_eq_true, seval]
    refine st9 (i := 2) (v := (top - 1)) g1 rfl (by decide) fun N2 g2 k2 => ?_
    try simp only [w1, w2, SW, SV, wpD, evDL, evDM, evD, bldLD, wpSp, DMem.mt, beq_self_eq_true, seval]
    exact one_end (x := ⟨8, 0, (top - 1), 0, 0, [], 1, 0, pc⟩) (d := .zsl) (S := []) rfl rfl h89 (by rw [k2 q8 h89, k1 q8 h89]; exact h8) rfl g2 SlAt.nil (by simp)
end Go.Proofs.YticlgdhhnjpkjaaGreatDoor.Pf
namespace Go.Proofs.YticlgdhhnjpkjaaGreatDoor.Pf
open Go Go.RowKit Go.Proofs Go.Proofs.YticlgdhhnjpkjaaGreatDoor.Mw Go.Proofs.YticlgdhhnjpkjaaGreatDoor.Sx
set_option linter.unusedVariables false
set_option linter.unusedSimpArgs false
set_option maxRecDepth 8000
def irG : El Irc := ⟨9, Irc.c, 1, fun M x cs S => (∃ d, cs = [.int .i64 x.kind, .int .i64 x.r, .int .i64 x.a, .int .i64 x.b, .int .i64 x.k, d, .int .i64 x.cost, .int .i64 x.mt, .int .i64 x.pc] ∧ (d = slI x.args ∨ (d = .zsl ∧ x.args = []))) ∧ S = []⟩
theorem irG_ok : irG.Ok where
  pos := by decide
  len := by rintro M x cs S ⟨⟨d, rfl, _⟩, _⟩; rfl
  clen := fun x => rfl
  frame := fun h _ => h
  fz := by
    rintro M x cs S k ⟨⟨d, rfl, h⟩, _⟩ hk
    obtain ⟨j, rfl⟩ : ∃ j, k = j + 1 := ⟨k - 1, by have : 1 ≤ k := hk; omega⟩
    simp only [List.map_cons, List.map_nil, fz_int]
    rcases h with rfl | ⟨rfl, h⟩
    · have e := fzmap_froz (FrozL.nil.cons (Froz.slI x.args)) M (j + 1)
      simp only [List.map_cons, List.map_nil, List.cons.injEq, and_true] at e
      rw [e] <;> rfl
    · rw [fz_zsl]; simp only [irG, Irc.c, h] <;> rfl
  plain := by
    rintro M x cs S ⟨⟨d, rfl, h⟩, _⟩
    rcases h with rfl | ⟨rfl, h⟩ <;> rfl
  here := by rintro M x cs S ⟨⟨d, rfl, h⟩, rfl⟩ b hb; simp at hb
def metaG : El (List Part) := flatE metaC 1
theorem metaG_ok : metaG.Ok := flatE_ok (by decide) metaC_len metaC_froz (fun x => rfl)
theorem LowerR_end {M : DMem} {δ : DEnv} {q7 pb o : Nat} {fn regs : Int} {code : List Irc} {metas : List (List Part)} {st : List Int} {dc dm : DV} {Sc Sm : List Nat}
    (h4 : δ 4 = .mp o 0) (h7 : δ 7 = .mp q7 0) (h8 : δ 8 = .msl pb 0 st.length st.length)
    (hM7 : M q7 = some ⟨29, 4, [.int .i64 fn, .int .i64 regs, dc, dm]⟩) (hMo : M o = some ⟨29, 4, [.int .i64 0, .int .i64 0, .zsl, .zsl]⟩) (hMp : M pb = some ⟨3, st.length, st.map (.int .i64)⟩)
    (hc : SlAt irG M dc code Sc) (hm : SlAt metaG M dm metas Sm) (hnd : (q7 :: pb :: o :: (Sc ++ Sm)).Nodup) (hlc : code.length ≤ 100000) (hk : ∀ x ∈ code, goesB x.kind = true → 0 ≤ x.k ∧ x.k < st.length)
    {KK : DEnv → DMem → Prop} {XX : Nat → DEnv → DMem → Prop} {R : DV → DMem → Prop}
    (hR : ∀ M', SlAt irG M' dc (code.map (placed st)) Sc → SlAt metaG M' dm metas Sm → (∀ y, y ≠ o → y ∉ Sc → M' y = M y) → R (.tup [.agg [.int .i64 fn, .int .i64 regs, dc, dm], .int .i64 0]) M') :
    wpD Tryz.prog MU_swageref9_Lower (fun f => roL.contains f) (fun t => G_swageref9_Lower.contains t) 146 S4_swageref9_Lower KK XX (fun δ M' => ∃ d, evD Tryz.prog M' δ R_swageref9_Lower = some d ∧ R d M') δ M := by
  have hnd1 := List.nodup_cons.1 hnd
  have hnd2 := List.nodup_cons.1 hnd1.2
  have hnd3 := List.nodup_cons.1 hnd2.2
  obtain ⟨hnc, hnm, hdis⟩ := List.nodup_append.1 hnd3.2
  have hqo : q7 ≠ o := by rintro rfl; exact hnd1.1 (by simp)
  have hqc : q7 ∉ Sc := fun hh => hnd1.1 (by simp [hh])
  have hpc : pb ∉ Sc := fun hh => hnd2.1 (by simp [hh])
  have hoc : o ∉ Sc := fun hh => hnd3.1 (by simp [hh])
  have hom : o ∉ Sm := fun hh => hnd3.1 (by simp [hh])
  simp only [S4_swageref9_Lower, MU_swageref9_Lower, SW, SV, wpD, evDL, evDM, evD, bldLD, wpSp, DMem.mt, beq_self_eq_true, seval]
  refine ⟨fun n δ M' => ∃ (i : Nat), i ≤ code.length ∧ n = code.length - i ∧ δ 4 = .mp o 0 ∧ δ 7 = .mp q7 0 ∧ δ 8 = .msl pb 0 st.length st.length ∧ δ 11 = .int .i64 i ∧
      SlAt irG M' dc ((code.take i).map (placed st) ++ code.drop i) Sc ∧ (∀ y, y ∉ Sc → M' y = M y), code.length,
    ⟨0, Nat.zero_le _, rfl, h4, h7, h8, rfl, by simpa using hc, fun y _ => rfl⟩, ?_⟩
  rintro n δ M' ⟨i, hi, rfl, h4, h7, h8, h11, hci, hkeep⟩
  have hMw := (hkeep q7 hqc).trans hM7
  have hMs := (hkeep pb hpc).trans hMp
  have hMo' := (hkeep o hoc).trans hMo
  have hlen := half_len (placed st) code hi
  have hle := hci.lenD
  rw [hlen] at hle
  simp only [S2_swageref9_Lower, MU_swageref9_Lower, h4, h7, h8, h11, hMw, hle, SW, SV, wpD, evDL, evDM, evD, bldLD, wpSp, DMem.mt, beq_self_eq_true, seval, decide_eq_true_eq, decide_eq_false_iff_not]
  refine ⟨fun hlt => ?_, fun hge => ?_⟩
  · have hil : i < code.length := by omega
    have hx := half_get (placed st) code hil (by rw [hlen]; exact hil)
    obtain ⟨b, c, ty, c1, cx, c2, S1, Sx, S2, hd, hMb, hl1, hlx, ⟨⟨da, hcx, hda⟩, hSx⟩, hSe, hcl, _, hput⟩ := hci.inner irG_ok hnc (i := i) (by rw [hlen]; exact hil)
    rw [hlen] at hd hcl
    rw [hx] at hcx hda
    subst hcx
    have hl1 : c1.length = i * 9 := hl1
    have ge : ∀ {off : Nat} {v : DV} {cx : List DV}, M' b = some ⟨ty, c * 9, c1 ++ cx ++ c2⟩ → off < cx.length → cx[off]? = some v → ldD M' (.mp b (i * 9 + off)) = some v := fun {off v cx} h1 h2 h3 => by
      rw [ldM, h1]; show (c1 ++ cx ++ _)[i * 9 + off]? = _; rw [get_field hl1 h2]; exact h3
    have hix : ixD 9 dc (.int .i64 (i : Int)) = some (.mp b (i * 9)) := by rw [hd, ixM hil, Nat.zero_add]
    have hg0 := ge hMb (off := 0) (by simp) rfl
    have hg4 := ge hMb (off := 4) (by simp) rfl
    have hbS : b ∈ Sc := by rw [hSe]; simp
    simp only [Nat.add_zero] at hg0
    have ei : wr64 ((i : Int) + 1) = ((i + 1 : Nat) : Int) := w64s (by omega)
    simp only [hix, hg0, Nat.add_zero, fz_int, List.map_cons, List.map_nil, SW, SV, wpD, evDL, evDM, evD, bldLD, wpSp, DMem.mt, beq_self_eq_true, seval]
    have hgo' : (decide (code[i].kind = 4) || decide (code[i].kind = 5)) = goesB code[i].kind := rfl
    rw [hgo']
    cases hgo : goesB code[i].kind with
    | true =>
      obtain ⟨hk0, hk1⟩ := hk _ (List.getElem_mem hil) hgo
      obtain ⟨kn, hkn⟩ := Int.eq_ofNat_of_zero_le hk0
      have hkl : kn < st.length := by omega
      rw [hkn] at hg4
      simp only [raw2_swageref9_Lower, P2_swageref9_Lower, MU_swageref9_Lower, h4, h7, h8, h11, hMw, hMs, hix, hg4, ixM hkl, ei, SW, SV, wpD, evDL, evDM, evD, bldLD, wpSp, DMem.mt, beq_self_eq_true, seval]
      have hgs : (st.map (DV.int .i64))[kn]? = some (.int .i64 st[kn]) := by simp [hkl]
      refine ⟨_, hgs, hgs, ?_⟩
      refine stD hMb rfl rfl (by simp [hl1]) (by show i * 9 + 4 + 1 ≤ c * 9; omega) rfl fun M2 hM2 => ?_
      rw [splD_field hl1 (by simp)] at hM2
      refine ⟨code.length - (i + 1), M2, by omega, SubD.refl _, i + 1, by omega, rfl, rfl, ?_, fun y hy => ?_⟩
      · rw [← half_set (placed st) code hil]
        have hpl : placed st code[i] = { code[i] with k := st[kn] } := by
          unfold placed
          rw [hgo, if_pos rfl]
          congr 1
          rw [hkn]; simp [hkl]
        refine hput M2 (placed st code[i]) _ ?_ hM2
        rw [hpl]
        exact ⟨⟨da, rfl, hda⟩, hSx⟩
      · rw [hM2, DMem.ins_ne _ _ (by rintro rfl; exact hy hbS)]; exact hkeep y hy
    | false =>
      simp only [h4, h7, h8, h11, ei, SW, SV, wpD, evDL, evDM, evD, bldLD, wpSp, DMem.mt, beq_self_eq_true, seval]
      refine ⟨code.length - (i + 1), M', by omega, SubD.refl _, i + 1, by omega, rfl, rfl, ?_, hkeep⟩
      have hpl : placed st code[i] = code[i] := by unfold placed; rw [hgo] <;> rfl
      rw [← half_set (placed st) code hil, hpl]
      rw [show (List.map (placed st) (List.take i code) ++ List.drop i code).set i code[i] = List.map (placed st) (List.take i code) ++ List.drop i code by
        conv => lhs; arg 3; rw [← hx]
        exact List.set_getElem_self _]
      exact hci
  · have : i = code.length := by omega
    subst this
    rw [List.take_length, List.drop_length, List.append_nil] at hci
    have hmm : SlAt metaG M' dm metas Sm := hm.frame metaG_ok fun y hy => hkeep y fun hh => hdis y hh y hy rfl
    simp only [S3_swageref9_Lower, MU_swageref9_Lower, h4, h7, hMw, ldnM, SW, SV, wpD, evDL, evDM, evD, bldLD, wpSp, DMem.mt, beq_self_eq_true, seval]
    refine stD hMo' rfl rfl (by simp) (by simp) (by simp only [List.all_cons, List.all_nil, hci.plain, hmm.plain] <;> rfl) fun M2 hM2 => ?_
    have ho2 : M2 o = some ⟨29, 4, [.int .i64 fn, .int .i64 regs, dc, dm]⟩ := by rw [hM2, DMem.ins_same] <;> rfl
    have h2 : ∀ y, y ≠ o → M2 y = M' y := fun y hy => by rw [hM2, DMem.ins_ne _ _ hy]
    simp only [R_swageref9_Lower, h4, ho2, ldnM, SW, SV, wpD, evDL, evDM, evD, bldLD, wpSp, DMem.mt, beq_self_eq_true, seval]
    exact hR M2 (hci.frame irG_ok fun y hy => h2 y (by rintro rfl; exact hoc hy)) (hmm.frame metaG_ok fun y hy => h2 y (by rintro rfl; exact hom hy)) fun y hy hyc => by rw [h2 y hy, hkeep y hyc]
end Go.Proofs.YticlgdhhnjpkjaaGreatDoor.Pf
namespace Go.Proofs.YticlgdhhnjpkjaaGreatDoor.Pf
open Go Go.RowKit Go.Proofs Go.Proofs.YticlgdhhnjpkjaaGreatDoor.Mw Go.Proofs.YticlgdhhnjpkjaaGreatDoor.Sx
set_option linter.unusedVariables false
set_option linter.unusedSimpArgs false
set_option maxRecDepth 4000
theorem rowsR_pc {M : DMem} (from' : Int) (k : Nat) (hk : k ≤ 1000) (hf : 0 ≤ from' ∧ from' ≤ 100000) {R : DV → DMem → Prop}
    (hR : ∀ d M' S, SlAt srcE M' d (rowS from' k) S → S.Nodup → (∀ x ∈ S, M x = none) → SubD M M' → R d M') : PC Tryz.prog F_swageref9_rows [.int .i64 from', .int .i64 k] R M := by
  refine pc_swageref9_rows (by simp) ?_
  simp only [S_swageref9_rows, R_swageref9_rows, MU_swageref9_rows, SW, SV, wpD, evDL, evDM, evD, bldLD, wpSp, DMem.mt, beq_self_eq_true, seval]
  refine ⟨fun n δ M' => ∃ (i : Nat) (S : List Nat), i ≤ k ∧ n = k - i ∧ δ 0 = .int .i64 from' ∧ δ 1 = .int .i64 k ∧ δ 6 = .int .i64 i ∧ SlAt srcE M' (δ 5) (rowS from' i) S ∧ S.Nodup ∧ (∀ x ∈ S, M x = none) ∧ SubD M M', k,
    ⟨0, [], Nat.zero_le _, rfl, rfl, rfl, rfl, SlAt.nil, List.nodup_nil, fun x hx => by simp at hx, SubD.refl _⟩, ?_⟩
  rintro n δ M' ⟨i, S, hi, rfl, h0, hh1, h6, hs, hnd, hS, hsub⟩
  simp only [S1_swageref9_rows, MU_swageref9_rows, h0, hh1, h6, SW, SV, wpD, evDL, evDM, evD, bldLD, wpSp, DMem.mt, beq_self_eq_true, seval, decide_eq_true_eq, decide_eq_false_iff_not]
  refine ⟨fun hlt => ?_, fun hge => ?_⟩
  · have hik : i < k := by omega
    have e1 : wr64 (from' + (i : Int)) = from' + i := w64 (by omega)
    have hlen : (rowS from' i).length = i := by simp [rowS]
    simp only [e1]
    refine hs.app srcE_ok hnd (ys := [⟨false, from' + i⟩]) (ds := [.bool false, .int .i64 (from' + i)]) (T := []) (RowAt.one ⟨rfl, rfl⟩) (fun x hx => by simp at hx) rfl (by rw [hlen]; omega) (by rw [hlen]; omega) fun d' M2 S' h1 h2 h3 h4 => ?_
    try simp only [h0, hh1, h6, w64s (show i < 4611686018427387905 by omega), SW, SV, wpD, evDL, evDM, evD, bldLD, wpSp, DMem.mt, beq_self_eq_true, seval]
    refine ⟨k - (i + 1), M2, by omega, SubD.refl _, i + 1, S', by omega, rfl, rfl, ?_, h4 List.nodup_nil, fun x hx => ?_, fun x B hB => ?_⟩
    · have : rowS from' (i + 1) = rowS from' i ++ [⟨false, from' + i⟩] := by simp [rowS, List.range_succ]
      rw [this]; exact h1
    · rcases h3 x hx with h | h | h
      · exact hS x h
      · simp at h
      · cases e : M x with
        | none => rfl
        | some B => have := hsub x B e; rw [h] at this; cases this
    · exact h2 x B (hsub x B hB) fun hh => by rw [hS x hh] at hB; cases hB
  · have : i = k := by omega
    subst this
    try simp only [SW, SV, wpD, evDL, evDM, evD, bldLD, wpSp, DMem.mt, beq_self_eq_true, seval]
    exact hR _ M' S hs hnd hS hsub
theorem PlainR_pt (p : List Fnc) (fn : Nat) (pc : Int) (h : Nat) (hfn : fn < p.length) (hl : 0 ≤ p[fn].locals ∧ p[fn].locals ≤ 8) (hh : h ≤ 8) (hhe : heightF p fn pc = h) :
    Pt Tryz.prog F_swageref9_Plain [.agg [slD Fnc.c p], .int .i64 fn, .int .i64 pc, .int .i64 0, .int .i64 0] (.agg (plainP p[fn] fn pc h 0).c) := by
  refine Pt.of (pc_swageref9_Plain (by simp) ?_)
  obtain ⟨n, hn⟩ := Int.eq_ofNat_of_zero_le hl.1
  simp only [S_swageref9_Plain, raw0_swageref9_Plain, P0_swageref9_Plain, R_swageref9_Plain, MU_swageref9_Plain, ix_slD Fnc.len hfn, HeightR_pf, fz_prg, hhe, ldnI1, SW, SV, wpD, evDL, evDM, evD, bldLD, wpSp, DMem.mt, beq_self_eq_true, seval]
  intro q M1 hM1
  rw [hn]
  refine rowsR_pc 0 n (by omega) (by omega) fun d1 M2 S1 h1 n1 f1 k1 => ?_
  have e1 : wr64 (0 + (n : Int)) = n := by rw [w64 (by omega)]; omega
  have e2 : wr64 ((h : Int) - 0) = h := by rw [w64 (by omega)]; omega
  rw [e1, e2]
  refine rowsR_pc n h (by omega) (by omega) fun d2 M3 S2 h2 n2 f2 k2 => ?_
  have h13 := SlAt.sub srcE_ok h1 k2
  simp only [h13.cell, h2.cell, SW, SV, wpD, evDL, evDM, evD, bldLD, wpSp, DMem.mt, beq_self_eq_true, seval]
  have hq3 : M3 q = some ⟨69, 4, [.int .i64 0, .int .i64 0, .zsl, .zsl]⟩ := k2 q _ (k1 q _ (by rw [hM1, DMem.ins_same]))
  refine stD hq3 rfl rfl (by simp) (by simp) (by simp [h13.plain, h2.plain]; exact ⟨rfl, rfl⟩) fun M4 hM4 => ?_
  have hq4 : M4 q = some ⟨69, 4, [.int .i64 fn, .int .i64 pc, d1, d2]⟩ := by rw [hM4, DMem.ins_same] <;> rfl
  have hqS1 : q ∉ S1 := fun hh => by have := f1 q hh; rw [hM1, DMem.ins_same] at this; cases this
  have hqS2 : q ∉ S2 := fun hh => by have := f2 q hh; rw [k1 q _ (by rw [hM1, DMem.ins_same])] at this; cases this
  have g1 : SlAt srcE M4 d1 (rowS 0 n) S1 := h13.frame srcE_ok fun b hb => by rw [hM4, DMem.ins_ne _ _ (by rintro rfl; exact hqS1 hb)]
  have g2 : SlAt srcE M4 d2 (rowS n h) S2 := h2.frame srcE_ok fun b hb => by rw [hM4, DMem.ins_ne _ _ (by rintro rfl; exact hqS2 hb)]
  obtain ⟨t1, t2⟩ := srcE_th.sl g1
  obtain ⟨t3, t4⟩ := srcE_th.sl g2
  have g1' := SlAt.only srcE_ok g1 (T := S1 ++ S2) (fun b hb => by simp [hb])
  have g2' := SlAt.only srcE_ok g2 (T := S1 ++ S2) (fun b hb => by simp [hb])
  simp only [ldnM, hq4, SW, SV, wpD, evDL, evDM, evD, bldLD, wpSp, DMem.mt, beq_self_eq_true, seval]
  refine pt_only (S := S1 ++ S2) (by simp only [thawed, thawedL, t1, t3] <;> rfl) (fun b hb => ?_) ?_
  · rcases List.mem_append.1 hb with hb | hb
    · exact t2 b hb
    · exact t4 b hb
  · rw [fz_agg]
    simp only [List.map_cons, List.map_nil, fz_int]
    rw [g1'.fz srcE_ok (k := 3) (by decide), g2'.fz srcE_ok (k := 3) (by decide)]
    unfold plainP
    simp only [hn, Int.toNat_natCast, Int.zero_add] <;> rfl
end Go.Proofs.YticlgdhhnjpkjaaGreatDoor.Pf
namespace Go.Proofs.YticlgdhhnjpkjaaGreatDoor.Pf
open Go Go.RowKit Go.Proofs Go.Proofs.YticlgdhhnjpkjaaGreatDoor.Mw Go.Proofs.YticlgdhhnjpkjaaGreatDoor.Sx
set_option linter.unusedVariables false
set_option linter.unusedSimpArgs false
set_option maxRecDepth 8000
structure DocAt (M1 M : DMem) (q7 pb o : Nat) (fn regs : Int) (code : List Irc) (metas : List (List Part)) (st : List Int) (dc dm : DV) (Sc Sm : List Nat) : Prop where
  q : M q7 = some ⟨29, 4, [.int .i64 fn, .int .i64 regs, dc, dm]⟩
  p : M pb = some ⟨3, st.length, st.map (.int .i64)⟩
  c : SlAt irG M dc code Sc
  m : SlAt metaG M dm metas Sm
  nd : (q7 :: pb :: o :: (Sc ++ Sm)).Nodup
  new : ∀ y ∈ Sc ++ Sm, M1 y = none
  qn : M1 q7 = none
  pn : M1 pb = none
  on : M1 o ≠ none
  sub : SubD M1 M
section
variable {M1 M : DMem} {q7 pb o : Nat} {fn regs : Int} {code : List Irc} {metas : List (List Part)} {st : List Int} {dc dm : DV} {Sc Sm : List Nat}
theorem DocAt.nds (h : DocAt M1 M q7 pb o fn regs code metas st dc dm Sc Sm) : q7 ≠ pb ∧ q7 ≠ o ∧ pb ≠ o ∧ (∀ y ∈ Sc, y ≠ q7 ∧ y ≠ pb ∧ y ≠ o) ∧ (∀ y ∈ Sm, y ≠ q7 ∧ y ≠ pb ∧ y ≠ o) ∧ Sc.Nodup ∧ Sm.Nodup ∧ (∀ y ∈ Sc, y ∉ Sm) := by
  have hnd1 := List.nodup_cons.1 h.nd
  have hnd2 := List.nodup_cons.1 hnd1.2
  have hnd3 := List.nodup_cons.1 hnd2.2
  obtain ⟨hnc, hnm, hdis⟩ := List.nodup_append.1 hnd3.2
  refine ⟨by rintro rfl; exact hnd1.1 (by simp), by rintro rfl; exact hnd1.1 (by simp), by rintro rfl; exact hnd2.1 (by simp), fun y hy => ⟨?_, ?_, ?_⟩, fun y hy => ⟨?_, ?_, ?_⟩, hnc, hnm, fun y hy hy' => hdis y hy y hy' rfl⟩
  · rintro rfl; exact hnd1.1 (by simp [hy])
  · rintro rfl; exact hnd2.1 (by simp [hy])
  · rintro rfl; exact hnd3.1 (by simp [hy])
  · rintro rfl; exact hnd1.1 (by simp [hy])
  · rintro rfl; exact hnd2.1 (by simp [hy])
  · rintro rfl; exact hnd3.1 (by simp [hy])
theorem nd3 {q7 pb o : Nat} {l : List Nat} (h1 : q7 ≠ pb) (h2 : q7 ≠ o) (h3 : pb ≠ o) (hl : l.Nodup) (h : ∀ y ∈ l, y ≠ q7 ∧ y ≠ pb ∧ y ≠ o) : (q7 :: pb :: o :: l).Nodup := by
  refine List.nodup_cons.2 ⟨fun hh => ?_, List.nodup_cons.2 ⟨fun hh => ?_, List.nodup_cons.2 ⟨fun hh => (h o hh).2.2 rfl, hl⟩⟩⟩
  · simp only [List.mem_cons] at hh
    rcases hh with hh | hh | hh
    · exact h1 hh
    · exact h2 hh
    · exact (h _ hh).1 rfl
  · simp only [List.mem_cons] at hh
    rcases hh with hh | hh
    · exact h3 hh
    · exact (h _ hh).2.1 rfl
theorem DocAt.gone (h : DocAt M1 M q7 pb o fn regs code metas st dc dm Sc Sm) {M5 M6 : DMem} {d' : DV} {code' : List Irc} {S' : List Nat} (h1 : SlAt irG M5 d' code' S') (h2 : ∀ b B, M b = some B → b ∉ Sc → M5 b = some B) (h3 : ∀ b ∈ S', b ∈ Sc ∨ b ∈ ([] : List Nat) ∨ M b = none) (h4 : S'.Nodup)
    (hM6 : M6 = M5.ins q7 ⟨29, 4, [.int .i64 fn, .int .i64 regs, d', dm]⟩) : DocAt M1 M6 q7 pb o fn regs code' metas st d' dm S' Sm := by
  obtain ⟨n1, n2, n3, n4, n5, n6, n7, n8⟩ := h.nds
  have hq : ∀ y, y ≠ q7 → M6 y = M5 y := fun y hy => by rw [hM6, DMem.ins_ne _ _ hy]
  have hS' : ∀ y ∈ S', (y ≠ q7 ∧ y ≠ pb ∧ y ≠ o) ∧ M1 y = none ∧ y ∉ Sm := fun y hy => by
    rcases h3 y hy with h5 | h5 | h5
    · exact ⟨n4 y h5, h.new y (by simp [h5]), n8 y h5⟩
    · simp at h5
    · refine ⟨⟨?_, ?_, ?_⟩, ?_, fun hh => h.m.here metaG_ok y hh h5⟩
      · rintro rfl; rw [h.q] at h5; cases h5
      · rintro rfl; rw [h.p] at h5; cases h5
      · rintro rfl
        cases e : M1 y with
        | none => exact h.on e
        | some B => rw [h.sub y B e] at h5; cases h5
      · cases e : M1 y with
        | none => rfl
        | some B => rw [h.sub y B e] at h5; cases h5
  have hpc : pb ∉ Sc := fun hh => (n4 pb hh).2.1 rfl
  refine ⟨by rw [hM6, DMem.ins_same], by rw [hq pb (Ne.symm n1)]; exact h2 pb _ h.p hpc, h1.frame irG_ok fun y hy => hq y (hS' y hy).1.1, ?_, nd3 n1 n2 n3 (List.nodup_append.2 ⟨h4, n7, fun a ha b hb => by rintro rfl; exact (hS' a ha).2.2 hb⟩) fun y hy => ?_, fun y hy => ?_, h.qn, h.pn, h.on, fun y B hB => ?_⟩
  · refine h.m.frame metaG_ok fun y hy => ?_
    obtain ⟨B, hB⟩ := Option.ne_none_iff_exists'.1 (h.m.here metaG_ok y hy)
    rw [hq y (n5 y hy).1, hB]
    exact h2 y B hB fun hh => n8 y hh hy
  · rcases List.mem_append.1 hy with hy | hy
    · exact (hS' y hy).1
    · exact n5 y hy
  · rcases List.mem_append.1 hy with hy | hy
    · exact (hS' y hy).2.1
    · exact h.new y (by simp [hy])
  · rw [hq y (by rintro rfl; rw [h.qn] at hB; cases hB)]
    exact h2 y B (h.sub y B hB) fun hh => by have := h.new y (by simp [hh]); rw [this] at hB; cases hB
theorem DocAt.left (h : DocAt M1 M q7 pb o fn regs code metas st dc dm Sc Sm) {M5 M6 : DMem} {d' : DV} {metas' : List (List Part)} {S' : List Nat} (h1 : SlAt metaG M5 d' metas' S') (h2 : ∀ b B, M b = some B → b ∉ Sm → M5 b = some B) (h3 : ∀ b ∈ S', b ∈ Sm ∨ b ∈ ([] : List Nat) ∨ M b = none) (h4 : S'.Nodup)
    (hM6 : M6 = M5.ins q7 ⟨29, 4, [.int .i64 fn, .int .i64 regs, dc, d']⟩) : DocAt M1 M6 q7 pb o fn regs code metas' st dc d' Sc S' := by
  obtain ⟨n1, n2, n3, n4, n5, n6, n7, n8⟩ := h.nds
  have hq : ∀ y, y ≠ q7 → M6 y = M5 y := fun y hy => by rw [hM6, DMem.ins_ne _ _ hy]
  have hS' : ∀ y ∈ S', (y ≠ q7 ∧ y ≠ pb ∧ y ≠ o) ∧ M1 y = none ∧ y ∉ Sc := fun y hy => by
    rcases h3 y hy with h5 | h5 | h5
    · exact ⟨n5 y h5, h.new y (by simp [h5]), fun hh => n8 y hh h5⟩
    · simp at h5
    · refine ⟨⟨?_, ?_, ?_⟩, ?_, fun hh => h.c.here irG_ok y hh h5⟩
      · rintro rfl; rw [h.q] at h5; cases h5
      · rintro rfl; rw [h.p] at h5; cases h5
      · rintro rfl
        cases e : M1 y with
        | none => exact h.on e
        | some B => rw [h.sub y B e] at h5; cases h5
      · cases e : M1 y with
        | none => rfl
        | some B => rw [h.sub y B e] at h5; cases h5
  have hpc : pb ∉ Sm := fun hh => (n5 pb hh).2.1 rfl
  refine ⟨by rw [hM6, DMem.ins_same], by rw [hq pb (Ne.symm n1)]; exact h2 pb _ h.p hpc, ?_, h1.frame metaG_ok fun y hy => hq y (hS' y hy).1.1, nd3 n1 n2 n3 (List.nodup_append.2 ⟨n6, h4, fun a ha b hb => by rintro rfl; exact (hS' a hb).2.2 ha⟩) fun y hy => ?_, fun y hy => ?_, h.qn, h.pn, h.on, fun y B hB => ?_⟩
  · refine h.c.frame irG_ok fun y hy => ?_
    obtain ⟨B, hB⟩ := Option.ne_none_iff_exists'.1 (h.c.here irG_ok y hy)
    rw [hq y (n4 y hy).1, hB]
    exact h2 y B hB fun hh => n8 y hy hh
  · rcases List.mem_append.1 hy with hy | hy
    · exact n4 y hy
    · exact (hS' y hy).1
  · rcases List.mem_append.1 hy with hy | hy
    · exact h.new y (by simp [hy])
    · exact (hS' y hy).2.1
  · rw [hq y (by rintro rfl; rw [h.qn] at hB; cases hB)]
    exact h2 y B (h.sub y B hB) fun hh => by have := h.new y (by simp [hh]); rw [this] at hB; cases hB
theorem DocAt.told (h : DocAt M1 M q7 pb o fn regs code metas st dc dm Sc Sm) {M6 : DMem} {st' : List Int} (hl : st'.length = st.length) (hM6 : M6 = M.ins pb ⟨3, st.length, st'.map (.int .i64)⟩) : DocAt M1 M6 q7 pb o fn regs code metas st' dc dm Sc Sm := by
  obtain ⟨n1, n2, n3, n4, n5, n6, n7, n8⟩ := h.nds
  have hq : ∀ y, y ≠ pb → M6 y = M y := fun y hy => by rw [hM6, DMem.ins_ne _ _ hy]
  exact ⟨by rw [hq q7 n1]; exact h.q, by rw [hM6, DMem.ins_same, hl], h.c.frame irG_ok fun y hy => hq y (n4 y hy).2.1, h.m.frame metaG_ok fun y hy => hq y (n5 y hy).2.1, h.nd, h.new, h.qn, h.pn, h.on,
    fun y B hB => by rw [hq y (by rintro rfl; rw [h.pn] at hB; cases hB)]; exact h.sub y B hB⟩
end
theorem docS_put {p : List Fnc} {f : Fnc} {fn : Int} {hs : List Int} {L i : Nat} (h : i < L) : (docS p f fn hs i ++ List.replicate (L - i) 0).set i ((lowS p f fn hs i).code.length : Int) = docS p f fn hs (i + 1) ++ List.replicate (L - (i + 1)) 0 := by
  rw [low_set (by simp [docS]) (by omega), Nat.sub_sub]
  congr 1
  simp [docS, List.range_succ]
theorem docS_len (p : List Fnc) (f : Fnc) (fn : Int) (hs : List Int) {L i : Nat} (h : i ≤ L) : (docS p f fn hs i ++ List.replicate (L - i) 0).length = L := by
  simp [docS]; omega
theorem LowerR_pc {M : DMem} (p : List Fnc) (fn : Int) {R : DV → DMem → Prop}
    (hR : ∀ dc dm M' Sc Sm, SlAt irG M' dc (lowerR p fn).1.code Sc → SlAt metaG M' dm (lowerR p fn).1.metas Sm → (Sc ++ Sm).Nodup → (∀ y ∈ Sc ++ Sm, M y = none) → SubD M M' →
      R (.tup [.agg [.int .i64 (lowerR p fn).1.fn, .int .i64 (lowerR p fn).1.regs, dc, dm], .int .i64 (lowerR p fn).2]) M') : PC Tryz.prog F_swageref9_Lower [.agg [slD Fnc.c p], .int .i64 fn] R M := by
  refine pc_swageref9_Lower (by simp) ?_
  simp only [S_swageref9_Lower, MU_swageref9_Lower, VerifyR_pf, fz_prg, ldnI1, SW, SV, wpD, evDL, evDM, evD, bldLD, wpSp, DMem.mt, beq_self_eq_true, seval]
  intro o M1 ho hM1
  have hoM : M o = none := ho
  have k1 : SubD M M1 := fun y B hB => by rw [hM1, DMem.ins_ne _ _ (by rintro rfl; rw [hoM] at hB; cases hB)]; exact hB
  have ho1 : M1 o = some ⟨29, 4, [.int .i64 0, .int .i64 0, .zsl, .zsl]⟩ := by rw [hM1, DMem.ins_same]
  clear hM1 ho
  refine ⟨fun hb => ?_, fun hb => ?_⟩
  · have e : lowerR p fn = (cod0, 1100) := by
      unfold lowerR
      rw [if_neg]
      simp at hb
      omega
    rw [e] at hR
    refine stD ho1 rfl rfl (by simp) (by simp) rfl fun M2 hM2 => ?_
    have ho2 : M2 o = some ⟨29, 4, [.int .i64 0, .int .i64 0, .zsl, .zsl]⟩ := by rw [hM2, DMem.ins_same] <;> rfl
    simp only [R_swageref9_Lower, SW, SV, wpD, evDL, evDM, evD, bldLD, wpSp, DMem.mt, beq_self_eq_true, seval]
    refine ⟨_, by rw [ho2] <;> rfl, hR .zsl .zsl M2 [] [] SlAt.nil SlAt.nil List.nodup_nil (fun y hy => by simp at hy) fun y B hB => ?_⟩
    rw [hM2, DMem.ins_ne _ _ (by rintro rfl; rw [hoM] at hB; cases hB)]
    exact k1 y B hB
  · have hb' : verifyE p = 0 ∧ 0 ≤ fn ∧ fn < p.length := by
      simp at hb
      omega
    obtain ⟨hve, hf0, hfl⟩ := hb'
    obtain ⟨n, rfl⟩ := Int.eq_ofNat_of_zero_le hf0
    have hn : n < p.length := by omega
    obtain ⟨hpk, hall⟩ := verify_ok hve
    have hHF := heights_hf hpk hn (hall n hn)
    have hloc := fn_loc hHF.fn
    have hmay := fn_may hHF.fn
    obtain ⟨hl1, hl2⟩ := fmay_le hmay
    have hp8 := pack_len hpk
    have eR : lowerR p (n : Int) = (lowF p p[n] n, 0) := by
      unfold lowerR
      rw [if_pos ⟨hve, by omega, by omega⟩]
      simp only [Int.toNat_natCast, List.getElem?_eq_getElem hn]
    rw [eR] at hR
    have e8 : wr64 (p[n].locals + 8) = p[n].locals + 8 := w64 (by omega)
    have hl3 : ∀ K : DMem, ∀ r : List DV, ldnD K 3 (.ip (.int .i64 p[n].args :: .int .i64 p[n].locals :: slD Ins.c p[n].code :: r)) = some (.agg p[n].c) := fun K r => by simp [ldnD]
    simp only [ix_slD Fnc.len hn, hl3, e8, SW, SV, wpD, evDL, evDM, evD, bldLD, wpSp, DMem.mt, beq_self_eq_true, seval]
    intro q7 M2 hq7 hM2
    have hq7M : M1 q7 = none := hq7
    refine mkI (by omega) fun pb M3 hpb hM3 => ?_
    have hpbM : M2 pb = none := hpb
    have hqo : q7 ≠ o := by rintro rfl; rw [ho1] at hq7M; cases hq7M
    have hpq : pb ≠ q7 := by rintro rfl; rw [hM2, DMem.ins_same] at hpbM; cases hpbM
    have hpo : pb ≠ o := by rintro rfl; rw [hM2, DMem.ins_ne _ _ hpq, ho1] at hpbM; cases hpbM
    have hpM1 : M1 pb = none := by rw [hM2, DMem.ins_ne _ _ hpq] at hpbM; exact hpbM
    generalize hhs : (heightsR p (n : Int)).1 = hs at hHF
    have hD0 : DocAt M1 M3 q7 pb o n (p[n].locals + 8) [] [] (docS p p[n] n hs 0 ++ List.replicate (p[n].code.length - 0) 0) .zsl .zsl [] [] := by
      refine ⟨by rw [hM3, DMem.ins_ne _ _ (Ne.symm hpq), hM2, DMem.ins_same], by rw [hM3, DMem.ins_same]; simp [docS], SlAt.nil, SlAt.nil, nd3 (Ne.symm hpq) hqo hpo List.nodup_nil (fun y hy => by simp at hy), fun y hy => by simp at hy, hq7M, hpM1, by rw [ho1]; simp, fun y B hB => ?_⟩
      rw [hM3, DMem.ins_ne _ _ (by rintro rfl; rw [hpM1] at hB; cases hB), hM2, DMem.ins_ne _ _ (by rintro rfl; rw [hq7M] at hB; cases hB)]
      exact hB
    clear hM3 hM2 hpb hpbM hq7
    refine ⟨fun k δ M' => ∃ (i : Nat) (dc dm : DV) (Sc Sm : List Nat), i ≤ p[n].code.length ∧ k = p[n].code.length - i ∧ δ 1 = .int .i64 n ∧ δ 2 = .ip [slD Fnc.c p] ∧ δ 4 = .mp o 0 ∧ δ 5 = .int .i64 0 ∧ δ 6 = .ip p[n].c ∧ δ 7 = .mp q7 0 ∧
        δ 8 = .msl pb 0 p[n].code.length p[n].code.length ∧ δ 9 = .int .i64 i ∧ DocAt M1 M' q7 pb o n (p[n].locals + 8) (lowS p p[n] n hs i).code (lowS p p[n] n hs i).metas (docS p p[n] n hs i ++ List.replicate (p[n].code.length - i) 0) dc dm Sc Sm, p[n].code.length,
      ⟨0, .zsl, .zsl, [], [], Nat.zero_le _, rfl, rfl, rfl, rfl, rfl, rfl, rfl, rfl, rfl, hD0⟩, ?_⟩
    clear hD0
    rintro k δ M' ⟨i, dc, dm, Sc, Sm, hi, rfl, h1, h2, h4, h5, h6, h7, h8, h9, hD⟩
    simp only [S1_swageref9_Lower, MU_swageref9_Lower, h1, h2, h4, h5, h6, h7, h8, h9, SW, SV, wpD, evDL, evDM, evD, bldLD, wpSp, DMem.mt, beq_self_eq_true, seval, decide_eq_true_eq, decide_eq_false_iff_not]
    refine ⟨fun hlt => ?_, fun hge => ?_⟩
    · have hil : i < p[n].code.length := by omega
      have hhl : i < hs.length := by rw [hHF.hi.len]; exact hil
      have hsl := docS_len p p[n] n hs hi
      have hp := hD.p
      rw [hsl] at hp
      simp only [hD.q, hD.c.lenD, ixM hil, SW, SV, wpD, evDL, evDM, evD, bldLD, wpSp, DMem.mt, beq_self_eq_true, seval]
      refine stD hp rfl rfl (by rw [List.length_map, hsl]; omega) (by omega) rfl fun M4 hM4 => ?_
      rw [splD_one (by rw [List.length_map, hsl]; exact hil), ← List.map_set, docS_put hil] at hM4
      have hD4 := hD.told (M6 := M4) (st' := docS p p[n] n hs (i + 1) ++ List.replicate (p[n].code.length - (i + 1)) 0) (by rw [hsl, docS_len p p[n] n hs (show i + 1 ≤ p[n].code.length by omega)]) (by rw [hsl]; exact hM4)
      clear hM4 hp
      have hv0 : hs[i]? = some hs[i] := List.getElem?_eq_getElem hhl
      have hhF : heightF p n i = hs[i] := height_at (hall n hn) (by rw [hhs]; exact hv0)
      have ei : wr64 ((i : Int) + 1) = ((i + 1 : Nat) : Int) := w64s (by omega)
      simp only [h1, h2, h4, h5, h6, h7, h8, h9, ldnI1, HeightR_pf, fz_prg, hhF, ei, SW, SV, wpD, evDL, evDM, evD, bldLD, wpSp, DMem.mt, beq_self_eq_true, seval, decide_eq_true_eq, decide_eq_false_iff_not]
      refine ⟨fun hneg => ?_, fun hpos => ?_⟩
      · have hm1 : hs[i] = -1 := Decidable.byContradiction fun hh => by have := (hHF.hi.val i _ hv0 hh).1; omega
        refine ⟨p[n].code.length - (i + 1), M4, by omega, SubD.refl _, i + 1, dc, dm, Sc, Sm, by omega, rfl, rfl, ?_⟩
        simp only [lowS, lowStep, low_getD hv0, hm1, if_true]
        exact hD4
      · have hne : hs[i] ≠ -1 := by omega
        obtain ⟨hn0, hn8, _⟩ := hHF.hi.val i _ hv0 hne
        have hout := hHF.out i hil _ hv0 hne
        have hmx := fmay_ins hmay hil
        have hl2 : ∀ r : List DV, ldnD M4 2 (.ip (.int .i64 p[n].code[i].kind :: .int .i64 p[n].code[i].a :: r)) = some (.agg p[n].code[i].c) := fun r => by simp [ldnD]
        have eS : lowS p p[n] n hs (i + 1) = lowStep p p[n] n hs[i] i (lowS p p[n] n hs i) := by simp only [lowS, low_getD hv0]
        have e2 : p[n].code.getD i ⟨0, 0⟩ = p[n].code[i] := by rw [List.getD_eq_getElem?_getD, List.getElem?_eq_getElem hil] <;> rfl
        have hcall : p[n].code[i].kind = 14 → 0 ≤ p[n].code[i].a ∧ p[n].code[i].a < p.length ∧ 0 ≤ argsOf p p[n].code[i].a ∧ argsOf p p[n].code[i].a ≤ 4 := fun hk => by
          have h1 := outB_call hout hk
          have h2 := may_call hmx hk
          refine ⟨h2, h1, ?_⟩
          unfold argsOf
          have hlt : p[n].code[i].a.toNat < p.length := by omega
          rw [List.getElem?_eq_getElem hlt]
          exact fnB_args (pack_fn hpk _ (List.getElem_mem hlt))
        obtain ⟨hh, hhe⟩ := Int.eq_ofNat_of_zero_le hn0
        have hln := low_len p p[n] n hs i
        obtain ⟨n1, n2, n3, n4, n5, n6, n7, n8⟩ := hD4.nds
        have hqc : q7 ∉ Sc := fun hh => (n4 q7 hh).1 rfl
        have hqm : q7 ∉ Sm := fun hh => (n5 q7 hh).1 rfl
        have hfz : FrozL [DV.agg [slD Fnc.c p], .int .i64 (n : Int), .int .i64 (i : Int), .int .i64 0, .int .i64 0] := ((((FrozL.nil.cons (Froz.int _ _)).cons (Froz.int _ _)).cons (Froz.int _ _)).cons (Froz.int _ _)).cons (Froz.agg (FrozL.nil.cons (Froz.slD Fnc.froz p)))
        have hfz2 : FrozL [DV.agg [slD Fnc.c p], .int .i64 (n : Int), .int .i64 (i : Int)] := ((FrozL.nil.cons (Froz.int _ _)).cons (Froz.int _ _)).cons (Froz.agg (FrozL.nil.cons (Froz.slD Fnc.froz p)))
        have hone := oneR_pt p n i hh hn hil hmx (by omega) (by omega) (by rw [hhF, hhe]) hcall
        have hpl := PlainR_pt p n i hh hn (by omega) (by omega) (by rw [hhF, hhe])
        have fin : ∀ {M6 : DMem} {δ6 : DEnv} {code' : List Irc} {metas' : List (List Part)} {dc6 dm6 : DV} {Sc6 Sm6 : List Nat}, DocAt M1 M6 q7 pb o n (p[n].locals + 8) code' metas' (docS p p[n] n hs (i + 1) ++ List.replicate (p[n].code.length - (i + 1)) 0) dc6 dm6 Sc6 Sm6 → code'.length ≤ 200 →
            δ6 1 = .int .i64 n → δ6 2 = .ip [slD Fnc.c p] → δ6 7 = .mp q7 0 → δ6 9 = .int .i64 i → ∀ {KK : DEnv → DMem → Prop} {XX : Nat → DEnv → DMem → Prop} {RR : DEnv → DMem → Prop},
            (∀ M7 dc7 Sc7 δ7, δ7 1 = δ6 1 ∧ δ7 2 = δ6 2 ∧ δ7 4 = δ6 4 ∧ δ7 5 = δ6 5 ∧ δ7 6 = δ6 6 ∧ δ7 7 = δ6 7 ∧ δ7 8 = δ6 8 ∧ δ7 9 = δ6 9 → DocAt M1 M7 q7 pb o n (p[n].locals + 8) (code' ++ [irL p p[n].code[i] i (p[n].locals + hh)]) metas' (docS p p[n] n hs (i + 1) ++ List.replicate (p[n].code.length - (i + 1)) 0) dc7 dm6 Sc7 Sm6 → KK δ7 M7) →
            rawW Tryz.prog MU_swageref9_Lower (fun f => roL.contains f) (fun t => G_swageref9_Lower.contains t) 146 (.region 15 O1_swageref9_Lower true) KK XX RR δ6 M6 := by
          intro M6 δ6 code' metas' dc6 dm6 Sc6 Sm6 hD6 hc6 g1 g2 g7 g9 KK XX RR hK
          obtain ⟨m1, m2, m3, m4, m5, m6, m7, m8⟩ := hD6.nds
          simp only [raw1_swageref9_Lower, P1_swageref9_Lower, MU_swageref9_Lower, g1, g2, g7, g9, hD6.q, ldnI1, ldnM, freshI, List.map_cons, List.map_nil, SW, SV, wpD, evDL, evDM, evD, bldLD, wpSp, DMem.mt, beq_self_eq_true, seval]
          refine Pt.pc (by rw [fzmap_froz hfz2]; exact hone) ?_
          have hM6q : ((M6 q7).bind fun B => B.cs[2]?) = some dc6 := by rw [hD6.q] <;> rfl
          simp only [freshI, List.map_cons, List.map_nil, hM6q, SW, SV, wpD, evDL, evDM, evD, bldLD, wpSp, DMem.mt, beq_self_eq_true, seval]
          refine hD6.c.app irG_ok m6 (ys := [irL p p[n].code[i] i (p[n].locals + hh)]) (ds := (irL p p[n].code[i] i (p[n].locals + hh)).c) (T := []) (k := 1) (bytes := 88) (RowAt.one ⟨⟨slI (irL p p[n].code[i] i (p[n].locals + hh)).args, rfl, .inl rfl⟩, rfl⟩) (fun x hx => by simp at hx) rfl (by omega) (by omega) fun d7 M7 S7 f1 f2 f3 f4 => ?_
          have hq7 := f2 q7 _ hD6.q (fun hh => (m4 q7 hh).1 rfl)
          try simp only [g7, SW, SV, wpD, evDL, evDM, evD, bldLD, wpSp, DMem.mt, beq_self_eq_true, seval]
          refine stD hq7 f1.cell rfl (by simp) (by simp) (by simp only [List.all_cons, List.all_nil, f1.plain] <;> rfl) fun M8 hM8 => ?_
          exact hK M8 d7 S7 _ ⟨rfl, rfl, rfl, rfl, rfl, rfl, rfl, rfl⟩ (hD6.gone f1 f2 f3 (f4 List.nodup_nil) (hM8.trans rfl))
        simp only [ix_slD Ins.len hil, hl2, hD4.q, hD4.m.lenD, h1, h2, h4, h5, h6, h7, h8, h9, ei, SW, SV, wpD, evDL, evDM, evD, bldLD, wpSp, DMem.mt, beq_self_eq_true, seval]
        refine ⟨fun hb => ?_, fun hb => ?_⟩
        · have hbk : backB p[n].code[i] i = true := hb
          have ec : (lowS p p[n] n hs (i + 1)).code = (lowS p p[n] n hs i).code ++ [⟨10, 0, 0, 0, 0, [], 0, (lowS p p[n] n hs i).metas.length, i⟩] ++ [irL p p[n].code[i] i (p[n].locals + hh)] := by
            rw [eS]; unfold lowStep; simp only [e2, if_neg hne, hbk, if_true, hhe, List.append_assoc] <;> rfl
          have em : (lowS p p[n] n hs (i + 1)).metas = (lowS p p[n] n hs i).metas ++ [[plainP p[n] n i hh 0]] := by
            rw [eS]; unfold lowStep; simp only [e2]; rw [if_neg hne]; simp only [hbk, if_true, hhe]
          refine hD4.c.app irG_ok n6 (ys := [⟨10, 0, 0, 0, 0, [], 0, (lowS p p[n] n hs i).metas.length, i⟩]) (ds := [.int .i64 10, .int .i64 0, .int .i64 0, .int .i64 0, .int .i64 0, .zsl, .int .i64 0, .int .i64 (lowS p p[n] n hs i).metas.length, .int .i64 i]) (T := []) (k := 1) (bytes := 88) (RowAt.one ⟨⟨.zsl, rfl, .inr ⟨rfl, rfl⟩⟩, rfl⟩) (fun x hx => by simp at hx) rfl (by omega) (by omega) fun d5 M5 S5 f1 f2 f3 f4 => ?_
          have hq5 := f2 q7 _ hD4.q hqc
          try simp only [h1, h2, h4, h5, h6, h7, h8, h9, SW, SV, wpD, evDL, evDM, evD, bldLD, wpSp, DMem.mt, beq_self_eq_true, seval]
          refine stD hq5 f1.cell rfl (by simp) (by simp) (by simp only [List.all_cons, List.all_nil, f1.plain] <;> rfl) fun M6 hM6 => ?_
          have hD6 := hD4.gone f1 f2 f3 (f4 List.nodup_nil) (hM6.trans rfl)
          obtain ⟨m1, m2, m3, m4, m5, m6, m7, m8⟩ := hD6.nds
          simp only [raw0_swageref9_Lower, P0_swageref9_Lower, MU_swageref9_Lower, h1, h2, h7, h9, hD6.q, ldnI1, ldnM, freshI, List.map_cons, List.map_nil, SW, SV, wpD, evDL, evDM, evD, bldLD, wpSp, DMem.mt, beq_self_eq_true, seval]
          refine Pt.pc (by rw [fzmap_froz hfz]; exact hpl) ?_
          have hM6q : ((M6 q7).bind fun B => B.cs[3]?) = some dm := by rw [hD6.q] <;> rfl
          simp only [freshI, List.map_cons, List.map_nil, hM6q, SW, SV, wpD, evDL, evDM, evD, bldLD, wpSp, DMem.mt, beq_self_eq_true, seval]
          refine hD6.m.app metaG_ok m7 (ys := [[plainP p[n] n i hh 0]]) (ds := metaC [plainP p[n] n i hh 0]) (T := []) (k := 1) (bytes := 24) (RowAt.one ⟨rfl, rfl⟩) (fun x hx => by simp at hx) rfl (by omega) (by omega) fun d7 M7 S7 f5 f6 f7 f8 => ?_
          have hq7 := f6 q7 _ hD6.q (fun hh => (m5 q7 hh).1 rfl)
          try simp only [h7, SW, SV, wpD, evDL, evDM, evD, bldLD, wpSp, DMem.mt, beq_self_eq_true, seval]
          refine stD hq7 f5.cell rfl (by simp) (by simp) (by simp only [List.all_cons, List.all_nil, f5.plain] <;> rfl) fun M8 hM8 => ?_
          have hD8 := hD6.left f5 f6 f7 (f8 List.nodup_nil) (hM8.trans rfl)
          refine fin hD8 (by simp only [List.length_append, List.length_cons, List.length_nil]; omega) (by exact h1) (by exact h2) (by exact h7) (by exact h9) (fun M9 dc9 Sc9 δ9 ⟨e1, e2', e4, e5, e6, e7, e8, e9⟩ hD9 => ?_)
          simp only [e1, e2', e4, e5, e6, e7, e8, e9, h1, h2, h4, h5, h6, h7, h8, h9, ei, SW, SV, wpD, evDL, evDM, evD, bldLD, wpSp, DMem.mt, beq_self_eq_true, seval]
          exact ⟨p[n].code.length - (i + 1), M9, by omega, SubD.refl _, i + 1, dc9, d7, Sc9, S7, by omega, rfl, rfl, by rw [ec, em]; exact hD9⟩
        · have hbk : backB p[n].code[i] i = false := hb
          have ec : (lowS p p[n] n hs (i + 1)).code = (lowS p p[n] n hs i).code ++ [irL p p[n].code[i] i (p[n].locals + hh)] := by
            rw [eS]; unfold lowStep; simp only [e2, if_neg hne, hbk, hhe] <;> rfl
          have em : (lowS p p[n] n hs (i + 1)).metas = (lowS p p[n] n hs i).metas := by
            rw [eS]; unfold lowStep; simp only [e2, if_neg hne, hbk, hhe] <;> rfl
          refine fin hD4 (by omega) (by exact h1) (by exact h2) (by exact h7) (by exact h9) (fun M9 dc9 Sc9 δ9 ⟨e1, e2', e4, e5, e6, e7, e8, e9⟩ hD9 => ?_)
          simp only [e1, e2', e4, e5, e6, e7, e8, e9, h1, h2, h4, h5, h6, h7, h8, h9, ei, SW, SV, wpD, evDL, evDM, evD, bldLD, wpSp, DMem.mt, beq_self_eq_true, seval]
          exact ⟨p[n].code.length - (i + 1), M9, by omega, SubD.refl _, i + 1, dc9, dm, Sc9, Sm, by omega, rfl, rfl, by rw [ec, em]; exact hD9⟩
    · have : i = p[n].code.length := by omega
      subst this
      have est : docS p p[n] n hs p[n].code.length ++ List.replicate (p[n].code.length - p[n].code.length) 0 = docS p p[n] n hs p[n].code.length := by rw [Nat.sub_self]; simp
      rw [est] at hD
      have hll : (docS p p[n] n hs p[n].code.length).length = p[n].code.length := by simp [docS]
      have hlF : lowF p p[n] n = ⟨n, p[n].locals + 8, (lowS p p[n] n hs p[n].code.length).code.map (placed (docS p p[n] n hs p[n].code.length)), (lowS p p[n] n hs p[n].code.length).metas⟩ := by
        unfold lowF
        rw [hhs, doc_eq (pack_fn hpk) hHF]
      have hln := low_len p p[n] n hs p[n].code.length
      refine LowerR_end (M := M') (by exact h4) (by exact h7) (by rw [hll]; exact h8) hD.q (hD.sub o _ ho1) hD.p hD.c hD.m hD.nd (by omega) (fun x hx hg => by rw [hll]; exact low_goes hHF (Nat.le_refl _) x hx hg) fun M6 hc hm hk => ?_
      rw [hlF] at hR
      refine hR dc dm M6 Sc Sm hc hm (List.nodup_cons.1 (List.nodup_cons.1 (List.nodup_cons.1 hD.nd).2).2).2 (fun y hy => ?_) fun y B hB => ?_
      · have := hD.new y hy
        cases e : M y with
        | none => rfl
        | some B => have h3 := k1 y B e; rw [this] at h3; cases h3
      · rw [hk y (by rintro rfl; rw [hoM] at hB; cases hB) fun hh => by have := hD.new y (by simp [hh]); rw [k1 y B hB] at this; cases this]
        exact hD.sub y B (k1 y B hB)
end Go.Proofs.YticlgdhhnjpkjaaGreatDoor.Pf
