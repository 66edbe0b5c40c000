/- Calls from nothing, used where there is something already. No condition. -/
import Derived.Test.YtaifmmeghninhaaDd
namespace Go.Proofs.Ytaifmmeghninhaa.Mw
open Go Go.RowKit
set_option linter.unusedVariables false
set_option linter.unusedSimpArgs false
def DMem.or (M M' : DMem) : DMem := fun b => match M b with
  | some B => some B
  | none => M' b
theorem DMem.or_left {M M' : DMem} {b : Nat} {B : DBlk} (h : M b = some B) : (M.or M') b = some B := by simp [DMem.or, h]
theorem DMem.or_right {M M' : DMem} {b : Nat} (h : M b = none) : (M.or M') b = M' b := by simp [DMem.or, h]
theorem SubD.or_left (M M' : DMem) : SubD M (M.or M') := fun b B h => DMem.or_left h
theorem SubD.or_right {M M' : DMem} (h : ∀ b, M b ≠ Option.none → M' b = Option.none) : SubD M' (M.or M') := fun b B hb => by
  cases hM : M b with
  | none => rw [DMem.or_right hM]; exact hb
  | some C => have := h b (by rw [hM]; simp); rw [this] at hb; cases hb
theorem DMem.or_mt (M : DMem) : M.or DMem.mt = M := by
  funext b
  cases hM : M b with
  | none => rw [DMem.or_right hM]; rfl
  | some C => rw [DMem.or_left hM]
/-- A call that begins with nothing does the same where there is something. -/
theorem PC.frame {P : Program} {f : FuncId} {ds : List DV} {R R' : DV → DMem → Prop} {M : DMem} (h : PC P f ds R DMem.mt)
    (hR : ∀ d M2, R d M2 → (∀ b, M b ≠ none → M2 b = none) → R' d (M.or M2)) : PC P f ds R' M := by
  intro F m vals hM hr hF ho
  refine (h m m vals (RepM.mt hM.glob) hr (Grows.refl m) (fun b hb => rfl)).mono ?_
  rintro v m' ⟨d, M2, h1, h2, h3, h4, h5, h6⟩
  have hdis : ∀ b, M b ≠ none → M2 b = none := fun b hb => h5 b (by
    obtain ⟨B, hB⟩ := Option.ne_none_iff_exists'.1 hb
    obtain ⟨vs, e, _⟩ := hM b B hB
    rw [e]; simp)
  refine ⟨d, M.or M2, h1, ⟨h2.glob, fun b B hb => ?_⟩, h3, hF.trans h4, fun b hb => ?_, hR d M2 h6 hdis⟩
  · cases hMb : M b with
    | none => rw [DMem.or_right hMb] at hb; exact h2 b B hb
    | some C =>
      rw [DMem.or_left hMb] at hb; cases hb
      obtain ⟨vs, e1, e2⟩ := hM b _ hMb
      exact ⟨vs, h4 _ _ e1, e2.mono h3⟩
  · have hMb := ho b hb
    obtain ⟨B, hB⟩ := Option.ne_none_iff_exists'.1 hb
    rw [DMem.or_right hMb]
    exact h5 b (by rw [hF b B hB]; simp)
/-! ### What stands on nothing that is told to stay -/
mutual
def thawed : DV → Bool
  | .ip _ => false
  | .isl _ _ => false
  | .csl _ _ => false
  | .agg cs => thawedL cs
  | .tup cs => thawedL cs
  | .fn _ a b => thawedL a && thawedL b
  | .ifc _ d => thawed d
  | _ => true
def thawedL : List DV → Bool
  | [] => true
  | d :: ds => thawed d && thawedL ds
end
mutual
theorem thawed_ok {m m' : Mem} : ∀ {d : DV} {v : Value}, thawed d = true → Rep m d v → Rep m' d v
  | .int .., _, _, r | .bool .., _, _, r | .str .., _, _, r | .nilp, _, _, r | .mp .., _, _, r | .zsl, _, _, r | .msl .., _, _, r | .raw .., _, _, r => by simpa only [Rep] using r
  | .ip cs, v, h, r => by simp [thawed] at h
  | .isl n cs, v, h, r => by simp [thawed] at h
  | .csl n cs, v, h, r => by simp [thawed] at h
  | .agg cs, v, h, r => by
    simp only [Rep] at r ⊢
    obtain ⟨vs, h1, h2, h3⟩ := r
    exact ⟨vs, h1, thawedL_ok (by simpa [thawed] using h) h2, h3⟩
  | .tup cs, v, h, r => by
    simp only [Rep] at r ⊢
    obtain ⟨vs, h1, h2, h3⟩ := r
    exact ⟨vs, h1, thawedL_ok (by simpa [thawed] using h) h2, h3⟩
  | .fn f a b, v, h, r => by
    simp only [thawed, Bool.and_eq_true] at h
    simp only [Rep] at r ⊢
    obtain ⟨x, y, h1, h2, h3, h4, h5⟩ := r
    exact ⟨x, y, h1, thawedL_ok h.1 h2, h3, thawedL_ok h.2 h4, h5⟩
  | .ifc t d, v, h, r => by
    simp only [Rep] at r ⊢
    obtain ⟨x, h1, h2⟩ := r
    exact ⟨x, h1, thawed_ok (by simpa [thawed] using h) h2⟩
theorem thawedL_ok {m m' : Mem} : ∀ {ds : List DV} {vs : List Value}, thawedL ds = true → RepP m ds vs → RepP m' ds vs
  | [], _, _, _ => by simp only [RepP]
  | _ :: _, [], _, r => by simp only [RepP] at r
  | d :: ds, v :: vs, h, r => by
    simp only [thawedL, Bool.and_eq_true] at h
    simp only [RepP] at r ⊢
    exact ⟨thawed_ok h.1 r.1, thawedL_ok h.2 r.2⟩
end
theorem Blk.fits.low {lo lo' b : Nat} {B : Blk} {o : Option Obj} (h : B.fits lo b o) (hl : lo' ≤ lo) : B.fits lo' b o := by
  cases B with
  | cells ty n fin cs =>
    obtain ⟨arr, fz, h1, h2, h3, h4, h5⟩ := h
    exact ⟨arr, fz, h1, h2, h3, h4, fun hh => ⟨(h5 hh).1, Nat.le_trans hl (h5 hh).2⟩⟩
  | obj x => exact ⟨h.1, Nat.le_trans hl h.2⟩
def Thaw (d : DV) (M : DMem) : Prop := thawed d = true ∧ ∀ b B, M b = some B → thawedL B.cs = true
/-- A call that is told of what it is given as if nobody wrote it, and hands out new things alone. -/
theorem PC.seal {P : Program} {f : FuncId} {ds : List DV} {R R' : DV → DMem → Prop} {M : DMem} (h : PC P f (ds.map (fz M 4)) R DMem.mt) (ht : ∀ d M2, R d M2 → Thaw d M2)
    (hR : ∀ d M2, R d M2 → (∀ b, M b ≠ none → M2 b = none) → R' d (M.or M2)) : PC P f ds R' M := by
  intro F m vals hM hr hF ho
  have h1 := h (finA m) (finA m) vals (RepM.mt (hM.glob.mono ((sealM_fin M m).trans (finA_fin M m)))) ((fzL_map_ok hM 4 hr).mono (finA_fin M m)) (Grows.refl _) (fun b hb => rfl)
  refine ⟨h1.1, fun w0 w hs => ?_⟩
  have hs2 : Sat w w (finA m) := by
    refine ⟨Below.refl _ _, fun b B hb => ?_⟩
    unfold finA at hb
    split at hb
    · rename_i ty n fin cs hb'
      cases hb
      obtain ⟨arr, fz, h1, h2, h3, h4, _⟩ := hs.blk _ _ hb'
      exact ⟨arr, fz, h1, h2, h3, h4, fun hh => by cases hh⟩
    · cases hb
  refine (h1.2 w w hs2).mono ?_
  rintro e w' ⟨v, m', he, hs', d, M2, g1, g2, g3, g4, g5, g6⟩
  obtain ⟨t1, t2⟩ := ht d M2 g6
  have hnew : ∀ b, M2 b ≠ none → m b = none := fun b hb => by
    obtain ⟨B, hB⟩ := Option.ne_none_iff_exists'.1 hb
    obtain ⟨vs, e1, _⟩ := g2 b B hB
    obtain ⟨_, _, _, _, _, _, hf⟩ := hs'.blk _ _ e1
    have hge := (hf rfl).2
    cases hm : m b with
    | none => rfl
    | some C => have := hs.lt hm; omega
  have hMm : ∀ b, M b ≠ none → m b ≠ none := fun b hb => by
    obtain ⟨B, hB⟩ := Option.ne_none_iff_exists'.1 hb
    obtain ⟨vs, e, _⟩ := hM b B hB
    rw [e]; simp
  have hdis : ∀ b, M b ≠ none → M2 b = none := fun b hb => by
    cases h2 : M2 b with
    | none => rfl
    | some C => exact absurd (hnew b (by rw [h2]; simp)) (hMm b hb)
  let m2 : Mem := fun b => match m b with
    | some B => some B
    | none => m' b
  have hl : ∀ b B, m b = some B → m2 b = some B := fun b B hb => by simp only [m2, hb]
  have hr2 : ∀ b, m b = none → m2 b = m' b := fun b hb => by simp only [m2, hb]
  refine ⟨v, m2, he, ⟨hs.below.trans (hs'.below.mono hs.le), fun b B hb => ?_⟩, d, M.or M2, thawed_ok t1 g1, ⟨hM.glob.mono (show Grows m m2 from hl).toFin, fun b B hb => ?_⟩, (show Grows m m2 from hl).toFin, hF.trans hl, fun b hb => ?_, hR d M2 g6 hdis⟩
  · cases hm : m b with
    | some C =>
      rw [hl b C hm] at hb; cases hb
      rw [hs'.below.block b (hs.lt hm)]
      exact hs.blk b _ hm
    | none =>
      rw [hr2 b hm] at hb
      exact (hs'.blk b B hb).low hs.le
  · cases hMb : M b with
    | some C =>
      rw [DMem.or_left hMb] at hb; cases hb
      obtain ⟨vs, e1, e2⟩ := hM b _ hMb
      exact ⟨vs, hl _ _ e1, e2.mono (show Grows m m2 from hl).toFin⟩
    | none =>
      rw [DMem.or_right hMb] at hb
      obtain ⟨vs, e1, e2⟩ := g2 b B hb
      refine ⟨vs, by rw [hr2 b (hnew b (by rw [hb]; simp))]; exact e1, thawedL_ok (t2 b B hb) e2.1, e2.2⟩
  · obtain ⟨B, hB⟩ := Option.ne_none_iff_exists'.1 hb
    have hmb := hF b B hB
    rw [DMem.or_right (ho b hb)]
    cases h2 : M2 b with
    | none => rfl
    | some C => have := hnew b (by rw [h2]; simp); rw [hmb] at this; cases this
/-- What is new is told as if nobody wrote it any more. -/
theorem PC.fin {P : Program} {f : FuncId} {ds : List DV} {R R' : DV → DMem → Prop} {M : DMem} (h : PC P f ds R M)
    (hR : ∀ d M1, R d M1 → ∃ M0 M2, SubD M0 M1 ∧ SubD M2 M1 ∧ (∀ b, M0 b ≠ none → M2 b = none) ∧ ∃ d', (∀ m v, Rep m (fz M2 4 d) v → Rep m d' v) ∧ R' d' M0) : PC P f ds R' M := by
  intro F m vals hM hr hF ho
  have h1 := h F m vals hM hr hF ho
  refine ⟨h1.1, fun w0 w hs => (h1.2 w0 w hs).mono ?_⟩
  rintro e w' ⟨v, m', he, hs', d, M1, g1, g2, g3, g4, g5, g6⟩
  obtain ⟨M0, M2, s0, s2, hdis, d', hd, hR'⟩ := hR d M1 g6
  have hM2 : RepM M2 m' := ⟨g2.glob, fun b B hb => g2 b B (s2 b B hb)⟩
  have hfin := sealM_fin M2 m'
  have hout : ∀ b, M2 b = none → sealM M2 m' b = m' b := fun b hb => by unfold sealM; rw [hb]
  refine ⟨v, sealM M2 m', he, hs'.sealM M2, d', M0, hd _ _ (fz_ok hM2 4 d v g1), ⟨g2.glob.mono hfin, fun b B hb => ?_⟩, g3.trans hfin, fun b B hb => ?_, fun b hb => s0.none (g5 b hb), hR'⟩
  · obtain ⟨vs, e1, e2⟩ := g2 b B (s0 b B hb)
    exact ⟨vs, by rw [hout b (hdis b (by rw [hb]; simp))]; exact e1, e2.mono hfin⟩
  · rw [hout b (s2.none (g5 b (by rw [hb]; simp)))]
    exact g4 b B hb
/-- A call that hands out a new value, of things that nobody writes. -/
def Pt (P : Program) (f : FuncId) (ds : List DV) (d : DV) : Prop := PC P f ds (fun d0 M2 => Thaw d0 M2 ∧ ∀ m v, Rep m (fz M2 4 d0) v → Rep m d v) DMem.mt
theorem Pt.pc {P : Program} {f : FuncId} {ds : List DV} {d : DV} {M : DMem} (h : Pt P f (ds.map (fz M 4)) d) {R : DV → DMem → Prop} (hR : R d M) : PC P f ds R M := by
  refine PC.fin (R := fun d0 M1 => ∃ M2, SubD M M1 ∧ SubD M2 M1 ∧ (∀ b, M b ≠ none → M2 b = none) ∧ ∀ m v, Rep m (fz M2 4 d0) v → Rep m d v) ?_ fun d0 M1 ⟨M2, a, b, c, e⟩ => ⟨M, M2, a, b, c, d, e, hR⟩
  refine PC.seal h (fun d0 M2 hh => hh.1) fun d0 M2 hh hdis => ⟨M2, SubD.or_left _ _, SubD.or_right hdis, hdis, hh.2⟩
theorem Pt.pu {P : Program} {f : FuncId} {ds : List DV} {d : DV} (h : Pt P f ds d) : Pu P f ds d := Pu.of_le (h.mono fun d M' hh => hh.2)
/-! ### Append, to what has grown by append alone -/
theorem app_isl {M : DMem} {e : TypeId} {sz bytes n k : Nat} {d : DV} {cs xs : List DV} {Post : DV → DMem → Prop} (h : OwnD M sz d n cs) (h0 : 0 < sz) (hx : xs.length = k * sz) (hp : xs.all plainD = true) (hb : (n + k) * bytes ≤ 140737488355328) (hn : n + k ≤ 9223372036854775807)
    (hP : ∀ d' M', OwnD M' sz d' (n + k) (cs ++ xs) → GrewD M M' d d' → Post d' M') :
    ∃ k' news, RowD M sz (.isl k xs) k' news ∧ news.all plainD = true ∧ ∃ n', (n' + k') * bytes ≤ 140737488355328 ∧ n' + k' ≤ 9223372036854775807 ∧ AppD M e sz d n' k' news Post :=
  ⟨k, xs, ⟨rfl, h0, by omega, by rw [List.take_of_length_le (by omega)]⟩, hp, n, hb, hn, h.app hx hP⟩
theorem app_one {M : DMem} {e : TypeId} {bytes n : Nat} {d x : DV} {cs : List DV} {Post : DV → DMem → Prop} (h : OwnD M 1 d n cs) (hp : plainD x = true) (hb : (n + 1) * bytes ≤ 140737488355328) (hn : n + 1 ≤ 9223372036854775807)
    (hP : ∀ d' M', OwnD M' 1 d' (n + 1) (cs ++ [x]) → GrewD M M' d d' → Post d' M') :
    ∃ k' news, RowD M 1 (.isl 1 [x]) k' news ∧ news.all plainD = true ∧ ∃ n', (n' + k') * bytes ≤ 140737488355328 ∧ n' + k' ≤ 9223372036854775807 ∧ AppD M e 1 d n' k' news Post :=
  app_isl h (by decide) rfl (by simp [hp]) hb hn hP
theorem OwnD.ix {M : DMem} {sz n i : Nat} {k : IntKind} {d : DV} {cs : List DV} (h : OwnD M sz d n cs) (hi : i < n) : ∃ b ty c, ixD sz d (.int k (i : Int)) = some (.mp b (i * sz)) ∧ M b = some ⟨ty, c * sz, cs⟩ ∧ blkD d = some b := by
  obtain ⟨b, c, ty, rfl, h1, h2, h3⟩ := h.at (by omega)
  exact ⟨b, ty, c, by rw [ixM hi]; simp, h2, h1⟩
theorem OwnD.ix0 {M : DMem} {sz n : Nat} {k : IntKind} {d : DV} {cs : List DV} (h : OwnD M sz d n cs) (hi : 0 < n) : ∃ b ty c, ixD sz d (.int k 0) = some (.mp b 0) ∧ M b = some ⟨ty, c * sz, cs⟩ ∧ blkD d = some b := by
  obtain ⟨b, ty, c, h1, h2, h3⟩ := h.ix (k := k) hi
  exact ⟨b, ty, c, by simpa using h1, h2, h3⟩
theorem cast0 : ((0 : Nat) : Int) = 0 := rfl
theorem cast1 : ((1 : Nat) : Int) = 1 := rfl
theorem Pt.of {P : Program} {f : FuncId} {ds : List DV} {d : DV} (h : PC P f ds (fun d0 M' => ∃ M2, SubD M2 M' ∧ Thaw d0 M2 ∧ ∀ m v, Rep m (fz M2 4 d0) v → Rep m d v) DMem.mt) : Pt P f ds d :=
  PC.drop h fun d0 M' ⟨M2, h1, h2, h3⟩ => ⟨M2, h1, h2, h3⟩
theorem Thaw.one {d : DV} {b : Nat} {B : DBlk} (hd : thawed d = true) (hB : thawedL B.cs = true) : Thaw d (DMem.mt.ins b B) := by
  refine ⟨hd, fun x C hx => ?_⟩
  by_cases e : x = b
  · subst e; rw [DMem.ins_same] at hx; cases hx; exact hB
  · rw [DMem.ins_ne _ _ e] at hx; cases hx
theorem SubD.one {M : DMem} {b : Nat} {B : DBlk} (h : M b = some B) : SubD (DMem.mt.ins b B) M := fun x C hx => by
  by_cases e : x = b
  · subst e; rw [DMem.ins_same] at hx; cases hx; exact h
  · rw [DMem.ins_ne _ _ e] at hx; cases hx
theorem thawedL_map {α : Type} {g : α → DV} (hg : ∀ x, thawed (g x) = true) (l : List α) : thawedL (l.map g) = true := by
  induction l with
  | nil => rfl
  | cons x l ih => simp only [List.map_cons, thawedL, hg, ih]; rfl
theorem splD_set {α : Type} (g : α → DV) (l : List α) {i : Nat} (hi : i < l.length) (x : α) : splD (l.map g) i [g x] = (l.set i x).map g := by
  unfold splD
  rw [List.set_eq_take_append_cons_drop, if_pos hi]
  simp
theorem get_map {α : Type} (g : α → DV) (l : List α) {i : Nat} (hi : i < l.length) : (l.map g)[i]? = some (g l[i]) := by simp [hi]
/-! ### Stores, and new slices: what remains to be shown -/
def StoreD (M : DMem) (k : Nat) (a y : DV) (Post : DV → DMem → Prop) : Prop :=
  ∃ q, mpOf a = some q ∧ ∃ B, M q.1 = some B ∧ ∃ cs, cellsD y = some cs ∧ cs.length = k ∧ q.2 ≤ B.cs.length ∧ q.2 + k ≤ B.n ∧ cs.all plainD = true ∧
      ∀ M', M' = M.ins q.1 ⟨B.ty, B.n, splD B.cs q.2 cs⟩ → Post (.raw undef) M'
theorem wpDE_store {P : Program} {mu : Nat → Bool} {d : Option Nat} {k : Nat} {x y : Operand} {δ : DEnv} {Post : DV → DMem → Prop} {M : DMem} :
    wpDE P mu d (.store k x y) δ Post M = StoreD M k (δ.of x) (δ.of y) Post := rfl
theorem stD {M : DMem} {b i k n : Nat} {ty : TypeId} {y : DV} {full cs : List DV} {Post : DV → DMem → Prop} (hB : M b = some ⟨ty, n, full⟩) (hc : cellsD y = some cs) (hk : cs.length = k) (h1 : i ≤ full.length) (h2 : i + k ≤ n) (hp : cs.all plainD = true)
    (hP : ∀ M', M' = M.ins b ⟨ty, n, splD full i cs⟩ → Post (.raw undef) M') : StoreD M k (.mp b i) y Post :=
  ⟨(b, i), rfl, _, hB, cs, hc, hk, h1, h2, hp, hP⟩
/-- One of a row of cells. -/
theorem stMap {α : Type} (g : α → DV) {M : DMem} {b i n : Nat} {ty : TypeId} {l : List α} (x : α) {Post : DV → DMem → Prop} (hB : M b = some ⟨ty, n, l.map g⟩) (hi : i < l.length) (hn : l.length ≤ n) (hc : cellsD (g x) = some [g x]) (hp : plainD (g x) = true)
    (hP : ∀ M', M' = M.ins b ⟨ty, n, (l.set i x).map g⟩ → Post (.raw undef) M') : StoreD M 1 (.mp b i) (g x) Post :=
  stD hB hc rfl (by simp; omega) (by omega) (by simp [hp]) fun M' hM' => hP M' (by rw [hM', splD_set g l hi x])
theorem stB {M : DMem} {b i n : Nat} {ty : TypeId} {l : List Bool} {x : Bool} {Post : DV → DMem → Prop} (hB : M b = some ⟨ty, n, l.map .bool⟩) (hi : i < l.length) (hn : l.length ≤ n)
    (hP : ∀ M', M' = M.ins b ⟨ty, n, (l.set i x).map .bool⟩ → Post (.raw undef) M') : StoreD M 1 (.mp b i) (.bool x) Post := stMap .bool x hB hi hn rfl rfl hP
theorem stI {M : DMem} {b i n : Nat} {ty : TypeId} {l : List Int} {x : Int} {Post : DV → DMem → Prop} (hB : M b = some ⟨ty, n, l.map (.int .i64)⟩) (hi : i < l.length) (hn : l.length ≤ n)
    (hP : ∀ M', M' = M.ins b ⟨ty, n, (l.set i x).map (.int .i64)⟩ → Post (.raw undef) M') : StoreD M 1 (.mp b i) (.int .i64 x) Post := stMap (.int .i64) x hB hi hn rfl rfl hP
/-- One of a row of structs, whole. -/
theorem splD_flat {α : Type} {c : α → List DV} {sz : Nat} (hc : ∀ x, (c x).length = sz) : ∀ (l : List α) (i : Nat) (_ : i < l.length) (x : α), splD (l.flatMap c) (i * sz) (c x) = (l.set i x).flatMap c
  | [], i, h, x => by simp at h
  | y :: l, 0, h, x => by
    unfold splD
    simp only [List.flatMap_cons, Nat.zero_mul, List.take_zero, List.nil_append, Nat.zero_add, List.set_cons_zero, hc]
    rw [List.drop_append, hc, List.drop_eq_nil_of_le (by rw [hc]; omega)]
    simp
  | y :: l, i + 1, h, x => by
    have ih := splD_flat hc l i (by simpa using h) x
    unfold splD at ih ⊢
    simp only [List.flatMap_cons, List.set_cons_succ, hc] at ih ⊢
    have e : (i + 1) * sz = sz + i * sz := by rw [Nat.add_mul]; omega
    rw [e, List.take_append, List.drop_append, hc, List.take_of_length_le (by rw [hc]; omega), List.drop_eq_nil_of_le (by rw [hc]; omega),
      show sz + i * sz - sz = i * sz by omega, show sz + i * sz + sz - sz = i * sz + sz by omega, List.nil_append, ← ih, List.append_assoc, List.append_assoc, List.append_assoc]
theorem stF {α : Type} {c : α → List DV} {sz : Nat} (hc : ∀ x, (c x).length = sz) {M : DMem} {b i n : Nat} {ty : TypeId} {l : List α} {x : α} {Post : DV → DMem → Prop} (hB : M b = some ⟨ty, n, l.flatMap c⟩) (hi : i < l.length) (hn : l.length * sz ≤ n) (hp : (c x).all plainD = true)
    (hP : ∀ M', M' = M.ins b ⟨ty, n, (l.set i x).flatMap c⟩ → Post (.raw undef) M') : StoreD M sz (.mp b (i * sz)) (.agg (c x)) Post := by
  have e : (i + 1) * sz ≤ l.length * sz := Nat.mul_le_mul_right sz hi
  rw [Nat.add_mul] at e
  exact stD hB rfl (hc x) (by rw [flat_len hc]; omega) (by omega) hp fun M' hM' => hP M' (by rw [hM', splD_flat hc l i hi x])
def MakeD (M : DMem) (e : TypeId) (sz bytes : Nat) (z : Value) (x y : DV) (Post : DV → DMem → Prop) : Prop :=
  ∃ l, intOf x = some l ∧ ∃ c, intOf y = some c ∧ 0 ≤ l ∧ l ≤ c ∧ (bytes : Int) * c ≤ 281474976710656 ∧ c ≤ 9223372036854775807 ∧
      ∀ b M', M b = none → M' = M.ins b ⟨e, c.toNat * sz, (zeros z.cells.toList (l.toNat * sz)).map of0⟩ → Post (.msl b 0 l.toNat c.toNat) M'
theorem wpDE_make {P : Program} {mu : Nat → Bool} {d : Option Nat} {e : TypeId} {sz bytes : Nat} {z : Value} {x y : Operand} {δ : DEnv} {Post : DV → DMem → Prop} {M : DMem} :
    wpDE P mu d (.make e sz bytes z x y) δ Post M = MakeD M e sz bytes z (δ.of x) (δ.of y) Post := rfl
theorem mkD {M : DMem} {e : TypeId} {sz bytes : Nat} {z : Value} {n : Nat} {Post : DV → DMem → Prop} (hn : bytes * n ≤ 281474976710656) (hn' : n ≤ 9223372036854775807)
    (hP : ∀ b M', M b = none → M' = M.ins b ⟨e, n * sz, (zeros z.cells.toList (n * sz)).map of0⟩ → Post (.msl b 0 n n) M') : MakeD M e sz bytes z (.int .i64 n) (.int .i64 n) Post := by
  refine ⟨n, rfl, n, rfl, by omega, by omega, ?_, by omega, ?_⟩
  · have : ((bytes * n : Nat) : Int) ≤ 281474976710656 := by omega
    rwa [Int.natCast_mul] at this
  · simpa only [Int.toNat_natCast] using hP
theorem mkB {M : DMem} {e : TypeId} {n : Nat} {Post : DV → DMem → Prop} (hn : n ≤ 281474976710656) (hP : ∀ b M', M b = none → M' = M.ins b ⟨e, n, (List.replicate n false).map .bool⟩ → Post (.msl b 0 n n) M') :
    MakeD M e 1 1 (.bool false) (.int .i64 n) (.int .i64 n) Post :=
  mkD (by omega) (by omega) fun b M' h1 h2 => hP b M' h1 (by rw [h2, Nat.mul_one, zerosD_bool, List.map_replicate])
theorem mkI {M : DMem} {e : TypeId} {n : Nat} {Post : DV → DMem → Prop} (hn : n ≤ 35184372088832) (hP : ∀ b M', M b = none → M' = M.ins b ⟨e, n, (List.replicate n (0 : Int)).map (.int .i64)⟩ → Post (.msl b 0 n n) M') :
    MakeD M e 1 8 (.int .i64 0) (.int .i64 n) (.int .i64 n) Post :=
  mkD (by omega) (by omega) fun b M' h1 h2 => hP b M' h1 (by rw [h2, Nat.mul_one, zerosD_int, List.map_replicate])
theorem ixM0 {sz b o n c : Nat} {k : IntKind} (h : 0 < n) : ixD sz (.msl b o n c) (.int k 0) = some (.mp b o) := by
  have := @ixM sz b o n c k 0 h
  simpa using this
theorem grdTT (x : Option DV) : grdD true (.bool true) x = x := rfl
theorem grdFF (x : Option DV) : grdD false (.bool false) x = x := rfl
theorem grdTF (x : Option DV) : grdD true (.bool false) x = some (.raw undef) := rfl
theorem grdFT (x : Option DV) : grdD false (.bool true) x = some (.raw undef) := rfl
theorem grdU (w : Bool) (x : Option DV) : grdD w (.raw undef) x = some (.raw undef) := rfl
end Go.Proofs.Ytaifmmeghninhaa.Mw
