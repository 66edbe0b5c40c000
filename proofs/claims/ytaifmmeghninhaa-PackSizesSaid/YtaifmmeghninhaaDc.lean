/- Statements over deep values, calls, and their soundness. No condition. -/
import Derived.Test.YtaifmmeghninhaaDb
namespace Go.Proofs.Ytaifmmeghninhaa.Mw
open Go Go.RowKit
set_option linter.unusedVariables false
set_option linter.unusedSimpArgs false

/-- What a state of deep values stands for; F: what stays as it is. -/
structure InvD (F m0 : Mem) (δ : DEnv) (M : DMem) (ρ : Env) (m : Mem) : Prop where
  env : ∀ i, Rep m (δ i) (ρ i)
  mem : RepM M m
  fin : Fin m0 m
  keep : Grows F m
  own : ∀ b, F b ≠ none → M b = none
def LiftK (F m0 : Mem) (K : DEnv → DMem → Prop) : Env → Mem → Prop := fun ρ m => ∃ δ M, InvD F m0 δ M ρ m ∧ K δ M

/-- The call returns a deep value, in a memory of which R holds. -/
def PC (P : Program) (f : FuncId) (ds : List DV) (R : DV → DMem → Prop) (M : DMem) : Prop :=
  ∀ F m vals, RepM M m → RepL m ds vals → Grows F m → (∀ b, F b ≠ none → M b = none) →
    MC P f vals (fun v m' => ∃ d M', Rep m' d v ∧ RepM M' m' ∧ Fin m m' ∧ Grows F m' ∧ (∀ b, F b ≠ none → M' b = none) ∧ R d M') m
def SubD (M M' : DMem) : Prop := ∀ b B, M b = some B → M' b = some B
theorem SubD.refl (M : DMem) : SubD M M := fun _ _ h => h
theorem SubD.mt (M : DMem) : SubD DMem.mt M := fun _ _ h => by cases h
theorem SubD.trans {a b c : DMem} (h : SubD a b) (k : SubD b c) : SubD a c := fun x B hx => k x B (h x B hx)
theorem SubD.none {M M' : DMem} (h : SubD M M') {b : Nat} (hb : M' b = .none) : M b = .none := by
  cases hM : M b with
  | none => rfl
  | some B => rw [h b B hM] at hb; cases hb
theorem InvD.sub {F m0 : Mem} {δ : DEnv} {M M0 : DMem} {ρ : Env} {m : Mem} (h : InvD F m0 δ M ρ m) (hs : SubD M0 M) : InvD F m0 δ M0 ρ m :=
  ⟨h.env, ⟨h.mem.glob, fun b B hb => h.mem b B (hs b B hb)⟩, h.fin, h.keep, fun b hb => hs.none (h.own b hb)⟩
/-- What need not be known any more is let go. -/
theorem PC.drop {P : Program} {f : FuncId} {ds : List DV} {R R' : DV → DMem → Prop} {M : DMem} (h : PC P f ds R M) (hr : ∀ d M', R d M' → ∃ M0, SubD M0 M' ∧ R' d M0) : PC P f ds R' M :=
  fun F m vals h1 h2 h3 h4 => (h F m vals h1 h2 h3 h4).mono fun v m' ⟨d, M', a, b, c, e, g, r⟩ =>
    let ⟨M0, hs, hR⟩ := hr d M' r
    ⟨d, M0, a, ⟨b.glob, fun b' B hb => b b' B (hs b' B hb)⟩, c, e, fun b' hb => hs.none (g b' hb), hR⟩
theorem PC.mono {P : Program} {f : FuncId} {ds : List DV} {R R' : DV → DMem → Prop} {M : DMem} (h : PC P f ds R M) (hr : ∀ d M', R d M' → R' d M') : PC P f ds R' M :=
  fun F m vals h1 h2 h3 h4 => (h F m vals h1 h2 h3 h4).mono fun v m' ⟨d, M', a, b, c, e, g, r⟩ => ⟨d, M', a, b, c, e, g, hr _ _ r⟩
/-- A call that comes to a deep value, and changes nothing that there was. -/
def Pu (P : Program) (f : FuncId) (ds : List DV) (d : DV) : Prop := ∀ m vals, Glob m → RepL m ds vals → MC P f vals (fun v m' => Rep m' d v ∧ Grows m m') m
theorem Pu.pc {P : Program} {f : FuncId} {ds : List DV} {d : DV} (h : Pu P f ds d) {R : DV → DMem → Prop} {M : DMem} (hR : R d M) : PC P f ds R M := by
  intro F m vals hM hr hF ho
  refine (h m vals hM.glob hr).mono fun v m' ⟨h1, h2⟩ => ⟨d, M, h1, ⟨hM.glob.mono h2.toFin, fun b B hb => ?_⟩, h2.toFin, hF.trans h2, ho, hR⟩
  obtain ⟨vs, h3, h4, h5⟩ := hM b B hb
  exact ⟨vs, h2 _ _ h3, h4.mono h2.toFin, h5⟩
theorem Pf.pc {P : Program} {f : FuncId} {ds : List DV} {v : Value} {M : DMem} (h : Pf P f (ds.map (fz M 4)) v) {R : DV → DMem → Prop} (hR : R (dOf v) M) : PC P f ds R M := by
  intro F m vals hM hr hF ho
  have := RO.unseal (h _ _ (hM.glob.mono ((sealM_fin M m).trans (finA_fin M m))) ((fzL_map_ok hM 4 hr).mono (finA_fin M m)))
  refine this.mono fun v' m' ⟨h1, h2⟩ => ?_
  subst h1; subst h2
  exact ⟨_, M, dOf_rep _ _, hM, Fin.refl _, hF, ho, hR⟩

def plainD : DV → Bool
  | .raw .nilIface => true
  | .agg _ | .tup _ | .raw _ | .csl .. => false
  | _ => true
theorem plainD_ok {m : Mem} {d : DV} {v : Value} (h : plainD d = true) (r : Rep m d v) : plainV v = true := by
  by_cases hraw : ∃ v, d = .raw v
  · obtain ⟨v, rfl⟩ := hraw
    cases v <;> simp only [plainD, Bool.false_eq_true] at h
    simp only [Rep] at r
    subst r; rfl
  cases d <;> (try exact absurd ⟨_, rfl⟩ hraw) <;> clear hraw <;> simp only [plainD, Bool.false_eq_true] at h <;> simp only [Rep] at r
  case int => subst r; rfl
  case bool => subst r; rfl
  case str => subst r; rfl
  case nilp => subst r; rfl
  case mp => subst r; rfl
  case ip => obtain ⟨b, o, ty, N, full, rfl, _⟩ := r; rfl
  case isl => obtain ⟨a, c, rfl, _⟩ := r; rfl
  case zsl => obtain ⟨a, rfl⟩ := r; rfl
  case msl => subst r; rfl
  case fn => obtain ⟨x, y, rfl, _⟩ := r; rfl
  case ifc => obtain ⟨x, rfl, _⟩ := r; rfl
theorem plainD_all {m : Mem} : ∀ {ds : List DV} {vs : List Value}, ds.all plainD = true → RepL m ds vs → vs.all plainV = true
  | [], [], _, _ => rfl
  | [], _ :: _, _, r => by have := r.2; simp at this
  | _ :: _, [], _, r => by have := r.2; simp at this
  | d :: ds, v :: vs, h, r => by
    have r1 := r.1
    simp only [RepP] at r1
    simp only [List.all_cons, Bool.and_eq_true] at h ⊢
    exact ⟨plainD_ok h.1 r1.1, plainD_all h.2 ⟨r1.2, by simpa using r.2⟩⟩
def splD (cs : List DV) (i : Nat) (ds : List DV) : List DV := cs.take i ++ ds ++ cs.drop (i + ds.length)
def RowD (M : DMem) (sz : Nat) (d : DV) (k : Nat) (news : List DV) : Prop :=
  match d with
  | .isl n cs => n = k ∧ 0 < sz ∧ k * sz ≤ cs.length ∧ news = cs.take (k * sz)
  | .zsl => k = 0 ∧ news = []
  | .msl b o n c => n = k ∧ ∃ B, M b = some B ∧ o + k * sz ≤ B.cs.length ∧ news = (B.cs.drop o).take (k * sz)
  | _ => False
/-- A slice that has grown by append alone. -/
def OwnD (M : DMem) (sz : Nat) (d : DV) (n : Nat) (cs : List DV) : Prop :=
  cs.length = n * sz ∧ ((d = .zsl ∧ n = 0) ∨ ∃ b c ty, d = .msl b 0 n c ∧ M b = some ⟨ty, c * sz, cs⟩ ∧ n ≤ c ∧ 0 < c)
def blkD : DV → Option Nat
  | .msl b _ _ c => if c = 0 then none else some b
  | _ => none
structure GrewD (M M' : DMem) (d d' : DV) : Prop where
  keep : ∀ b B, M b = some B → blkD d ≠ some b → M' b = some B
  here : blkD d' = blkD d ∨ ∃ b, blkD d' = some b ∧ M b = none
  only : ∀ b, M' b ≠ none → M b ≠ none ∨ blkD d' = some b

def lenN : DV → Option Nat
  | .isl n _ => some n
  | .msl _ _ n _ => some n
  | .zsl => some 0
  | _ => none
def RowK (M : DMem) (sz : Nat) (d : DV) (k : Nat) (news : List DV) : Prop :=
  match d with
  | .isl _ cs => 0 < sz ∧ k * sz ≤ cs.length ∧ news = cs.take (k * sz)
  | .zsl => news = []
  | .msl b o _ _ => ∃ B, M b = some B ∧ o + k * sz ≤ B.cs.length ∧ news = (B.cs.drop o).take (k * sz)
  | _ => False
/-- What append comes to, exactly. -/
def AppD (M : DMem) (e : TypeId) (sz : Nat) (d : DV) (n k : Nat) (news : List DV) (Post : DV → DMem → Prop) : Prop :=
  match d with
  | .zsl => n = 0 ∧ (k = 0 → Post .zsl M) ∧ (0 < k → ∀ b c M', M b = none → k ≤ c → M' = M.ins b ⟨e, c * sz, news⟩ → Post (.msl b 0 k c) M')
  | .msl b o n' c => n' = n ∧ ∃ B, M b = some B ∧ o + n * sz ≤ B.cs.length ∧ o + c * sz ≤ B.n ∧ n ≤ c ∧
      (n + k ≤ c → ∀ M', M' = M.ins b ⟨B.ty, B.n, splD B.cs (o + n * sz) news⟩ → Post (.msl b o (n + k) c) M') ∧
      (c < n + k → ∀ b' c' M', M b' = none → n + k ≤ c' → M' = M.ins b' ⟨e, c' * sz, (B.cs.drop o).take (n * sz) ++ news⟩ → Post (.msl b' 0 (n + k) c') M')
  | .csl n' cs => n' = n ∧ 0 < k ∧ n * sz ≤ cs.length ∧ (∀ b' c' M', M b' = none → n + k ≤ c' → M' = M.ins b' ⟨e, c' * sz, cs.take (n * sz) ++ news⟩ → Post (.msl b' 0 (n + k) c') M')
  | _ => False
theorem AppD.mono {M : DMem} {e : TypeId} {sz : Nat} {d : DV} {n k : Nat} {news : List DV} {Post Post' : DV → DMem → Prop} (h : AppD M e sz d n k news Post) (hP : ∀ d M', Post d M' → Post' d M') : AppD M e sz d n k news Post' := by
  unfold AppD at h ⊢
  split at h
  · exact ⟨h.1, fun hk => hP _ _ (h.2.1 hk), fun hk b c M' h1 h2 h3 => hP _ _ (h.2.2 hk b c M' h1 h2 h3)⟩
  · obtain ⟨h1, B, h2, h3, h4, h5, h6, h7⟩ := h
    exact ⟨h1, B, h2, h3, h4, h5, fun hk M' a => hP _ _ (h6 hk M' a), fun hk b' c' M' a1 a2 a3 => hP _ _ (h7 hk b' c' M' a1 a2 a3)⟩
  · exact ⟨h.1, h.2.1, h.2.2.1, fun b' c' M' a1 a2 a3 => hP _ _ (h.2.2.2 b' c' M' a1 a2 a3)⟩
  · exact h.elim
def mpOf : DV → Option (Nat × Nat)
  | .mp b i => some (b, i)
  | _ => none
def intOf : DV → Option Int
  | .int _ x => some x
  | _ => none
def mslOf : DV → Option (Nat × Nat × Nat × Nat)
  | .msl b o n c => some (b, o, n, c)
  | _ => none
theorem mpOf_ok {d : DV} {q : Nat × Nat} (h : mpOf d = some q) : d = .mp q.1 q.2 := by
  cases d <;> simp only [mpOf, Option.some.injEq, reduceCtorEq] at h
  subst h; rfl
theorem intOf_ok {d : DV} {x : Int} (h : intOf d = some x) : ∃ k, d = .int k x := by
  cases d <;> simp only [intOf, Option.some.injEq, reduceCtorEq] at h
  subst h; exact ⟨_, rfl⟩
theorem mslOf_ok {d : DV} {q : Nat × Nat × Nat × Nat} (h : mslOf d = some q) : d = .msl q.1 q.2.1 q.2.2.1 q.2.2.2 := by
  cases d <;> simp only [mslOf, Option.some.injEq, reduceCtorEq] at h
  subst h; rfl
def wpDE (P : Program) (mu : Nat → Bool) (d : Option Nat) : Eff → DEnv → (DV → DMem → Prop) → DMem → Prop
  | .box ty x, δ, Post, M => ∃ cs, cellsD (δ.of x) = some cs ∧ if (d.map mu).getD false then ∀ b M', M b = none → M' = M.ins b ⟨ty, cs.length, cs⟩ → Post (.mp b 0) M' else Post (.ip cs) M
  | .alloc ty z, δ, Post, M => ∃ cs, cellsD (ofV z) = some cs ∧ ∀ b M', M b = none → M' = M.ins b ⟨ty, cs.length, cs⟩ → Post (.mp b 0) M'
  | .store k x y, δ, Post, M => ∃ q, mpOf (δ.of x) = some q ∧ ∃ B, M q.1 = some B ∧ ∃ cs, cellsD (δ.of y) = some cs ∧ cs.length = k ∧ q.2 ≤ B.cs.length ∧ q.2 + k ≤ B.n ∧ cs.all plainD = true ∧
      ∀ M', M' = M.ins q.1 ⟨B.ty, B.n, splD B.cs q.2 cs⟩ → Post (.raw undef) M'
  | .bslice e sz zs len parts, δ, Post, M => ∃ l, bldLD (zs.map of0) (parts.map fun p => (p.1 * sz, sz)) (parts.map fun p => δ.of p.2) = some l ∧
      if len = 0 then Post .zsl M else if (d.map mu).getD false then ∀ b M', M b = none → M' = M.ins b ⟨e, len * sz, l⟩ → Post (.msl b 0 len len) M' else Post (.isl len l) M
  | .make e sz bytes z x y, δ, Post, M => ∃ l, intOf (δ.of x) = some l ∧ ∃ c, intOf (δ.of y) = some c ∧ 0 ≤ l ∧ l ≤ c ∧ (bytes : Int) * c ≤ 281474976710656 ∧ c ≤ 9223372036854775807 ∧
      ∀ b M', M b = none → M' = M.ins b ⟨e, c.toNat * sz, (zeros z.cells.toList (l.toNat * sz)).map of0⟩ → Post (.msl b 0 l.toNat c.toNat) M'
  | .app e sz bytes x y, δ, Post, M => ∃ k news, RowD M sz (δ.of y) k news ∧ news.all plainD = true ∧ ∃ n, (n + k) * bytes ≤ 140737488355328 ∧ n + k ≤ 9223372036854775807 ∧ AppD M e sz (δ.of x) n k news Post
  | .call f args, δ, Post, M => PC P f (args.map δ.of) Post M
  | .callv q args, δ, Post, M => ∃ f first caps, δ q = .fn (.func f) first caps ∧ PC P f (first ++ args.map δ.of ++ caps) Post M
  | .var ty k y, δ, Post, M => ∃ cs, cellsD (δ.of y) = some cs ∧ cs.length = k ∧ cs.all plainD = true ∧
      if (d.map mu).getD false then ∀ b M', M b = none → M' = M.ins b ⟨ty, k, cs⟩ → Post (.mp b 0) M' else Post (.ip cs) M
  | .clr sz z x, δ, Post, M => ∃ q, mslOf (δ.of x) = some q ∧ ∃ B, M q.1 = some B ∧ q.2.1 ≤ B.cs.length ∧ q.2.1 + q.2.2.1 * sz ≤ B.n ∧ ((zeros z.cells.toList (q.2.2.1 * sz)).map of0).all plainD = true ∧
      ∀ M', M' = M.ins q.1 ⟨B.ty, B.n, splD B.cs q.2.1 ((zeros z.cells.toList (q.2.2.1 * sz)).map of0)⟩ → Post (.tup []) M'
  | .cpy sz x y, δ, Post, M => ∃ q, mslOf (δ.of x) = some q ∧ ∃ n', lenN (δ.of y) = some n' ∧ ∃ B, M q.1 = some B ∧ ∃ news, RowK M sz (δ.of y) (min n' q.2.2.1) news ∧ q.2.1 ≤ B.cs.length ∧ q.2.1 + min n' q.2.2.1 * sz ≤ B.n ∧ news.all plainD = true ∧
      ∀ M', M' = M.ins q.1 ⟨B.ty, B.n, splD B.cs q.2.1 news⟩ → Post (.int .i64 (min n' q.2.2.1 : Nat)) M'

section eff
variable {P : Program} {F m0 : Mem} {δ : DEnv} {M : DMem} {ρ : Env} {m : Mem}
theorem InvD.of (h : InvD F m0 δ M ρ m) (x : Operand) : Rep m (δ.of x) (ρ.of x) := by
  cases x with
  | tmp t => exact h.env t
  | const v => exact ofV_rep m v
  | global g => simp only [DEnv.of, Env.of, Rep]
  | func f => simp only [DEnv.of, Env.of, Rep]; exact ⟨[], [], rfl, by simp only [RepP], rfl, by simp only [RepP], rfl⟩
theorem InvD.ofs (h : InvD F m0 δ M ρ m) : ∀ xs : List Operand, RepL m (xs.map δ.of) (xs.map ρ.of)
  | [] => RepL.nil m
  | x :: xs => (h.ofs xs).cons (h.of x)
/-- What one effect does to a state. -/
def StepD (F m : Mem) (M : DMem) (v : Value) (m' : Mem) (d : DV) (M' : DMem) : Prop :=
  Rep m' d v ∧ RepM M' m' ∧ Fin m m' ∧ Grows F m' ∧ (∀ b, F b ≠ none → M' b = none)
theorem InvD.step (h : InvD F m0 δ M ρ m) {v : Value} {m' : Mem} {d : DV} {M' : DMem} (hs : StepD F m M v m' d M') (i : Option Nat) : InvD F m0 (δ.updO i d) M' (ρ.updO i v) m' := by
  obtain ⟨h1, h2, h3, h4, h5⟩ := hs
  refine ⟨fun j => ?_, h2, h.fin.trans h3, h4, h5⟩
  cases i with
  | none => exact (h.env j).mono h3
  | some i =>
    simp only [DEnv.updO, Env.updO, DEnv.upd, Env.upd]
    split
    · exact h1
    · exact (h.env j).mono h3
theorem InvD.new (h : InvD F m0 δ M ρ m) {b : Nat} (hb : m b = none) {ty : TypeId} {n : Nat} {cs : List DV} {vs : List Value} (hr : RepL m cs vs) :
    (M b = none) ∧ RepM (M.ins b ⟨ty, n, cs⟩) (m.ins b (.cells ty n false vs)) ∧ Fin m (m.ins b (.cells ty n false vs)) ∧ Grows F (m.ins b (.cells ty n false vs)) ∧ (∀ x, F x ≠ none → (M.ins b ⟨ty, n, cs⟩) x = none) := by
  have hf : Fin m (m.ins b (.cells ty n false vs)) := (Grows.ins m _ hb).toFin
  refine ⟨h.mem.none hb, ⟨h.mem.glob.mono hf, fun x B hx => ?_⟩, hf, h.keep.trans (Grows.ins m _ hb), fun x hx => ?_⟩
  · by_cases e : x = b
    · subst e; rw [DMem.ins_same] at hx; cases hx
      exact ⟨vs, Mem.ins_same _ _ _, hr.mono hf⟩
    · rw [DMem.ins_ne _ _ e] at hx
      obtain ⟨us, h1, h2⟩ := h.mem x B hx
      exact ⟨us, by rw [Mem.ins_ne _ _ e]; exact h1, h2.mono hf⟩
  · have e : x ≠ b := by
      rintro rfl
      cases hF : F x with
      | none => exact hx hF
      | some B => have := h.keep _ _ hF; rw [hb] at this; cases this
    rw [DMem.ins_ne _ _ e]; exact h.own x hx
/-- A block is written anew. -/
theorem InvD.write (h : InvD F m0 δ M ρ m) {b : Nat} {B : DBlk} (hb : M b = some B) {cs : List DV} {vs : List Value} (hr : RepL m cs vs) :
    RepM (M.ins b ⟨B.ty, B.n, cs⟩) (m.ins b (.cells B.ty B.n false vs)) ∧ Fin m (m.ins b (.cells B.ty B.n false vs)) ∧ Grows F (m.ins b (.cells B.ty B.n false vs)) ∧ (∀ x, F x ≠ none → (M.ins b ⟨B.ty, B.n, cs⟩) x = none) := by
  obtain ⟨us, h1, _⟩ := h.mem b B hb
  have hf : Fin m (m.ins b (.cells B.ty B.n false vs)) := fun x C hx hf => by
    by_cases e : x = b
    · subst e; rw [h1] at hx; cases hx; cases hf
    · rw [Mem.ins_ne _ _ e]; exact hx
  have hFb : F b = none := by
    cases hF : F b with
    | none => rfl
    | some C => have := h.own b (by rw [hF]; simp); rw [hb] at this; cases this
  refine ⟨⟨h.mem.glob.mono hf, fun x C hx => ?_⟩, hf, fun x C hx => ?_, fun x hx => ?_⟩
  · by_cases e : x = b
    · subst e; rw [DMem.ins_same] at hx; cases hx
      exact ⟨vs, Mem.ins_same _ _ _, hr.mono hf⟩
    · rw [DMem.ins_ne _ _ e] at hx
      obtain ⟨us, h1, h2⟩ := h.mem x C hx
      exact ⟨us, by rw [Mem.ins_ne _ _ e]; exact h1, h2.mono hf⟩
  · have e : x ≠ b := by rintro rfl; rw [hFb] at hx; cases hx
    rw [Mem.ins_ne _ _ e]; exact h.keep x C hx
  · have e : x ≠ b := by rintro rfl; exact hx hFb
    rw [DMem.ins_ne _ _ e]; exact h.own x hx
theorem InvD.same (h : InvD F m0 δ M ρ m) {v : Value} {d : DV} (hr : Rep m d v) : StepD F m M v m d M := ⟨hr, h.mem, Fin.refl m, h.keep, h.own⟩
/-- A new block that nobody writes. -/
theorem InvD.fixed (h : InvD F m0 δ M ρ m) {b : Nat} (hb : m b = none) {ty : TypeId} {n : Nat} {vs : List Value} {v : Value} {d : DV} (hr : Rep (m.ins b (.cells ty n true vs)) d v) :
    StepD F m M v (m.ins b (.cells ty n true vs)) d M := by
  have hf : Fin m (m.ins b (.cells ty n true vs)) := (Grows.ins m _ hb).toFin
  refine ⟨hr, ⟨h.mem.glob.mono hf, fun x B hx => ?_⟩, hf, h.keep.trans (Grows.ins m _ hb), h.own⟩
  obtain ⟨us, h1, h2⟩ := h.mem x B hx
  have e : x ≠ b := by rintro rfl; rw [hb] at h1; cases h1
  exact ⟨us, by rw [Mem.ins_ne _ _ e]; exact h1, h2.mono hf⟩
theorem ofs0 (m : Mem) (vs : List Value) : RepL m (vs.map of0) vs := ⟨of0s_rep m vs, by simp⟩
theorem wpDE_ok (mu : Nat → Bool) (i : Option Nat) (h : InvD F m0 δ M ρ m) : ∀ (e : Eff) (Post : DV → DMem → Prop), wpDE P mu i e δ Post M →
    wpE P e ρ (fun v m' => ∃ d M', StepD F m M v m' d M' ∧ Post d M') m
  | .box ty x, Post, hw => by
    obtain ⟨cs, hc, hw⟩ := hw
    have rc := cellsD_ok hc (h.of x)
    have e1 : (ρ.of x).cells.size = cs.length := by rw [rc.2]; simp
    split at hw
    · refine ⟨false, fun b m' hb hm => ?_⟩
      rw [e1] at hm
      obtain ⟨h1, h2, h3, h4, h5⟩ := h.new hb (ty := ty) (n := cs.length) rc
      subst hm; exact ⟨_, _, ⟨by simp only [Rep], h2, h3, h4, h5⟩, hw b _ h1 rfl⟩
    · refine ⟨true, fun b m' hb hm => ?_⟩
      subst hm
      refine ⟨_, _, h.fixed hb ?_, hw⟩
      simp only [Rep]
      exact ⟨b, 0, ty, _, _, rfl, Mem.ins_same _ _ _, by simpa using (rc.mono (Grows.ins m _ hb).toFin).1⟩
  | .alloc ty z, Post, hw => by
    obtain ⟨cs, hc, hw⟩ := hw
    have rc := cellsD_ok hc (ofV_rep m z)
    have e1 : z.cells.size = cs.length := by rw [rc.2]; simp
    intro b m' hb hm
    rw [e1] at hm
    obtain ⟨h1, h2, h3, h4, h5⟩ := h.new hb (ty := ty) (n := cs.length) rc
    subst hm; exact ⟨_, _, ⟨by simp only [Rep], h2, h3, h4, h5⟩, hw b _ h1 rfl⟩
  | .store k x y, Post, hw => by
    obtain ⟨⟨b, i⟩, hx, B, hB, cs, hc, hk, hi, hn, hp, hw⟩ := hw
    replace hx := mpOf_ok hx
    simp only at hx hB hi hn hw
    have rx := h.of x
    rw [hx] at rx
    simp only [Rep] at rx
    have rc := cellsD_ok hc (h.of y)
    obtain ⟨vs, h1, h2⟩ := h.mem b B hB
    have e1 : (ρ.of y).cells.size = cs.length := by rw [rc.2]; simp
    refine ⟨b, i, B.n, B.ty, vs, rx, h1, by omega, by rw [← h2.2]; exact hi, hn, plainD_all hp rc, fun m' hm => ?_⟩
    subst hm
    have rs : RepL m (splD B.cs i cs) (spl vs i (ρ.of y).cells.toList) := by
      simp only [splD, spl]
      rw [show (ρ.of y).cells.toList.length = cs.length by rw [rc.2]]
      exact ((h2.take i).append rc).append (h2.drop _)
    obtain ⟨h3, h4, h5, h6⟩ := h.write hB rs
    exact ⟨_, _, ⟨by simp only [Rep], h3, h4, h5, h6⟩, hw _ rfl⟩
  | .bslice e sz zs len parts, Post, hw => by
    obtain ⟨l, hl, hw⟩ := hw
    have hps : RepL m (parts.map fun p => δ.of p.2) (parts.map fun p => ρ.of p.2) := by
      have := h.ofs (parts.map (·.2))
      simpa [List.map_map, Function.comp_def] using this
    obtain ⟨l', h1, h2⟩ := bldLD_ok _ hl (ofs0 m zs) hps
    refine ⟨l', h1, ?_⟩
    split at hw
    · rename_i h0
      refine ⟨true, fun b m' hb hm => ?_⟩
      subst hm
      exact ⟨_, _, h.fixed hb (by simp only [Rep]; exact ⟨_, by rw [h0]⟩), hw⟩
    split at hw
    · refine ⟨false, fun b m' hb hm => ?_⟩
      obtain ⟨h3, h4, h5, h6, h7⟩ := h.new hb (ty := e) (n := len * sz) h2
      subst hm; exact ⟨_, _, ⟨by simp only [Rep], h4, h5, h6, h7⟩, hw b _ h3 rfl⟩
    · refine ⟨true, fun b m' hb hm => ?_⟩
      subst hm
      refine ⟨_, _, h.fixed hb ?_, hw⟩
      simp only [Rep]
      exact ⟨_, _, rfl, Nat.le_refl _, fun _ => ⟨b, 0, e, _, _, rfl, Mem.ins_same _ _ _, by simpa using (h2.mono (Grows.ins m _ hb).toFin).1⟩⟩
  | .make e sz bytes z x y, Post, hw => by
    obtain ⟨l, hx, c, hy, h0, hlc, hb1, hb2, hw⟩ := hw
    obtain ⟨kl, hx⟩ := intOf_ok hx
    obtain ⟨kc, hy⟩ := intOf_ok hy
    have rx := h.of x
    have ry := h.of y
    rw [hx] at rx; rw [hy] at ry
    simp only [Rep] at rx ry
    refine ⟨kl, kc, l, c, rx, ry, h0, hlc, hb1, hb2, fun b m' hb hm => ?_⟩
    obtain ⟨h3, h4, h5, h6, h7⟩ := h.new hb (ty := e) (n := c.toNat * sz) (ofs0 m (zeros z.cells.toList (l.toNat * sz)))
    subst hm; exact ⟨_, _, ⟨by simp only [Rep], h4, h5, h6, h7⟩, hw b _ h3 rfl⟩
  | .app e sz bytes x y, Post, hw => by
    obtain ⟨k, news, hrow, hp, n, hb1, hb2, hw⟩ := hw
    have hr : ∃ nv, RowS m sz (ρ.of y) k nv ∧ RepL m news nv := by
      have ry := h.of y
      unfold RowD at hrow
      split at hrow
      · rename_i n' cs' hd
        obtain ⟨rfl, hsz, hle, rfl⟩ := hrow
        rw [hd] at ry
        simp only [Rep] at ry
        obtain ⟨a, c, hv, hnc, h1⟩ := ry
        rcases Nat.eq_zero_or_pos n' with rfl | hn
        · exact ⟨[], ⟨a, c, hv, by simp, fun hh => absurd hh (by omega)⟩, by simpa using RepL.nil m⟩
        · obtain ⟨b, o, ty, N, full, rfl, h2, h3⟩ := h1 hn
          have rr := h3.rowL hle
          refine ⟨_, ⟨_, c, hv, ?_, fun _ => ⟨_, rfl, ?_⟩⟩, rr⟩
          · rw [← rr.2]; simp; omega
          · have := h3.le
            simp only [List.length_drop] at this
            have hz : 0 < n' * sz := Nat.mul_pos hn hsz
            simp only [Mem.row, h2]
            rw [if_pos (by omega)]
      · rename_i hd
        obtain ⟨rfl, rfl⟩ := hrow
        rw [hd] at ry
        simp only [Rep] at ry
        obtain ⟨a, hv⟩ := ry
        exact ⟨[], ⟨a, 0, hv, by simp, fun hh => absurd hh (by omega)⟩, RepL.nil m⟩
      · rename_i b o n' c hd
        obtain ⟨rfl, B, hB, hle, rfl⟩ := hrow
        rw [hd] at ry
        simp only [Rep] at ry
        obtain ⟨vs, h1, h2⟩ := h.mem b B hB
        have rr := (h2.drop o).take (n' * sz)
        refine ⟨_, ⟨_, c, ry, ?_, fun _ => ⟨_, rfl, ?_⟩⟩, rr⟩
        · rw [← rr.2]; simp; omega
        · simp only [Mem.row, h1]
          rw [if_pos (by rw [← h2.2]; omega)]
      · exact hrow.elim
    obtain ⟨nv, hrow', rn⟩ := hr
    have rx := h.of x
    refine ⟨n, k, nv, hrow', plainD_all hp rn, hb1, hb2, ?_⟩
    unfold AppD at hw
    split at hw
    · rename_i hd
      obtain ⟨rfl, h1, h2⟩ := hw
      rw [hd] at rx
      simp only [Rep] at rx
      refine .inl ⟨rfl, rx, fun hk => ⟨.zsl, M, ⟨by simp only [Rep]; exact rx, h.mem, Fin.refl m, h.keep, h.own⟩, h1 hk⟩, fun hk b cap m' hb hc hm => ?_⟩
      obtain ⟨h3, h4, h5, h6, h7⟩ := h.new hb (ty := e) (n := cap * sz) rn
      subst hm; exact ⟨_, _, ⟨by simp only [Rep], h4, h5, h6, h7⟩, h2 hk b cap _ h3 hc rfl⟩
    · rename_i b o n' c hd
      obtain ⟨rfl, B, hB, hf, hN, hnc, h1, h2⟩ := hw
      rw [hd] at rx
      simp only [Rep] at rx
      obtain ⟨vs, hm, rv⟩ := h.mem b B hB
      refine .inr (.inl ⟨b, o, c, B.ty, B.n, vs, rx, hm, by rw [← rv.2]; exact hf, hN, hnc, fun hk m' hm' => ?_, fun hk b' c' m' hb hc hm' => ?_⟩)
      · subst hm'
        have rs : RepL m (splD B.cs (o + n' * sz) news) (spl vs (o + n' * sz) nv) := by
          simp only [splD, spl, rn.2]
          exact ((rv.take _).append rn).append (rv.drop _)
        obtain ⟨h3, h4, h5, h6⟩ := h.write hB rs
        exact ⟨_, _, ⟨by simp only [Rep], h3, h4, h5, h6⟩, h1 hk _ rfl⟩
      · obtain ⟨h3, h4, h5, h6, h7⟩ := h.new hb (ty := e) (n := c' * sz) (((rv.drop o).take (n' * sz)).append rn)
        subst hm'; exact ⟨_, _, ⟨by simp only [Rep], h4, h5, h6, h7⟩, h2 hk b' c' _ h3 hc rfl⟩
    · rename_i n' cs hd
      obtain ⟨rfl, hk0, hf, h2⟩ := hw
      rw [hd] at rx
      simp only [Rep] at rx
      obtain ⟨b, o, ty, N, full, rx, hm, rv⟩ := rx
      have hrow := rv.rowL hf
      have hle := rv.le
      rw [List.length_drop] at hle
      refine .inr (.inr ⟨b, o, ty, N, true, full, rx, hm, hk0, by split <;> omega, fun b' c' m' hb hc hm' => ?_⟩)
      obtain ⟨h3, h4, h5, h6, h7⟩ := h.new hb (ty := e) (n := c' * sz) (hrow.append rn)
      subst hm'; exact ⟨_, _, ⟨by simp only [Rep], h4, h5, h6, h7⟩, h2 b' c' _ h3 hc rfl⟩
    · exact hw.elim
  | .call f args, Post, hw => by
    exact (hw F m _ h.mem (h.ofs args) h.keep h.own).mono fun v m' ⟨d, M', a, b, c, e, g, r⟩ => ⟨d, M', ⟨a, b, c, e, g⟩, r⟩
  | .callv q args, Post, hw => by
    obtain ⟨f, first, caps, hq, hw⟩ := hw
    have rq := h.env q
    rw [hq] at rq
    simp only [Rep] at rq
    obtain ⟨x, y, hv, h1, h2, h3, h4⟩ := rq
    refine ⟨f, x.toArray, y.toArray, hv, ?_⟩
    have hr : RepL m (first ++ args.map δ.of ++ caps) (x.toArray.toList ++ args.map ρ.of ++ y.toArray.toList) := (RepL.append ⟨h1, h2⟩ (h.ofs args)).append ⟨h3, h4⟩
    exact (hw F m _ h.mem hr h.keep h.own).mono fun v m' ⟨d, M', a, b, c, e, g, r⟩ => ⟨d, M', ⟨a, b, c, e, g⟩, r⟩
  | .var ty k y, Post, hw => by
    obtain ⟨cs, hc, hk, hp, hw⟩ := hw
    have rc := cellsD_ok hc (h.of y)
    have e1 : (ρ.of y).cells.size = k := by rw [← hk, rc.2]; simp
    refine ⟨e1, plainD_all hp rc, ?_⟩
    split at hw
    · refine ⟨false, fun b m' hb hm => ?_⟩
      obtain ⟨h1, h2, h3, h4, h5⟩ := h.new hb (ty := ty) (n := k) rc
      subst hm; exact ⟨_, _, ⟨by simp only [Rep], h2, h3, h4, h5⟩, hw b _ h1 rfl⟩
    · refine ⟨true, fun b m' hb hm => ?_⟩
      subst hm
      refine ⟨_, _, h.fixed hb ?_, hw⟩
      simp only [Rep]
      exact ⟨b, 0, ty, _, _, rfl, Mem.ins_same _ _ _, by simpa using (rc.mono (Grows.ins m _ hb).toFin).1⟩
  | .clr sz z x, Post, hw => by
    obtain ⟨⟨b, o, n, c⟩, hx, B, hB, ho, hN, hp, hw⟩ := hw
    replace hx := mslOf_ok hx
    simp only at hx hB ho hN hp hw
    have rx := h.of x
    rw [hx] at rx
    simp only [Rep] at rx
    obtain ⟨vs, h1, h2⟩ := h.mem b B hB
    have rz := ofs0 m (zeros z.cells.toList (n * sz))
    refine ⟨_, n, c, rx, .inr ⟨b, o, B.n, B.ty, vs, rfl, h1, by rw [← h2.2]; exact ho, hN, plainD_all hp rz, fun m' hm => ?_⟩⟩
    subst hm
    have rs : RepL m (splD B.cs o ((zeros z.cells.toList (n * sz)).map of0)) (spl vs o (zeros z.cells.toList (n * sz))) := by
      simp only [splD, spl, List.length_map]
      exact ((h2.take o).append rz).append (h2.drop _)
    obtain ⟨h3, h4, h5, h6⟩ := h.write hB rs
    exact ⟨_, _, ⟨by simp only [Rep]; exact ⟨[], rfl, by simp only [RepP], rfl⟩, h3, h4, h5, h6⟩, hw _ rfl⟩
  | .cpy sz x y, Post, hw => by
    obtain ⟨⟨b, o, n, c⟩, hx, n', hn', B, hB, news, hrow, ho, hN, hp, hw⟩ := hw
    replace hx := mslOf_ok hx
    simp only at hx hB hrow ho hN hw
    have rx := h.of x
    rw [hx] at rx
    simp only [Rep] at rx
    obtain ⟨vs, h1, h2⟩ := h.mem b B hB
    have hy : ∃ a' c', ρ.of y = .slice a' n' c' ∧ ∃ nv, RepL m news nv ∧ (min n' n = 0 → news = []) ∧ (0 < min n' n → ∃ ad, a' = some ad ∧ m.row ad (min n' n * sz) = some nv) := by
      have ry := h.of y
      revert hn' hrow ry
      generalize δ.of y = dy
      intro hn' hrow ry
      cases dy <;> simp only [lenN, Option.some.injEq, reduceCtorEq] at hn' <;> subst hn' <;> simp only [RowK] at hrow <;> simp only [Rep] at ry
      case isl n' cs =>
        obtain ⟨hsz, hle, rfl⟩ := hrow
        obtain ⟨a, c', hv, hnc, h3⟩ := ry
        rcases Nat.eq_zero_or_pos (min n' n) with h0 | h0
        · exact ⟨a, c', hv, [], by rw [h0]; simpa using RepL.nil m, fun _ => by rw [h0]; simp, fun hh => by omega⟩
        · obtain ⟨b', o', ty, N, full, rfl, h4, h5⟩ := h3 (by omega)
          have rr := h5.rowL hle
          refine ⟨_, c', hv, _, rr, fun hh => by omega, fun _ => ⟨_, rfl, ?_⟩⟩
          have := h5.le
          simp only [List.length_drop] at this
          have hz : 0 < min n' n * sz := Nat.mul_pos h0 hsz
          simp only [Mem.row, h4]
          rw [if_pos (by omega)]
      case zsl =>
        subst hrow
        obtain ⟨a, hv⟩ := ry
        exact ⟨a, 0, hv, [], RepL.nil m, fun _ => rfl, fun hh => by simp at hh⟩
      case msl b' o' n' c' =>
        obtain ⟨B', hB', hle, rfl⟩ := hrow
        obtain ⟨vs', h4, h5⟩ := h.mem b' B' hB'
        have rr := (h5.drop o').take (min n' n * sz)
        refine ⟨_, c', ry, _, rr, fun hh => by rw [hh]; simp, fun _ => ⟨_, rfl, ?_⟩⟩
        simp only [Mem.row, h4]
        rw [if_pos (by rw [← h5.2]; omega)]
    obtain ⟨a', c', hv, nv, rn, hz, hpos⟩ := hy
    have rs : RepL m (splD B.cs o news) (spl vs o nv) := by
      simp only [splD, spl, rn.2]
      exact ((h2.take o).append rn).append (h2.drop _)
    refine ⟨_, n, c, a', n', c', rx, hv, ?_⟩
    rcases Nat.eq_zero_or_pos (min n' n) with h0 | h0
    · refine .inl ⟨h0, ?_⟩
      have hM : M = M.ins b ⟨B.ty, B.n, splD B.cs o news⟩ := by
        rw [hz h0]
        funext x
        unfold DMem.ins
        split
        · rename_i e; subst e; rw [hB]; simp [splD]
        · rfl
      have := hw _ hM
      rw [h0] at this
      exact ⟨_, M, h.same (by simp only [Rep]; rfl), this⟩
    · obtain ⟨ad, rfl, hrow⟩ := hpos h0
      refine .inr ⟨b, o, B.n, B.ty, vs, ad, nv, rfl, h1, by rw [← h2.2]; exact ho, hN, rfl, hrow, plainD_all hp rn, fun m' hm => ?_⟩
      subst hm
      obtain ⟨h3, h4, h5, h6⟩ := h.write hB rs
      exact ⟨_, _, ⟨by simp only [Rep], h3, h4, h5, h6⟩, hw _ rfl⟩
end eff

end Go.Proofs.Ytaifmmeghninhaa.Mw
