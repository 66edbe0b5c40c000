/- Statements over deep values, functions, calls, and their soundness. No condition. -/
import Derived.Test.YtaifmmeghninhaaDe
namespace Go.Proofs.Ytaifmmeghninhaa.Mw
open Go Go.RowKit
set_option linter.unusedVariables false
set_option linter.unusedSimpArgs false
/-! ### Statements -/
section st
variable (P : Program) (mu : Nat → Bool) (ro : FuncId → Bool)
noncomputable def evDL (M : DMem) (δ : DEnv) : List (Nat × Ex) → Option (List (Nat × DV))
  | [] => some []
  | (i, e) :: r => (evD P M δ e).bind fun v => (evDL M δ r).map fun l => (i, v) :: l
def evDM (M : DMem) (δ : DEnv) : List Ex → Prop
  | [] => True
  | e :: r => (evD P M δ e).isSome = true ∧ evDM M δ r
/-- A region that is none of those that are told: to be shown by hand. -/
def rawD (G : Nat → Bool) (N : Nat) (c : Code) (K : DEnv → DMem → Prop) (X : Nat → DEnv → DMem → Prop) (R : DEnv → DMem → Prop) (δ : DEnv) (M : DMem) : Prop :=
  ∀ F m0 ρ m, InvD F m0 δ M ρ m → wpS P (spRO P) G N (.raw c) (LiftK F m0 K) (fun i => LiftK F m0 (X i)) (LiftK F m0 R) ρ m
def opsOf : Code → Option (Array Oper)
  | .region _ ops true => some ops
  | _ => none
def rawW (G : Nat → Bool) (N : Nat) (c : Code) (K : DEnv → DMem → Prop) (X : Nat → DEnv → DMem → Prop) (R : DEnv → DMem → Prop) (δ : DEnv) (M : DMem) : Prop :=
  match opsOf c with
    | some ops => match planD P ro G N mu ops with
      | some l => wpSp P mu K l δ M
      | none => rawD P G N c K X R δ M
    | none => rawD P G N c K X R δ M
/-- An operation that is none of those that are told: to be shown by hand. -/
def EffD (o : Oper) (K : DV → DMem → Prop) (δ : DEnv) (M : DMem) : Prop :=
  ∀ F m0 ρ m, InvD F m0 δ M ρ m → EffM P o ρ (fun v m' => ∃ d M', StepD F m M v m' d M' ∧ K d M') m
def wpD (G : Nat → Bool) (N : Nat) : St → (DEnv → DMem → Prop) → (Nat → DEnv → DMem → Prop) → (DEnv → DMem → Prop) → DEnv → DMem → Prop
  | .nop, K, _, _, δ, M => K δ M
  | .sets outs must, K, _, _, δ, M => evDM P M δ must ∧ ∃ l, evDL P M δ outs = some l ∧ K (δ.upds l) M
  | .act d e, K, _, _, δ, M => wpDE P mu d e δ (fun v M' => K (δ.updO d v) M') M
  | .eff o, K, _, _, δ, M => match o.op with
    | .panic _ => False
    | _ => EffD P o (fun v M' => K (δ.updO o.dst v) M') δ M
  | .seq a b, K, X, R, δ, M => wpD G N a (fun δ' M' => wpD G N b K X R δ' M') X R δ M
  | .ite c a b, K, X, R, δ, M => ∃ t, evD P M δ c = some (.bool t) ∧ (t = true → wpD G N a K X R δ M) ∧ (t = false → wpD G N b K X R δ M)
  | .block id a, K, X, R, δ, M => wpD G N a K (fun i => if i = id then K else X i) R δ M
  | .loop a, K, X, R, δ, M => ∃ (I : Nat → DEnv → DMem → Prop) (n : Nat), I n δ M ∧ ∀ k δ' M', I k δ' M' → wpD G N a (fun δ'' M'' => ∃ k' M0, k' < k ∧ SubD M0 M'' ∧ I k' δ'' M0) X R δ' M'
  | .exit id, _, X, _, δ, M => X id δ M
  | .ret, _, _, R, δ, M => R δ M
  | .raw c, K, X, R, δ, M => rawW P mu ro G N c K X R δ M
end st
section sound
variable {P : Program} {mu : Nat → Bool} {ro : FuncId → Bool} {G : Nat → Bool} {N : Nat} {F m0 : Mem}
theorem evDL_ok {M : DMem} {δ : DEnv} {m : Mem} {ρ : Env} (hI : Inh m) (hM : RepM M m) (hρ : ∀ i, Rep m (δ i) (ρ i)) : ∀ (outs : List (Nat × Ex)) (l : List (Nat × DV)), evDL P M δ outs = some l →
    ∃ l', evL (spRO P) m ρ outs = some l' ∧ ∀ (δ2 : DEnv) (ρ2 : Env), (∀ i, Rep m (δ2 i) (ρ2 i)) → ∀ i, Rep m (δ2.upds l i) (ρ2.upds l' i)
  | [], l, h => by cases h; exact ⟨[], rfl, fun δ2 ρ2 h2 => h2⟩
  | (i, e) :: r, l, h => by
    simp only [evDL, Option.bind_eq_some_iff, Option.map_eq_some_iff] at h
    obtain ⟨d, h1, l1, h2, rfl⟩ := h
    obtain ⟨v, h3, h4⟩ := evD_ok hI hM hρ e d h1
    obtain ⟨l', h5, h6⟩ := evDL_ok hI hM hρ r l1 h2
    refine ⟨(i, v) :: l', by simp only [evL, h3, h5, Option.bind_some, Option.map_some], fun δ2 ρ2 hh => ?_⟩
    refine h6 (δ2.upd i d) (ρ2.upd i v) fun j => ?_
    simp only [DEnv.upd, Env.upd]
    split
    · exact h4
    · exact hh j
theorem evDM_ok {M : DMem} {δ : DEnv} {m : Mem} {ρ : Env} (hI : Inh m) (hM : RepM M m) (hρ : ∀ i, Rep m (δ i) (ρ i)) : ∀ (es : List Ex), evDM P M δ es → evM (spRO P) m ρ es
  | [], _ => trivial
  | e :: r, h => by
    obtain ⟨d, hd⟩ := Option.isSome_iff_exists.1 h.1
    obtain ⟨v, h3, _⟩ := evD_ok hI hM hρ e d hd
    exact ⟨by rw [h3]; rfl, evDM_ok hI hM hρ r h.2⟩
theorem wpD_ok : ∀ (s : St) (K : DEnv → DMem → Prop) (X : Nat → DEnv → DMem → Prop) (R : DEnv → DMem → Prop) (δ : DEnv) (M : DMem) (ρ : Env) (m : Mem), InvD F m0 δ M ρ m → wpD P mu ro G N s K X R δ M →
    wpS P (spRO P) G N s (LiftK F m0 K) (fun i => LiftK F m0 (X i)) (LiftK F m0 R) ρ m
  | .nop, K, X, R, δ, M, ρ, m, h, hw => ⟨δ, M, h, hw⟩
  | .sets outs must, K, X, R, δ, M, ρ, m, h, hw => by
    intro hI
    obtain ⟨h1, l, h2, h3⟩ := hw
    obtain ⟨l', h4, h5⟩ := evDL_ok hI h.mem h.env outs l h2
    exact ⟨evDM_ok hI h.mem h.env must h1, l', h4, _, M, ⟨h5 δ ρ h.env, h.mem, h.fin, h.keep, h.own⟩, h3⟩
  | .act d e, K, X, R, δ, M, ρ, m, h, hw => Eff.wp_mono e ρ _ _ m (fun v m' ⟨d', M', hs, hp⟩ => ⟨_, M', h.step hs d, hp⟩) (wpDE_ok mu d h e _ hw)
  | .eff o, K, X, R, δ, M, ρ, m, h, hw => by
    unfold wpD at hw
    split at hw
    · exact hw.elim
    · exact EffM.mono (fun v m' ⟨d, M', hs, hp⟩ => ⟨_, M', h.step hs o.dst, hp⟩) (hw F m0 ρ m h)
  | .seq a b, K, X, R, δ, M, ρ, m, h, hw => St.wp_mono a (fun ρ' m' ⟨δ', M', h', hw'⟩ => wpD_ok b K X R δ' M' ρ' m' h' hw') (fun _ _ _ h => h) (fun _ _ h => h) (wpD_ok a _ X R δ M ρ m h hw)
  | .ite c a b, K, X, R, δ, M, ρ, m, h, hw => by
    intro hI
    obtain ⟨t, h1, h2, h3⟩ := hw
    obtain ⟨v, h4, h5⟩ := evD_ok hI h.mem h.env c _ h1
    simp only [Rep] at h5; subst h5
    exact ⟨t, h4, fun e => wpD_ok a K X R δ M ρ m h (h2 e), fun e => wpD_ok b K X R δ M ρ m h (h3 e)⟩
  | .block id a, K, X, R, δ, M, ρ, m, h, hw => by
    have := wpD_ok a K _ R δ M ρ m h hw
    refine St.wp_mono a (fun _ _ h => h) (fun i ρ m h => ?_) (fun _ _ h => h) this
    split
    · rename_i e; simp only [e, if_true] at h; exact h
    · rename_i e; simp only [e, if_false] at h; exact h
  | .loop a, K, X, R, δ, M, ρ, m, h, hw => by
    obtain ⟨I, n, h0, hr⟩ := hw
    refine ⟨fun k => LiftK F m0 (I k), n, ⟨δ, M, h, h0⟩, fun k ρ' m' ⟨δ', M', h', hI⟩ => ?_⟩
    exact St.wp_mono a (fun ρ2 m2 ⟨δ2, M2, h2, k', M0, hk, hs, hI2⟩ => ⟨k', hk, δ2, M0, h2.sub hs, hI2⟩) (fun _ _ _ h => h) (fun _ _ h => h) (wpD_ok a _ X R δ' M' ρ' m' h' (hr k δ' M' hI))
  | .exit id, K, X, R, δ, M, ρ, m, h, hw => ⟨δ, M, h, hw⟩
  | .ret, K, X, R, δ, M, ρ, m, h, hw => ⟨δ, M, h, hw⟩
  | .raw c, K, X, R, δ, M, ρ, m, h, hw => by
    simp only [wpD, rawW] at hw
    split at hw
    · rename_i ops ho
      have hc : ∃ id, c = .region id ops true := by
        unfold opsOf at ho
        split at ho
        · cases ho; exact ⟨_, rfl⟩
        · cases ho
      obtain ⟨id, rfl⟩ := hc
      split at hw
      · rename_i l hl; exact raw_drawn hl hw F m0 ρ m h
      · exact hw F m0 ρ m h
    · exact hw F m0 ρ m h
theorem rawW_eq {id : Nat} {ops : Array Oper} {l : List Sp} (h : planD P ro G N mu ops = some l) (K : DEnv → DMem → Prop) (X : Nat → DEnv → DMem → Prop) (R : DEnv → DMem → Prop) (δ : DEnv) (M : DMem) :
    rawW P mu ro G N (.region id ops true) K X R δ M = wpSp P mu K l δ M := by
  simp only [rawW, opsOf, h]
def argD (ds : List DV) : DEnv := fun t => ds.getD t (.raw undef)
theorem argD_ok {m : Mem} : ∀ {ds : List DV} {vs : List Value}, RepL m ds vs → ∀ i, Rep m (argD ds i) (argEnv vs i)
  | [], [], _, i => by simp only [argD, argEnv, List.getD_nil, Rep]
  | [], _ :: _, r, _ => by have := r.2; simp at this
  | _ :: _, [], r, _ => by have := r.2; simp at this
  | d :: ds, v :: vs, r, 0 => by
    have := r.1
    simp only [RepP] at this
    exact this.1
  | d :: ds, v :: vs, r, i + 1 => by
    have r1 := r.1
    simp only [RepP] at r1
    have := argD_ok ⟨r1.2, by simpa using r.2⟩ i
    simpa [argD, argEnv] using this
theorem pc_opt {f : FuncId} {fn : Func} {c : Code} (hf : P.funcs[f]? = some fn) (hb : fn.body = some c) (hname : (fn.name == "runtime.NumGoroutine") = false) (hin : P.inits.idxOf? f = none)
    {s : St} (hd : opt (dec P ro G fn.ntmps c) = s) {r : Ex} (hr : resE P G fn.results.toList = some r) (mu : Nat → Bool) {ds : List DV} (hl : ds.length ≤ fn.ntmps) {R : DV → DMem → Prop} {M : DMem}
    (h : wpD P mu ro G fn.ntmps s (fun δ M' => ∃ d, evD P M' δ r = some d ∧ R d M') (fun _ _ _ => False) (fun δ M' => ∃ d, evD P M' δ r = some d ∧ R d M') (argD ds) M) : PC P f ds R M := by
  intro F m vals hM hv hF ho
  refine mc_opt (spRO_sound P) hf hb hname hin hd hr (by rw [← hv.2]; exact hl) fun hI => ?_
  have hfin : ∀ ρ m', LiftK F m (fun δ M' => ∃ d, evD P M' δ r = some d ∧ R d M') ρ m' → Inh m' →
      ∃ v, ev (spRO P) m' ρ r = some v ∧ ∃ d M', Rep m' d v ∧ RepM M' m' ∧ Fin m m' ∧ Grows F m' ∧ (∀ b, F b ≠ none → M' b = none) ∧ R d M' := by
    rintro ρ m' ⟨δ, M', h', d, he, hR⟩ hI'
    obtain ⟨v, h4, h5⟩ := evD_ok hI' h'.mem h'.env r d he
    exact ⟨v, h4, d, M', h5, h'.mem, h'.fin, h'.keep, h'.own, hR⟩
  exact St.wp_mono s hfin (fun _ _ _ ⟨_, _, _, h⟩ => h) hfin (wpD_ok s _ _ _ _ M _ m ⟨argD_ok hv, hM, Fin.refl m, hF, ho⟩ h)
/-- From a run that begins with nothing to write: a call that only makes a value. -/
theorem Pu.of {f : FuncId} {ds : List DV} {d : DV} (h : PC P f ds (fun d' M' => fz M' 4 d' = d) DMem.mt) : Pu P f ds d := by
  intro m vals hgl hv
  have := h m m vals (RepM.mt hgl) hv (Grows.refl m) (fun b hb => rfl)
  refine ⟨this.1, fun w0 w hs => (this.2 w0 w hs).mono ?_⟩
  rintro e w' ⟨v, m', he, hs', d', M', hr, hM, _, hg, ho, rfl⟩
  refine ⟨v, sealM M' m', he, hs'.sealM M', fz_ok hM 4 d' v hr, fun b B hb => ?_⟩
  have := hg b B hb
  unfold sealM
  rw [ho b (by rw [hb]; simp)]
  exact this
theorem Pf.of {f : FuncId} {ds : List DV} {d : DV} {v : Value} (h : PC P f ds (fun d' M' => d' = d) DMem.mt) (hv : d.v1 = some v) : Pf P f ds v := by
  intro m vals hgl hr
  have := h m m vals (RepM.mt hgl) hr (Grows.refl m) (fun b hb => rfl)
  exact this.drop fun v' m' ⟨d', M', h1, _, _, hg, _, e⟩ => ⟨m, hg, by subst e; exact v1_eq hv h1, rfl⟩
theorem pf_of {f : FuncId} {ds : List DV} {d : DV} {v : Value} (h : PC P f ds (fun d' M' => d' = d) DMem.mt) (hf : FrozL ds) (hv : d.v1 = some v) (hd : dOf v = d) : pf P f ds = some d :=
  pf_eq hf (Pf.of h hv) hd
theorem PC.of_pf {f : FuncId} {ds : List DV} {d : DV} {R : DV → DMem → Prop} {M : DMem} (h : pf P f (ds.map (fz M 4)) = some d) (hR : R d M) : PC P f ds R M := by
  obtain ⟨v, rfl, hp⟩ := pf_spec h
  exact Pf.pc hp hR
/-- The law's call, from nothing. -/
theorem law_mc {f : FuncId} {ds : List DV} {m : Mem} {vals : List Value} (h : PC P f ds (fun d' M' => d' = .bool true) DMem.mt) (hgl : Glob m) (hr : RepL m ds vals) : MC P f vals (fun v _ => v = .bool true) m := by
  refine (h m m vals (RepM.mt hgl) hr (Grows.refl m) (fun b hb => rfl)).mono fun v m' ⟨d', M', h1, _, _, hg, _, e⟩ => ?_
  subst e; simpa only [Rep] using h1
end sound
end Go.Proofs.Ytaifmmeghninhaa.Mw
