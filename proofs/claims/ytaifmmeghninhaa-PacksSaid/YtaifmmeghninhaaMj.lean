/- Code as statements, functions as calls over a memory. No condition. -/
import Derived.Test.YtaifmmeghninhaaMi
import Derived.Deep.LoopGhost
namespace Go.Proofs.Ytaifmmeghninhaa.Mw
open Go Go.RowKit
set_option linter.unusedVariables false
set_option linter.unusedSimpArgs false
section dec
variable (P : Program) (ro : FuncId → Bool) (G : Nat → Bool) (N : Nat)
def dec : Code → St
  | .skip => .nop
  | .region id ops false => (decOps P ro G N ops (ops.size + 1) ops.toList [] [] []).getD (.raw (.region id ops false))
  | .region id ops true =>
    match (if P.follows .mixedOrders && orderOk ops then treesR P ro G N ops ops.toList [] [] else none) with
    | some (T, U) => .sets (T.filter fun p => G p.1) (mustP G U)
    | none => .raw (.region id ops true)
  | .seq a b => .seq (dec a) (dec b)
  | .cond c a b => if knownO G [] [] c then .ite (opd [] c) (dec a) (dec b) else .raw (.cond c a b)
  | .block id a => .block id (dec a)
  | .loop a => .loop (dec a)
  | .exit id => .exit id
  | .ret => .ret
  | c => .raw c
def resOne : ResultVar → Option Ex
  | .tmp t => if G t then some (.s t) else none
  | .cell a t => if G a then (aggSize P t).map fun
    | none => .ld (.s a)
    | some n => .ldn n (.s a)
  else none
def cat : List Ex → Ex
  | [] => .nl
  | x :: r => .cs x (cat r)
def resE (rs : List ResultVar) : Option Ex :=
  match rs with
  | [r] => resOne P G r
  | _ => (rs.mapM (resOne P G)).map cat
end dec
section sound
variable {P : Program} {ro : FuncId → Bool} {G : Nat → Bool} {N : Nat} {sp : Spec}
theorem Agree.known {a : Act} {ρ : Env} (h : Agree G N a ρ) {c : Operand} (hc : knownO G [] [] c = true) {m : Mem} : ev sp m ρ (opd [] c) = some (a.eval c) := by
  cases c with
  | tmp t =>
    simp only [knownO, knownT, List.lookup_nil, Option.isSome_none, Bool.false_or, Bool.or_eq_true] at hc
    simp only [opd, List.lookup_nil, Option.getD_none, ev]
    rw [h.2.2 t (by simpa using hc)]
  | _ => rfl
theorem Agree.holds {a : Act} {ρ : Env} (h : Agree G N a ρ) (m : Mem) : Holds sp G N [] [] ρ m a :=
  ⟨h.1, h.2.1, fun t e ht => by simp at ht, fun t _ ht => h.2.2 t (ht.resolve_right (by simp))⟩
theorem MW.lift_mono {c : Code} {K K' : Env → Mem → Prop} {X X' : Nat → Env → Mem → Prop} {R R' : Env → Mem → Prop} {a : Act} {m : Mem} (h : MW P c (Lift G N K X R) a m)
    (hK : ∀ ρ m, K ρ m → K' ρ m) (hX : ∀ i ρ m, X i ρ m → X' i ρ m) (hR : ∀ ρ m, R ρ m → R' ρ m) : MW P c (Lift G N K' X' R') a m := by
  intro w0 w hs
  refine wp_mono (h w0 w hs) ?_
  rintro e a' w' ⟨m', hs', hl⟩
  refine ⟨m', hs', ?_⟩
  cases e <;> simp only [Lift] at hl ⊢ <;> first
    | (obtain ⟨ρ, h1, h2⟩ := hl; exact ⟨ρ, h1, hK _ _ h2⟩)
    | (obtain ⟨ρ, h1, h2⟩ := hl; exact ⟨ρ, h1, hX _ _ _ h2⟩)
    | (obtain ⟨ρ, h1, h2⟩ := hl; exact ⟨ρ, h1, hR _ _ h2⟩)
theorem dec_sound (hsp : sp.Sound P) : ∀ (c : Code) (K : Env → Mem → Prop) (X : Nat → Env → Mem → Prop) (R : Env → Mem → Prop) (ρ : Env) (m : Mem) (a : Act),
    Agree G N a ρ → wpS P sp G N (dec P ro G N c) K X R ρ m → MW P c (Lift G N K X R) a m := by
  intro c
  induction c with
  | skip =>
    intro K X R ρ m a ha h w0 w hs
    exact wp_skip ⟨m, hs, ρ, ha, h⟩
  | region id ops draw =>
    intro K X R ρ m a ha h
    cases draw with
    | false =>
      simp only [dec] at h
      cases hd : decOps P ro G N ops (ops.size + 1) ops.toList [] [] [] with
      | none => rw [hd] at h; exact h a ha
      | some s =>
        rw [hd] at h
        intro w0 w hs
        exact wp_region_list (decOps_sound hsp ops (Q := fun e a' w' => ∃ m', Sat w0 w' m' ∧ Lift G N K X R e a' m') (fun a w m ρ h1 h2 h3 => ⟨m, h1, ρ, h2, h3⟩) _ _ _ _ _ s hd (fun u hu => by cases hu) ρ m a w hs (ha.holds m) h)
    | true =>
      simp only [dec] at h
      split at h
      · rename_i T U hT
        split at hT
        · rename_i hc
          simp only [Bool.and_eq_true] at hc
          intro w0 w hs
          obtain ⟨h1, l, hl, hK⟩ := h ⟨w0, w, hs⟩
          obtain ⟨hU, hTU⟩ := treesR_all (sp := sp) (ρ := ρ) (m := m) ops.toList [] T [] U hT (fun u hu => by cases hu)
          have hall : ∀ p ∈ T, (ev sp m ρ p.2).isSome = true := fun p hp => by
            rcases (hTU (must_all hU (fun p hp hk => by rw [List.mem_filter]; exact ⟨by simpa using hp, hk⟩) h1 hl)).2 p hp with h | h
            · cases h
            · exact h
          obtain ⟨t1, _, t3⟩ := treesR_spec ops.toList [] T [] U hT (fun j => by simp)
          simp only [List.length_nil, Nat.zero_add, Array.length_toList] at t1 t3
          refine wp_region_any hc.1 ?_
          refine drawn_sound hsp (fun i hi => t3 i (Nat.zero_le _) (by omega)) t1 hc.2 (Q := fun e a' w' => ∃ m', Sat w0 w' m' ∧ Lift G N K X R e a' m') (fun a w m ρ h1 h2 h3 => ⟨m, h1, ρ, h2, h3⟩) hall hl hK ops.size _ a _ hs.drew ?_ ?_
          · exact ⟨by simp, ha.1, ha.2.1, fun j t e _ hf => by simp [Array.getD_eq_getD_getElem?, Array.getElem?_replicate] at hf; split at hf <;> simp at hf, fun t ht _ => ha.2.2 t ht,
              fun i o e hf => by simp [Array.getD_eq_getD_getElem?, Array.getElem?_replicate] at hf; split at hf <;> simp at hf⟩
          · have : ∀ (p : Nat → Bool) n, cnt p n ≤ n := by
              intro p n
              induction n with
              | zero => simp [cnt]
              | succ n ih => simp only [cnt]; split <;> omega
            exact this _ _
        · cases hT
      · exact h a ha
  | seq x y ihx ihy =>
    intro K X R ρ m a ha h w0 w hs
    refine wp_seq ?_
    refine wp_mono (ihx _ X R ρ m a ha h w0 w hs) ?_
    rintro e a' w' ⟨m', hs', hl⟩
    cases e with
    | normal =>
      obtain ⟨ρ', ha', h'⟩ := hl
      exact ihy K X R ρ' m' a' ha' h' w0 w' hs'
    | exit i => exact ⟨m', hs', hl⟩
    | ret => exact ⟨m', hs', hl⟩
    | goto l => exact hl.elim
    | panic ch => exact hl.elim
    | outgrown => exact hl.elim
  | cond c x y ihx ihy =>
    intro K X R ρ m a ha h
    simp only [dec] at h
    split at h
    · rename_i hk
      intro w0 w hs
      obtain ⟨t, ht, h1, h2⟩ := h ⟨w0, w, hs⟩
      have := ha.known (sp := sp) (m := m) hk
      rw [ht] at this
      refine wp_cond_split (Option.some.inj this).symm (fun e => ihx K X R ρ m a ha (h1 e) w0 w hs) (fun e => ihy K X R ρ m a ha (h2 e) w0 w hs)
    · exact h a ha
  | block id x ih =>
    intro K X R ρ m a ha h w0 w hs
    refine wp_block ?_
    refine wp_mono (ih K _ R ρ m a ha h w0 w hs) ?_
    rintro e a' w' ⟨m', hs', hl⟩
    cases e with
    | normal => exact ⟨m', hs', hl⟩
    | exit i =>
      obtain ⟨ρ', ha', h'⟩ := hl
      simp only [Exit.inBlock]
      by_cases hi : i = id
      · rw [if_pos hi] at h' ⊢; exact ⟨m', hs', ρ', ha', h'⟩
      · rw [if_neg hi] at h' ⊢; exact ⟨m', hs', ρ', ha', h'⟩
    | ret => exact ⟨m', hs', hl⟩
    | goto l => exact hl.elim
    | panic ch => exact hl.elim
    | outgrown => exact hl.elim
  | loop x ih =>
    intro K X R ρ m a ha h w0 w hs
    obtain ⟨I, n, h0, hr⟩ := h
    refine wp_loop_ghost (fun n a w => ∃ m ρ, Sat w0 w m ∧ Agree G N a ρ ∧ I n ρ m) n ⟨m, ρ, hs, ha, h0⟩ ?_
    rintro k a' w' ⟨m', ρ', hs', ha', hI⟩
    refine wp_mono (ih _ X R ρ' m' a' ha' (hr k ρ' m' hI) w0 w' hs') ?_
    rintro e a2 w2 ⟨m2, hs2, hl⟩
    cases e with
    | normal => obtain ⟨ρ2, ha2, k', hk, hI2⟩ := hl; exact ⟨k', hk, m2, ρ2, hs2, ha2, hI2⟩
    | exit i => exact ⟨m2, hs2, hl⟩
    | ret => exact ⟨m2, hs2, hl⟩
    | goto l => exact hl.elim
    | panic ch => exact hl.elim
    | outgrown => exact hl.elim
  | exit id =>
    intro K X R ρ m a ha h w0 w hs
    exact wp_exit ⟨m, hs, ρ, ha, h⟩
  | ret =>
    intro K X R ρ m a ha h w0 w hs
    exact wp_ret ⟨m, hs, ρ, ha, h⟩
  | rangeFunc => intro K X R ρ m a ha h; exact h a ha
  | scope => intro K X R ρ m a ha h; exact h a ha
  | label => intro K X R ρ m a ha h; exact h a ha
  | goto => intro K X R ρ m a ha h; exact h a ha
  | refuse => intro K X R ρ m a ha h; exact h a ha

/-! ### Results and functions -/
def resRun (tmps : Array Value) : ResultVar → Sem Value
  | .tmp t => pure (tmps.getD t undef)
  | .cell x t => do loadVar t (← asAddr (tmps.getD x undef))
theorem res_one {w0 w : World} {m : Mem} {a : Act} {ρ : Env} (hs : Sat w0 w m) (ha : Agree G N a ρ) {r : ResultVar} {e : Ex} (hr : resOne P G r = some e) {v : Value} (hv : ev sp m ρ e = some v) :
    (resRun a.tmps r).run P w = .ok v w := by
  cases r with
  | tmp t =>
    simp only [resOne] at hr
    split at hr
    · rename_i hg; cases hr; cases hv
      have := ha.2.2 t hg
      simp only [Act.eval] at this
      simp only [resRun, Sem.run_pure, this]
    · cases hr
  | cell x t =>
    simp only [resOne] at hr
    split at hr
    · rename_i hg
      simp only [Option.map_eq_some_iff] at hr
      obtain ⟨k, hk, hr⟩ := hr
      have hx := ha.2.2 x hg
      simp only [Act.eval] at hx
      cases k with
      | none =>
        subst hr
        obtain ⟨u, hu, hl⟩ := bind1 hv
        cases hu
        have := run_ld (P := P) hs hk hl
        simp only [resRun, Sem.run_bind]
        rw [hx]
        unfold ldV at hl
        split at hl
        · rename_i ad he
          rw [he] at this ⊢
          simpa [Instr.loadAt, Instr.sureAddr, asAddr] using this
        · cases hl
      | some n =>
        subst hr
        obtain ⟨u, hu, hl⟩ := bind1 hv
        cases hu
        have := run_ldn (P := P) hs hk hl
        simp only [resRun, Sem.run_bind]
        rw [hx]
        unfold ldnV at hl
        split at hl
        · rename_i ad he
          rw [he] at this ⊢
          simpa [Instr.loadAt, Instr.sureAddr, asAddr] using this
        · cases hl
    · cases hr
theorem res_many {w0 w : World} {m : Mem} {a : Act} {ρ : Env} (hs : Sat w0 w m) (ha : Agree G N a ρ) : ∀ (rs : List ResultVar) (es : List Ex), rs.mapM (resOne P G) = some es →
    ∀ v, ev sp m ρ (cat es) = some v → ∃ vs : List Value, v = .tuple vs.toArray ∧ vs.length = rs.length ∧
      (rs.mapM (resRun a.tmps)).run P w = .ok vs w := by
  intro rs
  induction rs with
  | nil => intro es h v hv; simp at h; subst h; simp [cat, ev] at hv; exact ⟨[], by simp [hv], rfl, rfl⟩
  | cons r rs ih =>
    intro es h v hv
    simp only [List.mapM_cons, Option.bind_eq_bind, Option.bind_eq_some_iff, Option.pure_def, Option.some.injEq] at h
    obtain ⟨e, he, es', hes, rfl⟩ := h
    simp only [cat] at hv
    obtain ⟨u, t, hu, ht, hc⟩ := bind2 hv
    obtain ⟨vs, rfl, hl, hrun⟩ := ih es' hes t ht
    simp only [csV, Option.some.injEq] at hc
    refine ⟨u :: vs, by rw [← hc]; simp, by simp [hl], ?_⟩
    have h1 := res_one hs ha he hu
    simp only [List.mapM_cons, Sem.run_bind, h1, Result.andThen_ok, hrun, Sem.run_pure]
theorem results_ok {w0 w : World} {m : Mem} {a : Act} {ρ : Env} (hs : Sat w0 w m) (ha : Agree G N a ρ) {fn : Func} {e : Ex} (hr : resE P G fn.results.toList = some e) {v : Value} (hv : ev sp m ρ e = some v) :
    (results fn a.tmps).run P w = .ok v w := by
  have e : results fn a.tmps = (do let vs ← fn.results.mapM (resRun a.tmps); pure (if h : vs.size = 1 then vs[0] else .tuple vs)) := by
    unfold results
    congr 1
  rw [e, Array.mapM_eq_mapM_toList, map_eq_pure_bind]
  unfold resE at hr
  split at hr
  · rename_i r hrs
    have h1 := res_one hs ha hr hv
    rw [hrs]
    simp only [Sem.run_bind, List.mapM_cons, List.mapM_nil, h1, Result.andThen_ok, Sem.run_pure]
    simp
  · rename_i hne
    simp only [Option.map_eq_some_iff] at hr
    obtain ⟨es, hes, rfl⟩ := hr
    obtain ⟨vs, rfl, hl, hrun⟩ := res_many hs ha _ es hes v hv
    simp only [Sem.run_bind, hrun, Result.andThen_ok, Sem.run_pure]
    have : vs.toArray.size ≠ 1 := by
      intro hc
      have : fn.results.toList.length = 1 := by rw [← hl]; simpa using hc
      match hq : fn.results.toList, this with
      | [r], _ => exact hne r hq
    simp only [this, dite_false]
def argEnv (args : List Value) : Env := fun t => args.getD t undef
theorem mc_of (hsp : sp.Sound P) {f : FuncId} {fn : Func} {c : Code} (hf : P.funcs[f]? = some fn) (hb : fn.body = some c) (hname : (fn.name == "runtime.NumGoroutine") = false) (hin : P.inits.idxOf? f = none)
    {s : St} (hd : dec P ro G fn.ntmps c = s) {r : Ex} (hr : resE P G fn.results.toList = some r) {args : List Value} (hargs : args.length ≤ fn.ntmps) {Post : Value → Mem → Prop} {m : Mem}
    (h : Inh m → wpS P sp G fn.ntmps s (fun ρ m' => Inh m' → ∃ v, ev sp m' ρ r = some v ∧ Post v m') (fun _ _ _ => False) (fun ρ m' => Inh m' → ∃ v, ev sp m' ρ r = some v ∧ Post v m') (argEnv args) m) :
    MC P f args Post m := by
  refine ⟨⟨fn, hf, by rw [hb]; rfl, hname, hin⟩, fun w0 w hs => ?_⟩
  refine calls_of_wp hf hb ?_
  subst hd
  have ha : Agree G fn.ntmps { tmps := args.toArray ++ Array.replicate (fn.ntmps - args.toArray.size) undef, defers := [] } (argEnv args) := by
    refine ⟨by simp; omega, rfl, fun t _ => ?_⟩
    simp only [Act.eval, argEnv, Array.getD_eq_getD_getElem?, List.getD_eq_getElem?_getD]
    rw [Array.getElem?_append]
    split
    · rename_i hlt; simp
    · rename_i hge
      rw [Array.getElem?_replicate]
      simp only [List.size_toArray] at hge
      rw [List.getElem?_eq_none (by omega)]
      split <;> rfl
  refine wp_mono (dec_sound hsp c _ _ _ _ m _ ha (h ⟨w0, w, hs⟩) w0 w hs) ?_
  rintro e a' w' ⟨m', hs', hl⟩
  cases e with
  | normal => obtain ⟨ρ, ha', hq⟩ := hl; obtain ⟨v, hv, hp⟩ := hq ⟨w0, w', hs'⟩; exact ⟨ha'.2.1, v, results_ok hs' ha' hr hv, v, m', rfl, hs', hp⟩
  | ret => obtain ⟨ρ, ha', hq⟩ := hl; obtain ⟨v, hv, hp⟩ := hq ⟨w0, w', hs'⟩; exact ⟨ha'.2.1, v, results_ok hs' ha' hr hv, v, m', rfl, hs', hp⟩
  | exit i => obtain ⟨ρ, _, h⟩ := hl; exact h.elim
  | goto l => exact hl.elim
  | panic ch => exact hl.elim
  | outgrown => exact hl.elim
end sound
end Go.Proofs.Ytaifmmeghninhaa.Mw
