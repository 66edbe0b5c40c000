/- A region that only reads, whose order is open: every order comes to what the text says. No condition. -/
import Derived.Test.YtaifmmeghninhaaMh
namespace Go.Proofs.Ytaifmmeghninhaa.Mw
open Go Go.RowKit
set_option linter.unusedVariables false
set_option linter.unusedSimpArgs false
section dec
variable (P : Program) (ro : FuncId → Bool) (G : Nat → Bool) (N : Nat)
def treesR (ops : Array Oper) : List Oper → List (Nat × Ex) → List Pend → Option (List (Nat × Ex) × List Pend)
  | [], T, U => some (T, U)
  | o :: r, T, U =>
    (guardDst ops o).bind fun gd => (low P ro (opd T.reverse) o.op).bind fun e => o.dst.bind fun d =>
      if (decide (d < N) && o.op.operands.all (knownO G T.reverse []) && gdOk G N T.reverse [] gd) = true then treesR ops r (T ++ [(d, wrapG T.reverse gd e)]) (stepU U o d gd (wrapG T.reverse gd e)) else none
def hasEdge (o : Oper) (j : Nat) : Bool := o.after.any fun e => e.on == j && Region.binds .any e
def pairOk (ops : Array Oper) (i j : Nat) : Bool :=
  i == j || match ops[i]?, ops[j]? with
    | some oi, some oj => match oj.dst with
      | some d => (oi.dst != some d) && (!usesT ops d oi || (if j < i then hasEdge oi j else hasEdge oj i))
      | none => false
    | _, _ => false
def backOk (ops : Array Oper) (i : Nat) : Bool :=
  match ops[i]? with
  | some o => o.after.all fun e => !Region.binds .any e || decide (e.on < i)
  | none => false
def orderOk (ops : Array Oper) : Bool := (List.range ops.size).all fun i => backOk ops i && (List.range ops.size).all fun j => pairOk ops i j
end dec
def cnt (p : Nat → Bool) : Nat → Nat
  | 0 => 0
  | n + 1 => cnt p n + if p n then 1 else 0
theorem cnt_set {p q : Nat → Bool} {i : Nat} (hp : p i = true) (hq : q i = false) (h : ∀ j, j ≠ i → q j = p j) : ∀ n, cnt q n + (if i < n then 1 else 0) = cnt p n := by
  intro n
  induction n with
  | zero => simp [cnt]
  | succ n ih =>
    simp only [cnt]
    by_cases hi : n = i
    · subst hi
      rw [hp, hq, ← ih]; simp
    · rw [h n hi, ← ih]
      by_cases hlt : i < n
      · have : i < n + 1 := by omega
        simp only [hlt, this, if_true]; omega
      · have : ¬ i < n + 1 := by omega
        simp only [hlt, this, if_false]; omega
theorem cnt_zero {p : Nat → Bool} : ∀ n, cnt p n = 0 → ∀ i, i < n → p i = false := by
  intro n
  induction n with
  | zero => intro _ i hi; omega
  | succ n ih =>
    intro h i hi
    simp only [cnt] at h
    by_cases hin : i = n
    · subst hin
      cases hp : p i
      · rfl
      · rw [hp] at h; simp at h
    · exact ih (by omega) i (by omega)
theorem least_of {p : Nat → Bool} : ∀ n, (∃ i, i < n ∧ p i = true) → ∃ i, i < n ∧ p i = true ∧ ∀ j, j < i → p j = false := by
  intro n
  induction n with
  | zero => rintro ⟨i, hi, _⟩; omega
  | succ n ih =>
    rintro ⟨i, hi, hp⟩
    by_cases h : ∃ i, i < n ∧ p i = true
    · obtain ⟨k, hk, hkp, hl⟩ := ih h
      exact ⟨k, by omega, hkp, hl⟩
    · have : i = n := by
        rcases Nat.lt_or_ge i n with h' | h'
        · exact absurd ⟨i, h', hp⟩ h
        · omega
      subst this
      refine ⟨i, hi, hp, fun j hj => ?_⟩
      cases hpj : p j
      · rfl
      · exact absurd ⟨j, hj, hpj⟩ h

section sound
variable {P : Program} {ro : FuncId → Bool} {G : Nat → Bool} {N : Nat} {sp : Spec} {ops : Array Oper}
/-- What 'treesR' tells of each operation. -/
def TreeAt (P : Program) (ro : FuncId → Bool) (G : Nat → Bool) (N : Nat) (ops : Array Oper) (T : List (Nat × Ex)) (i : Nat) : Prop :=
  ∃ o gd e d, ops[i]? = some o ∧ guardDst ops o = some gd ∧ low P ro (opd (T.take i).reverse) o.op = some e ∧ o.dst = some d ∧ d < N ∧
    o.op.operands.all (knownO G (T.take i).reverse []) = true ∧ gdOk G N (T.take i).reverse [] gd = true ∧ T[i]? = some (d, wrapG (T.take i).reverse gd e)
theorem treesR_spec : ∀ (rest : List Oper) (T T' : List (Nat × Ex)) (U U' : List Pend), treesR P ro G N ops rest T U = some (T', U') → (∀ j, rest[j]? = ops[T.length + j]?) →
    T'.length = T.length + rest.length ∧ (∀ i, i < T.length → T'[i]? = T[i]?) ∧ ∀ i, T.length ≤ i → i < T'.length → TreeAt P ro G N ops T' i := by
  intro rest
  induction rest with
  | nil =>
    intro T T' U U' h _
    simp only [treesR, Option.some.injEq, Prod.mk.injEq] at h
    obtain ⟨rfl, _⟩ := h
    exact ⟨by simp, fun _ _ => rfl, fun i h1 h2 => by omega⟩
  | cons o r ih =>
    intro T T' U U' h hr
    simp only [treesR, Option.bind_eq_some_iff] at h
    obtain ⟨gd, hg, e, hl, d, hd, h⟩ := h
    split at h
    · rename_i hc
      simp only [Bool.and_eq_true, decide_eq_true_eq] at hc
      obtain ⟨h1, h2, h3⟩ := ih _ _ _ _ h (fun j => by
        have := hr (j + 1)
        simp only [List.getElem?_cons_succ] at this
        rw [this]; congr 1; simp; omega)
      simp only [List.length_append, List.length_singleton] at h1 h2 h3
      refine ⟨by simp only [List.length_cons]; omega, fun i hi => ?_, fun i hi hi' => ?_⟩
      · rw [h2 i (by omega), List.getElem?_append_left hi]
      · by_cases hiT : i = T.length
        · subst hiT
          have htake : T'.take T.length = T := by
            apply List.ext_getElem?
            intro j
            rw [List.getElem?_take]
            split
            · rename_i hj; rw [h2 j (by omega), List.getElem?_append_left hj]
            · rename_i hj; rw [List.getElem?_eq_none (by omega)]
          refine ⟨o, gd, e, d, ?_, hg, ?_, hd, hc.1.1, ?_, ?_, ?_⟩
          · have := hr 0; simpa using this.symm
          · rw [htake]; exact hl
          · rw [htake]; exact hc.1.2
          · rw [htake]; exact hc.2
          · rw [htake, h2 T.length (by omega)]; simp
        · exact h3 i (by omega) hi'
    · cases h

theorem treesR_all {ρ : Env} {m : Mem} : ∀ (rest : List Oper) (T T' : List (Nat × Ex)) (U U' : List Pend), treesR P ro G N ops rest T U = some (T', U') → UOk T.reverse U →
    UOk T'.reverse U' ∧ ((∀ u ∈ U', (ev sp m ρ u.e).isSome = true) → (∀ u ∈ U, (ev sp m ρ u.e).isSome = true) ∧ ∀ p ∈ T', p ∈ T ∨ (ev sp m ρ p.2).isSome = true) := by
  intro rest
  induction rest with
  | nil =>
    intro T T' U U' h hU
    simp only [treesR, Option.some.injEq, Prod.mk.injEq] at h
    obtain ⟨rfl, rfl⟩ := h
    exact ⟨hU, fun h => ⟨h, fun p hp => .inl hp⟩⟩
  | cons o r ih =>
    intro T T' U U' h hU
    simp only [treesR, Option.bind_eq_some_iff] at h
    obtain ⟨gd, hg, e, hl, d, hd, h⟩ := h
    split at h
    · have hst := hU.step o d gd e
      rw [show ((d, wrapG T.reverse gd e) :: T.reverse) = (T ++ [(d, wrapG T.reverse gd e)]).reverse from by simp] at hst
      obtain ⟨h1, h2⟩ := ih _ _ _ _ h hst
      refine ⟨h1, fun hall => ?_⟩
      obtain ⟨h3, h4⟩ := h2 hall
      obtain ⟨h5, h6⟩ := stepU_ok hU hl h3
      refine ⟨h6, fun p hp => ?_⟩
      rcases h4 p hp with hp | hp
      · rcases List.mem_append.1 hp with hp | hp
        · exact .inl hp
        · simp at hp; subst hp; exact .inr h5
      · exact .inr hp
    · cases h
/-- Which slot's expression it is. -/
theorem lookup_rev {T : List (Nat × Ex)} (hd : ∀ (i j : Nat) (p q : Nat × Ex), T[i]? = some p → T[j]? = some q → p.1 = q.1 → i = j) (k : Nat) (t : Nat) :
    (∀ e, (T.take k).reverse.lookup t = some e → ∃ j : Nat, j < k ∧ T[j]? = some (t, e)) ∧ ((T.take k).reverse.lookup t = none → ∀ (j : Nat) (p : Nat × Ex), j < k → T[j]? = some p → p.1 ≠ t) := by
  constructor
  · intro e h
    have : (t, e) ∈ (T.take k).reverse := by
      clear hd
      generalize (T.take k).reverse = l at *
      induction l with
      | nil => simp at h
      | cons p l ih =>
        obtain ⟨i, e'⟩ := p
        rw [List.lookup_cons] at h
        by_cases ht : t = i
        · subst ht; simp at h; subst h; exact List.mem_cons_self
        · have hb : (t == i) = false := by simp [ht]
          rw [hb] at h; exact List.mem_cons_of_mem _ (ih h)
    rw [List.mem_reverse] at this
    obtain ⟨j, hj⟩ := List.mem_iff_getElem?.1 this
    rw [List.getElem?_take] at hj
    split at hj
    · exact ⟨j, by assumption, hj⟩
    · cases hj
  · intro h j p hj hp hpt
    have := List.lookup_eq_none_iff.1 h p (by
      rw [List.mem_reverse]
      apply List.mem_iff_getElem?.2
      exact ⟨j, by rw [List.getElem?_take, if_pos hj]; exact hp⟩)
    simp [hpt] at this
structure DInv (sp : Spec) (G : Nat → Bool) (N : Nat) (ops : Array Oper) (T : List (Nat × Ex)) (ρ : Env) (m : Mem) (listed : Array Bool) (a : Act) : Prop where
  lsize : listed.size = ops.size
  size : a.tmps.size = N
  defers : a.defers = []
  done : ∀ (j : Nat) t e, T[j]? = some (t, e) → listed.getD j false = true → ev sp m ρ e = some (a.eval (.tmp t))
  open_ : ∀ t, G t = true → (∀ (j : Nat) (p : Nat × Ex), T[j]? = some p → p.1 = t → listed.getD j false = false) → a.eval (.tmp t) = ρ t
  closed : ∀ (i : Nat) o e, listed.getD i false = true → ops[i]? = some o → e ∈ o.after → Region.binds .any e = true → listed.getD e.on false = true
theorem orderOk_spec (h : orderOk ops = true) {i j : Nat} (hi : i < ops.size) (hj : j < ops.size) : pairOk ops i j = true ∧ backOk ops i = true := by
  unfold orderOk at h
  rw [List.all_eq_true] at h
  have := h i (List.mem_range.2 hi)
  simp only [Bool.and_eq_true, List.all_eq_true] at this
  exact ⟨this.2 j (List.mem_range.2 hj), this.1⟩
theorem pairOk_spec {i j : Nat} (h : pairOk ops i j = true) (hne : i ≠ j) {oi oj : Oper} (hi : ops[i]? = some oi) (hj : ops[j]? = some oj) :
    ∃ d, oj.dst = some d ∧ oi.dst ≠ some d ∧ (usesT ops d oi = true → (j < i → hasEdge oi j = true) ∧ (¬ j < i → hasEdge oj i = true)) := by
  unfold pairOk at h
  simp only [hi, hj, Bool.or_eq_true, beq_iff_eq] at h
  rcases h with h | h
  · exact absurd h hne
  · split at h
    · rename_i d hd
      simp only [Bool.and_eq_true, bne_iff_ne, ne_eq, Bool.or_eq_true, Bool.not_eq_true'] at h
      refine ⟨d, hd, h.1, fun hu => ?_⟩
      rcases h.2 with h2 | h2
      · rw [hu] at h2; cases h2
      · refine ⟨fun hji => ?_, fun hji => ?_⟩
        · rw [if_pos hji] at h2; exact h2
        · rw [if_neg hji] at h2; exact h2
    · cases h
theorem hasEdge_spec {o : Oper} {j : Nat} (h : hasEdge o j = true) : ∃ e ∈ o.after, e.on = j ∧ Region.binds .any e = true := by
  unfold hasEdge at h
  rw [← Array.any_toList, List.any_eq_true] at h
  obtain ⟨e, he, h⟩ := h
  simp only [Bool.and_eq_true, beq_iff_eq] at h
  exact ⟨e, by simpa using he, h.1, h.2⟩
theorem uses_operand {o : Oper} {t : Nat} (h : Operand.tmp t ∈ o.op.operands) : usesT ops t o = true := by
  unfold usesT
  rw [Bool.or_eq_true]; left
  rw [← Array.any_toList, List.any_eq_true]
  exact ⟨.tmp t, by simpa using h, by simp⟩
theorem uses_guard {o : Oper} {t : Nat} {w : Bool} (h : guardDst ops o = some (some (t, w))) : usesT ops t o = true := by
  unfold usesT
  simp [h]

theorem drawn_sound (hsp : sp.Sound P) {T : List (Nat × Ex)} (hT : ∀ i, i < ops.size → TreeAt P ro G N ops T i) (hlen : T.length = ops.size) (hord : orderOk ops = true)
    {K : Env → Mem → Prop} {w0 : World} {Q : Exit → Act → World → Prop} (hQ : ∀ a w m ρ, Sat w0 w m → Agree G N a ρ → K ρ m → Q .normal a w)
    {ρ : Env} {m : Mem} (hall : ∀ p ∈ T, (ev sp m ρ p.2).isSome = true) {l : List (Nat × Value)} (hl : evL sp m ρ (T.filter fun p => G p.1) = some l) (hK : K (ρ.upds l) m) :
    ∀ (fuel : Nat) (listed : Array Bool) (a : Act) (w : World), Sat w0 w m → DInv sp G N ops T ρ m listed a → cnt (fun i => !listed.getD i true) ops.size ≤ fuel →
      wpAny P .any ops Q fuel listed a w := by
  have hdst : ∀ (j : Nat) (p : Nat × Ex), T[j]? = some p → ∃ o, ops[j]? = some o ∧ o.dst = some p.1 := by
    intro j p hp
    have hj : j < ops.size := by rw [← hlen]; exact (List.getElem?_eq_some_iff.1 hp).1
    obtain ⟨o, gd, e, d, ho, _, _, hd, _, _, _, hTj⟩ := hT j hj
    rw [hp] at hTj
    cases hTj
    exact ⟨o, ho, hd⟩
  have hdis : ∀ (i j : Nat) (p q : Nat × Ex), T[i]? = some p → T[j]? = some q → p.1 = q.1 → i = j := by
    intro i j p q hp hq hpq
    by_cases hne : i = j
    · exact hne
    · obtain ⟨oi, hoi, hdi⟩ := hdst i p hp
      obtain ⟨oj, hoj, hdj⟩ := hdst j q hq
      have := (orderOk_spec hord (Array.getElem?_eq_some_iff.1 hoi).1 (Array.getElem?_eq_some_iff.1 hoj).1).1
      obtain ⟨d, h1, h2, _⟩ := pairOk_spec this hne hoi hoj
      rw [hdj] at h1; cases h1
      exact absurd (by rw [hdi, hpq]) h2
  -- the end
  have hend : ∀ (listed : Array Bool) (a : Act) (w : World), Sat w0 w m → DInv sp G N ops T ρ m listed a → (∀ i, i < ops.size → listed.getD i true = true) → Q .normal a w := by
    intro listed a w hs hi hfull
    refine hQ a w m (ρ.upds l) hs ⟨hi.size, hi.defers, fun t ht => ?_⟩ hK
    have hrev : evL sp m ρ ((T.filter fun p => G p.1).reverse).reverse = some l := by rw [List.reverse_reverse]; exact hl
    have hf := flush_at _ l hrev t
    cases hx : ((T.filter fun p => G p.1).reverse).lookup t with
    | some e =>
      rw [hx] at hf
      simp only at hf
      have hmem : (t, e) ∈ T := by
        have : (t, e) ∈ (T.filter fun p => G p.1).reverse := by
          clear hf hrev
          generalize (T.filter fun p => G p.1).reverse = l' at *
          induction l' with
          | nil => simp at hx
          | cons p l' ih =>
            obtain ⟨i, e'⟩ := p
            rw [List.lookup_cons] at hx
            by_cases htt : t = i
            · subst htt; simp at hx; subst hx; exact List.mem_cons_self
            · have hb : (t == i) = false := by simp [htt]
              rw [hb] at hx; exact List.mem_cons_of_mem _ (ih hx)
        rw [List.mem_reverse] at this
        exact (List.mem_filter.1 this).1
      obtain ⟨j, hj⟩ := List.mem_iff_getElem?.1 hmem
      have hjn : j < ops.size := by rw [← hlen]; exact (List.getElem?_eq_some_iff.1 hj).1
      have hlj : listed.getD j false = true := by
        have := hfull j hjn
        have hjl : j < listed.size := by rw [hi.lsize]; exact hjn
        simp only [Array.getD_eq_getD_getElem?, Array.getElem?_eq_getElem hjl, Option.getD_some] at this ⊢
        exact this
      have := hi.done j t e hj hlj
      rw [this] at hf
      exact Option.some.inj hf
    | none =>
      rw [hx] at hf
      simp only at hf
      rw [hf]
      refine hi.open_ t ht fun j p hp hpt => ?_
      exfalso
      have := List.lookup_eq_none_iff.1 hx p (by
        rw [List.mem_reverse, List.mem_filter]
        exact ⟨List.mem_iff_getElem?.2 ⟨j, hp⟩, by rw [hpt]; exact ht⟩)
      simp [hpt] at this
  intro fuel
  induction fuel with
  | zero =>
    intro listed a w hs hi hc
    have hfull : ∀ i, i < ops.size → listed.getD i true = true := fun i hlt => by
      have := cnt_zero (p := fun i => !listed.getD i true) ops.size (by omega) i hlt
      simpa using this
    refine ⟨?_, hend listed a w hs hi hfull⟩
    rw [List.eq_nil_iff_forall_not_mem]
    intro i hr
    rw [mem_ready] at hr
    obtain ⟨h1, o, ho, _⟩ := hr
    rw [hfull i (Array.getElem?_eq_some_iff.1 ho).1] at h1; cases h1
  | succ fuel ih =>
    intro listed a w hs hi hc
    refine ⟨fun hr => ?_, fun i hr => ?_⟩
    · refine hend listed a w hs hi fun i hlt => ?_
      by_cases hx : ∃ i, i < ops.size ∧ (!listed.getD i true) = true
      · exfalso
        obtain ⟨k, hk, hkl, hleast⟩ := least_of (p := fun i => !listed.getD i true) ops.size hx
        have hmem : k ∈ Region.ready .any ops listed := by
          rw [mem_ready]
          refine ⟨by simpa using hkl, ops[k], Array.getElem?_eq_getElem hk, fun e he hb => ?_⟩
          have hbk := (orderOk_spec hord hk hk).2
          unfold backOk at hbk
          rw [Array.getElem?_eq_getElem hk] at hbk
          simp only [Array.all_eq_true_iff_forall_mem, Bool.or_eq_true, Bool.not_eq_true', decide_eq_true_eq] at hbk
          have hlt := (hbk e he).resolve_left (by simp [hb])
          have := hleast e.on hlt
          have hjl : e.on < listed.size := by rw [hi.lsize]; omega
          simp only [Array.getD_eq_getD_getElem?, Array.getElem?_eq_getElem hjl, Option.getD_some] at this ⊢
          simpa using this
        rw [hr] at hmem; cases hmem
      · cases hli : listed.getD i true
        · exact absurd ⟨i, hlt, by simp [hli]⟩ hx
        · rfl
    · rw [mem_ready] at hr
      obtain ⟨hun, o, ho, hedges⟩ := hr
      have hin : i < ops.size := (Array.getElem?_eq_some_iff.1 ho).1
      have hil : i < listed.size := by rw [hi.lsize]; exact hin
      have hunf : listed.getD i false = false := by
        simp only [Array.getD_eq_getD_getElem?, Array.getElem?_eq_getElem hil, Option.getD_some] at hun ⊢
        exact hun
      obtain ⟨o', gd, e, d, ho', hg, hlow, hd, hdN, hops, hgd, hTi⟩ := hT i hin
      rw [ho] at ho'; cases ho'
      -- the operands hold what the text says
      have hval : ∀ t, knownT G (T.take i).reverse [] t = true → usesT ops t o = true → ev sp m ρ (opd (T.take i).reverse (.tmp t)) = some (a.eval (.tmp t)) := by
        intro t hk hu
        have hlk := lookup_rev hdis i t
        simp only [opd]
        cases hx : (T.take i).reverse.lookup t with
        | some x =>
          obtain ⟨j, hji, hTj⟩ := hlk.1 x hx
          obtain ⟨oj, hoj, hdj⟩ := hdst j _ hTj
          have hpo := (orderOk_spec hord hin (Array.getElem?_eq_some_iff.1 hoj).1).1
          obtain ⟨d', h1, h2, h3⟩ := pairOk_spec hpo (by omega) ho hoj
          rw [hdj] at h1; cases h1
          obtain ⟨e', he', hon, hb⟩ := hasEdge_spec ((h3 hu).1 hji)
          have := hedges e' he' hb
          rw [hon] at this
          exact hi.done j t x hTj this
        | none =>
          have hG : G t = true := by
            simp only [knownT, hx, Option.isSome_none, Bool.false_or, Bool.or_eq_true] at hk
            simpa using hk
          simp only [Option.getD_none, ev]
          rw [hi.open_ t hG ?_]
          intro j p hp hpt
          by_cases hji : j = i
          · subst hji; exact hunf
          · obtain ⟨oj, hoj, hdj⟩ := hdst j _ hp
            have hpo := (orderOk_spec hord hin (Array.getElem?_eq_some_iff.1 hoj).1).1
            obtain ⟨d', h1, h2, h3⟩ := pairOk_spec hpo (fun q => hji q.symm) ho hoj
            rw [hdj] at h1; cases h1
            rw [hpt] at h3
            by_cases hlt : j < i
            · exact absurd hpt (hlk.2 hx j p hlt hp)
            · obtain ⟨e', he', hon, hb⟩ := hasEdge_spec ((h3 hu).2 hlt)
              cases hlj : listed.getD j false
              · rfl
              · have := hi.closed j oj e' hlj hoj he' hb
                rw [hon, hunf] at this; cases this
      have H : ∀ x ∈ o.op.operands, ∀ u, ev sp m ρ (opd (T.take i).reverse x) = some u → a.eval x = u := by
        intro x hx u hu
        have hk := Array.all_eq_true_iff_forall_mem.1 hops x hx
        cases x with
        | tmp t =>
          have := hval t hk (uses_operand hx)
          rw [hu] at this; exact (Option.some.inj this).symm
        | const v => cases hu; rfl
        | global g => cases hu; rfl
        | func f => cases hu; rfl
      obtain ⟨v, hv⟩ := Option.isSome_iff_exists.1 (hall _ (List.mem_iff_getElem?.2 ⟨i, hTi⟩))
      -- the next state
      have hnext : ∀ w', Sat w0 w' m → wpAny P .any ops Q fuel (listed.setIfInBounds i true) (a.put o.dst v) w' := by
        intro w' hs'
        rw [hd]
        refine ih _ _ w' hs' ⟨by simp [hi.lsize], by rw [size_put]; exact hi.size, by rw [defers_put]; exact hi.defers, ?_, ?_, ?_⟩ ?_
        · intro j t x hTj hlj
          by_cases hji : j = i
          · subst hji
            rw [hTi] at hTj; cases hTj
            rw [eval_put_same (by rw [hi.size]; exact hdN)]; exact hv
          · rw [getD_set_ne false (Ne.symm hji)] at hlj
            have htd : t ≠ d := fun q => hji (hdis j i _ _ hTj hTi q)
            rw [eval_put_ne htd]; exact hi.done j t x hTj hlj
        · intro t ht hno
          have htd : t ≠ d := by
            rintro rfl
            have := hno i _ hTi rfl
            simp [Array.getD_eq_getD_getElem?, hil] at this
          rw [eval_put_ne htd]
          refine hi.open_ t ht fun j p hp hpt => ?_
          have := hno j p hp hpt
          by_cases hji : j = i
          · subst hji; exact hunf
          · rwa [getD_set_ne false (Ne.symm hji)] at this
        · intro j oj e' hlj hoj he' hb
          by_cases hji : j = i
          · subst hji
            rw [ho] at hoj; cases hoj
            exact getD_set_true (hedges e' he' hb)
          · rw [getD_set_ne false (Ne.symm hji)] at hlj
            exact getD_set_true (hi.closed j oj e' hlj hoj he' hb)
        · have := cnt_set (p := fun i => !listed.getD i true) (q := fun j => !(listed.setIfInBounds i true).getD j true) (i := i) (by simp only [hun]; rfl) (by simp [Array.getD_eq_getD_getElem?, hil])
            (fun j hj => by show (!_) = (!_); rw [getD_set_ne true (Ne.symm hj)]) ops.size
          rw [if_pos hin] at this
          omega
      unfold wpOp
      rw [ho]
      simp only
      have hgw := guardDst_wanted hg a
      cases gd with
      | none =>
        rw [if_pos (hgw.1 rfl)]
        exact .inl (low_wp hsp hlow hv H hs hnext)
      | some q =>
        obtain ⟨dj, wt⟩ := q
        simp only [gdOk, Bool.and_eq_true, decide_eq_true_eq] at hgd
        obtain ⟨hk, hdj⟩ := hgd
        have hcv := hval dj hk (uses_guard hg)
        have hv0 := hv
        simp only [wrapG] at hv0
        rw [Ex.mkGrd_ev] at hv0
        simp only [ev, hcv, Option.bind_some] at hv0
        cases hbv : a.eval (.tmp dj) with
        | bool b =>
          rw [hbv] at hv0
          simp only [grdK] at hv0
          have hwt := hgw.2 dj wt b rfl (by rw [hi.size]; exact hdj) hbv
          by_cases hb : b = wt
          · rw [if_pos hb] at hv0
            rw [if_pos (by rw [hwt]; simp [hb])]
            exact .inl (low_wp hsp hlow hv0 H hs hnext)
          · rw [if_neg hb] at hv0
            cases hv0
            rw [if_neg (by rw [hwt]; simp [hb])]
            exact hnext w hs
        | _ =>
          rw [hbv] at hv0
          simp only [grdK] at hv0
          cases hv0
          rw [if_neg (by rw [guardDst_off hg a (by rw [hbv]; intro b hh; cases hh)]; simp)]
          exact hnext w hs
end sound
end Go.Proofs.Ytaifmmeghninhaa.Mw
