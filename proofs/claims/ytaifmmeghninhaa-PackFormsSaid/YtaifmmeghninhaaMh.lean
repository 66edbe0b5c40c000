/- A region in a row as statements, and that it does what they say. No condition. -/
import Derived.Test.YtaifmmeghninhaaMg
import Derived.Test.YtaifmmeghninhaaMk
namespace Go.Proofs.Ytaifmmeghninhaa.Mw
open Go Go.RowKit
set_option linter.unusedVariables false
set_option linter.unusedSimpArgs false
section dec
variable (P : Program) (ro : FuncId → Bool) (G : Nat → Bool) (N : Nat)
def opd (σ : List (Nat × Ex)) : Operand → Ex
  | .tmp t => (σ.lookup t).getD (.s t)
  | .const v => .k v
  | .global g => .k (.pointer (some ⟨g, 0, none⟩))
  | .func f => .k (.func (.func f) #[] #[])
def knownT (σ : List (Nat × Ex)) (kn : List Nat) (t : Nat) : Bool := (σ.lookup t).isSome || G t || kn.contains t
def knownO (σ : List (Nat × Ex)) (kn : List Nat) : Operand → Bool
  | .tmp t => knownT G σ kn t
  | _ => true
def Oper.bare (o : Oper) : Oper := ⟨o.dst, o.op, o.type, "", #[], none⟩
def effSt (o : Oper) : St := match effOf P o with
  | some e => .act o.dst e
  | none => .eff (Oper.bare o)
def guardDst (ops : Array Oper) (o : Oper) : Option (Option (Nat × Bool)) :=
  match o.guard with
  | none => some none
  | some (j, w) => ((ops[j]?).bind (·.dst)).map fun d => some (d, w)
def usesT (ops : Array Oper) (t : Nat) (o : Oper) : Bool :=
  o.op.operands.any (fun | .tmp u => u == t | _ => false) || (match guardDst ops o with | some (some (d, _)) => d == t | _ => false)
def wrapG (σ : List (Nat × Ex)) : Option (Nat × Bool) → Ex → Ex
  | none, e => e
  | some (dj, w), e => Ex.mkGrd (opd σ (.tmp dj)) w e
def gdOk (σ : List (Nat × Ex)) (kn : List Nat) : Option (Nat × Bool) → Bool
  | none => true
  | some (dj, _) => knownT G σ kn dj && dj < N
def dstOk : Option Nat → Bool
  | none => true
  | some d => d < N
def keepP (ops : Array Oper) (rest : List Oper) (p : Nat × Ex) : Bool := G p.1 || rest.any (usesT ops p.1)
def outsP (ops : Array Oper) (rest : List Oper) (σ : List (Nat × Ex)) : List (Nat × Ex) := (σ.filter (keepP G ops rest)).reverse
def knP (ops : Array Oper) (rest : List Oper) (σ : List (Nat × Ex)) (kn : List Nat) : List Nat := (outsP G ops rest σ).map (·.1) ++ kn.filter fun t => (σ.lookup t).isNone
/-- An expression that is not yet seen to be asked for: the slot whose newest it is, its guard. -/
structure Pend where
  d : Option Nat
  gd : Option (Nat × Bool)
  e : Ex
def covers (o : Oper) (gd : Option (Nat × Bool)) (u : Pend) : Bool :=
  match u.d with
  | none => false
  | some d => o.op.operands.any (fun | .tmp t => t == d | _ => false) && (gd.isNone || gd == u.gd)
def onGuard (d : Nat) : Option (Nat × Bool) → Bool
  | some (j, _) => j == d
  | none => false
def neut (d : Nat) (u : Pend) : Pend := if u.d == some d || onGuard d u.gd then ⟨none, u.gd, u.e⟩ else u
def stepU (U : List Pend) (o : Oper) (d : Nat) (gd : Option (Nat × Bool)) (e : Ex) : List Pend :=
  ⟨if onGuard d gd then none else some d, gd, e⟩ :: (U.filter fun u => !covers o gd u).map (neut d)
def mustP (keep : Nat → Bool) (U : List Pend) : List Ex :=
  (U.filter fun u => match u.d with | some d => !keep d | none => true).map (·.e)
def keepT (ops : Array Oper) (rest : List Oper) (t : Nat) : Bool := G t || rest.any (usesT ops t)
def notTmp (d : Nat) : Operand → Bool
  | .tmp t => t != d
  | _ => true
/-- A variable that is made and filled at once. -/
def pairBox : Oper → List Oper → Option (Nat × TypeId × Nat × Operand × List Oper)
  | ⟨some d, .alloc ty, _, _, _, none⟩, ⟨none, .store ty' (.tmp d') y, _, _, _, none⟩ :: r =>
    (P.info? ty).bind fun inf => inf.zero.bind fun z => if ty = ty' ∧ d = d' ∧ d < N ∧ z.cells.size = inf.size ∧ notTmp d y = true then some (d, ty, inf.size, y, r) else none
  | _, _ => none
def gdSt (o : Oper) : Option (Nat × Bool) → St
  | none => effSt P o
  | some (dj, true) => .ite (.s dj) (effSt P o) (match o.dst with | some d => .sets [(d, .k undef)] [] | none => .nop)
  | some (dj, false) => .ite (.s dj) (match o.dst with | some d => .sets [(d, .k undef)] [] | none => .nop) (effSt P o)
def decOps (ops : Array Oper) : Nat → List Oper → List (Nat × Ex) → List Pend → List Nat → Option St
  | 0, _, _, _, _ => none
  | _ + 1, [], σ, U, kn => some (.sets (outsP G ops [] σ) (mustP (keepT G ops []) U))
  | n + 1, o :: r, σ, U, kn =>
    (guardDst ops o).bind fun gd =>
      match low P ro (opd σ) o.op with
      | some e => o.dst.bind fun d =>
          if (decide (d < N) && o.op.operands.all (knownO G σ kn) && gdOk G N σ kn gd) = true then decOps ops n r ((d, wrapG σ gd e) :: σ) (stepU U o d gd (wrapG σ gd e)) kn else none
      | none =>
        if (dstOk N o.dst && o.op.operands.all (knownO G [] (knP G ops (o :: r) σ kn)) && gdOk G N [] (knP G ops (o :: r) σ kn) gd) = true then
          match pairBox P N o r with
          | some (d, ty, k, y, r2) =>
            if knownO G [] (knP G ops (o :: r) σ kn) y = true then
              (decOps ops n r2 [] [] (d :: knP G ops (o :: r) σ kn)).map fun s => .seq (.sets (outsP G ops (o :: r) σ) (mustP (keepT G ops (o :: r)) U)) (.seq (.act (some d) (.var ty k y)) s)
            else none
          | none => (decOps ops n r [] [] (o.dst.toList ++ knP G ops (o :: r) σ kn)).map fun s => .seq (.sets (outsP G ops (o :: r) σ) (mustP (keepT G ops (o :: r)) U)) (.seq (gdSt P o gd) s)
        else none
end dec

section sound
variable {P : Program} {ro : FuncId → Bool} {G : Nat → Bool} {N : Nat} {sp : Spec}
/-- The act agrees with the slots' expressions, and with the environment elsewhere. -/
structure Holds (sp : Spec) (G : Nat → Bool) (N : Nat) (σ : List (Nat × Ex)) (kn : List Nat) (ρ : Env) (m : Mem) (a : Act) : Prop where
  size : a.tmps.size = N
  defers : a.defers = []
  here : ∀ t e, σ.lookup t = some e → ev sp m ρ e = some (a.eval (.tmp t))
  there : ∀ t, σ.lookup t = none → (G t = true ∨ t ∈ kn) → a.eval (.tmp t) = ρ t

theorem eval_put_same {a : Act} {d : Nat} {v : Value} (h : d < a.tmps.size) : (a.put (some d) v).eval (.tmp d) = v := by
  simp [Act.put, Act.eval, Array.getD_eq_getD_getElem?, h]
theorem eval_put_ne {a : Act} {d t : Nat} {v : Value} (h : t ≠ d) : (a.put (some d) v).eval (.tmp t) = a.eval (.tmp t) := by
  simp only [Act.put, Act.eval, Array.getD_eq_getD_getElem?]
  rw [Array.getElem?_setIfInBounds_ne (Ne.symm h)]
theorem size_put {a : Act} {d : Option Nat} {v : Value} : (a.put d v).tmps.size = a.tmps.size := by
  cases d <;> simp [Act.put]
theorem defers_put {a : Act} {d : Option Nat} {v : Value} : (a.put d v).defers = a.defers := by
  cases d <;> rfl

theorem Holds.opd {σ : List (Nat × Ex)} {kn : List Nat} {ρ : Env} {m : Mem} {a : Act} (h : Holds sp G N σ kn ρ m a) {x : Operand} (hx : knownO G σ kn x = true) :
    ev sp m ρ (opd σ x) = some (a.eval x) := by
  cases x with
  | tmp t =>
    simp only [knownO, knownT, Bool.or_eq_true] at hx
    simp only [Mw.opd]
    cases hl : σ.lookup t with
    | some e => exact h.here t e hl
    | none =>
      rw [hl] at hx
      simp only [Option.isSome_none, Bool.false_eq_true, false_or] at hx
      simp only [Option.getD_none, ev]
      rw [h.there t hl (by simpa using hx)]
  | const v => rfl
  | global g => rfl
  | func f => rfl

theorem Oper.wp_mono2 {o : Oper} {a : Act} {w : World} {K K' : Act → World → Prop} {Q : Exit → Act → World → Prop} (h : ∀ a w, K a w → K' a w)
    (hh : o.wp P a w K (fun _ _ _ => False)) : o.wp P a w K' Q := by
  unfold Go.Oper.wp at *
  generalize (execOp a.eval o).run P w = r at *
  cases r with
  | ok n w' =>
    cases n <;> simp only [Oper.upon] at hh ⊢ <;>
      first
        | exact h _ _ hh
        | exact Calls.mono hh (fun e w'' he => by cases e <;> first | exact h _ _ he | exact he.elim | (obtain ⟨_, _, q⟩ := he; exact q.elim))
        | exact Rows.mono hh (fun _ _ he => h _ _ he)
  | halt x w' => cases x <;> simp only [Oper.upon] at hh
theorem wp_bare {o : Oper} {a : Act} {w : World} {next : Act → World → Prop} {Q : Exit → Act → World → Prop} : (Oper.bare o).wp P a w next Q = o.wp P a w next Q := rfl

theorem decOps_inv {ops : Array Oper} {n : Nat} {o : Oper} {r : List Oper} {σ : List (Nat × Ex)} {U : List Pend} {kn : List Nat} {s : St} (h : decOps P ro G N ops (n + 1) (o :: r) σ U kn = some s) :
    (∃ gd e d, guardDst ops o = some gd ∧ low P ro (opd σ) o.op = some e ∧ o.dst = some d ∧ d < N ∧ o.op.operands.all (knownO G σ kn) = true ∧ gdOk G N σ kn gd = true ∧ decOps P ro G N ops n r ((d, wrapG σ gd e) :: σ) (stepU U o d gd (wrapG σ gd e)) kn = some s) ∨
    (∃ gd s', guardDst ops o = some gd ∧ dstOk N o.dst = true ∧ o.op.operands.all (knownO G [] (knP G ops (o :: r) σ kn)) = true ∧ gdOk G N [] (knP G ops (o :: r) σ kn) gd = true ∧ decOps P ro G N ops n r [] [] (o.dst.toList ++ knP G ops (o :: r) σ kn) = some s' ∧
      s = .seq (.sets (outsP G ops (o :: r) σ) (mustP (keepT G ops (o :: r)) U)) (.seq (gdSt P o gd) s')) ∨
    (∃ d ty k y r2 s', pairBox P N o r = some (d, ty, k, y, r2) ∧ knownO G [] (knP G ops (o :: r) σ kn) y = true ∧ decOps P ro G N ops n r2 [] [] (d :: knP G ops (o :: r) σ kn) = some s' ∧
      s = .seq (.sets (outsP G ops (o :: r) σ) (mustP (keepT G ops (o :: r)) U)) (.seq (.act (some d) (.var ty k y)) s')) := by
  simp only [decOps, Option.bind_eq_some_iff] at h
  obtain ⟨gd, hg, h⟩ := h
  cases hl : low P ro (opd σ) o.op with
  | some e =>
    simp only [hl, Option.bind_eq_some_iff] at h
    obtain ⟨d, hd, h⟩ := h
    by_cases hc : (decide (d < N) && o.op.operands.all (knownO G σ kn) && gdOk G N σ kn gd) = true
    · rw [if_pos hc] at h
      simp only [Bool.and_eq_true, decide_eq_true_eq] at hc
      exact .inl ⟨gd, e, d, hg, rfl, hd, hc.1.1, hc.1.2, hc.2, h⟩
    · rw [if_neg hc] at h; cases h
  | none =>
    simp only [hl] at h
    by_cases hc : (dstOk N o.dst && o.op.operands.all (knownO G [] (knP G ops (o :: r) σ kn)) && gdOk G N [] (knP G ops (o :: r) σ kn) gd) = true
    · rw [if_pos hc] at h
      simp only [Bool.and_eq_true] at hc
      cases hp : pairBox P N o r with
      | none =>
        rw [hp] at h
        simp only [Option.map_eq_some_iff] at h
        obtain ⟨s', hs', rfl⟩ := h
        exact .inr (.inl ⟨gd, s', hg, hc.1.1, hc.1.2, hc.2, hs', rfl⟩)
      | some q =>
        obtain ⟨d, ty, k, y, r2⟩ := q
        rw [hp] at h
        simp only at h
        split at h
        · rename_i hy
          simp only [Option.map_eq_some_iff] at h
          obtain ⟨s', hs', rfl⟩ := h
          exact .inr (.inr ⟨d, ty, k, y, r2, s', rfl, hy, hs', rfl⟩)
        · cases h
    · rw [if_neg hc] at h; cases h
theorem pairBox_inv {o : Oper} {r : List Oper} {d : Nat} {ty : TypeId} {k : Nat} {y : Operand} {r2 : List Oper} (h : pairBox P N o r = some (d, ty, k, y, r2)) :
    ∃ t1 p1 f1 t2 p2 f2 inf z, o = ⟨some d, .alloc ty, t1, p1, f1, none⟩ ∧ r = ⟨none, .store ty (.tmp d) y, t2, p2, f2, none⟩ :: r2 ∧ P.info? ty = some inf ∧ inf.zero = some z ∧ d < N ∧ z.cells.size = inf.size ∧ k = inf.size ∧ y ≠ .tmp d := by
  unfold pairBox at h
  split at h
  · simp only [Option.bind_eq_some_iff] at h
    obtain ⟨inf, hi, z, hz, h⟩ := h
    split at h
    · rename_i hc
      obtain ⟨rfl, rfl, h1, h2, h3⟩ := hc
      cases h
      refine ⟨_, _, _, _, _, _, inf, z, rfl, rfl, hi, hz, h1, h2, rfl, ?_⟩
      rintro rfl
      simp [notTmp] at h3
    · cases h
  · cases h

/-- What is told of the pending expressions' slots and guards holds. -/
def UOk (σ : List (Nat × Ex)) (U : List Pend) : Prop :=
  ∀ u ∈ U, ∀ d, u.d = some d → σ.lookup d = some u.e ∧ ∀ j w, u.gd = some (j, w) → ∃ x, u.e = .grd (opd σ (.tmp j)) w x
theorem opd_push {σ : List (Nat × Ex)} {d j : Nat} {e : Ex} (h : j ≠ d) : opd ((d, e) :: σ) (.tmp j) = opd σ (.tmp j) := by
  have hb : (j == d) = false := by simp [h]
  simp [opd, List.lookup_cons, hb]
theorem UOk.step {σ : List (Nat × Ex)} {U : List Pend} (h : UOk σ U) (o : Oper) (d : Nat) (gd : Option (Nat × Bool)) (e : Ex) : UOk ((d, wrapG σ gd e) :: σ) (stepU U o d gd (wrapG σ gd e)) := by
  intro u hu d' hd'
  rcases List.mem_cons.1 hu with rfl | hu
  · simp only at hd'
    split at hd'
    · cases hd'
    · rename_i hg
      cases hd'
      refine ⟨by simp, fun j w hj => ?_⟩
      simp only at hj
      subst hj
      have hne : j ≠ d := by
        rintro rfl; simp [onGuard] at hg
      rw [opd_push hne]
      exact ⟨_, rfl⟩
  · obtain ⟨v, hv, rfl⟩ := List.mem_map.1 hu
    have hv := (List.mem_filter.1 hv).1
    unfold neut at hd' ⊢
    split at hd'
    · cases hd'
    · rename_i hc
      simp only [Bool.or_eq_true, beq_iff_eq, not_or] at hc
      rw [if_neg (by simp only [Bool.or_eq_true, beq_iff_eq, not_or]; exact hc)]
      obtain ⟨h1, h2⟩ := h v hv d' hd'
      have hne : d' ≠ d := by rintro rfl; exact hc.1 hd'
      have hb : (d' == d) = false := by simp [hne]
      refine ⟨by simp only [List.lookup_cons, hb]; exact h1, fun j w hj => ?_⟩
      have hjd : j ≠ d := by
        rintro rfl; rw [hj] at hc; simp [onGuard] at hc
      rw [opd_push hjd]
      exact h2 j w hj
theorem stepU_ok {σ : List (Nat × Ex)} {U : List Pend} {ρ : Env} {m : Mem} (h : UOk σ U) {o : Oper} {d : Nat} {gd : Option (Nat × Bool)} {e : Ex} (hl : low P ro (opd σ) o.op = some e)
    (hs : ∀ u ∈ stepU U o d gd (wrapG σ gd e), (ev sp m ρ u.e).isSome = true) : (ev sp m ρ (wrapG σ gd e)).isSome = true ∧ ∀ u ∈ U, (ev sp m ρ u.e).isSome = true := by
  have h0 := hs _ (List.mem_cons_self)
  simp only at h0
  refine ⟨h0, fun u hu => ?_⟩
  by_cases hc : covers o gd u = true
  · unfold covers at hc
    split at hc
    · cases hc
    · rename_i d' hd'
      simp only [Bool.and_eq_true, Bool.or_eq_true] at hc
      obtain ⟨ha, hg⟩ := hc
      rw [← Array.any_toList, List.any_eq_true] at ha
      obtain ⟨x, hx, hxd⟩ := ha
      have hx' : x = .tmp d' := by
        cases x <;> simp_all
      subst hx'
      have hx : Operand.tmp d' ∈ o.op.operands := by simpa using hx
      obtain ⟨hlk, hgd⟩ := h u hu d' hd'
      have hue : opd σ (.tmp d') = u.e := by simp [opd, hlk]
      have hes : (ev sp m ρ e).isSome = true → (ev sp m ρ u.e).isSome = true := fun he => by
        rw [← hue]; exact low_strict hl he (.tmp d') hx (fun f => by simp)
      cases gd with
      | none => exact hes h0
      | some p =>
        obtain ⟨j, w⟩ := p
        have hug : u.gd = some (j, w) := by
          rcases hg with hg | hg
          · simp at hg
          · simpa using (beq_iff_eq.1 hg).symm
        obtain ⟨x, hxe⟩ := hgd j w hug
        simp only [wrapG] at h0
        rw [Ex.mkGrd_ev] at h0
        rw [hxe] at hes ⊢
        simp only [ev] at h0 ⊢ hes
        cases hcv : ev sp m ρ (opd σ (.tmp j)) with
        | none => rw [hcv] at h0; simp at h0
        | some v =>
          rw [hcv] at h0 hes
          cases v with
          | bool b =>
            simp only [Option.bind_some, grdK] at h0 hes ⊢
            by_cases hb : b = w
            · rw [if_pos hb] at h0 hes ⊢; exact hes h0
            · rw [if_neg hb]; rfl
          | _ => rfl
  · have : neut d u ∈ stepU U o d gd (wrapG σ gd e) := List.mem_cons_of_mem _ (List.mem_map.2 ⟨u, List.mem_filter.2 ⟨hu, by simp [hc]⟩, rfl⟩)
    have := hs _ this
    unfold neut at this
    split at this <;> exact this
theorem lookup_mem {σ : List (Nat × Ex)} {t : Nat} {e : Ex} (h : σ.lookup t = some e) : (t, e) ∈ σ := by
  induction σ with
  | nil => simp at h
  | cons p σ ih =>
    obtain ⟨i, e'⟩ := p
    rw [List.lookup_cons] at h
    by_cases ht : t = i
    · subst ht; simp at h; subst h; exact List.mem_cons_self
    · have hb : (t == i) = false := by simp [ht]
      rw [hb] at h; exact List.mem_cons_of_mem _ (ih h)
theorem evM_all : ∀ {l : List Ex} {ρ : Env} {m : Mem}, evM sp m ρ l → ∀ e ∈ l, (ev sp m ρ e).isSome = true := by
  intro l
  induction l with
  | nil => intro ρ m _ e he; cases he
  | cons x l ih =>
    intro ρ m h e he
    rcases List.mem_cons.1 he with rfl | he
    · exact h.1
    · exact ih h.2 e he
theorem must_all {keep : Nat → Bool} {outs : List (Nat × Ex)} {σ : List (Nat × Ex)} {U : List Pend} {ρ : Env} {m : Mem} {l : List (Nat × Value)} (hU : UOk σ U) (hout : ∀ p ∈ σ, keep p.1 = true → p ∈ outs)
    (h1 : evM sp m ρ (mustP keep U)) (hl : evL sp m ρ outs = some l) : ∀ u ∈ U, (ev sp m ρ u.e).isSome = true := by
  intro u hu
  by_cases hc : (match u.d with | some d => !keep d | none => true) = true
  · exact evM_all h1 u.e (List.mem_map.2 ⟨u, List.mem_filter.2 ⟨hu, hc⟩, rfl⟩)
  · cases hd : u.d with
    | none => rw [hd] at hc; simp at hc
    | some d =>
      rw [hd] at hc
      simp only [Bool.not_eq_true', Bool.not_eq_false] at hc
      exact evL_some hl (d, u.e) (hout _ (lookup_mem (hU u hu d hd).1) hc)
/-- What is told of a region's rest tells that all pending expressions come to something. -/
theorem decOps_all (ops : Array Oper) : ∀ (n : Nat) (rest : List Oper) (σ : List (Nat × Ex)) (U : List Pend) (kn : List Nat) (s : St), decOps P ro G N ops n rest σ U kn = some s → UOk σ U →
    ∀ {K X R ρ m}, Inh m → wpS P sp G N s K X R ρ m → ∀ u ∈ U, (ev sp m ρ u.e).isSome = true := by
  intro n
  induction n with
  | zero => intro rest σ U kn s h; simp [decOps] at h
  | succ n ih =>
    intro rest σ U kn s h hU K X R ρ m hi hs
    have flush : ∀ {outs : List (Nat × Ex)} {s'}, (∀ p ∈ σ, keepT G ops rest p.1 = true → p ∈ outs) → wpS P sp G N (.seq (.sets outs (mustP (keepT G ops rest) U)) s') K X R ρ m → ∀ u ∈ U, (ev sp m ρ u.e).isSome = true := by
      intro outs s' ho hs
      obtain ⟨h1, l, hl, _⟩ := hs hi
      exact must_all hU ho h1 hl
    have hout : ∀ p ∈ σ, keepT G ops rest p.1 = true → p ∈ outsP G ops rest σ := fun p hp hk => by
      unfold outsP; rw [List.mem_reverse, List.mem_filter]; exact ⟨hp, hk⟩
    cases rest with
    | nil =>
      simp only [decOps, Option.some.injEq] at h
      subst h
      obtain ⟨h1, l, hl, _⟩ := hs hi
      exact must_all hU hout h1 hl
    | cons o r =>
      rcases decOps_inv h with ⟨gd, e1, d, _, hl, _, _, _, _, h⟩ | ⟨gd, s', _, _, _, _, _, rfl⟩ | ⟨d, ty, k, y, r2, s', _, _, _, rfl⟩
      · exact (stepU_ok hU hl (ih _ _ _ _ _ h (hU.step o d gd e1) hi hs)).2
      · exact flush hout hs
      · exact flush hout hs

/-- Behind a flush. -/
theorem Holds.flush {σ : List (Nat × Ex)} {kn : List Nat} {ρ : Env} {m : Mem} {a : Act} (h : Holds sp G N σ kn ρ m a) (keep : Nat × Ex → Bool) (hk : ∀ p q, p.1 = q.1 → keep p = keep q)
    (hG : ∀ p, G p.1 = true → keep p = true) {l : List (Nat × Value)} (hl : evL sp m ρ (σ.filter keep).reverse = some l) :
    Holds sp G N [] (((σ.filter keep).reverse.map (·.1)) ++ kn.filter fun t => (σ.lookup t).isNone) (ρ.upds l) m a := by
  have hlook : ∀ (σ : List (Nat × Ex)) t, (σ.filter keep).lookup t = if keep (t, .nl) then σ.lookup t else none := by
    intro σ t
    induction σ with
    | nil => simp
    | cons p σ ih =>
      obtain ⟨i, e⟩ := p
      by_cases hp : keep (i, e) = true
      · rw [List.filter_cons_of_pos hp, List.lookup_cons, List.lookup_cons, ih]
        by_cases ht : t = i
        · subst ht
          have : keep (t, .nl) = true := by rw [← hp]; exact hk _ _ rfl
          simp only [this, beq_self_eq_true, if_true]
        · have hb : (t == i) = false := by simp [ht]
          simp [hb]
      · rw [List.filter_cons_of_neg hp, List.lookup_cons, ih]
        by_cases ht : t = i
        · subst ht
          have : keep (t, .nl) = false := by
            have := hk (t, .nl) (t, e) rfl
            rw [this]; simpa using hp
          simp [this]
        · have hb : (t == i) = false := by simp [ht]
          simp [hb]
  have hf := flush_at _ l hl
  refine ⟨h.size, h.defers, fun t e ht => by simp at ht, fun t _ ht => ?_⟩
  have hft := hf t
  rw [hlook] at hft
  cases hs : σ.lookup t with
  | none =>
    rw [hs] at hft
    simp only [ite_self] at hft
    rw [hft]
    refine h.there t hs ?_
    rcases ht with ht | ht
    · exact .inl ht
    · rcases List.mem_append.1 ht with ht | ht
      · simp only [List.mem_map, List.mem_reverse, List.mem_filter] at ht
        obtain ⟨p, ⟨hp, _⟩, rfl⟩ := ht
        exfalso
        have := List.lookup_eq_none_iff.1 hs p hp
        simp at this
      · exact .inr (List.mem_filter.1 ht).1
  | some e =>
    rw [hs] at hft
    have hkeep : keep (t, .nl) = true := by
      rcases ht with ht | ht
      · exact hG (t, .nl) ht
      · rcases List.mem_append.1 ht with ht | ht
        · simp only [List.mem_map, List.mem_reverse, List.mem_filter] at ht
          obtain ⟨p, ⟨_, hp⟩, rfl⟩ := ht
          rw [← hp]; exact hk _ _ rfl
        · have := (List.mem_filter.1 ht).2
          simp [hs] at this
    simp only [hkeep, if_true] at hft
    have := h.here t e hs
    rw [this] at hft
    exact Option.some.inj hft

theorem guardDst_wanted {ops : Array Oper} {o : Oper} {gd : Option (Nat × Bool)} (hg : guardDst ops o = some gd) (a : Act) :
    (gd = none → Region.wanted o (yielded ops a.tmps) = true) ∧ ∀ d w b, gd = some (d, w) → d < a.tmps.size → a.eval (.tmp d) = .bool b → Region.wanted o (yielded ops a.tmps) = (b == w) := by
  unfold guardDst at hg
  constructor
  · rintro rfl
    cases ho : o.guard with
    | none => simp [Region.wanted, ho]
    | some p =>
      rw [ho] at hg
      obtain ⟨j, w'⟩ := p
      simp only [Option.map_eq_some_iff] at hg
      obtain ⟨d', _, h1⟩ := hg
      cases h1
  · rintro d w b rfl hd hb
    cases ho : o.guard with
    | none => rw [ho] at hg; simp at hg
    | some p =>
      obtain ⟨j, w'⟩ := p
      rw [ho] at hg
      simp only [Option.map_eq_some_iff, Option.some.injEq, Prod.mk.injEq] at hg
      obtain ⟨d', hd', h1, h2⟩ := hg
      subst h1; subst h2
      have hc : a.tmps[d']? = some (.bool b) := by
        simp only [Act.eval, Array.getD_eq_getD_getElem?] at hb
        rw [Array.getElem?_eq_getElem hd] at hb ⊢
        simpa using hb
      simp only [Region.wanted, ho, yielded, hd', Option.bind_some, hc]
      cases b <;> cases w' <;> rfl
theorem guardDst_off {ops : Array Oper} {o : Oper} {d : Nat} {w : Bool} (hg : guardDst ops o = some (some (d, w))) (a : Act) (hb : ∀ b, a.eval (.tmp d) ≠ .bool b) : Region.wanted o (yielded ops a.tmps) = false := by
  unfold guardDst at hg
  cases ho : o.guard with
  | none => rw [ho] at hg; simp at hg
  | some p =>
    obtain ⟨j, w'⟩ := p
    rw [ho] at hg
    simp only [Option.map_eq_some_iff, Option.some.injEq, Prod.mk.injEq] at hg
    obtain ⟨d', hd', h1, h2⟩ := hg
    subst h1; subst h2
    simp only [Region.wanted, ho, yielded, hd', Option.bind_some]
    cases hc : a.tmps[d']? with
    | none => rfl
    | some v =>
      cases v with
      | bool b => exact (hb b (by simp [Act.eval, Array.getD_eq_getD_getElem?, hc])).elim
      | _ => rfl
theorem knownT_of_env {σ : List (Nat × Ex)} {kn : List Nat} {ρ : Env} {m : Mem} {a : Act} (h : Holds sp G N σ kn ρ m a) {t : Nat} (ht : knownT G σ kn t = true) : ev sp m ρ (opd σ (.tmp t)) = some (a.eval (.tmp t)) :=
  h.opd (x := .tmp t) ht

/-- One more slot by an expression. -/
theorem Holds.push {σ : List (Nat × Ex)} {kn : List Nat} {ρ : Env} {m : Mem} {a : Act} (h : Holds sp G N σ kn ρ m a) {d : Nat} (hd : d < N) {e : Ex} {v : Value} (he : ev sp m ρ e = some v) :
    Holds sp G N ((d, e) :: σ) kn ρ m (a.put (some d) v) := by
  refine ⟨by rw [size_put]; exact h.size, by rw [defers_put]; exact h.defers, fun t e' ht => ?_, fun t ht hk => ?_⟩
  · by_cases htd : t = d
    · subst htd
      simp only [List.lookup_cons, beq_self_eq_true, Option.some.injEq] at ht
      subst ht
      rw [eval_put_same (by rw [h.size]; exact hd)]; exact he
    · have hb : (t == d) = false := by simp [htd]
      simp only [List.lookup_cons, hb] at ht
      rw [eval_put_ne htd]; exact h.here t e' ht
  · by_cases htd : t = d
    · subst htd
      simp at ht
    · have hb : (t == d) = false := by simp [htd]
      simp only [List.lookup_cons, hb] at ht
      rw [eval_put_ne htd]; exact h.there t ht hk

theorem decOps_sound (hsp : sp.Sound P) (ops : Array Oper) {K : Env → Mem → Prop} {X : Nat → Env → Mem → Prop} {R : Env → Mem → Prop} {w0 : World} {Q : Exit → Act → World → Prop}
    (hQ : ∀ a w m ρ, Sat w0 w m → Agree G N a ρ → K ρ m → Q .normal a w) :
    ∀ (n : Nat) (rest : List Oper) (σ : List (Nat × Ex)) (U : List Pend) (kn : List Nat) (s : St), decOps P ro G N ops n rest σ U kn = some s → UOk σ U →
    ∀ (ρ : Env) (m : Mem) (a : Act) (w : World), Sat w0 w m → Holds sp G N σ kn ρ m a → wpS P sp G N s K X R ρ m → wpList P ops Q rest a w := by
  intro n
  induction n with
  | zero => intro rest σ U kn s h; simp [decOps] at h
  | succ n ih =>
  intro rest
  cases rest with
  | nil =>
    intro σ U kn s h hU ρ m a w hs hh hw
    simp only [decOps, Option.some.injEq] at h
    subst h
    obtain ⟨_, l, hl, hK⟩ := hw ⟨w0, w, hs⟩
    have hf := hh.flush (keepP G ops []) (fun p q hpq => by simp [keepP, hpq]) (fun p hp => by simp [keepP, hp]) hl
    exact hQ a w m _ hs ⟨hf.size, hf.defers, fun t ht => hf.there t rfl (.inl ht)⟩ hK
  | cons o r =>
    intro σ U kn s h hU ρ m a w hs hh hw
    rcases decOps_inv h with ⟨gd, e, d, hg, hl, hd, hdN, hops, hgd, h⟩ | ⟨gd, s', hg, hdst, hops, hgd, h2, rfl⟩ | ⟨d, ty, k, y, r2, s', hpb, hky, h2, rfl⟩
    · have hall := (stepU_ok hU hl (decOps_all ops n r _ _ _ _ h (hU.step o d gd e) ⟨w0, w, hs⟩ hw)).1
      have hgw := guardDst_wanted hg a
      have H : ∀ x ∈ o.op.operands, ∀ u, ev sp m ρ (opd σ x) = some u → a.eval x = u := by
        intro x hx u hu
        have hk := Array.all_eq_true_iff_forall_mem.1 hops x hx
        have := hh.opd hk
        rw [hu] at this; exact (Option.some.inj this).symm
      have run : ∀ v, ev sp m ρ e = some v → ev sp m ρ (wrapG σ gd e) = some v → Region.wanted o (yielded ops a.tmps) = true → wpList P ops Q (o :: r) a w := by
        intro v hv hv' hwant
        refine wpList_step fun K' hK' => ?_
        rw [if_pos hwant]
        refine low_wp hsp hl hv H hs fun w' hs' => hK' _ _ ?_
        rw [hd]
        exact ih _ _ _ _ _ h (hU.step o d gd e) ρ m _ w' hs' (hh.push hdN hv') hw
      obtain ⟨v, hv⟩ := Option.isSome_iff_exists.1 hall
      cases gd with
      | none =>
        exact run v hv hv (hgw.1 rfl)
      | some p =>
        obtain ⟨dj, wt⟩ := p
        simp only [gdOk, Bool.and_eq_true, decide_eq_true_eq] at hgd
        obtain ⟨hk, hdj⟩ := hgd
        have hc := knownT_of_env hh hk
        have hv0 := hv
        simp only [wrapG] at hv
        rw [Ex.mkGrd_ev] at hv
        simp only [ev, hc, Option.bind_some] at hv
        cases hbv : a.eval (.tmp dj) with
        | bool b =>
          rw [hbv] at hv
          simp only [grdK] at hv
          have hwt := hgw.2 dj wt b rfl (by rw [hh.size]; exact hdj) hbv
          by_cases hb : b = wt
          · rw [if_pos hb] at hv
            refine run v hv hv0 (by rw [hwt]; simp [hb])
          · rw [if_neg hb] at hv
            cases hv
            refine wpList_step fun K' hK' => ?_
            rw [if_neg (by rw [hwt]; simp [hb])]
            refine hK' _ _ ?_
            rw [hd]
            exact ih _ _ _ _ _ h (hU.step o _ _ e) ρ m _ w hs (hh.push hdN hv0) hw
        | _ =>
          rw [hbv] at hv
          simp only [grdK] at hv
          cases hv
          refine wpList_step fun K' hK' => ?_
          rw [if_neg (by rw [guardDst_off hg a (by rw [hbv]; intro b hh; cases hh)]; simp)]
          refine hK' _ _ ?_
          rw [hd]
          exact ih _ _ _ _ _ h (hU.step o _ _ e) ρ m _ w hs (hh.push hdN hv0) hw
    · obtain ⟨_, l, hl, he⟩ := hw ⟨w0, w, hs⟩
      have hf := hh.flush (keepP G ops (o :: r)) (fun p q hpq => by simp [keepP, hpq]) (fun p hp => by simp [keepP, hp]) hl
      have hthere : ∀ x, knownO G [] (knP G ops (o :: r) σ kn) x = true → a.eval x = (ρ.upds l).of x := by
        intro x hk
        cases x with
        | tmp t =>
          simp only [knownO, knownT, List.lookup_nil, Option.isSome_none, Bool.false_or, Bool.or_eq_true] at hk
          have hk : G t = true ∨ t ∈ knP G ops (o :: r) σ kn := by simpa using hk
          exact hf.there t rfl hk
        | _ => rfl
      -- what follows, once the slot is set
      have hnext : ∀ v m' w', Sat w0 w' m' → wpS P sp G N s' K X R ((ρ.upds l).updO o.dst v) m' → wpList P ops Q r (a.put o.dst v) w' := by
        intro v m' w' hs' hK
        refine ih _ _ _ _ _ h2 (fun u hu => by cases hu) _ m' _ w' hs' ?_ hK
        refine ⟨by rw [size_put]; exact hf.size, by rw [defers_put]; exact hf.defers, fun t e' ht => by simp at ht, fun t _ hk => ?_⟩
        cases ho : o.dst with
        | none =>
          rw [ho] at hk
          show a.eval (.tmp t) = _
          have hk : G t = true ∨ t ∈ knP G ops (o :: r) σ kn := by simpa using hk
          exact hf.there t rfl hk
        | some d =>
          rw [ho] at hk hdst
          simp only [dstOk, decide_eq_true_eq] at hdst
          by_cases htd : t = d
          · subst htd
            rw [eval_put_same (by rw [hf.size]; exact hdst)]
            simp [Env.updO, Env.upd]
          · rw [eval_put_ne htd]
            simp only [Env.updO, Env.upd, if_neg htd]
            refine hf.there t rfl ?_
            rcases hk with hk | hk
            · exact .inl hk
            · simp only [Option.toList_some, List.singleton_append, List.mem_cons] at hk
              rcases hk with hk | hk
              · exact absurd hk htd
              · exact .inr hk
      have hgo : Region.wanted o (yielded ops a.tmps) = true → wpS P sp G N (effSt P o) (fun ρ' m' => wpS P sp G N s' K X R ρ' m') X R (ρ.upds l) m → wpList P ops Q (o :: r) a w := by
        intro hwant he
        refine wpList_step fun K' hK' => ?_
        rw [if_pos hwant]
        have he2 : EffM P (Oper.bare o) (ρ.upds l) (fun v m' => wpS P sp G N s' K X R ((ρ.upds l).updO o.dst v) m') m := by
          unfold effSt at he
          split at he
          · rename_i e1 heo; exact effOf_sound heo he
          · exact he
        have heff := he2 w0 w a hs fun x hx => hthere x (Array.all_eq_true_iff_forall_mem.1 hops x hx)
        rw [wp_bare] at heff
        refine Oper.wp_mono2 (fun a' w' h1 => ?_) heff
        obtain ⟨v, m', rfl, hs', hK⟩ := h1
        exact hK' _ _ (hnext v m' w' hs' hK)
      have hskip : Region.wanted o (yielded ops a.tmps) = false → wpS P sp G N (match o.dst with | some d => .sets [(d, .k undef)] [] | none => .nop) (fun ρ' m' => wpS P sp G N s' K X R ρ' m') X R (ρ.upds l) m → wpList P ops Q (o :: r) a w := by
        intro hwant he
        refine wpList_step fun K' hK' => ?_
        rw [if_neg (by rw [hwant]; simp)]
        refine hK' _ _ (hnext undef m w hs ?_)
        cases ho : o.dst with
        | none => rw [ho] at he; exact he
        | some d =>
          rw [ho] at he
          obtain ⟨_, l', hl', hK⟩ := he ⟨w0, w, hs⟩
          simp only [evL, ev, Option.bind_some, Option.map_some, Option.some.injEq] at hl'
          subst hl'
          exact hK
      have hgw := guardDst_wanted hg a
      cases gd with
      | none => exact hgo (hgw.1 rfl) he
      | some p =>
        obtain ⟨dj, wt⟩ := p
        simp only [gdOk, Bool.and_eq_true, decide_eq_true_eq] at hgd
        obtain ⟨hk, hdj⟩ := hgd
        have hev : a.eval (.tmp dj) = (ρ.upds l) dj := hthere (.tmp dj) hk
        cases wt with
        | true =>
          obtain ⟨t, ht, h1, h2'⟩ := he ⟨w0, w, hs⟩
          simp only [ev, Option.some.injEq] at ht
          rw [ht] at hev
          have hwt := hgw.2 dj true t rfl (by rw [hf.size]; exact hdj) hev
          cases t
          · exact hskip (by rw [hwt]; rfl) (h2' rfl)
          · exact hgo (by rw [hwt]; rfl) (h1 rfl)
        | false =>
          obtain ⟨t, ht, h1, h2'⟩ := he ⟨w0, w, hs⟩
          simp only [ev, Option.some.injEq] at ht
          rw [ht] at hev
          have hwt := hgw.2 dj false t rfl (by rw [hf.size]; exact hdj) hev
          cases t
          · exact hgo (by rw [hwt]; rfl) (h2' rfl)
          · exact hskip (by rw [hwt]; rfl) (h1 rfl)
    · obtain ⟨_, l, hl, he⟩ := hw ⟨w0, w, hs⟩
      have hf := hh.flush (keepP G ops (o :: r)) (fun p q hpq => by simp [keepP, hpq]) (fun p hp => by simp [keepP, hp]) hl
      obtain ⟨t1, p1, f1, t2, p2, f2, inf, z, rfl, rfl, hi, hz, hdN, hzs, rfl, hyd⟩ := pairBox_inv hpb
      have hthere : ∀ x, knownO G [] (knP G ops (⟨some d, .alloc ty, t1, p1, f1, none⟩ :: ⟨none, .store ty (.tmp d) y, t2, p2, f2, none⟩ :: r2) σ kn) x = true → a.eval x = (ρ.upds l).of x := by
        intro x hk
        cases x with
        | tmp t =>
          simp only [knownO, knownT, List.lookup_nil, Option.isSome_none, Bool.false_or, Bool.or_eq_true] at hk
          have hk : G t = true ∨ t ∈ knP G ops (⟨some d, .alloc ty, t1, p1, f1, none⟩ :: ⟨none, .store ty (.tmp d) y, t2, p2, f2, none⟩ :: r2) σ kn := by simpa using hk
          exact hf.there t rfl hk
        | _ => rfl
      obtain ⟨hk, hp, fin, he⟩ := he
      have hyv := hthere y hky
      let b0 := w.heap.size
      have hb0 : m b0 = none := hs.fresh
      -- made
      refine wpList_step fun K1 hK1 => ?_
      rw [if_pos (by simp [Region.wanted])]
      refine wp_of_run (v := .pointer (some ⟨b0, 0, none⟩)) (w' := w.alloc (.cells z.cells ty)) ?_ (hK1 _ _ ?_)
      · have hzv : (zeroValue ty).run P w = .ok z w := by simp [zeroValue, typeInfo, hi, hz]
        simp only [execOp, Instr.alloc, Sem.run_bind, hzv, Result.andThen_ok, newVar, newRow, newObj]
        rfl
      have hs1 : Sat w0 (w.alloc (.cells z.cells ty)) (m.ins b0 (.cells ty z.cells.size false z.cells.toList)) := hs.new ty z.cells false
      -- filled
      have hyv' : (a.put (some d) (.pointer (some ⟨b0, 0, none⟩))).eval y = (ρ.upds l).of y := by
        rw [← hyv]
        cases y with
        | tmp t => exact eval_put_ne fun e => hyd (by rw [e])
        | _ => rfl
      obtain ⟨w2, hr, hs2⟩ := run_storeM (P := P) hs1 (Mem.ins_same _ _ _) (Nat.zero_le _) (vs := ((ρ.upds l).of y).cells.toList) (by simp; omega) hp
      refine wpList_step fun K2 hK2 => ?_
      rw [if_pos (by simp [Region.wanted])]
      have hrun : (execOp (a.put (some d) (.pointer (some ⟨b0, 0, none⟩))).eval ⟨none, .store ty (.tmp d) y, t2, p2, f2, none⟩).run P (w.alloc (.cells z.cells ty)) = .ok .skip w2 := by
        have h1 : (a.put (some d) (.pointer (some ⟨b0, 0, none⟩))).eval (.tmp d) = .pointer (some ⟨b0, 0, none⟩) := eval_put_same (by rw [hf.size]; exact hdN)
        have hz2 : (Go.sizeOf ty).run P (w.alloc (.cells z.cells ty)) = .ok inf.size (w.alloc (.cells z.cells ty)) := by simp [Go.sizeOf, typeInfo, hi]
        simp only [execOp, h1, hyv', Instr.storeAt, Instr.sureAddr, storeVar, Sem.run_bind, Sem.run_pure, Result.andThen_ok, hz2, hk]
        simp only [ne_eq, not_true_eq_false, if_false, hr, Result.andThen_ok]
      unfold Go.Oper.wp
      rw [hrun]
      refine hK2 _ _ ?_
      have hsp : spl z.cells.toList 0 ((ρ.upds l).of y).cells.toList = ((ρ.upds l).of y).cells.toList := by
        simp only [spl, List.take_zero, List.nil_append, Nat.zero_add]
        rw [List.drop_eq_nil_of_le (by simp; omega), List.append_nil]
      rw [hsp, hzs] at hs2
      have hii : ∀ (Y Z : Blk), (m.ins b0 Y).ins b0 Z = m.ins b0 Z := fun Y Z => by
        funext x; unfold Mem.ins; split <;> rfl
      rw [hii] at hs2
      have hs3 : Sat w0 w2 (m.ins b0 (.cells ty inf.size fin ((ρ.upds l).of y).cells.toList)) := by
        cases fin with
        | false => exact hs2
        | true => have := hs2.seal (Mem.ins_same _ _ _); rw [hii] at this; exact this
      refine ih _ _ _ _ _ h2 (fun u hu => by cases hu) _ _ _ w2 hs3 ?_ (he b0 _ hb0 rfl)
      refine ⟨by simp only [size_put]; exact hf.size, by simp only [defers_put]; exact hf.defers, fun t e' ht => by simp at ht, fun t _ hk' => ?_⟩
      show (a.put (some d) (.pointer (some ⟨b0, 0, none⟩))).eval (.tmp t) = _
      by_cases htd : t = d
      · subst htd
        rw [eval_put_same (by rw [hf.size]; exact hdN)]
        simp [Env.updO, Env.upd]
      · rw [eval_put_ne htd]
        simp only [Env.updO, Env.upd, if_neg htd]
        refine hf.there t rfl ?_
        rcases hk' with hk' | hk'
        · exact .inl hk'
        · rcases List.mem_cons.1 hk' with hk' | hk'
          · exact absurd hk' htd
          · exact .inr hk'
end sound
end Go.Proofs.Ytaifmmeghninhaa.Mw
