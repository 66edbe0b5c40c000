/- Code as statements: regions in a row. No condition. -/
import Derived.Test.YtaifmmeghninhaaMf
namespace Go.Proofs.Ytaifmmeghninhaa.Mw
open Go Go.RowKit
set_option linter.unusedVariables false
set_option linter.unusedSimpArgs false

section
variable {sp : Spec} {m : Mem} {ρ : Env}
theorem bind_l {α β : Type} {o : Option α} {f : α → Option β} (h : (o.bind f).isSome = true) : o.isSome = true := by
  cases o <;> simp_all
theorem bind_lr {α β γ : Type} {o : Option α} {q : Option β} {f : α → β → Option γ} (h : (o.bind fun x => q.bind fun y => f x y).isSome = true) : o.isSome = true ∧ q.isSome = true := by
  cases o <;> cases q <;> simp_all
theorem bind_3 {α β γ δ : Type} {o : Option α} {q : Option β} {r : Option γ} {f : α → β → γ → Option δ} (h : (o.bind fun x => q.bind fun y => r.bind fun z => f x y z).isSome = true) : o.isSome = true ∧ q.isSome = true ∧ r.isSome = true := by
  cases o <;> cases q <;> cases r <;> simp_all
theorem bind_4 {α β γ δ ε : Type} {o : Option α} {q : Option β} {r : Option γ} {s : Option δ} {f : α → β → γ → δ → Option ε} (h : (o.bind fun x => q.bind fun y => r.bind fun z => s.bind fun u => f x y z u).isSome = true) : o.isSome = true ∧ q.isSome = true ∧ r.isSome = true ∧ s.isSome = true := by
  cases o <;> cases q <;> cases r <;> cases s <;> simp_all
def trivial? : Ex → Bool
  | .s _ | .k _ | .nl => true
  | _ => false
theorem evL_some : ∀ {outs : List (Nat × Ex)} {l : List (Nat × Value)}, evL sp m ρ outs = some l → ∀ p ∈ outs, (ev sp m ρ p.2).isSome = true := by
  intro outs
  induction outs with
  | nil => intro l _ p hp; cases hp
  | cons q r ih =>
    intro l h p hp
    obtain ⟨i, e⟩ := q
    simp only [evL, Option.bind_eq_some_iff, Option.map_eq_some_iff] at h
    obtain ⟨v, hv, l', hl', rfl⟩ := h
    rcases List.mem_cons.1 hp with rfl | hp
    · simp [hv]
    · exact ih hl' p hp
theorem upds_append (ρ : Env) (l l' : List (Nat × Value)) : ρ.upds (l ++ l') = (ρ.upds l).upds l' := by
  induction l generalizing ρ with
  | nil => rfl
  | cons p l ih => obtain ⟨i, v⟩ := p; simp only [List.cons_append, Env.upds]; exact ih _
theorem evL_append : ∀ {a b : List (Nat × Ex)} {l : List (Nat × Value)}, evL sp m ρ (a ++ b) = some l → ∃ l1 l2, evL sp m ρ a = some l1 ∧ evL sp m ρ b = some l2 ∧ l = l1 ++ l2 := by
  intro a
  induction a with
  | nil => intro b l h; exact ⟨[], l, rfl, h, rfl⟩
  | cons q r ih =>
    intro b l h
    obtain ⟨i, e⟩ := q
    simp only [List.cons_append, evL, Option.bind_eq_some_iff, Option.map_eq_some_iff] at h
    obtain ⟨v, hv, l', hl', rfl⟩ := h
    obtain ⟨l1, l2, h1, h2, rfl⟩ := ih hl'
    exact ⟨(i, v) :: l1, l2, by simp [evL, hv, h1], h2, rfl⟩
/-- What the slots hold behind a flush: the newest expression's value. -/
theorem flush_at : ∀ (σ : List (Nat × Ex)) (l : List (Nat × Value)), evL sp m ρ σ.reverse = some l → ∀ t, match σ.lookup t with
    | some e => ev sp m ρ e = some (ρ.upds l t)
    | none => ρ.upds l t = ρ t := by
  intro σ
  induction σ with
  | nil => intro l h t; simp [evL] at h; subst h; simp [Env.upds]
  | cons p σ ih =>
    intro l h t
    obtain ⟨i, e⟩ := p
    rw [List.reverse_cons] at h
    obtain ⟨l1, l2, h1, h2, rfl⟩ := evL_append h
    simp only [evL, Option.bind_eq_some_iff, Option.map_eq_some_iff] at h2
    obtain ⟨v, hv, l', hl', rfl⟩ := h2
    cases hl'
    rw [upds_append]
    simp only [Env.upds, Env.upd_eq, List.lookup_cons]
    by_cases ht : t = i
    · subst ht; simp [hv]
    · have hb : (t == i) = false := by simp [ht]
      simp only [hb, if_neg ht]
      exact ih l1 h1 t
end
end Go.Proofs.Ytaifmmeghninhaa.Mw
