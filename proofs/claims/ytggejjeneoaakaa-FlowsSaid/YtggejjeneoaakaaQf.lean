/- What is reached, as a list that is computed, and as what can be come to. No condition. -/
import Derived.Test.YtggejjeneoaakaaQd
namespace Go.Proofs.Ytggejjeneoaakaa.Pf
open Go Go.RowKit Go.Proofs Go.Proofs.Ytggejjeneoaakaa.Mw Go.Proofs.Ytggejjeneoaakaa.Sx
set_option linter.unusedVariables false
set_option linter.unusedSimpArgs false
def LeB : List Bool → List Bool → Prop
  | [], [] => True
  | a :: l, b :: m => (a = true → b = true) ∧ LeB l m
  | _, _ => False
theorem LeB.refl : ∀ l, LeB l l
  | [] => trivial
  | a :: l => ⟨id, LeB.refl l⟩
theorem LeB.trans : ∀ {a b c : List Bool}, LeB a b → LeB b c → LeB a c
  | [], [], [], _, _ => trivial
  | x :: a, y :: b, z :: c, h, k => ⟨fun e => k.1 (h.1 e), LeB.trans h.2 k.2⟩
theorem LeB.len : ∀ {a b : List Bool}, LeB a b → a.length = b.length
  | [], [], _ => rfl
  | x :: a, y :: b, h => by simp [LeB.len h.2]
theorem LeB.count : ∀ {a b : List Bool}, LeB a b → a.count true ≤ b.count true
  | [], [], _ => Nat.le_refl _
  | x :: a, y :: b, h => by
    have := LeB.count h.2
    have h1 := h.1
    cases x <;> cases y <;> simp_all <;> omega
theorem LeB.eq : ∀ {a b : List Bool}, LeB a b → b.count true ≤ a.count true → a = b
  | [], [], _, _ => rfl
  | x :: a, y :: b, h, hc => by
    have h1 := h.1
    have h2 := LeB.count h.2
    cases x <;> cases y <;> simp at h1 hc
    · rw [LeB.eq h.2 hc]
    · omega
    · rw [LeB.eq h.2 hc]
theorem LeB.set : ∀ (l : List Bool) (i : Nat), LeB l (l.set i true)
  | [], _ => trivial
  | a :: l, 0 => ⟨fun _ => rfl, LeB.refl l⟩
  | a :: l, i + 1 => ⟨id, LeB.set l i⟩
theorem LeB.get : ∀ {a b : List Bool} {i : Nat}, LeB a b → a[i]? = some true → b[i]? = some true
  | [], [], i, _, h => by simp at h
  | x :: a, y :: b, 0, h, e => by simp at e; simp [h.1 e]
  | x :: a, y :: b, i + 1, h, e => by simp at e ⊢; exact LeB.get h.2 e
variable (nx : Nat → List Nat)
def mark (o : List Bool) (l : List Nat) : List Bool := l.foldl (fun o y => o.set y true) o
theorem mark_le (o : List Bool) (l : List Nat) : LeB o (mark o l) := by
  induction l generalizing o with
  | nil => exact LeB.refl o
  | cons y l ih => exact (LeB.set o y).trans (ih _)
theorem mark_get {o : List Bool} {l : List Nat} {y : Nat} (hy : y ∈ l) (hl : y < o.length) : (mark o l)[y]? = some true := by
  induction l generalizing o with
  | nil => simp at hy
  | cons z l ih =>
    rcases List.mem_cons.1 hy with rfl | hy
    · exact (mark_le (o.set y true) l).get (by simp [hl])
    · exact ih (o := o.set z true) hy (by simpa using hl)
theorem mark_sound {o : List Bool} {l : List Nat} {y : Nat} (h : (mark o l)[y]? = some true) : o[y]? = some true ∨ y ∈ l := by
  induction l generalizing o with
  | nil => exact .inl h
  | cons z l ih =>
    rcases ih (o := o.set z true) h with h | h
    · rw [List.getElem?_set] at h
      split at h
      · rename_i e; exact .inr (by simp [e])
      · exact .inl h
    · exact .inr (by simp [h])
def sweep1 (o : List Bool) (i : Nat) : List Bool := if o[i]? = some true then mark o (nx i) else o
theorem sweep1_le (o : List Bool) (i : Nat) : LeB o (sweep1 nx o i) := by
  unfold sweep1; split
  · exact mark_le o _
  · exact LeB.refl o
def sweep (o : List Bool) : List Bool := (List.range o.length).foldl (sweep1 nx) o
theorem sweeps_le (l : List Nat) (o : List Bool) : LeB o (l.foldl (sweep1 nx) o) := by
  induction l generalizing o with
  | nil => exact LeB.refl o
  | cons i l ih => exact (sweep1_le nx o i).trans (ih _)
theorem sweeps_get {l : List Nat} {o : List Bool} {i y : Nat} (hi : i ∈ l) (ho : o[i]? = some true) (hy : y ∈ nx i) (hl : y < o.length) : (l.foldl (sweep1 nx) o)[y]? = some true := by
  induction l generalizing o with
  | nil => simp at hi
  | cons j l ih =>
    by_cases hij : i = j
    · subst hij
      refine (sweeps_le nx l (sweep1 nx o i)).get ?_
      unfold sweep1
      rw [if_pos ho]
      exact mark_get hy hl
    · rcases List.mem_cons.1 hi with h | hi
      · exact absurd h hij
      · exact ih (o := sweep1 nx o j) hi ((sweep1_le nx o j).get ho) (by rw [← (sweep1_le nx o j).len]; exact hl)
def ClosedB (o : List Bool) : Prop := ∀ i y, o[i]? = some true → y ∈ nx i → y < o.length → o[y]? = some true
theorem closed_of_fix {o : List Bool} (h : sweep nx o = o) : ClosedB nx o := fun i y hi hy hl => by
  have hlt : i < o.length := by
    rcases Nat.lt_or_ge i o.length with h | h
    · exact h
    · rw [List.getElem?_eq_none h] at hi; cases hi
  have := sweeps_get nx (l := List.range o.length) (List.mem_range.2 hlt) hi hy hl
  unfold sweep at h
  rwa [h] at this
def sweepN : Nat → List Bool → List Bool
  | 0, o => o
  | k + 1, o => sweepN k (sweep nx o)
theorem sweepN_fix : ∀ (k : Nat) (o : List Bool), o.length ≤ k + o.count true → sweep nx (sweepN nx k o) = sweepN nx k o
  | 0, o, h => by
    have hle : LeB o (sweep nx o) := sweeps_le nx _ o
    refine (LeB.eq hle ?_).symm
    have := List.count_le_length (a := true) (l := sweep nx o)
    have := hle.len
    omega
  | k + 1, o, h => by
    have hle : LeB o (sweep nx o) := sweeps_le nx _ o
    by_cases e : sweep nx o = o
    · have : ∀ k, sweepN nx k o = o := fun k => by
        induction k with
        | zero => rfl
        | succ k ih => show sweepN nx k (sweep nx o) = o; rw [e]; exact ih
      rw [this]; exact e
    · have hc := hle.count
      have : o.count true ≠ (sweep nx o).count true := fun hh => e (LeB.eq hle (by omega)).symm
      have hl := hle.len
      exact sweepN_fix k (sweep nx o) (by omega)
theorem sweepN_le : ∀ (k : Nat) (o : List Bool), LeB o (sweepN nx k o)
  | 0, o => LeB.refl o
  | k + 1, o => LeB.trans (sweeps_le nx _ o) (sweepN_le k (sweep nx o))
/-- What can be come to. -/
inductive Rch : Nat → Prop
  | zero : Rch 0
  | step {i y : Nat} : Rch i → y ∈ nx i → Rch y
def SoundB (o : List Bool) : Prop := ∀ i, o[i]? = some true → Rch nx i
theorem SoundB.mark {o : List Bool} (h : SoundB nx o) {i : Nat} (hi : Rch nx i) : SoundB nx (mark o (nx i)) := fun y hy => by
  rcases mark_sound hy with h' | h'
  · exact h y h'
  · exact .step hi h'
theorem SoundB.sweeps {l : List Nat} {o : List Bool} (h : SoundB nx o) : SoundB nx (l.foldl (sweep1 nx) o) := by
  induction l generalizing o with
  | nil => exact h
  | cons i l ih =>
    refine ih (o := sweep1 nx o i) ?_
    unfold sweep1; split
    · rename_i hi; exact h.mark nx (h i hi)
    · exact h
theorem SoundB.sweepN : ∀ {k : Nat} {o : List Bool}, SoundB nx o → SoundB nx (sweepN nx k o)
  | 0, o, h => h
  | k + 1, o, h => SoundB.sweepN (k := k) (o := sweep nx o) (SoundB.sweeps nx h)
def startB (n : Nat) : List Bool := (List.replicate n false).set 0 true
def reachB (n : Nat) : List Bool := sweepN nx n (startB n)
theorem startB_sound (n : Nat) : SoundB nx (startB n) := fun i hi => by
  unfold startB at hi
  rw [List.getElem?_set] at hi
  split at hi
  · rename_i e; subst e; exact .zero
  · rw [List.getElem?_replicate] at hi; split at hi <;> cases hi
theorem reachB_len (n : Nat) : (reachB nx n).length = n := by
  rw [reachB, ← (sweepN_le nx n (startB n)).len]; simp [startB]
/-- The one list that is sound, closed, and has the first one. -/
theorem reachB_eq {n : Nat} {o : List Bool} (hn : 0 < n) (hnx : ∀ i y, y ∈ nx i → y < n) (hl : o.length = n) (h0 : o[0]? = some true) (hs : SoundB nx o) (hc : ClosedB nx o) : o = reachB nx n := by
  have all : ∀ {o : List Bool}, o.length = n → o[0]? = some true → ClosedB nx o → ∀ i, Rch nx i → o[i]? = some true := fun hl h0 hc i hi => by
    induction hi with
    | zero => exact h0
    | step _ hy ih => exact hc _ _ ih hy (by rw [hl]; exact hnx _ _ hy)
  have hs' : SoundB nx (reachB nx n) := SoundB.sweepN nx (startB_sound nx n)
  have h0' : (reachB nx n)[0]? = some true := (sweepN_le nx n (startB n)).get (by simp [startB, hn])
  have hc' : ClosedB nx (reachB nx n) := closed_of_fix nx (sweepN_fix nx n (startB n) (by simp [startB]))
  have hl' := reachB_len nx n
  apply List.ext_getElem?
  intro i
  rcases Nat.lt_or_ge i n with hi | hi
  · rw [List.getElem?_eq_getElem (by omega), List.getElem?_eq_getElem (by omega)]
    congr 1
    rw [Bool.eq_iff_iff]
    refine ⟨fun h => ?_, fun h => ?_⟩
    · have := all hl' h0' hc' i (hs i (by rw [List.getElem?_eq_getElem (by omega), h]))
      rw [List.getElem?_eq_getElem (by omega)] at this
      simpa using this
    · have := all hl h0 hc i (hs' i (by rw [List.getElem?_eq_getElem (by omega), h]))
      rw [List.getElem?_eq_getElem (by omega)] at this
      simpa using this
  · rw [List.getElem?_eq_none (by omega), List.getElem?_eq_none (by omega)]
end Go.Proofs.Ytggejjeneoaakaa.Pf
