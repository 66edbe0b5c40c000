/- Bytes and programs, there and back. Plain. No condition. -/
import Derived.Test.YtaifmmeghninhaaKl
namespace Go.Proofs.Ytaifmmeghninhaa.Pf
open Go Go.RowKit Go.Proofs Go.Proofs.Ytaifmmeghninhaa.Mw Go.Proofs.Ytaifmmeghninhaa.Sx
set_option linter.unusedVariables false
set_option linter.unusedSimpArgs false
theorem nextP_u8 {x : Int} (h0 : 0 ≤ x) (h1 : x < 256) (r : List UInt8) (e : Bool) : nextP (u8 x :: r, e) = (x, (r, e)) := by
  simp only [nextP, u8_nat, Int.emod_eq_of_lt h0 h1]
theorem nextP_u8' (x : Int) (r : List UInt8) (e : Bool) : nextP (u8 x :: r, e) = (x % 256, (r, e)) := by
  simp only [nextP, u8_nat]
theorem mayB_kind {x : Ins} (h : mayB x = true) : 0 ≤ x.kind ∧ x.kind ≤ 16 := by
  unfold mayB at h
  split at h
  · cases h
  · omega
theorem mayB_num {x : Ins} (h : mayB x = true) (hk : x.kind = 0) : -2147483648 ≤ x.a ∧ x.a ≤ 2147483647 := by
  unfold mayB at h
  rw [if_neg (by omega), if_pos hk] at h
  unfold isB at h
  simpa using h
theorem mayB_has {x : Ins} (h : mayB x = true) (hk : ¬ x.kind = 0) : 0 ≤ x.a ∧ x.a < 64 ∧ (hasB x.kind = false → x.a = 0) := by
  have h1 := mayB_kind h
  unfold mayB at h
  rw [if_neg (by omega), if_neg hk] at h
  simp only [Bool.and_eq_true, decide_eq_true_eq] at h
  obtain ⟨h2, h3⟩ := h
  refine ⟨h2, ?_, fun hh => ?_⟩
  · unfold belowF at h3
    split at h3
    · omega
    · split at h3
      · omega
      · split at h3 <;> omega
  · unfold hasB at hh
    simp only [Bool.or_eq_false_iff, decide_eq_false_iff_not] at hh
    unfold belowF at h3
    rw [if_neg (by omega), if_neg (by omega), if_neg (by omega)] at h3
    omega
theorem insP_put {x : Ins} (h : mayB x = true) (r : List UInt8) : insP (insB x ++ r, false) = (x, (r, false)) := by
  have hk := mayB_kind h
  obtain ⟨k, a⟩ := x
  simp only at hk
  unfold insP insB
  by_cases h0 : k = 0
  · have hn := mayB_num h h0
    simp only at hn
    subst h0
    simp only [if_true, List.cons_append, List.nil_append, nextP_u8', Int.reduceMod]
    congr 2
    unfold num4 wrap32
    omega
  · have hn := mayB_has h h0
    simp only at hn
    simp only [h0, if_false, List.cons_append, nextP_u8 hk.1 (show k < 256 by omega)]
    cases hb : hasB k with
    | true =>
      simp only [if_true, List.cons_append, List.nil_append, nextP_u8 hn.1 (show a < 256 by omega)]
    | false =>
      have := hn.2.2 hb
      subst this
      simp
theorem codeP_put : ∀ (l : List Ins) (_ : l.all mayB = true) (r : List UInt8), codeP l.length (l.flatMap insB ++ r, false) = (l, (r, false))
  | [], _, r => rfl
  | x :: l, h, r => by
    simp only [List.all_cons, Bool.and_eq_true] at h
    have h1 := insP_put h.1 (l.flatMap insB ++ r)
    have h2 := codeP_put l h.2 r
    simp only [List.length_cons, List.flatMap_cons, List.append_assoc, codeP, h1, h2]
    rfl
theorem fnB_in {f : Fnc} (h : fnB f = true) : 0 ≤ f.args ∧ f.args ≤ 4 ∧ 0 ≤ f.locals ∧ f.locals ≤ 8 ∧ 1 ≤ f.code.length ∧ f.code.length ≤ 64 ∧ f.code.all mayB = true := by
  unfold fnB fmayB at h
  simp only [Bool.and_eq_true, decide_eq_true_eq] at h
  exact ⟨by omega, by omega, by omega, by omega, by omega, by omega, h.2.2⟩
theorem fncP_put {f : Fnc} (h : fnB f = true) (r : List UInt8) : fncP (fncB f ++ r, false) = (f, (r, false)) := by
  obtain ⟨h1, h2, h3, h4, h5, h6, h7⟩ := fnB_in h
  unfold fncP fncB
  simp only [List.cons_append, nextP_u8 h1 (show f.args < 256 by omega), nextP_u8 h3 (show f.locals < 256 by omega), nextP_u8 (show (0 : Int) ≤ f.code.length by omega) (show (f.code.length : Int) < 256 by omega), Int.toNat_natCast, codeP_put f.code h7 r]
theorem fncsP_put : ∀ (l : List Fnc) (_ : l.all fnB = true) (r : List UInt8), fncsP l.length (l.flatMap fncB ++ r, false) = (l, (r, false))
  | [], _, r => rfl
  | x :: l, h, r => by
    simp only [List.all_cons, Bool.and_eq_true] at h
    have h1 := fncP_put h.1 (l.flatMap fncB ++ r)
    have h2 := fncsP_put l h.2 r
    simp only [List.length_cons, List.flatMap_cons, List.append_assoc, fncsP, h1, h2]
    rfl
theorem packB_in {p : List Fnc} (h : packB p = true) : 1 ≤ p.length ∧ p.length ≤ 8 ∧ p.all fnB = true := by
  unfold packB at h
  simp only [Bool.and_eq_true, decide_eq_true_eq] at h
  exact ⟨h.1.1, h.1.2, h.2⟩
theorem prgP_put {p : List Fnc} (h : packB p = true) (r : List UInt8) : prgP ((putB p).drop 3 ++ r) = (p, (r, false)) := by
  obtain ⟨h1, h2, h3⟩ := packB_in h
  unfold prgP putB
  simp only [List.drop_succ_cons, List.drop_zero, List.cons_append, nextP_u8 (show (0 : Int) ≤ p.length by omega) (show (p.length : Int) < 256 by omega), Int.toNat_natCast, fncsP_put p h3 r]
theorem getR_put {p : List Fnc} (h : packB p = true) : getR (putB p) = (p, 0) := by
  have := prgP_put h []
  rw [List.append_nil] at this
  unfold getR
  rw [this]
  exact if_pos ⟨rfl, h, rfl⟩
theorem getR_ok {l : List UInt8} (h : (getR l).2 = 0) : packB (getR l).1 = true ∧ putB (getR l).1 = l := by
  unfold getR at h ⊢
  split at h
  · rename_i hc
    rw [if_pos hc]
    exact ⟨hc.2.1, hc.2.2⟩
  · cases h
theorem getR_no {l : List UInt8} (h : ¬ (getR l).2 = 0) : getR l = ([], 300) := by
  unfold getR at h ⊢
  split at h
  · exact absurd rfl h
  · rename_i hc; rw [if_neg hc]
theorem getR_take {p : List Fnc} (h : packB p = true) {k : Nat} (hk : k ≤ (putB p).length) : (getR ((putB p).take k)).2 = 0 ↔ k = (putB p).length := by
  constructor
  · intro h0
    obtain ⟨h1, h2⟩ := getR_ok h0
    have e1 : putB p = putB (getR ((putB p).take k)).1 ++ (putB p).drop k := by rw [h2, List.take_append_drop]
    have e2 := prgP_put h1 ((putB p).drop k)
    have e3 := prgP_put h []
    have e4 : (putB p).drop 3 = (putB (getR ((putB p).take k)).1).drop 3 ++ (putB p).drop k := by
      conv => lhs; rw [e1]
      rw [List.drop_append_of_le_length (by simp [putB])]
    rw [← e4] at e2
    rw [List.append_nil, e2] at e3
    have e5 : (putB p).drop k = [] := by
      have := congrArg (fun z => z.2.1) e3
      simpa using this
    have := List.drop_eq_nil_iff.1 e5
    omega
  · rintro rfl
    rw [List.take_length, getR_put h]
theorem putB_len {p : List Fnc} (h : packB p = true) : (putB p).length ≤ 2588 := by
  obtain ⟨h1, h2, h3⟩ := packB_in h
  have := fncs_len (l := p) fun f hf => (fnB_in (List.all_eq_true.1 h3 f hf)).2.2.2.2.2.1
  simp only [putB, List.length_cons]
  omega
end Go.Proofs.Ytaifmmeghninhaa.Pf
