/- Xc Xd Yb Yc Zp Mr Mt Do Dp Lx: joined texts of this claim. No condition. -/
import Derived.Test.YticlgdhhnjpkjaaGreatDoorJljj
import Derived.Test.YticlgdhhnjpkjaaGreatDoorJljh
import Derived.Test.YticlgdhhnjpkjaaGreatDoorJljk
import Derived.Test.YticlgdhhnjpkjaaGreatDoorJljd
import Derived.WalkKit
import Derived.ProofKit
import Derived.OpenShut
import Derived.ShutString
import Derived.ChangeOld
import Derived.Below
import Derived.Carry
import Derived.SizedLaws
import Derived.ChangeSame
import Derived.ChangeVars
import Derived.JoinedOf
import Derived.LaidLaws
import Derived.LaidHandle
import Derived.Handed
import Derived.Stop.Joined
import Derived.Deep.Slices
import Derived.Test.YticlgdhhnjpkjaaGreatDoorRows
import Derived.Test.YticlgdhhnjpkjaaGreatDoorTie
import Derived.Test.YticlgdhhnjpkjaaGreatDoorCards
import Derived.Lib.SmallJoins
import Derived.SevenTiedAt
namespace Go.Proofs.YticlgdhhnjpkjaaGreatDoor.Pf
open Go Go.RowKit Go.Proofs Go.Proofs.YticlgdhhnjpkjaaGreatDoor.Mw Go.Proofs.YticlgdhhnjpkjaaGreatDoor.Sx
set_option linter.unusedVariables false
set_option linter.unusedSimpArgs false
set_option maxRecDepth 8000
def runG (code : List Irc) (L : List Bool) (from' : Nat) : Nat → Nat → Int → Nat × Int
  | 0, to, cost => (to, cost)
  | k + 1, to, cost => match code[to]? with
    | some x => if x.kind = 0 ∧ (to = from' ∨ L.getD to false = false) then runG code L from' k (to + 1) (cost + x.cost) else (to, cost)
    | none => (to, cost)
def runR (code : List Irc) (L : List Bool) (from' : Nat) : Nat × Int := runG code L from' (code.length - from') from' 0
end Go.Proofs.YticlgdhhnjpkjaaGreatDoor.Pf
namespace Go.Proofs.YticlgdhhnjpkjaaGreatDoor.Pf
open Go Go.RowKit Go.Proofs Go.Proofs.YticlgdhhnjpkjaaGreatDoor.Mw Go.Proofs.YticlgdhhnjpkjaaGreatDoor.Sx
set_option linter.unusedVariables false
set_option linter.unusedSimpArgs false
structure IrOk (p : List Fnc) (n mm i : Nat) (x : Irc) : Prop where
  c0 : 0 ≤ x.cost ∧ x.cost ≤ 256
  p0 : 0 ≤ x.pc ∧ x.pc < 64
  k0 : 0 ≤ x.kind ∧ x.kind ≤ 11
  go : x.kind = 4 ∨ x.kind = 5 → 0 ≤ x.k ∧ x.k < n ∧ ((i : Int) < x.k ∨ 0 < x.cost)
  ar : x.args.length ≤ 4
theorem ir_ok {p : List Fnc} (hp : packB p = true) {regs : Int} {n mm i : Nat} {x : Irc} (h : irMayB p regs n mm i x = true) : IrOk p n mm i x := by
  unfold irMayB at h
  rw [Bool.and_eq_true] at h
  obtain ⟨h0, h⟩ := h
  rw [Bool.and_eq_true, decide_eq_true_eq, decide_eq_true_eq] at h0
  obtain ⟨hc, hpc⟩ := h0
  have nil4 : x.args = [] → x.args.length ≤ 4 := fun h => by rw [h]; decide
  by_cases k0 : x.kind = 0 ∨ x.kind = 11
  · rw [if_pos k0] at h
    simp only [decide_eq_true_eq] at h
    exact ⟨hc, hpc, by omega, fun h => by omega, nil4 h.2.2.2.2.2⟩
  rw [if_neg k0] at h
  by_cases k1 : x.kind = 1
  · rw [if_pos k1] at h
    simp only [Bool.and_eq_true, decide_eq_true_eq] at h
    exact ⟨hc, hpc, by omega, fun h => by omega, nil4 h.2.2.2.2⟩
  rw [if_neg k1] at h
  by_cases k2 : x.kind = 2
  · rw [if_pos k2] at h
    simp only [Bool.and_eq_true, decide_eq_true_eq] at h
    exact ⟨hc, hpc, by omega, fun h => by omega, nil4 h.2.2.2.2⟩
  rw [if_neg k2] at h
  by_cases k3 : x.kind = 3
  · rw [if_pos k3] at h
    simp only [Bool.and_eq_true, decide_eq_true_eq] at h
    exact ⟨hc, hpc, by omega, fun h => by omega, nil4 h.2.2⟩
  rw [if_neg k3] at h
  by_cases k4 : x.kind = 4
  · rw [if_pos k4] at h
    simp only [Bool.and_eq_true, decide_eq_true_eq] at h
    exact ⟨hc, hpc, by omega, fun _ => h.1, nil4 h.2.2.2.2.2⟩
  rw [if_neg k4] at h
  by_cases k5 : x.kind = 5
  · rw [if_pos k5] at h
    simp only [Bool.and_eq_true, decide_eq_true_eq] at h
    exact ⟨hc, hpc, by omega, fun _ => h.1.2, nil4 h.2.2.2.2⟩
  rw [if_neg k5] at h
  by_cases k6 : x.kind = 6
  · rw [if_pos k6] at h
    simp only [Bool.and_eq_true, decide_eq_true_eq] at h
    refine ⟨hc, hpc, by omega, fun h => by omega, ?_⟩
    obtain ⟨⟨⟨_, h1, h2, h3, h4⟩, _⟩, _⟩ := h
    unfold argsOf at h4
    have hlt : x.k.toNat < p.length := by omega
    rw [List.getElem?_eq_getElem hlt] at h4
    have h4 : (x.args.length : Int) = p[x.k.toNat].args := h4
    have h5 := fnB_args (pack_fn hp _ (List.getElem_mem hlt))
    omega
  rw [if_neg k6] at h
  by_cases k7 : x.kind = 7
  · rw [if_pos k7] at h
    simp only [Bool.and_eq_true, decide_eq_true_eq] at h
    exact ⟨hc, hpc, by omega, fun h => by omega, nil4 h.2.2.2.2.2⟩
  rw [if_neg k7] at h
  by_cases k8 : x.kind = 8
  · rw [if_pos k8] at h
    simp only [Bool.and_eq_true, decide_eq_true_eq] at h
    exact ⟨hc, hpc, by omega, fun h => by omega, nil4 h.2.2.2.2.2⟩
  rw [if_neg k8] at h
  by_cases k9 : x.kind = 9
  · rw [if_pos k9] at h
    simp only [Bool.and_eq_true, decide_eq_true_eq] at h
    exact ⟨hc, hpc, by omega, fun h => by omega, nil4 h.2.2⟩
  rw [if_neg k9] at h
  by_cases k10 : x.kind = 10
  · rw [if_pos k10] at h
    simp only [Bool.and_eq_true, decide_eq_true_eq] at h
    exact ⟨hc, hpc, by omega, fun h => by omega, nil4 h.2.2.2.2.2⟩
  rw [if_neg k10] at h
  cases h
structure MayOk (p : List Fnc) (c : Cod) : Prop where
  v : verifyE p = 0
  n : 1 ≤ c.code.length ∧ c.code.length ≤ 256
  m : c.metas.length ≤ 64
  ir : ∀ (i : Nat) (h : i < c.code.length), IrOk p c.code.length c.metas.length i c.code[i]
  sz : ∀ m ∈ c.metas, SizeM m
  last : ∀ x, c.code[c.code.length - 1]? = some x → x.kind = 4 ∨ x.kind = 8
theorem part_sz {p : List Fnc} (hv : verifyE p = 0) {regs less : Int} (hl : 0 ≤ less) {x : Part} (h : partB p regs less x = true) : x.locals.length ≤ 8 ∧ x.stack.length ≤ 8 := by
  obtain ⟨hf0, hfl⟩ := part_fn h
  obtain ⟨n, hn⟩ := Int.eq_ofNat_of_zero_le hf0
  have hnl : n < p.length := by omega
  unfold partB at h
  simp only [Bool.and_eq_true, decide_eq_true_eq] at h
  obtain ⟨⟨⟨⟨h1, h2⟩, h3⟩, _⟩, _⟩ := h
  have hg := height_ge hv hnl x.pc
  rw [hn] at h1 h3
  have hloc := fn_loc (pack_fn (verify_ok hv).1 _ (List.getElem_mem hnl))
  unfold localsOf at h2
  rw [hn, Int.toNat_natCast, List.getElem?_eq_getElem hnl] at h2
  have h2 : (x.locals.length : Int) = p[n].locals := h2
  omega
theorem meta_sz {p : List Fnc} (hv : verifyE p = 0) {fn regs : Int} {m : List Part} (h : metaB p fn regs m = true) : SizeM m := by
  unfold metaB at h
  split at h
  · rename_i a
    simp only [Bool.and_eq_true, decide_eq_true_eq] at h
    have := part_sz hv (by decide) h.2
    refine ⟨by simp, fun x hx => ?_⟩
    simp at hx; subst hx; omega
  · rename_i a b
    simp only [Bool.and_eq_true, decide_eq_true_eq] at h
    have h1 := part_sz hv (by decide) h.1.1.2
    have h2 := part_sz hv (by decide) h.1.2
    refine ⟨by simp, fun x hx => ?_⟩
    simp at hx
    rcases hx with rfl | rfl <;> omega
  · cases h
theorem may_ok {p : List Fnc} {c : Cod} (h : codeMayB p c = true) : MayOk p c := by
  unfold codeMayB at h
  simp only [Bool.and_eq_true] at h
  obtain ⟨⟨⟨hh, hi⟩, hm⟩, hl⟩ := h
  have hh : _ := of_decide_eq_true hh
  obtain ⟨hv, _, _, _, _, _, n1, n2, m1⟩ := hh
  refine ⟨hv, ⟨by omega, by omega⟩, by omega, fun i hil => ?_, fun m hmm => ?_, fun x hx => ?_⟩
  · unfold irsB at hi
    rw [List.all_eq_true] at hi
    have := hi i (List.mem_range.2 hil)
    rw [List.getElem?_eq_getElem hil] at this
    exact ir_ok (verify_ok hv).1 this
  · exact meta_sz hv (List.all_eq_true.1 hm m hmm)
  · unfold lastB at hl
    rw [List.getLast?_eq_getElem?, hx] at hl
    exact of_decide_eq_true hl
end Go.Proofs.YticlgdhhnjpkjaaGreatDoor.Pf
namespace Go.Proofs.YticlgdhhnjpkjaaGreatDoor.Pf
open Go Go.RowKit Go.Proofs Go.Proofs.YticlgdhhnjpkjaaGreatDoor.Mw Go.Proofs.YticlgdhhnjpkjaaGreatDoor.Sx
set_option linter.unusedVariables false
set_option linter.unusedSimpArgs false
theorem irL_may {p : List Fnc} {f : Fnc} {x : Ins} {i : Nat} {v : Int} {N mm j : Nat} (st : List Int) (hx : mayB x = true) (hout : outB p f x = false) (hT : takesF x (argsF p x) ≤ v) (hP : v - takesF x (argsF p x) + putsF x ≤ 8)
    (hl : 0 ≤ f.locals ∧ f.locals ≤ 8) (hv : 0 ≤ v ∧ v ≤ 8) (hi : i < 64) (hargs : x.kind = 14 → 0 ≤ x.a ∧ x.a < p.length ∧ 0 ≤ argsOf p x.a ∧ argsOf p x.a ≤ 4)
    (hk : x.kind = 12 ∨ x.kind = 13 → 0 ≤ st.getD x.a.toNat 0 ∧ st.getD x.a.toNat 0 < N) : irMayB p (f.locals + 8) N mm j (placed st (irL p x i (f.locals + v))) = true := by
  have hk0 := may_kind hx
  by_cases h14 : x.kind = 14
  · obtain ⟨a1, a2, a3, a4⟩ := hargs h14
    have e : argsF p x = argsOf p x.a := by unfold argsF argsOf; rw [if_pos h14] <;> rfl
    simp [takesF, putsF, h14, e] at hT hP
    simp [irMayB, irL, placed, goesB, regB, h14]
    refine ⟨by omega, ⟨⟨by omega, by omega⟩, a1, a2, by omega⟩, fun y hy => ⟨by omega, by omega⟩⟩
  · clear hargs
    obtain ⟨k, a⟩ := x
    simp only at hk0 h14
    rcases hk0 with rfl | rfl | rfl | rfl | rfl | rfl | rfl | rfl | rfl | rfl | rfl | rfl | rfl | rfl | rfl | rfl | rfl
    all_goals simp [takesF, putsF, outB, mayB, belowF, isB] at hT hP hx hout hk
    all_goals simp [irMayB, irL, placed, goesB, regB, isB]
    all_goals omega
end Go.Proofs.YticlgdhhnjpkjaaGreatDoor.Pf
namespace Go.Proofs.YticlgdhhnjpkjaaGreatDoor.Pf
open Go Go.RowKit Go.Proofs Go.Proofs.YticlgdhhnjpkjaaGreatDoor.Mw Go.Proofs.YticlgdhhnjpkjaaGreatDoor.Sx
set_option linter.unusedVariables false
set_option linter.unusedSimpArgs false
theorem heights_end {p : List Fnc} (hp : packB p = true) {n : Nat} (hn : n < p.length) (h : (heightsR p (n : Int)).2.2 = 0) : plainE p p[n] (reachF p[n]) = none := by
  unfold heightsR at h
  rw [if_pos ⟨hp, by omega, by omega⟩] at h
  simp only [Int.toNat_natCast, List.getElem?_eq_getElem hn] at h
  split at h
  · rename_i pc e he
    exact absurd h (plainE_ne he)
  · rename_i he; exact he
theorem plainE_last {p : List Fnc} {f : Fnc} {r : List Bool} (h : plainE p f r = none) (hl : 1 ≤ f.code.length) (hr : r[f.code.length - 1]? = some true) : f.code[f.code.length - 1].kind = 12 ∨ f.code[f.code.length - 1].kind = 16 := by
  unfold plainE at h
  split at h
  · cases h
  · simp only at h
    split at h
    · cases h
    · rename_i h2
      simp only [List.getD_eq_getElem?_getD, hr, Option.getD_some, List.getElem?_eq_getElem (show f.code.length - 1 < f.code.length by omega)] at h2
      simp at h2
      by_cases h3 : f.code[f.code.length - 1].kind = 12
      · exact .inl h3
      · exact .inr (h2 h3)
theorem low_blk {p : List Fnc} {f : Fnc} {fn : Int} {hs : List Int} {i : Nat} {v : Int} (hv : hs[i]? = some v) (hne : v ≠ -1) (hi : i < f.code.length) : (lowS p f fn hs (i + 1)).code.length = (lowS p f fn hs i).code.length + (if backB f.code[i] i = true then 2 else 1) := by
  have e2 : f.code.getD i ⟨0, 0⟩ = f.code[i] := by rw [List.getD_eq_getElem?_getD, List.getElem?_eq_getElem hi] <;> rfl
  simp only [lowS, lowStep, low_getD hv, e2, if_neg hne]
  split <;> simp
structure LowOk (p : List Fnc) (n : Nat) : Prop where
  may : codeMayB p (lowF p (p.getD n ⟨0, 0, []⟩) n) = true
theorem ir_kind {p : List Fnc} {x : Ins} {pc top : Int} (h : x.kind = 12 ∨ x.kind = 16) : (irL p x pc top).kind = 4 ∨ (irL p x pc top).kind = 8 := by
  rcases h with h | h <;> simp [irL, h]
theorem placed_kind (st : List Int) (x : Irc) : (placed st x).kind = x.kind := by unfold placed; split <;> rfl
theorem lower_may {p : List Fnc} (h : verifyE p = 0) {n : Nat} (hn : n < p.length) : codeMayB p (lowF p p[n] n) = true := by
  obtain ⟨hpk, hall⟩ := verify_ok h
  have hHF := heights_hf hpk hn (hall n hn)
  have hend := heights_end hpk hn (hall n hn)
  have hloc := fn_loc hHF.fn
  have hmay := fn_may hHF.fn
  obtain ⟨hl1, hl2⟩ := fmay_le hmay
  have hp8 := pack_len hpk
  have hgp := pack_fn hpk
  have hhe : ∀ {i : Nat} {v : Int}, (heightsR p (n : Int)).1[i]? = some v → heightF p n i = v := fun hv => height_at (hall n hn) hv
  have eL : lowF p p[n] n = ⟨n, p[n].locals + 8, (lowS p p[n] n (heightsR p (n : Int)).1 p[n].code.length).code.map (placed (lowS p p[n] n (heightsR p (n : Int)).1 p[n].code.length).starts), (lowS p p[n] n (heightsR p (n : Int)).1 p[n].code.length).metas⟩ := rfl
  generalize hhs : (heightsR p (n : Int)).1 = hs at hHF hhe eL
  have hlen := hHF.hi.len
  have hln := low_len p p[n] n hs p[n].code.length
  have hlo : localsOf p n = p[n].locals := by unfold localsOf; rw [Int.toNat_natCast, List.getElem?_eq_getElem hn]
  rw [eL]
  unfold codeMayB
  simp only [Bool.and_eq_true]
  refine ⟨⟨⟨?_, ?_⟩, ?_⟩, ?_⟩
  · unfold headB
    have := low_in p p[n] n hs hHF.hi.zero (by decide) (show 0 < p[n].code.length by omega)
    simp only [List.length_map, hlo, decide_eq_true_eq]
    refine ⟨h, by omega, by omega, by omega, by omega, by omega, by omega, by omega, by omega⟩
  · unfold irsB
    rw [List.all_eq_true]
    intro j hj
    simp only [List.length_map, List.mem_range] at hj
    simp only [List.getElem?_map, List.getElem?_eq_getElem hj, Option.map_some, List.length_map]
    obtain ⟨i, hi, v, _, hv, hne, hc⟩ := low_at p p[n] n hs hlen (Nat.le_refl _) (List.getElem?_eq_getElem hj)
    obtain ⟨v0, v8, _⟩ := hHF.hi.val i v hv hne
    rcases hc with ⟨g1, g2, g3, g4⟩ | ⟨g1, g2⟩
    · rw [g3]
      simp [placed, goesB, irMayB]
      omega
    · rw [g1]
      obtain ⟨d1, d2, d3⟩ := hHF.hi.done i v _ hv hne (List.getElem?_eq_getElem hi) (by simp)
      have hout := hHF.out i hi v hv hne
      have hmx := fmay_ins hmay hi
      refine irL_may _ hmx hout d1 d2 (by omega) ⟨v0, v8⟩ (by omega) (fun hk => ?_) (fun hk => ?_)
      · have h1 := outB_call hout hk
        have h2 := may_call hmx hk
        refine ⟨h2, h1, ?_⟩
        unfold argsOf
        have hlt : p[n].code[i].a.toNat < p.length := by omega
        rw [List.getElem?_eq_getElem hlt]
        exact fnB_args (hgp _ (List.getElem_mem hlt))
      · have hgo : goesB (irL p p[n].code[i] i (p[n].locals + v)).kind = true := by rcases hk with hk | hk <;> simp [irL, hk, goesB]
        have hmem : irL p p[n].code[i] i (p[n].locals + v) ∈ (lowS p p[n] n hs p[n].code.length).code := by rw [← g1]; exact List.getElem_mem hj
        obtain ⟨w, hw, hwn⟩ := low_hit hgp hHF (Nat.le_refl _) _ hmem hgo
        rw [(irL_goes hgo).2] at hw
        have hlt : p[n].code[i].a.toNat < p[n].code.length := by rw [← hlen]; exact (List.getElem?_eq_some_iff.1 hw).1
        rw [List.getD_eq_getElem?_getD, low_start p p[n] n hs hlt, low_getD hw, if_neg hwn]
        have := low_in p p[n] n hs hw hwn hlt
        simp only [Option.getD_some]
        omega
  · rw [List.all_eq_true]
    intro m hm
    obtain ⟨i, v, hi, hv, hne, rfl⟩ := low_meta p p[n] n hs hlen (Nat.le_refl _) m hm
    obtain ⟨v0, v8, _⟩ := hHF.hi.val i v hv hne
    simp only [metaB, partB, plainP, hlo, hhe hv, rowS, List.length_map, List.length_range]
    simp [srcB, regB]
    exact ⟨⟨⟨⟨v0, by omega⟩, by omega⟩, fun x hx => by omega⟩, fun x hx => ⟨by omega, by omega⟩⟩
  · have hpos := low_in p p[n] n hs hHF.hi.zero (by decide) (show 0 < p[n].code.length by omega)
    have hlt : (lowS p p[n] n hs p[n].code.length).code.length - 1 < (lowS p p[n] n hs p[n].code.length).code.length := by omega
    unfold lastB
    simp only [List.getLast?_map]
    rw [List.getLast?_eq_getElem?, List.getElem?_eq_getElem hlt]
    simp only [Option.map_some, placed_kind, decide_eq_true_eq]
    obtain ⟨i, hi, v, _, hv, hne, hc⟩ := low_at p p[n] n hs hlen (Nat.le_refl _) (List.getElem?_eq_getElem hlt)
    have hb := low_blk (p := p) (fn := n) hv hne hi
    have hm := (low_mono p p[n] n hs (show i + 1 ≤ p[n].code.length by omega)).1
    rcases hc with ⟨g1, g2, g3, g4⟩ | ⟨g1, g2⟩
    · rw [if_pos g2] at hb; omega
    · rw [g1]
      refine ir_kind ?_
      refine Decidable.byContradiction fun hno => ?_
      by_cases hil : i + 1 = p[n].code.length
      · have h2 := plainE_last hend hl1 (by rw [show p[n].code.length - 1 = i by omega]; exact reach_all hmay i (hHF.hi.val i v hv hne).2.2)
        simp only [show p[n].code.length - 1 = i by omega] at h2
        exact hno h2
      · obtain ⟨d1, d2, d3⟩ := hHF.hi.done i v _ hv hne (List.getElem?_eq_getElem hi) (by simp)
        have hnx : i + 1 ∈ nxF p[n] i := by
          refine List.mem_map.2 ⟨(i : Int) + 1, ?_, by omega⟩
          unfold nextF
          rw [List.getElem?_eq_getElem hi]
          refine mem_comp (List.mem_filter.2 ⟨?_, by simp; omega⟩)
          unfold rawNext
          rw [if_neg (fun hh => hno (.inr hh)), if_neg (fun hh => hno (.inl hh))]
          split <;> simp
        have d4 := d3 _ hnx
        have hP := putsF_in p[n].code[i]
        have := low_in p p[n] n hs d4 (by omega) (show i + 1 < p[n].code.length by omega)
        rcases g2 with ⟨b1, b2⟩ | ⟨b1, b2⟩
        · rw [if_neg (by simp [b1])] at hb; omega
        · rw [if_pos b1] at hb; omega
end Go.Proofs.YticlgdhhnjpkjaaGreatDoor.Pf
namespace Go.Proofs.YticlgdhhnjpkjaaGreatDoor.Pf
open Go Go.RowKit Go.Proofs Go.Proofs.YticlgdhhnjpkjaaGreatDoor.Mw Go.Proofs.YticlgdhhnjpkjaaGreatDoor.Sx
set_option linter.unusedVariables false
set_option linter.unusedSimpArgs false
set_option maxRecDepth 8000
theorem cod_fz {f : Nat} {ds : List DV} {M : DMem} {c : Cod} {w : DV → DV} (hw : ∀ d, thawed d = true → thawed (w d) = true)
    (h : PC Tryz.prog f (ds.map (fz M 4)) (fun d M' => ∃ dc dm Sc Sm, d = w (.agg [.int .i64 c.fn, .int .i64 c.regs, dc, dm]) ∧ SlAt irE M' dc c.code Sc ∧ SlAt metaE M' dm c.metas Sm ∧ (Sc ++ Sm).Nodup) DMem.mt) {R : DV → DMem → Prop}
    (hR : ∀ dc dm M' Sc Sm, SlAt irE M' dc c.code Sc → SlAt metaE M' dm c.metas Sm → (Sc ++ Sm).Nodup → (∀ y ∈ Sc ++ Sm, M y = none) → SubD M M' → R (w (.agg [.int .i64 c.fn, .int .i64 c.regs, dc, dm])) M') : PC Tryz.prog f ds R M := by
  have h1 : PC Tryz.prog f (ds.map (fz M 4)) (fun d M2 => Thaw d M2 ∧ ∃ dc dm Sc Sm, d = w (.agg [.int .i64 c.fn, .int .i64 c.regs, dc, dm]) ∧ SlAt irE M2 dc c.code Sc ∧ SlAt metaE M2 dm c.metas Sm ∧ (Sc ++ Sm).Nodup) DMem.mt := by
    refine PC.drop h ?_
    rintro d M' ⟨dc, dm, Sc, Sm, rfl, g1, g2, g3⟩
    obtain ⟨t1, t2⟩ := irE_th.sl g1
    obtain ⟨t3, t4⟩ := metaE_th.sl g2
    refine ⟨DMem.only M' (Sc ++ Sm), DMem.only_sub _ _, ⟨hw _ (by simp only [thawed, thawedL, t1, t3] <;> rfl), fun b B hb => ?_⟩, dc, dm, Sc, Sm, rfl, SlAt.only irE_ok g1 (fun b hb => by simp [hb]), SlAt.only metaE_ok g2 (fun b hb => by simp [hb]), g3⟩
    unfold DMem.only at hb
    split at hb
    · rename_i hm
      rcases List.mem_append.1 hm with hm | hm
      · exact t2 b hm B hb
      · exact t4 b hm B hb
    · cases hb
  refine PC.seal h1 (fun d M2 h => h.1) ?_
  rintro d M2 ⟨_, dc, dm, Sc, Sm, rfl, g1, g2, g3⟩ hd
  obtain ⟨a1, a2⟩ := g1.or irE_ok hd
  obtain ⟨b1, b2⟩ := g2.or metaE_ok hd
  exact hR dc dm _ Sc Sm a1 b1 g3 (fun y hy => by
    rcases List.mem_append.1 hy with hy | hy
    · exact a2 y hy
    · exact b2 y hy) (SubD.or_left _ _)
theorem thawed_tup {d : DV} {e : Int} (h : thawed d = true) : thawed (.tup [d, .int .i64 e]) = true := by simp only [thawed, thawedL, h] <;> rfl
structure BigC (c : Cod) : Prop where
  n : c.code.length ≤ 4611686018427387904
  a : ∀ x ∈ c.code, x.args.length ≤ 4611686018427387904
  m : c.metas.length ≤ 4611686018427387904
  s : ∀ m ∈ c.metas, m.length ≤ 4611686018427387904 ∧ ∀ x ∈ m, BigP x
theorem may_big {p : List Fnc} {c : Cod} (h : MayOk p c) : BigC c :=
  ⟨by have := h.n; omega, fun x hx => by obtain ⟨i, hi, rfl⟩ := List.mem_iff_getElem.1 hx; have := (h.ir i hi).ar; omega, by have := h.m; omega, fun m hm => by
    obtain ⟨h1, h2⟩ := h.sz m hm
    exact ⟨by omega, fun x hx => by have := h2 x hx; exact ⟨by omega, by omega⟩⟩⟩
theorem big0 : BigC cod0 := ⟨by decide, fun x hx => absurd hx (by simp [cod0]), by decide, fun m hm => absurd hm (by simp [cod0])⟩
theorem BigC.sz {c : Cod} (h : BigC c) : SzCod c := ⟨h.n, h.a, h.m, fun m hm => ⟨(h.s m hm).1, fun y hy => (h.s m hm).2 y hy⟩⟩
theorem low_big (p : List Fnc) (fn : Int) : BigC (lowerR p fn).1 := by
  unfold lowerR
  split
  · rename_i h
    obtain ⟨hv, h0, h1⟩ := h
    obtain ⟨n, hn⟩ := Int.eq_ofNat_of_zero_le h0
    subst hn
    have hnl : n < p.length := by omega
    rw [Int.toNat_natCast, List.getElem?_eq_getElem hnl]
    exact may_big (may_ok (lower_may hv hnl))
  · exact big0
set_option maxHeartbeats 1000000 in
theorem Lowers_pc (p : List Fnc) (fn : Int) (hp : p.length * 40 ≤ 140737488351232) (hc : ∀ f ∈ p, f.code.length * 16 ≤ 140737488351232) : PC Tryz.prog F_swagelaw11_Lowers [.agg [slD Fnc.c p], .int .i64 fn] (fun d' M' => d' = .bool true) DMem.mt := by
  refine pc_swagelaw11_Lowers (by simp) ?_
  simp only [S_swagelaw11_Lowers, R_swagelaw11_Lowers, MU_swagelaw11_Lowers, ldnI1, SW, SV, wpD, evDL, evDM, evD, bldLD, wpSp, DMem.mt, beq_self_eq_true, seval]
  refine CopyProgram_pc p (by omega) (fun f hf => by have := hc f hf; omega) fun dx M1 Sx hx ndx newx sub1 => ?_
  have hfx : fz M1 4 (.agg [dx]) = .agg [slD Fnc.c p] := by
    rw [fz_agg]; simp only [List.map_cons, List.map_nil]; rw [hx.fz fncE_ok (k := 3) (by decide)] <;> rfl
  simp only [S4_swagelaw11_Lowers, MU_swagelaw11_Lowers, hx.cell, hx.plain, ldnI1, SW, SV, wpD, evDL, evDM, evD, bldLD, wpSp, DMem.mt, beq_self_eq_true, seval]
  refine cod_fz (c := (lowerR p fn).1) (w := fun d => .tup [d, .int .i64 (lowerR p fn).2]) (fun d h => thawed_tup h) (by
    simp only [List.map_cons, List.map_nil, hfx, fz_int]
    exact Lower_pc p fn fun dc dm M' Sc Sm g1 g2 g3 _ _ => ⟨dc, dm, Sc, Sm, rfl, g1, g2, g3⟩) fun dc dm M2 Sc Sm hca hma nda newa sub2 => ?_
  simp only [S3_swagelaw11_Lowers, MU_swagelaw11_Lowers, hca.cell, hma.cell, hca.plain, hma.plain, ldnI1, SW, SV, wpD, evDL, evDM, evD, bldLD, wpSp, DMem.mt, beq_self_eq_true, seval]
  refine LowerR_pc p fn fun db dmb M3 Sb Smb hcb hmb ndb newb sub3 => ?_
  have hca3 := hca.sub irE_ok sub3
  have hma3 := hma.sub metaE_ok sub3
  have hbig := low_big p fn
  have fca : fz M3 4 dc = slD Irc.c (lowerR p fn).1.code := hca3.fz irE_ok (k := 3) (by decide)
  have fma : fz M3 4 dm = slD metaC (lowerR p fn).1.metas := hma3.fz metaE_ok (k := 3) (by decide)
  have fcb : fz M3 4 db = slD Irc.c (lowerR p fn).1.code := hcb.fz irG_ok (k := 3) (by decide)
  have fmb : fz M3 4 dmb = slD metaC (lowerR p fn).1.metas := hmb.fz metaG_ok (k := 3) (by decide)
  have hs : pf Tryz.prog 12 [.agg [.int .i64 (lowerR p fn).1.fn, .int .i64 (lowerR p fn).1.regs, slD Irc.c (lowerR p fn).1.code, slD metaC (lowerR p fn).1.metas], .agg [.int .i64 (lowerR p fn).1.fn, .int .i64 (lowerR p fn).1.regs, slD Irc.c (lowerR p fn).1.code, slD metaC (lowerR p fn).1.metas]] = some (.bool true) :=
    (SameCode_pf _ _ hbig.sz).trans (by rw [decide_eq_true rfl])
  have l4 : ∀ (K : DMem) (a b c d : DV), ldnD K 4 (.ip [a, b, c, d]) = some (.agg [a, b, c, d]) := fun K a b c d => rfl
  have en : decide (¬((lowerR p fn).2 = (lowerR p fn).2)) = false := by simp
  simp only [S2_swagelaw11_Lowers, MU_swagelaw11_Lowers, hcb.cell, hmb.cell, hcb.plain, hmb.plain, ldnI1, l4, NumF_pf, fz_agg, fz_int, fca, fma, fcb, fmb, List.map_cons, List.map_nil, hs, en, SW, SV, wpD, evDL, evDM, evD, bldLD, wpSp, DMem.mt, beq_self_eq_true, seval]
  refine SpoilCode_pc hca3 hma3 nda hbig.n hbig.a hbig.m hbig.s fun M4 hk4 => ?_
  have hx4 : SlAt fncE M4 dx p Sx := ((hx.sub fncE_ok sub2).sub fncE_ok sub3).frame fncE_ok fun y hy => hk4 y fun hh => hx.here fncE_ok y hy (newa y hh)
  have fx4 : fz M4 4 dx = slD Fnc.c p := hx4.fz fncE_ok (k := 3) (by decide)
  simp only [S1_swagelaw11_Lowers, MU_swagelaw11_Lowers, ldnI1, SW, SV, wpD, evDL, evDM, evD, bldLD, wpSp, DMem.mt, beq_self_eq_true, seval]
  refine PC.of_pf (d := .bool true) (by simp only [List.map_cons, List.map_nil, fz_agg, fx4, fz_prg]; exact (SameProgram_pf p p (by omega) fun f hf => by have := hc f hf; omega).trans (by rw [decide_eq_true rfl])) ?_
  simp only [awake_pf, decide_true, SW, SV, wpD, evDL, evDM, evD, bldLD, wpSp, DMem.mt, beq_self_eq_true, seval]
end Go.Proofs.YticlgdhhnjpkjaaGreatDoor.Pf
namespace Go.Proofs.YticlgdhhnjpkjaaGreatDoor.Mw
open Go Go.RowKit Go.ChangeShapes Go.WideShapes Go.ChangeAt
set_option linter.unusedVariables false
theorem walk_of {P : Program} {f : FuncId} {args : List Value} {w : World} (h : MC P f args (fun v _ => v = .bool true) (snap w)) :
    Calls P f args.toArray w fun e w' => e = .returned (.bool true) ∧ Below w.heap.size w w' :=
  (h.2 w w (snap_sat w)).mono fun e w' ⟨v, m', he, hs, hv⟩ => ⟨by rw [he, hv], hs.below⟩
theorem args_stay {H : Type} {enc : TypeId × Value → H} {P : Program} (hl : laidOutB P = true) {W W' : World} (hb : Below W.heap.size W W') : ∀ (ts : List TypeId) (vs : List Value) (ds : List (DataW H)) (ps : List MemPlace),
    (∀ t ∈ ts, P.readableRec t = true ∧ t < P.types.size) → DataW.TrodAll enc P W 0 (fun _ => true) true ts vs ds ps → DataW.TrodAll enc P W' 0 (fun b => decide (b < W.heap.size)) true ts vs ds ps
  | [], [], [], ps, _, h => h
  | t :: ts, v :: vs, d :: ds, ps, ht, h => by
    have hlt := DataW.TrodAll.lt h
    obtain ⟨p, q, h1, h2, rfl⟩ := h
    exact ⟨p, q, Below.trod hl (ht t (by simp)).1 (ht t (by simp)).2 h1 hb (fun x hx => hlt x (by simp [hx])), args_stay hl hb ts vs ds q (fun t' h' => ht t' (by simp [h'])) h2, rfl⟩
  | [], [], _ :: _, _, _, h => h.elim
  | [], _ :: _, _, _, _, h => by cases h
  | _ :: _, [], _, _, _, h => by cases h
  | _ :: _, _ :: _, [], _, _, h => by cases h
end Go.Proofs.YticlgdhhnjpkjaaGreatDoor.Mw
namespace Go.Proofs.YticlgdhhnjpkjaaGreatDoor.Mw
open Go Go.RowKit Go.ChangeShapes Go.WideShapes Go.ChangeAt
set_option linter.unusedVariables false
theorem law_row_laid {C : Checked} {os : Os} {H : Type} {enc : TypeId × Value → H} (laid : List (String × DataW Unit)) (own : ownKnob C.prog.godebug = none) (started : os.Started) {f : FuncId} {fn : Func} {s : ChangeSpec}
    (noInit : C.prog.inits.idxOf? f = none) (hfn : C.prog.funcs[f]? = some fn) (hvars : s.vars = [])
    (hspec : ∀ ds : List (DataW H), ds.length = fn.params.toList.length → s.fn H ds = { results := [.lit (.bool true)], args := ds })
    {tb : TypeId} (hres : fn.resultTypes = #[tb]) (htb : C.prog.underlying tb = some .bool)
    (hl : laidOutB C.prog = true) (hread : ∀ t ∈ fn.params.toList, C.prog.readableRec t = true ∧ t < C.prog.types.size) {apart : Bool}
    (witness : ∃ (w : World) (tape : Tape) (i : Input), w.os = os ∧ (w.forCall tape i).Shaped C.prog ∧ i.vars = [] ∧ Input.okWide C.prog (w.forCall tape i) .any w.heap.size f i ∧
      ((s.pre enc C.prog fn [] apart (w.forCall tape i).memory i.args ∧ laidMetH C.prog laid (w.forCall tape i).memory) ∧ sizedMet enc C.prog fn (OpenSpec.ofChange s) apart (w.forCall tape i).memory i.args) ∧ ({} : Assume).holds C.prog (lone (Frame.enter C.prog f i.args .normal) [] (w.forCall tape i)))
    (hmc : ∀ (W : World) (base : Nat) (args : List Value) (ds : List (DataW H)) (p : List MemPlace), DataW.TrodAll enc C.prog W 0 (fun _ => true) true fn.params.toList args ds p →
      (∀ (j : Nat) t v, fn.params[j]? = some t → args[j]? = some v → Value.okWide C.prog W .any base t v) →
      (DataW.weightsEach C.prog fn.params.toList ds).all (· ≤ reachBytes) = true → laidMetH C.prog laid W → MC C.prog f args (fun v _ => v = .bool true) (snap W)) :
    ReturnsInHanded {} C os f .any (fun w args => (s.pre enc C.prog fn [] apart w args ∧ laidMetH C.prog laid w) ∧ sizedMet enc C.prog fn (OpenSpec.ofChange s) apart w args) (s.post enc C.prog fn apart true false false) := by
  refine returnsInHanded_of_change_and (X := fun w _ => laidMetH C.prog laid w) (fun _ _ _ hh h => h.of_heap hh) own started noInit hfn witness ?_
  intro W base args ds gs before hval hW _ hsz hL _
  have hW' := hW
  obtain ⟨p, q, hA, hV, rfl, hfz, hnd⟩ := hW
  have hg : gs = [] := by
    rw [hvars] at hV
    cases gs with
    | nil => rfl
    | cons a b => exact hV.elim
  subst hg
  have hlen : ds.length = fn.params.toList.length := by
    have : ∀ (ts : List TypeId) (vs : List Value) (ds : List (DataW H)) (ps : List MemPlace), DataW.TrodAll enc C.prog W 0 (fun _ => true) true ts vs ds ps → ds.length = ts.length := by
      intro ts
      induction ts with
      | nil => intro vs ds ps h; cases vs <;> cases ds <;> first | rfl | exact h.elim | cases h
      | cons t ts ih =>
        intro vs ds ps h
        cases vs with
        | nil => cases h
        | cons v vs =>
          cases ds with
          | nil => cases h
          | cons d ds => obtain ⟨p, q, _, h2, _⟩ := h; simp [ih _ _ _ h2]
    exact this _ _ _ _ hA
  have hv0 : s.plain.varTypes C.prog = [] := by
    have : s.plain.vars = [] := hvars
    simp [DataSpec.varTypes, this]
  have hmc' := hmc W base args.toList ds p hA (fun j t v ht hv => hval j t v ht (by simpa using hv)) (by rw [hv0] at hsz; simpa using hsz) hL
  have hw := walk_of hmc'
  rw [Array.toArray_toList] at hw
  refine hw.mono fun e W' ⟨he, bel⟩ => ?_
  have hsp := hspec ds hlen
  refine ⟨_, he, ds, [], _, [], p, [], hW', ?_, ?_, ?_, bel.frame _, fun h => by cases h⟩
  · rw [List.append_nil, hsp, hres]
    exact trodAll_mk1 (shut_bool htb _)
  · rw [List.append_nil, hsp]
    exact args_stay hl bel _ _ _ _ hread hA
  · rw [List.append_nil, hsp, hvars]
    rfl
end Go.Proofs.YticlgdhhnjpkjaaGreatDoor.Mw
namespace Go.Proofs.YticlgdhhnjpkjaaGreatDoor.Mw
open Go Go.RowKit Go.ChangeShapes Go.WideShapes Go.ChangeAt Go.Deep
set_option linter.unusedVariables false
structure Opens (P : Program) (w : World) (t : TypeId) {α : Type} (c : α → List DV) : Prop where
  op : ∀ {H : Type} (enc : TypeId × Value → H) (base : Nat) (spare : Nat → Bool) (held : Bool) (fuel : Nat) (cs : List Value) (x : DataW H × List MemPlace),
    DataW.trod enc P w base spare held fuel t cs = some x → ∃ a, RepL (snap w) (c a) cs
structure OpensF (P : Program) (w : World) (tot : Nat) (fs : List Field) (o : Nat) {α : Type} (c : α → List DV) : Prop where
  op : ∀ {H : Type} (enc : TypeId × Value → H) (base : Nat) (spare : Nat → Bool) (held : Bool) (fuel : Nat) (cs : List Value), cs.length = tot →
    (∀ f ∈ fs, ∃ y, DataW.trod enc P w base spare held fuel f.type ((cs.drop f.offset).take (P.cellsOf f.type)) = some y) → ∃ a, RepL (snap w) (c a) (cs.drop o)
section
variable {P : Program} {w : World} {t : TypeId}
theorem RepL.one {m : Mem} {d : DV} {v : Value} (h : Rep m d v) : RepL m [d] [v] := RepL.cons h (RepL.nil m)
theorem Opens.int {k : IntKind} (ht : P.underlying t = some (.int k)) : Opens P w t (fun z : Int => [.int k z]) := by
  constructor
  intro _ enc base sp held fuel cs x h
  obtain ⟨n, rfl, _, _⟩ := DataW.trod_int ht h
  exact ⟨n, RepL.one (by simp only [Rep])⟩
theorem Opens.bool (ht : P.underlying t = some .bool) : Opens P w t (fun z : Bool => [.bool z]) := by
  constructor
  intro _ enc base sp held fuel cs x h
  obtain ⟨n, rfl, _⟩ := DataW.trod_bool ht h
  exact ⟨n, RepL.one (by simp only [Rep])⟩
theorem Opens.str (ht : P.underlying t = some .string) : Opens P w t (fun z : ByteArray => [.str z]) := by
  constructor
  intro _ enc base sp held fuel cs x h
  obtain ⟨n, rfl, _⟩ := DataW.trod_string ht h
  exact ⟨n, RepL.one (by simp only [Rep])⟩
theorem Opens.map {α β : Type} {c : α → List DV} {c' : β → List DV} (h : Opens P w t c) (f : α → β) (e : ∀ a, c' (f a) = c a) : Opens P w t c' := by
  constructor
  intro _ enc base sp held fuel cs x hx
  obtain ⟨a, ha⟩ := h.op enc base sp held fuel cs x hx
  exact ⟨f a, by rw [e]; exact ha⟩
theorem OpensF.nil {tot : Nat} : OpensF P w tot [] tot (fun _ : Unit => []) := by
  constructor
  intro _ enc base sp held fuel cs hl h
  exact ⟨(), by rw [List.drop_eq_nil_of_le (by omega)]; exact RepL.nil _⟩
theorem OpensF.cons {α β : Type} {c0 : α → List DV} {c1 : β → List DV} {tot o k : Nat} {f : Field} {fs : List Field} (h0 : Opens P w f.type c0) (ho : f.offset = o) (hk : P.cellsOf f.type = k) (h1 : OpensF P w tot fs (o + k) c1) :
    OpensF P w tot (f :: fs) o (fun p : α × β => c0 p.1 ++ c1 p.2) := by
  constructor
  intro _ enc base sp held fuel cs hl h
  obtain ⟨y, hy⟩ := h f (by simp)
  obtain ⟨a, ha⟩ := h0.op enc base sp held fuel _ _ hy
  obtain ⟨b, hb⟩ := h1.op enc base sp held fuel cs hl fun g hg => h g (by simp [hg])
  rw [ho, hk] at ha
  refine ⟨(a, b), ?_⟩
  have e : cs.drop o = (cs.drop o).take k ++ cs.drop (o + k) := by rw [← List.drop_drop, List.take_append_drop]
  rw [e]
  exact ha.append hb
theorem Opens.struct {α : Type} {c : α → List DV} {fs : Array Field} {tot : Nat} (ht : P.underlying t = some (.struct fs)) (hc : P.cellsOf t = tot) (h : OpensF P w tot fs.toList 0 c) : Opens P w t c := by
  constructor
  intro _ enc base sp held fuel cs x hx
  obtain ⟨xs, n, _, _, hl, hlen, hf⟩ := DataW.trod_struct ht hx
  have := h.op enc base sp held n cs (hl.trans hc) fun f hf' => by
    obtain ⟨i, hi, e⟩ := List.getElem_of_mem hf'
    have hi' : i < xs.length := by rw [hlen]; simpa using hi
    refine ⟨xs[i], ?_⟩
    rw [hf i f (by rw [← Array.getElem?_toList, List.getElem?_eq_getElem hi, e]), List.getElem?_eq_getElem hi']
  simpa using this
theorem snap_cell {a : Addr} {v : Value} (h : w.cell? a = some v) : ∃ b o ty N full, a = ⟨b, o, none⟩ ∧ snap w b = some (.cells ty N true full) ∧ full[o]? = some v := by
  obtain ⟨b, o, sp⟩ := a
  have hs := World.cell?_spot h
  simp only at hs; subst hs
  unfold World.cell? at h
  split at h
  · rename_i c ty fz hb
    simp only [Option.isSome_none, Bool.false_eq_true, if_false] at h
    refine ⟨b, o, ty, c.size, c.toList, rfl, ?_, by simpa using h⟩
    simp only at hb
    simp only [snap, hb]
    rw [if_neg]
    rintro ⟨h0, _⟩
    have : c = #[] := Array.eq_empty_of_size_eq_zero h0
    subst this
    simp at h
  · cases h
theorem rep_cells {α : Type} {c : α → List DV} {n : Nat} {base b o : Nat} {ty : TypeId} {N : Nat} {full : List Value} (hm : snap w b = some (.cells ty N true full)) :
    ∀ (l : List α) (k : Nat), (∀ i (hi : i < l.length), ∃ cs', w.cells? base ((⟨b, o, none⟩ : Addr).add ((k + i) * n)) n = some cs' ∧ RepL (snap w) (c l[i]) cs') → RepP (snap w) (l.flatMap c) (full.drop (o + k * n))
  | [], k, h => by simp [RepP]
  | x :: l, k, h => by
    obtain ⟨cs', h1, h2⟩ := h 0 (by simp)
    obtain ⟨_, hlen, hcell⟩ := World.cells?_some h1
    have ih := rep_cells (base := base) hm l (k + 1) fun i hi => by
      have := h (i + 1) (by simpa using hi)
      simpa [Nat.add_assoc, Nat.add_comm 1 i] using this
    have e : cs' = (full.drop (o + k * n)).take n := by
      apply List.ext_getElem?
      intro i
      by_cases hi : i < n
      · rw [List.getElem?_take_of_lt hi, List.getElem?_drop, ← hcell i hi]
        simp only [Nat.add_zero, add_plain]
        unfold World.cell?
        unfold snap at hm
        split at hm
        · rename_i c' ty' fz hb
          split at hm
          · cases hm
          cases hm
          simp only [hb]
          simp [Nat.add_assoc]
        · cases hm
      · rw [List.getElem?_eq_none (by omega), List.getElem?_eq_none (by simp; omega)]
    have e2 : full.drop (o + k * n) = cs' ++ full.drop (o + (k + 1) * n) := by
      rw [e, show o + (k + 1) * n = o + k * n + n by rw [Nat.add_mul]; omega, ← List.drop_drop (i := n), List.take_append_drop]
    rw [List.flatMap_cons, e2]
    exact h2.1.append h2.2 ih
theorem Opens.slice {α : Type} {c : α → List DV} {e : TypeId} {n : Nat} (h : Opens P w e c) (ht : P.underlying t = some (.slice e)) (hn : P.cellsOf e = n) (hpos : 0 < n) : Opens P w t (fun l : List α => [slD c l]) := by
  constructor
  intro _ enc base sp held fuel cs x hx
  rcases open_slice ht hx with ⟨rfl, _⟩ | ⟨a, len, cap, m, k, D, Pl, rfl, _, hl, _, hm, _, hel⟩
  · refine ⟨[], RepL.one ?_⟩
    simp only [slD, Rep, List.flatMap_nil, List.length_nil]
    exact ⟨none, 0, rfl, Nat.le_refl _, fun h => absurd h (by omega)⟩
  · have hlm : len ≤ m := by rw [hm]; split <;> omega
    have each : ∀ i, i < len → ∃ y : α, ∃ cs', w.cells? base (a.add (i * n)) n = some cs' ∧ RepL (snap w) (c y) cs' := fun i hi => by
      obtain ⟨cs', h1, h2⟩ := hel i (by omega)
      obtain ⟨y, hy⟩ := h.op enc base sp held k cs' _ h2
      rw [hn] at h1
      exact ⟨y, cs', h1, hy⟩
    have : ∃ l : List α, l.length = len ∧ ∀ i (hi : i < l.length), ∃ cs', w.cells? base (a.add (i * n)) n = some cs' ∧ RepL (snap w) (c l[i]) cs' := by
      clear hel hl hlm hm hx
      rename_i hxx
      clear hxx
      induction len with
      | zero => exact ⟨[], rfl, fun i hi => absurd hi (by simp)⟩
      | succ len ih =>
        obtain ⟨l, h1, h2⟩ := ih fun i hi => each i (by omega)
        obtain ⟨y, hy⟩ := each len (by omega)
        refine ⟨l ++ [y], by simp [h1], fun i hi => ?_⟩
        by_cases h' : i < l.length
        · simpa [List.getElem_append_left h'] using h2 i h'
        · have : i = len := by simp at hi; omega
          subst this
          simpa [h1] using hy
    obtain ⟨l, rfl, hlc⟩ := this
    refine ⟨l, RepL.one ?_⟩
    simp only [slD, Rep]
    refine ⟨some a, cap, rfl, hl, fun h0 => ?_⟩
    obtain ⟨cs', h1, h2⟩ := hlc 0 h0
    obtain ⟨_, hlen, hcell⟩ := World.cells?_some h1
    have h3 := hcell 0 hpos
    have h4 : 0 < cs'.length := by omega
    rw [List.getElem?_eq_getElem h4] at h3
    simp only [Nat.zero_mul] at h3
    obtain ⟨b, o, ty, N, full, e1, e2, _⟩ := snap_cell h3
    have ea : a = ⟨b, o, none⟩ := by simpa [Addr.add] using e1
    subst ea
    refine ⟨b, o, ty, N, full, rfl, e2, ?_⟩
    have := rep_cells (base := base) (n := n) e2 l 0 (by simpa using hlc)
    simpa using this
theorem Opens.val {α : Type} {d : α → DV} (h : Opens P w t (fun a => [d a])) {v : Value} (hc : v.cells = #[v]) {H : Type} {enc : TypeId × Value → H} {base : Nat} {sp : Nat → Bool} {held : Bool} {x : DataW H} {p : List MemPlace}
    (hx : DataW.Trod enc P w base sp held t v x p) : ∃ a, Rep (snap w) (d a) v := by
  obtain ⟨fuel, hf⟩ := hx
  obtain ⟨a, ha⟩ := h.op enc base sp held fuel _ _ hf
  rw [hc] at ha
  have h1 := ha.1
  simp only [RepP] at h1
  exact ⟨a, h1.1⟩
end
end Go.Proofs.YticlgdhhnjpkjaaGreatDoor.Mw
namespace Go.Proofs.YticlgdhhnjpkjaaGreatDoor.Mw
open Go Go.RowKit Go.ChangeShapes Go.WideShapes Go.ChangeAt Go.Deep
set_option linter.unusedVariables false
structure OpensS (P : Program) (w : World) (t : TypeId) {α : Type} (c : α → List DV) (S : α → Prop) : Prop where
  op : ∀ {H : Type} (enc : TypeId × Value → H) (base : Nat) (spare : Nat → Bool) (held : Bool) (fuel : Nat) (cs : List Value) (x : DataW H × List MemPlace),
    DataW.trod enc P w base spare held fuel t cs = some x → (∀ n ∈ x.1.weights P t, n ≤ reachBytes) → ∃ a, RepL (snap w) (c a) cs ∧ S a
structure OpensT (P : Program) (w : World) (tot : Nat) (fs : List Field) (o : Nat) {α : Type} (c : α → List DV) (S : α → Prop) : Prop where
  op : ∀ {H : Type} (enc : TypeId × Value → H) (base : Nat) (spare : Nat → Bool) (held : Bool) (fuel : Nat) (cs : List Value), cs.length = tot →
    (∀ f ∈ fs, ∃ y, DataW.trod enc P w base spare held fuel f.type ((cs.drop f.offset).take (P.cellsOf f.type)) = some y ∧ ∀ n ∈ y.1.weights P f.type, n ≤ reachBytes) → ∃ a, RepL (snap w) (c a) (cs.drop o) ∧ S a
section
variable {P : Program} {w : World} {t : TypeId}
def I64 (z : Int) : Prop := -9223372036854775808 ≤ z ∧ z ≤ 9223372036854775807
theorem OpensS.int (ht : P.underlying t = some (.int .i64)) : OpensS P w t (fun z : Int => [.int .i64 z]) I64 := by
  constructor
  intro _ enc base sp held fuel cs x h _
  obtain ⟨n, rfl, _, hw⟩ := DataW.trod_int ht h
  refine ⟨n, RepL.one (by simp only [Rep]), ?_⟩
  simp only [Lit.wf, Bool.and_eq_true, decide_eq_true_eq] at hw
  exact hw
theorem OpensS.bool (ht : P.underlying t = some .bool) : OpensS P w t (fun z : Bool => [.bool z]) (fun _ => True) := by
  constructor
  intro _ enc base sp held fuel cs x h _
  obtain ⟨n, rfl, _⟩ := DataW.trod_bool ht h
  exact ⟨n, RepL.one (by simp only [Rep]), trivial⟩
theorem OpensS.str (ht : P.underlying t = some .string) : OpensS P w t (fun z : ByteArray => [.str z]) (fun s => s.size ≤ reachBytes) := by
  constructor
  intro _ enc base sp held fuel cs x h hs
  obtain ⟨n, rfl, rfl, _⟩ := DataW.trod_string ht h
  refine ⟨n, RepL.one (by simp only [Rep]), ?_⟩
  have := hs n.data.toList.length (by simp [DataW.weights])
  simpa using this
theorem OpensS.map {α β : Type} {c : α → List DV} {c' : β → List DV} {S : α → Prop} {S' : β → Prop} (h : OpensS P w t c S) (f : α → β) (e : ∀ a, c' (f a) = c a) (hS : ∀ a, S a → S' (f a)) : OpensS P w t c' S' := by
  constructor
  intro _ enc base sp held fuel cs x hx hs
  obtain ⟨a, ha, h1⟩ := h.op enc base sp held fuel cs x hx hs
  exact ⟨f a, by rw [e]; exact ha, hS a h1⟩
theorem OpensT.nil {tot : Nat} : OpensT P w tot [] tot (fun _ : Unit => []) (fun _ => True) := by
  constructor
  intro _ enc base sp held fuel cs hl h
  exact ⟨(), by rw [List.drop_eq_nil_of_le (by omega)]; exact RepL.nil _, trivial⟩
theorem OpensT.cons {α β : Type} {c0 : α → List DV} {c1 : β → List DV} {S0 : α → Prop} {S1 : β → Prop} {tot o k : Nat} {f : Field} {fs : List Field} (h0 : OpensS P w f.type c0 S0) (ho : f.offset = o) (hk : P.cellsOf f.type = k) (h1 : OpensT P w tot fs (o + k) c1 S1) :
    OpensT P w tot (f :: fs) o (fun p : α × β => c0 p.1 ++ c1 p.2) (fun p => S0 p.1 ∧ S1 p.2) := by
  constructor
  intro _ enc base sp held fuel cs hl h
  obtain ⟨y, hy, hyw⟩ := h f (by simp)
  obtain ⟨a, ha, sa⟩ := h0.op enc base sp held fuel _ _ hy hyw
  obtain ⟨b, hb, sb⟩ := h1.op enc base sp held fuel cs hl fun g hg => h g (by simp [hg])
  rw [ho, hk] at ha
  refine ⟨(a, b), ?_, sa, sb⟩
  have e : cs.drop o = (cs.drop o).take k ++ cs.drop (o + k) := by rw [← List.drop_drop, List.take_append_drop]
  rw [e]
  exact ha.append hb
theorem OpensS.struct {α : Type} {c : α → List DV} {S : α → Prop} {fs : Array Field} {tot : Nat} (ht : P.underlying t = some (.struct fs)) (hc : P.cellsOf t = tot) (h : OpensT P w tot fs.toList 0 c S) : OpensS P w t c S := by
  constructor
  intro _ enc base sp held fuel cs x hx hs
  obtain ⟨xs, n, _, rfl, hl, hlen, hf⟩ := DataW.trod_struct ht hx
  have := h.op enc base sp held n cs (hl.trans hc) fun f hf' => by
    obtain ⟨i, hi, e⟩ := List.getElem_of_mem hf'
    have hi' : i < xs.length := by rw [hlen]; simpa using hi
    have hfi : fs[i]? = some f := by rw [← Array.getElem?_toList, List.getElem?_eq_getElem hi, e]
    refine ⟨xs[i], ?_, fun m hm => hs m ?_⟩
    · rw [hf i f hfi, List.getElem?_eq_getElem hi']
    · simp only [DataW.weights, ht]
      exact DataW.weights_mem_each (j := i) (t := f.type) (d := xs[i].1) (by rw [List.getElem?_map, Array.getElem?_toList, hfi]; rfl) (by simp [hi']) m hm
  simpa using this
theorem weights_all {H : Type} {e : TypeId} {n : Nat} : ∀ {ds : List (DataW H)} {d : DataW H}, d ∈ ds → n ∈ d.weights P e → n ∈ DataW.weightsAll P e ds
  | x :: ds, d, hd, hn => by
    simp only [DataW.weightsAll, List.mem_append]
    rcases List.mem_cons.1 hd with rfl | hd
    · exact .inl hn
    · exact .inr (weights_all hd hn)
theorem OpensS.slice {α : Type} {c : α → List DV} {S : α → Prop} {e : TypeId} {n bytes : Nat} (h : OpensS P w e c S) (ht : P.underlying t = some (.slice e)) (hn : P.cellsOf e = n) (hpos : 0 < n) (hb : P.bytesOf e = bytes) :
    OpensS P w t (fun l : List α => [slD c l]) (fun l => l.length * bytes ≤ reachBytes ∧ ∀ x ∈ l, S x) := by
  constructor
  intro _ enc base sp held fuel cs x hx hs
  rcases open_slice ht hx with ⟨rfl, _⟩ | ⟨a, len, cap, m, k, D, Pl, rfl, _, hl, _, hm, rfl, hel⟩
  · refine ⟨[], RepL.one ?_, by simp, fun _ h => by simp at h⟩
    simp only [slD, Rep, List.flatMap_nil, List.length_nil]
    exact ⟨none, 0, rfl, Nat.le_refl _, fun h => absurd h (by omega)⟩
  · have hlm : len ≤ m := by rw [hm]; split <;> omega
    simp only [DataW.weights, ht, List.mem_cons, List.mem_append] at hs
    have hsz : len * bytes ≤ reachBytes := by
      have := hs _ (.inl rfl)
      simp only [List.length_map, List.length_range, hb] at this
      exact Nat.le_trans (Nat.mul_le_mul_right _ (Nat.le_add_right _ _)) this
    have each : ∀ i, i < len → ∃ y : α, (∃ cs', w.cells? base (a.add (i * n)) n = some cs' ∧ RepL (snap w) (c y) cs') ∧ S y := fun i hi => by
      obtain ⟨cs', h1, h2⟩ := hel i (by omega)
      obtain ⟨y, hy, sy⟩ := h.op enc base sp held k cs' _ h2 fun q hq => hs q (.inr (.inl (weights_all (d := D i) (by simp; exact ⟨i, hi, rfl⟩) hq)))
      rw [hn] at h1
      exact ⟨y, ⟨cs', h1, hy⟩, sy⟩
    have : ∃ l : List α, l.length = len ∧ (∀ i (hi : i < l.length), ∃ cs', w.cells? base (a.add (i * n)) n = some cs' ∧ RepL (snap w) (c l[i]) cs') ∧ ∀ x ∈ l, S x := by
      clear hel hl hlm hm hx hs hsz
      induction len with
      | zero => exact ⟨[], rfl, fun i hi => absurd hi (by simp), fun _ h => by simp at h⟩
      | succ len ih =>
        obtain ⟨l, h1, h2, h3⟩ := ih fun i hi => each i (by omega)
        obtain ⟨y, hy, sy⟩ := each len (by omega)
        refine ⟨l ++ [y], by simp [h1], fun i hi => ?_, fun x hx => ?_⟩
        · by_cases h' : i < l.length
          · simpa [List.getElem_append_left h'] using h2 i h'
          · have : i = len := by simp at hi; omega
            subst this
            simpa [h1] using hy
        · rcases List.mem_append.1 hx with hx | hx
          · exact h3 x hx
          · simp at hx; subst hx; exact sy
    obtain ⟨l, rfl, hlc, hS⟩ := this
    refine ⟨l, RepL.one ?_, hsz, hS⟩
    simp only [slD, Rep]
    refine ⟨some a, cap, rfl, hl, fun h0 => ?_⟩
    obtain ⟨cs', h1, h2⟩ := hlc 0 h0
    obtain ⟨_, hlen, hcell⟩ := World.cells?_some h1
    have h3 := hcell 0 hpos
    have h4 : 0 < cs'.length := by omega
    rw [List.getElem?_eq_getElem h4] at h3
    simp only [Nat.zero_mul] at h3
    obtain ⟨b, o, ty, N, full, e1, e2, _⟩ := snap_cell h3
    have ea : a = ⟨b, o, none⟩ := by simpa [Addr.add] using e1
    subst ea
    refine ⟨b, o, ty, N, full, rfl, e2, ?_⟩
    have := rep_cells (base := base) (n := n) e2 l 0 (by simpa using hlc)
    simpa using this
theorem OpensS.val {α : Type} {d : α → DV} {S : α → Prop} (h : OpensS P w t (fun a => [d a]) S) {v : Value} (hc : v.cells = #[v]) {H : Type} {enc : TypeId × Value → H} {base : Nat} {sp : Nat → Bool} {held : Bool} {x : DataW H} {p : List MemPlace}
    (hx : DataW.Trod enc P w base sp held t v x p) (hs : ∀ n ∈ x.weights P t, n ≤ reachBytes) : ∃ a, Rep (snap w) (d a) v ∧ S a := by
  obtain ⟨fuel, hf⟩ := hx
  obtain ⟨a, ha, sa⟩ := h.op enc base sp held fuel _ _ hf hs
  rw [hc] at ha
  have h1 := ha.1
  simp only [RepP] at h1
  exact ⟨a, h1.1, sa⟩
theorem OpensS.agg {α : Type} {c : α → List DV} {S : α → Prop} (h : OpensS P w t c S) {cs : Array Value} {H : Type} {enc : TypeId × Value → H} {base : Nat} {sp : Nat → Bool} {held : Bool} {x : DataW H} {p : List MemPlace}
    (hx : DataW.Trod enc P w base sp held t (.agg cs) x p) (hs : ∀ n ∈ x.weights P t, n ≤ reachBytes) : ∃ a, Rep (snap w) (.agg (c a)) (.agg cs) ∧ S a := by
  obtain ⟨fuel, hf⟩ := hx
  obtain ⟨a, ha, sa⟩ := h.op enc base sp held fuel _ _ hf hs
  refine ⟨a, ?_, sa⟩
  simp only [Rep]
  exact ⟨cs.toList, by simp, ha.1, ha.2⟩
theorem sized_mem {H : Type} {ts : List TypeId} {ds : List (DataW H)} (h : (DataW.weightsEach P ts ds).all (· ≤ reachBytes) = true) {j : Nat} {d : DataW H} (ht : ts[j]? = some t) (hd : ds[j]? = some d) : ∀ n ∈ d.weights P t, n ≤ reachBytes := fun n hn => by
  have := List.all_eq_true.1 h n (DataW.weights_mem_each ht hd n hn)
  simpa using this
end
end Go.Proofs.YticlgdhhnjpkjaaGreatDoor.Mw
namespace Go.Proofs.YticlgdhhnjpkjaaGreatDoor
open Go Go.RowKit Go.Proofs.YticlgdhhnjpkjaaGreatDoor.Mw Go.Proofs.YticlgdhhnjpkjaaGreatDoor.Pf Go.ChangeShapes Go.WideShapes Go.ChangeAt
set_option linter.unusedVariables false
theorem own : ownKnob Tryz.prog.godebug = none := by kernel_rfl
theorem laid : laidOutB Tryz.prog = true := by kernel_rfl
theorem et : Tryz.prog.globalNamed "errors.errorType" = some 0 := by kernel_rfl
theorem rt : (Tryz.prog.cutTypes.find? (·.1 == "internal/reflectlite.rtype")).map (·.2) = some 228 := by kernel_rfl
theorem oneRow : ((List.range 270).filter fun t => Tryz.prog.rowNamed t [101, 114, 114, 111, 114]) = [162] := by kernel_rfl
theorem sizeT : Tryz.prog.types.size = 270 := by kernel_rfl
abbrev told : List (String × DataW Unit) := [("errors.errorType", Rows.laid_errors_errorType)]
theorem glob_told {W : World} (h : laidMetH Tryz.prog told W) : Glob (snap W) := by
  have h' : laidMet Tryz.prog [] W ∧ handlesMet Tryz.prog told W := h
  obtain ⟨name, u, ty, e1, e2, e3, e4, e5⟩ := h'.2 _ (List.mem_singleton.2 rfl)
  have en : name = [101, 114, 114, 111, 114] := (Option.some.inj e1).symm
  subst en
  obtain rfl := Option.some.inj (rt.symm.trans e2)
  have hm : ty ∈ (List.range 270).filter fun t => Tryz.prog.rowNamed t [101, 114, 114, 111, 114] := List.mem_filter.2 ⟨List.mem_range.2 (by rw [← sizeT]; exact e3), e4⟩
  rw [oneRow] at hm
  obtain rfl := List.mem_singleton.1 hm
  have hh : typeHandle Tryz.prog 162 = .pointer (some ⟨1, 162, none⟩) := by kernel_rfl
  rw [hh] at e5
  intro b v hb
  have hb0 : b = 0 ∧ v = .iface 228 (.agg #[.pointer (some ⟨1, 162, none⟩)]) := by
    unfold globs at hb
    simp only [List.lookup] at hb
    split at hb
    · rename_i hx
      exact ⟨by simpa using hx, (Option.some.inj hb).symm⟩
    · cases hb
  obtain ⟨rfl, rfl⟩ := hb0
  unfold World.var? at e5
  rw [et] at e5
  simp only [Option.bind_some] at e5
  split at e5
  · rename_i c t z hc
    cases e5
    exact ⟨t, by unfold snap; rw [hc] <;> rfl⟩
  · cases e5
noncomputable def toldWorld (os : Os) : World :=
  let w0 := World.holding Tryz.prog os ⟨#[], #[], []⟩
  { w0 with heap := w0.heap.modify 0 fun
      | .cells _ t frozen => .cells #[.iface 228 (.agg #[.pointer (some ⟨1, 162, none⟩)])] t frozen
      | o => o }
theorem toldWorld_met (os : Os) (args : Array Value) : laidMetH Tryz.prog told ((toldWorld os).forCall (fun _ _ => 0) ⟨#[], args, []⟩).memory :=
  laidMetH_of_parts (laidMet_nil _ _) (by kernel_rfl)
theorem cI : Tryz.prog.cellsOf 3 = 1 := by kernel_rfl
theorem opI (w : World) : OpensS Tryz.prog w 3 (fun z : Int => [.int .i64 z]) I64 := OpensS.int Tryz.underlying3
theorem cIns : Tryz.prog.cellsOf 63 = 2 := by kernel_rfl
theorem cInss : Tryz.prog.cellsOf 51 = 1 := by kernel_rfl
theorem cFnc : Tryz.prog.cellsOf 53 = 3 := by kernel_rfl
theorem cFncs : Tryz.prog.cellsOf 22 = 1 := by kernel_rfl
theorem cPrg : Tryz.prog.cellsOf 24 = 1 := by kernel_rfl
set_option maxRecDepth 100000 in
theorem opIns (w : World) : OpensS Tryz.prog w 63 Ins.c (fun x => I64 x.kind ∧ I64 x.a) :=
  (OpensS.struct Tryz.underlying63 cIns (OpensT.cons (opI w) rfl cI (OpensT.cons (opI w) rfl cI OpensT.nil))).map (fun p => ⟨p.1, p.2.1⟩) (fun a => rfl) (fun a h => ⟨h.1, h.2.1⟩)
set_option maxRecDepth 100000 in
theorem opInss (w : World) : OpensS Tryz.prog w 51 (fun l : List Ins => [slD Ins.c l]) (fun l => l.length * 16 ≤ reachBytes ∧ ∀ x ∈ l, I64 x.kind ∧ I64 x.a) :=
  OpensS.slice (opIns w) Tryz.underlying51 cIns (by decide) (by kernel_rfl)
set_option maxRecDepth 100000 in
theorem opFnc (w : World) : OpensS Tryz.prog w 53 Fnc.c (fun f => (I64 f.args ∧ I64 f.locals) ∧ f.code.length * 16 ≤ reachBytes ∧ ∀ x ∈ f.code, I64 x.kind ∧ I64 x.a) :=
  (OpensS.struct Tryz.underlying53 cFnc (OpensT.cons (opI w) rfl cI (OpensT.cons (opI w) rfl cI (OpensT.cons (opInss w) rfl cInss OpensT.nil)))).map (fun p => ⟨p.1, p.2.1, p.2.2.1⟩) (fun a => rfl) (fun a h => ⟨⟨h.1, h.2.1⟩, h.2.2.1⟩)
set_option maxRecDepth 100000 in
theorem opPrg (w : World) : OpensS Tryz.prog w 24 (fun l : List Fnc => [slD Fnc.c l]) (fun l => l.length * 40 ≤ reachBytes ∧ ∀ f ∈ l, (I64 f.args ∧ I64 f.locals) ∧ f.code.length * 16 ≤ reachBytes ∧ ∀ x ∈ f.code, I64 x.kind ∧ I64 x.a) :=
  (OpensS.struct Tryz.underlying24 cPrg (OpensT.cons (OpensS.slice (opFnc w) Tryz.underlying22 cFnc (by decide) (by kernel_rfl)) rfl cFncs OpensT.nil)).map (fun p => p.1) (fun a => rfl) (fun a h => h.1)
namespace lowers
set_option maxRecDepth 100000 in
theorem lifted (os : Os) (started : os.Started) (H : Type) (enc : TypeId × Value → H) :
    ReturnsInHanded {} Tryz.checked os 3 .any (fun w args => (Rows.lowersSpec.pre enc Tryz.prog Tryz.f3 [] false w args ∧ laidMetH Tryz.prog told w) ∧ sizedMet enc Tryz.prog Tryz.f3 (OpenSpec.ofChange Rows.lowersSpec) false w args)
      (Rows.lowersSpec.post enc Tryz.prog Tryz.f3 false true false false) := by
  refine law_row_laid (C := Tryz.checked) told own started (by kernel_rfl) Tryz.func3 rfl (fun ds h => ?_) rfl Tryz.underlying4 laid (of_decide_eq_true (by kernel_rfl))
    (ChangeSpec.witness_at (enc := enc) (C := Tryz.checked) (os := os) (X := fun w _ => laidMetH Tryz.prog told w) false (toldWorld os) #[.agg #[.slice none 0 0], .int .i64 0] 8 rfl (by kernel_rfl) (by kernel_rfl) (by kernel_rfl) (by kernel_rfl) (by kernel_rfl) (toldWorld_met os _)) (fun W base args ds p hA hval hsz hL => ?_)
  · match ds, h with
    | [_, _], _ => rfl
  · rw [show Tryz.f3.params.toList = [24, 3] from rfl] at hA hsz
    obtain ⟨v0, vs0, d0, ds0, p0, q0, rfl, rfl, rfl, h0, r0⟩ := trodAll_cons hA
    obtain ⟨v1, vs1, d1, ds1, p1, q1, rfl, rfl, rfl, h1, r1⟩ := trodAll_cons r0
    obtain ⟨rfl, rfl, rfl⟩ := trodAll_nil r1
    obtain ⟨x0, rfl, z0⟩ := okWide_struct Tryz.underlying24 (hval 0 24 v0 rfl rfl)
    obtain ⟨a0, g0, s0⟩ := OpensS.agg (opPrg W) h0 (sized_mem (t := 24) (j := 0) hsz rfl rfl)
    obtain ⟨x1, rfl⟩ := okWide_int Tryz.underlying3 (hval 1 3 v1 rfl rfl)
    obtain ⟨a1, g1, s1⟩ := OpensS.val (d := fun z : Int => .int .i64 z) (OpensS.int Tryz.underlying3) rfl h1 (sized_mem (t := 3) (j := 1) hsz rfl rfl)
    exact law_mc (Lowers_pc a0 a1 (by have h := s0.1; unfold reachBytes at h; omega) (fun f hf => by have h := (s0.2 f hf).2.1; unfold reachBytes at h; omega)) (glob_told hL) (RepL.cons g0 (RepL.cons g1 (RepL.nil _)))
theorem over : Rows.lowersRow.holds Tryz.pinned (OpenSpec.ofChange Rows.lowersSpec) :=
  OpenClaim.holds_of_wide 3 Tryz.f3 rfl rfl rfl rfl rfl rfl rfl ⟨rfl, rfl, rfl, rfl, rfl⟩ rfl rfl rfl rfl rfl (by kernel_rfl) Tryz.func3 (by kernel_rfl)
    (of_decide_eq_true (by kernel_rfl)) (by unfold Func.isWrapper; first | (rw [if_pos (by decide +kernel)]; kernel_rfl) | (rw [if_neg (by decide +kernel)]; exact ⟨rfl, rfl⟩))
    (fun os started H enc _ => lifted os started H enc)
end lowers
theorem lowers_card : Rows.LowersCardSaid :=
  Claim7.holds_tied_plain_at .later [] [.handle] true _ true
    lowers.over (fun _ h => by cases h) (by kernel_rfl) (fun _ h => by cases h) lowers_row_tie rfl ⟨rfl, rfl⟩ (by kernel_rfl) rfl
    (fun f fn hf hfn => by
      obtain rfl : f = 3 := Option.some.inj ((show Tryz.prog.funcNamed "swage/swagelaw11.Lowers" = some 3 by kernel_rfl).symm.trans hf) |>.symm
      obtain rfl : fn = Tryz.f3 := (Option.some.inj (Tryz.func3.symm.trans hfn)).symm
      have hall : (Tryz.f3.params.toList.all fun t => !Tryz.prog.wantsStandIn t) = true := by kernel_rfl
      refine ⟨by kernel_rfl, fun j t ht => ?_⟩
      have hm : t ∈ Tryz.f3.params.toList := List.mem_of_getElem? (i := j) (by rw [Array.getElem?_toList]; exact ht)
      exact (show Tryz.prog.wantsStandIn t = false by simpa using List.all_eq_true.1 hall t hm))
    (by kernel_rfl)
end Go.Proofs.YticlgdhhnjpkjaaGreatDoor
