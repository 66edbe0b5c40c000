/- Fy Xj Fz Ga Gb Xk: joined texts of this claim. No condition. -/
import Derived.Test.YticlgdhhnjpkjaaGreatDoorJnjl
import Derived.Test.YticlgdhhnjpkjaaGreatDoorJnjm
import Derived.Test.YticlgdhhnjpkjaaGreatDoorJnjj
namespace Go.Proofs.YticlgdhhnjpkjaaGreatDoor.Pf
open Go Go.RowKit Go.Proofs Go.Proofs.YticlgdhhnjpkjaaGreatDoor.Mw Go.Proofs.YticlgdhhnjpkjaaGreatDoor.Sx
set_option linter.unusedVariables false
set_option linter.unusedSimpArgs false
set_option maxRecDepth 8000
def LoAt (c : Cod) (i : Nat) (pend : Int) (lo : List (Irc × DV)) : Prop := ∀ t (h : t < lo.length) (h2 : t < c.code.length), i ≤ t → lo[t].1 = if t = i then costed c.code[t] pend else c.code[t]
theorem costed_zero (x : Irc) : costed x 0 = x := by cases x; simp [costed]
theorem setR_succ (s : List Int) (a : Nat) (v : Int) (k : Nat) : setR s a v (k + 1) = (setR s a v k).set (a + k) v := rfl
theorem sqgA (A B K Q : Bool) : ((grdD false (.bool A) ((grdD false (.bool A) (some (.bool B))).bind fun x => andD x (some (.bool K)))).bind fun x => grdD true x (some (.bool !Q))).isSome = true := by
  cases A <;> cases B <;> cases K <;> rfl
theorem sqgB (A B K : Bool) : ((grdD false (.bool A) (some (.bool B))).bind fun x => grdD true x (some (.bool K))).isSome = true := by
  cases A <;> cases B <;> rfl
theorem sqgC (A B K Q : Bool) : orD (.bool A) ((grdD false (.bool A) ((grdD false (.bool A) (some (.bool B))).bind fun x => andD x (some (.bool K)))).bind fun x => andD x (some (.bool !Q))) = some (.bool (A || (B && K && !Q))) := by
  cases A <;> cases B <;> cases K <;> cases Q <;> rfl
set_option maxHeartbeats 1000000 in
theorem sqr_run {KK XX RR δ} {tyo : TypeId} {M1 M : DMem} {p : List Fnc} {c : Cod} {L : List Bool} {ob cap q8 pb o i : Nat} {fn regs : Int} {dm dO : DV} {SA : List Nat} {lo le : List (Irc × DV)} {st : List Int} (hok : MayOk p c) (hL : L.length = c.code.length) (hi : i < c.code.length) (hx : c.code[i].kind = 0)
    (hc : SqC M1 ob cap q8 pb o c.code.length SA) (hlo : LoAt c i 0 lo) (h : SqSt tyo M1 M ob cap q8 pb o fn regs dm SA c.code.length lo le dO st)
    (h4 : δ 4 = .mp o 0) (h6 : δ 6 = .ip [.int .i64 fn, .int .i64 regs, .msl ob 0 c.code.length cap, dm]) (h7 : δ 7 = slB L) (h8 : δ 8 = .mp q8 0) (h9 : δ 9 = .msl pb 0 c.code.length c.code.length) (h10 : δ 10 = .int .i64 i) (hle : le.length ≤ i)
    (hK : ∀ δ' M', δ' 4 = .mp o 0 → δ' 6 = .ip [.int .i64 fn, .int .i64 regs, .msl ob 0 c.code.length cap, dm] → δ' 7 = slB L → δ' 8 = .mp q8 0 → δ' 9 = .msl pb 0 c.code.length c.code.length → δ' 10 = .int .i64 i → δ' 11 = .int .i64 (runR c.code L i).2 → δ' 12 = .int .i64 (runR c.code L i).1 →
      SqSt tyo M1 M' ob cap q8 pb o fn regs dm SA c.code.length lo le dO (setR st i le.length ((runR c.code L i).1 - i)) →
      wpD Tryz.prog MU_swageref15_Squeeze (fun f => roL.contains f) (fun t => G_swageref15_Squeeze.contains t) 187 S3_swageref15_Squeeze KK XX RR δ' M') :
    wpD Tryz.prog MU_swageref15_Squeeze (fun f => roL.contains f) (fun t => G_swageref15_Squeeze.contains t) 187 S4_swageref15_Squeeze KK XX RR δ M := by
  have hlt := run_lt hok L hi
  simp only [S4_swageref15_Squeeze, MU_swageref15_Squeeze, h10, SW, SV, wpD, evDL, evDM, evD, bldLD, wpSp, DMem.mt, beq_self_eq_true, seval]
  refine ⟨fun f δ M' => ∃ (to : Nat) (cost : Int), i ≤ to ∧ to ≤ (runR c.code L i).1 ∧ f = c.code.length - to ∧ δ 4 = .mp o 0 ∧ δ 6 = .ip [.int .i64 fn, .int .i64 regs, .msl ob 0 c.code.length cap, dm] ∧ δ 7 = slB L ∧ δ 8 = .mp q8 0 ∧ δ 9 = .msl pb 0 c.code.length c.code.length ∧ δ 10 = .int .i64 i ∧ δ 11 = .int .i64 cost ∧ δ 12 = .int .i64 to ∧ 0 ≤ cost ∧ cost ≤ 256 * to ∧
      SqSt tyo M1 M' ob cap q8 pb o fn regs dm SA c.code.length lo le dO (setR st i le.length (to - i)) ∧ runG c.code L i (c.code.length - to) to cost = runR c.code L i, c.code.length - i,
    ⟨i, 0, Nat.le_refl _, hlt.1, rfl, h4, h6, h7, h8, h9, h10, rfl, rfl, by omega, by omega, by rw [Nat.sub_self]; exact h, rfl⟩, ?_⟩
  clear h4 h6 h7 h8 h9 h10 h
  rintro f δ M' ⟨to, cost, hit, htr, rfl, h4, h6, h7, h8, h9, h10, h11, h12, c0, c1, h, hrun⟩
  have htl : to < c.code.length := by omega
  have htlo : to < lo.length := by rw [h.lon]; exact htl
  have hlt' := hlo to htlo htl hit
  have hix : ixD 9 (.msl ob 0 c.code.length cap) (.int .i64 (to : Int)) = some (.mp ob (to * 9)) := by rw [ixM htl, Nat.zero_add]
  have hk : ldD M' (.mp ob (to * 9)) = some (.int .i64 c.code[to].kind) := by
    have := gc_get (j := 0) h.own htlo (by decide) rfl
    rw [Nat.add_zero, hlt'] at this
    rw [this]; split <;> rfl
  have hcst : ldD M' (.mp ob (to * 9 + 6)) = some (.int .i64 c.code[to].cost) := by
    have := gc_get (j := 6) h.own htlo (by decide) rfl
    rw [hlt'] at this
    rw [this]
    split
    · rw [costed_zero]
    · rfl
  have hLt : to < L.length := by omega
  have hqd := h.q
  have htlI : (to : Int) < (c.code.length : Int) := by omega
  have hqL := h.out
  simp only [S2_swageref15_Squeeze, MU_swageref15_Squeeze, h4, h6, h7, h8, h9, h10, h11, h12, hix, Nat.add_zero, hk, hcst, ix_slB hLt, hqd, SW, SV, wpD, evDL, evDM, evD, bldLD, wpSp, DMem.mt, beq_self_eq_true, seval]
  have hlD : Mw.lenD dO = some (.int .i64 le.length) := by
    obtain ⟨_, ⟨e, e2⟩ | ⟨b, cc, ty, e, _⟩⟩ := h.out
    · rw [e, e2] <;> rfl
    · rw [e] <;> rfl
  have hixp : ixD 1 (.msl pb 0 c.code.length c.code.length) (.int .i64 (to : Int)) = some (.mp pb to) := by rw [ixM htl]; simp
  have e1 : wr64 ((to : Int) + 1) = ((to + 1 : Nat) : Int) := w64s (by have := hok.n; omega)
  have hcb := (hok.ir to htl).c0
  have e2 : wr64 (cost + c.code[to].cost) = cost + c.code[to].cost := w64 (by have := hok.n; omega)
  have hgD : L.getD to false = L[to] := by rw [List.getD_eq_getElem?_getD, List.getElem?_eq_getElem hLt] <;> rfl
  obtain ⟨j, hj⟩ : ∃ j, c.code.length - to = j + 1 := ⟨c.code.length - to - 1, by omega⟩
  simp only [sqgA, sqgB, sqgC, decide_eq_true htlI, Bool.true_and, SW, SV, wpD, evDL, evDM, evD, bldLD, wpSp, DMem.mt, beq_self_eq_true, seval]
  by_cases hgo : c.code[to].kind = 0 ∧ (to = i ∨ L.getD to false = false)
  · have eb : (decide ((to : Int) = (i : Int)) || (decide (c.code[to].kind = 0) && !L[to])) = true := by
      rw [← hgD]
      rcases hgo with ⟨g1, g2 | g2⟩
      · rw [decide_eq_true (by omega)] <;> rfl
      · rw [decide_eq_true g1, g2]; simp
    rw [hj] at hrun
    simp only [runG, List.getElem?_eq_getElem htl] at hrun
    rw [if_pos hgo] at hrun
    simp only [eb, hlD, hixp, h4, h6, h7, h8, h9, h10, h11, h12, hqd, SW, SV, wpD, evDL, evDM, evD, bldLD, wpSp, DMem.mt, beq_self_eq_true, seval]
    refine stI h.p (by rw [h.stl]; exact htl) (by rw [h.stl]; exact Nat.le_refl _) fun M2 hM2 => ?_
    have h2 := h.place hc hM2
    have hcst2 : ldD M2 (.mp ob (to * 9 + 6)) = some (.int .i64 c.code[to].cost) := by
      have := gc_get (j := 6) h2.own htlo (by decide) rfl
      rw [hlt'] at this
      rw [this]
      split
      · rw [costed_zero]
      · rfl
    simp only [hix, hcst2, e1, e2, h4, h6, h7, h8, h9, h10, h11, h12, SW, SV, wpD, evDL, evDM, evD, bldLD, wpSp, DMem.mt, beq_self_eq_true, seval]
    have hge := runG_ge c.code L i j (to + 1) (cost + c.code[to].cost)
    rw [hrun] at hge
    refine ⟨c.code.length - (to + 1), M2, by omega, SubD.refl _, to + 1, _, by omega, hge, rfl, rfl, rfl, by omega, by omega, ?_, by rw [show c.code.length - (to + 1) = j by omega]; exact hrun⟩
    rw [show to + 1 - i = (to - i) + 1 by omega, setR_succ, show i + (to - i) = to by omega]
    exact h2
  · have eb : (decide ((to : Int) = (i : Int)) || (decide (c.code[to].kind = 0) && !L[to])) = false := by
      rw [← hgD]
      rw [Bool.or_eq_false_iff, Bool.and_eq_false_iff]
      refine ⟨decide_eq_false fun h => ?_, ?_⟩
      · have : to = i := by omega
        subst this
        exact hgo ⟨hx, .inl rfl⟩
      · by_cases hk0 : c.code[to].kind = 0
        · right
          cases hq : L.getD to false
          · exact absurd ⟨hk0, .inr hq⟩ hgo
          · rfl
        · left; exact decide_eq_false hk0
    rw [hj] at hrun
    simp only [runG, List.getElem?_eq_getElem htl] at hrun
    rw [if_neg hgo] at hrun
    simp only [eb, h4, h6, h7, h8, h9, h10, h11, h12, SW, SV, wpD, evDL, evDM, evD, bldLD, wpSp, DMem.mt, beq_self_eq_true, seval]
    refine hK _ _ h4 h6 h7 h8 h9 h10 ?_ ?_ ?_
    · rw [← hrun]; exact h11
    · rw [← hrun]; exact h12
    · rw [← hrun]; exact h
theorem OwnD.len9 {M : DMem} {d : DV} {n : Nat} {cs : List DV} (h : OwnD M 9 d n cs) : Mw.lenD d = some (.int .i64 n) := by
  obtain ⟨_, ⟨e, e2⟩ | ⟨b, cc, ty, e, _⟩⟩ := h
  · rw [e, e2] <;> rfl
  · rw [e] <;> rfl
theorem OwnD.cell9 {M : DMem} {d : DV} {n : Nat} {cs : List DV} (h : OwnD M 9 d n cs) : cellsD d = some [d] ∧ plainD d = true := by
  obtain ⟨_, ⟨e, e2⟩ | ⟨b, cc, ty, e, _⟩⟩ := h
  · rw [e]; exact ⟨rfl, rfl⟩
  · rw [e]; exact ⟨rfl, rfl⟩
set_option maxHeartbeats 1000000 in
theorem sqr_S3 {KK XX RR δ} {tyo : TypeId} {M1 M : DMem} {p : List Fnc} {c : Cod} {L : List Bool} {ob cap q8 pb o i to : Nat} {cost fn regs : Int} {dm dO : DV} {SA : List Nat} {lo le : List (Irc × DV)} {st : List Int} (hok : MayOk p c) (hL : L.length = c.code.length) (hit : i < to) (ht : to < c.code.length)
    (hc : SqC M1 ob cap q8 pb o c.code.length SA) (hlo : LoAt c i 0 lo) (h : SqSt tyo M1 M ob cap q8 pb o fn regs dm SA c.code.length lo le dO st) (hc0 : 0 ≤ cost ∧ cost ≤ 256 * to) (hle : le.length ≤ i)
    (h4 : δ 4 = .mp o 0) (h6 : δ 6 = .ip [.int .i64 fn, .int .i64 regs, .msl ob 0 c.code.length cap, dm]) (h7 : δ 7 = slB L) (h8 : δ 8 = .mp q8 0) (h9 : δ 9 = .msl pb 0 c.code.length c.code.length) (h10 : δ 10 = .int .i64 i) (h11 : δ 11 = .int .i64 cost) (h12 : δ 12 = .int .i64 to)
    (hdm : cellsD dm = some [dm] ∧ plainD dm = true)
    (hK : ∀ δ' M' lo' le' dO' pend, δ' 4 = .mp o 0 → δ' 6 = .ip [.int .i64 fn, .int .i64 regs, .msl ob 0 c.code.length cap, dm] → δ' 7 = slB L → δ' 8 = .mp q8 0 → δ' 9 = .msl pb 0 c.code.length c.code.length → δ' 10 = .int .i64 to →
      SqSt tyo M1 M' ob cap q8 pb o fn regs dm SA c.code.length lo' le' dO' st → LoAt c to pend lo' →
      ((L.getD to false = false ∧ pend = cost ∧ le' = le) ∨ (L.getD to false = true ∧ pend = 0 ∧ le'.map (·.1) = if 0 < cost then le.map (·.1) ++ [nopI cost (pcAt c.code i)] else le.map (·.1))) → KK δ' M') :
    wpD Tryz.prog MU_swageref15_Squeeze (fun f => roL.contains f) (fun t => G_swageref15_Squeeze.contains t) 187 S3_swageref15_Squeeze KK XX RR δ M := by
  have hn := hok.n
  have hto : to < lo.length := by rw [h.lon]; exact ht
  have hil : i < lo.length := by omega
  have hLt : to < L.length := by omega
  have hgD : L.getD to false = L[to] := by rw [List.getD_eq_getElem?_getD, List.getElem?_eq_getElem hLt] <;> rfl
  have hix : ixD 9 (.msl ob 0 c.code.length cap) (.int .i64 (to : Int)) = some (.mp ob (to * 9)) := by rw [ixM ht, Nat.zero_add]
  have hixi : ixD 9 (.msl ob 0 c.code.length cap) (.int .i64 (i : Int)) = some (.mp ob (i * 9)) := by rw [ixM (by omega), Nat.zero_add]
  have hlt' := hlo to hto ht (by omega)
  rw [if_neg (by omega)] at hlt'
  have hli := hlo i hil (by omega) (Nat.le_refl _)
  rw [if_pos rfl, costed_zero] at hli
  have hcst := gc_get (j := 6) h.own hto (by decide) (v := .int .i64 c.code[to].cost) (by rw [← hlt'] <;> rfl)
  have hpc := gc_get (j := 8) h.own hil (by decide) (v := .int .i64 c.code[i].pc) (by rw [← hli] <;> rfl)
  have hpcA : pcAt c.code i = c.code[i].pc := by unfold pcAt; rw [List.getElem?_eq_getElem (by omega)]
  have hcb := (hok.ir to ht).c0
  have ew : wr64 (c.code[to].cost + cost) = c.code[to].cost + cost := w64 (by omega)
  have hLo0 : LoAt c to 0 lo := fun t a b htt => by
    rw [hlo t a b (by omega), if_neg (by omega)]
    split
    · rw [costed_zero]
    · rfl
  simp only [S3_swageref15_Squeeze, MU_swageref15_Squeeze, h4, h6, h7, h8, h9, h10, h11, h12, ix_slB hLt, SW, SV, wpD, evDL, evDM, evD, bldLD, wpSp, DMem.mt, beq_self_eq_true, seval]
  refine ⟨fun hl => ?_, fun hl => ?_⟩
  · simp only [raw1_swageref15_Squeeze, P1_swageref15_Squeeze, hix, hcst, ew, h4, h6, h7, h8, h9, h10, h11, h12, SW, SV, wpD, evDL, evDM, evD, bldLD, wpSp, DMem.mt, beq_self_eq_true, seval]
    refine gc_store (y := (costed c.code[to] cost, lo[to].2)) h.own hto (by rw [h.lon]; have := hc.nc; omega) (by decide) (by unfold gc; rw [hlt'] <;> rfl) fun M2 hM2 => ?_
    have hd := h.loh _ (List.getElem_mem hto)
    have h2 := h.cost hc (y := (costed c.code[to] cost, lo[to].2)) (by
      obtain ⟨T, t1, t2⟩ := hd
      rw [hlt'] at t1
      exact ⟨T, t1, t2⟩) hM2
    try simp only [h12, SW, SV, wpD, evDL, evDM, evD, bldLD, wpSp, DMem.mt, beq_self_eq_true, seval]
    refine hK _ _ _ _ _ cost h4 h6 h7 h8 h9 rfl h2 (fun t a b htt => ?_) (.inl ⟨by rw [hgD]; simpa using hl, rfl, rfl⟩)
    rw [List.length_set] at a
    rw [List.getElem_set]
    by_cases e : to = t
    · subst e; rw [if_pos rfl, if_pos rfl]
    · rw [if_neg e, if_neg (Ne.symm e), hlo t a b (by omega), if_neg (by omega)]
  · have hl' : L.getD to false = true := by rw [hgD]; simpa using hl
    refine ⟨fun hp => ?_, fun hp => ?_⟩
    · have hp : 0 < cost := of_decide_eq_true hp
      simp only [raw2_swageref15_Squeeze, P2_swageref15_Squeeze, hixi, hpc, h.q, freshI, List.map_cons, List.map_nil, h4, h6, h7, h8, h9, h10, h11, h12, SW, SV, wpD, evDL, evDM, evD, bldLD, wpSp, DMem.mt, beq_self_eq_true, seval]
      refine app_isl (n := le.length) (k := 1) (bytes := 88) h.out (by decide) rfl rfl (by omega) (by omega) fun d' M2 ho hg => ?_
      try simp only [freshI, List.map_cons, List.map_nil, h4, h6, h7, h8, h9, h10, h11, h12, SW, SV, wpD, evDL, evDM, evD, bldLD, wpSp, DMem.mt, beq_self_eq_true, seval]
      have hnq : blkD dO ≠ some q8 := fun e => (h.blk q8 e).2.1 rfl
      have hc9 := OwnD.cell9 ho
      refine stD (hg.keep q8 _ h.q hnq) hc9.1 rfl (by simp) (by simp) (by simp [hc9.2]) fun M3 hM3 => ?_
      have h2 := h.more hc (y := (nopI cost c.code[i].pc, .zsl)) (M' := M3) ⟨[], SlAt.nil, fun b hb => by simp at hb⟩ ho hg hM3
      try simp only [h12, SW, SV, wpD, evDL, evDM, evD, bldLD, wpSp, DMem.mt, beq_self_eq_true, seval]
      refine hK _ _ lo _ _ 0 h4 h6 h7 h8 h9 rfl h2 hLo0 (.inr ⟨hl', rfl, by rw [if_pos hp, hpcA, List.map_append] <;> rfl⟩)
    · have hp : ¬ 0 < cost := of_decide_eq_false hp
      try simp only [h12, SW, SV, wpD, evDL, evDM, evD, bldLD, wpSp, DMem.mt, beq_self_eq_true, seval]
      refine hK _ _ lo le dO 0 h4 h6 h7 h8 h9 rfl h hLo0 (.inr ⟨hl', rfl, by rw [if_neg hp]⟩)
end Go.Proofs.YticlgdhhnjpkjaaGreatDoor.Pf
namespace Go.Proofs.YticlgdhhnjpkjaaGreatDoor.Pf
open Go Go.RowKit Go.Proofs Go.Proofs.YticlgdhhnjpkjaaGreatDoor.Mw Go.Proofs.YticlgdhhnjpkjaaGreatDoor.Sx
set_option linter.unusedVariables false
set_option linter.unusedSimpArgs false
theorem goes_false {k : Int} (h : ¬(k = 4 ∨ k = 5)) : goesB k = false := by
  unfold goesB
  rw [decide_eq_false fun h' => h (.inl h'), decide_eq_false fun h' => h (.inr h')] <;> rfl
theorem placed_no {s : List Int} {x : Irc} (h : ¬(x.kind = 4 ∨ x.kind = 5)) : placed s x = x := by
  unfold placed; rw [goes_false h] <;> rfl
theorem placed_go {s : List Int} {x : Irc} (h : x.kind = 4 ∨ x.kind = 5) : placed s x = { x with k := s.getD x.k.toNat 0 } := by
  unfold placed
  rw [if_pos]
  unfold goesB; simpa using h
theorem irMay_move {p : List Fnc} {regs : Int} {n n' mm o j : Nat} {x : Irc} (h : irMayB p regs n mm o x = true) {k : Int} (hk : 0 ≤ k) (hc : x.cost + k ≤ 256) {s : List Int}
    (hg : x.kind = 4 ∨ x.kind = 5 → 0 ≤ x.k → x.k < n → 0 ≤ s.getD x.k.toNat 0 ∧ s.getD x.k.toNat 0 < n' ∧ ((o : Int) < x.k → (j : Int) < s.getD x.k.toNat 0)) : irMayB p regs n' mm j (placed s (costed x k)) = true := by
  unfold irMayB at h
  rw [Bool.and_eq_true] at h
  obtain ⟨h0, h⟩ := h
  have h0' := h0
  rw [Bool.and_eq_true, decide_eq_true_eq, decide_eq_true_eq] at h0'
  have h0c : (decide (0 ≤ x.cost + k ∧ x.cost + k ≤ 256) && decide (0 ≤ x.pc ∧ x.pc < 64)) = true := by
    rw [Bool.and_eq_true, decide_eq_true_eq, decide_eq_true_eq]; exact ⟨by omega, h0'.2⟩
  by_cases h45 : x.kind = 4 ∨ x.kind = 5
  · have hx : (costed x k).kind = 4 ∨ (costed x k).kind = 5 := h45
    rw [placed_go hx]
    unfold costed
    unfold irMayB
    rw [Bool.and_eq_true]
    refine ⟨h0c, ?_⟩
    dsimp only
    rcases h45 with h4 | h5
    · simp only [h4] at h ⊢
      simp only [show ¬((4:Int) = 0 ∨ (4:Int) = 11) by decide, show ¬((4:Int) = 1) by decide, show ¬((4:Int) = 2) by decide, show ¬((4:Int) = 3) by decide, if_false, if_true, Bool.and_eq_true, decide_eq_true_eq] at h ⊢
      obtain ⟨a1, a2, a3⟩ := hg (.inl h4) (by omega) (by omega)
      refine ⟨⟨a1, a2, ?_⟩, h.2⟩
      rcases h.1.2.2 with h | h
      · exact .inl (a3 h)
      · right; omega
    · simp only [h5] at h ⊢
      simp only [show ¬((5:Int) = 0 ∨ (5:Int) = 11) by decide, show ¬((5:Int) = 1) by decide, show ¬((5:Int) = 2) by decide, show ¬((5:Int) = 3) by decide, show ¬((5:Int) = 4) by decide, if_false, if_true, Bool.and_eq_true, decide_eq_true_eq] at h ⊢
      obtain ⟨a1, a2, a3⟩ := hg (.inr h5) (by omega) (by omega)
      refine ⟨⟨h.1.1, a1, a2, ?_⟩, h.2⟩
      rcases h.1.2.2.2 with h | h
      · exact .inl (a3 h)
      · right; omega
  · have hx : ¬((costed x k).kind = 4 ∨ (costed x k).kind = 5) := h45
    rw [placed_no hx]
    unfold costed
    unfold irMayB
    rw [Bool.and_eq_true]
    refine ⟨h0c, ?_⟩
    dsimp only
    have h4 : ¬(x.kind = 4) := fun h => h45 (.inl h)
    have h5 : ¬(x.kind = 5) := fun h => h45 (.inr h)
    simp only [if_neg h4, if_neg h5] at h ⊢
    revert h
    repeat' split
    all_goals try exact id
    · simp only [Bool.and_eq_true, decide_eq_true_eq]
      rintro ⟨⟨⟨b1, b2, b3, b4, b5⟩, b6⟩, b7⟩
      exact ⟨⟨⟨b1, b2, b3, by omega, b5⟩, b6⟩, b7⟩
    · simp only [Bool.and_eq_true, decide_eq_true_eq]
      rintro ⟨⟨b1, b2⟩, b3⟩
      exact ⟨⟨b1, by omega⟩, b3⟩
theorem irMay_nop (p : List Fnc) (regs : Int) (n mm j : Nat) {k pc : Int} (h1 : 0 < k) (h2 : k ≤ 256) (h3 : 0 ≤ pc) (h4 : pc < 64) : irMayB p regs n mm j (nopI k pc) = true := by
  unfold irMayB nopI
  rw [Bool.and_eq_true, Bool.and_eq_true, decide_eq_true_eq, decide_eq_true_eq]
  exact ⟨⟨by simp only; omega, by simp only; omega⟩, rfl⟩
theorem leaders_len (code : List Irc) : (leadersF code).length = code.length := by unfold leadersF; rw [List.length_take, ldF_len]; omega
structure SqOut (p : List Fnc) (c a : Cod) : Prop where
  fn : a.fn = c.fn
  regs : a.regs = c.regs
  metas : a.metas = c.metas
  may : codeMayB p a = true
  len : a.code.length ≤ c.code.length
  tot : totC a.code = totC c.code
  nop : ∀ (j : Nat) (y : Irc), a.code[j]? = some y → y.kind = 0 → 0 < y.cost ∧ (leadersF a.code).getD (j + 1) false = true
theorem placed_cost (s : List Int) (x : Irc) : (placed s x).cost = x.cost := by unfold placed; split <;> rfl
theorem placed_kindX (s : List Int) (x : Irc) : (placed s x).kind = x.kind := by unfold placed; split <;> rfl
theorem totC_placed (s : List Int) (l : List Irc) : totC (l.map (placed s)) = totC l := by
  unfold totC
  rw [List.map_map]
  congr 1
  exact List.map_congr_left fun x _ => placed_cost s x
theorem sq_out {p : List Fnc} {c : Cod} (hm : codeMayB p c = true) {w : Low} (hI : SqI c c.code.length w) (hW : SqW c c.code.length w) : SqOut p c ⟨c.fn, c.regs, w.code.map (placed w.starts), w.metas⟩ := by
  have hok := may_ok hm
  have hn := hok.n
  have hll : c.code.length - 1 < c.code.length := by omega
  have hlast := hok.last _ (List.getElem?_eq_getElem hll)
  obtain ⟨jl, kl, hjl, hyl⟩ := hW.has (c.code.length - 1) _ hll (List.getElem?_eq_getElem hll) (by omega)
  obtain ⟨hjlt, _⟩ := List.getElem?_eq_some_iff.1 hyl
  have hsl : ∀ t, t < c.code.length → 0 ≤ w.starts.getD t 0 ∧ w.starts.getD t 0 ≤ jl := fun t ht => by
    have := (hW.lo t ht).1
    have := hW.mono t (c.code.length - 1) (by omega) hll
    omega
  have hjl1 : jl + 1 = w.code.length := by
    refine Decidable.byContradiction fun hne => ?_
    have hlt : w.code.length - 1 < w.code.length := by omega
    rcases hW.at' (w.code.length - 1) _ (List.getElem?_eq_getElem hlt) with ⟨o, x, k, h1, h2, h3, h4, h5, h6, h7, h8⟩ | ⟨k, pc, t, z, h1, h2, h3, h4, h5, h6, h7, h8, h9, h10, h11, h12⟩
    · have := hsl o h1
      omega
    · rcases Nat.lt_or_ge t c.code.length with ht | ht
      · have := hsl t ht
        have := h11 ht
        omega
      · have : t = c.code.length := by omega
        subst this
        rw [List.getElem?_eq_getElem hll] at h8
        obtain rfl := Option.some.inj h8
        omega
  have hi := hm
  unfold codeMayB at hi
  simp only [Bool.and_eq_true] at hi
  obtain ⟨⟨⟨hh, hir⟩, hme⟩, hla⟩ := hi
  have hir' : ∀ (o : Nat) (x : Irc), c.code[o]? = some x → irMayB p c.regs c.code.length c.metas.length o x = true := fun o x hx => by
    obtain ⟨ho, _⟩ := List.getElem?_eq_some_iff.1 hx
    unfold irsB at hir
    rw [List.all_eq_true] at hir
    have := hir o (List.mem_range.2 ho)
    rw [hx] at this
    exact this
  have hcl := hI.cl
  have hge : ∀ j, (w.code.map (placed w.starts))[j]? = (w.code[j]?).map (placed w.starts) := fun j => List.getElem?_map ..
  refine ⟨rfl, rfl, hI.me, ?_, by simp only [List.length_map]; exact hcl, by simp only [totC_placed]; rw [hW.tot, List.take_length], fun j y hy hk => ?_⟩
  · unfold codeMayB
    simp only [Bool.and_eq_true]
    refine ⟨⟨⟨?_, ?_⟩, by rw [hI.me]; exact hme⟩, ?_⟩
    · unfold headB at hh ⊢
      rw [decide_eq_true_eq] at hh ⊢
      simp only [List.length_map, hI.me]
      obtain ⟨a1, a2, a3, a4, a5, a6, a7, a8, a9⟩ := hh
      exact ⟨a1, a2, a3, a4, a5, a6, by omega, by omega, a9⟩
    · unfold irsB
      rw [List.all_eq_true]
      intro j hj
      have hj := List.mem_range.1 hj
      simp only [List.length_map] at hj ⊢
      rw [hge, List.getElem?_eq_getElem hj]
      simp only [Option.map_some, hI.me]
      rcases hW.at' j _ (List.getElem?_eq_getElem hj) with ⟨o, x, k, h1, h2, h3, h4, h5, h6, h7, h8⟩ | ⟨k, pc, t, z, h1, h2, h3, h4, h5, h6, h7, h8, h9, h10, h11, h12⟩
      · rw [h4]
        rw [h4] at h5
        refine irMay_move (hir' o x h2) h3 h5 fun _ k0 kn => ?_
        have := hsl x.k.toNat (by omega)
        exact ⟨this.1, by omega, fun hox => h8 x.k.toNat (by omega) (by omega)⟩
      · rw [h1, placed_no (by show ¬((0:Int) = 4 ∨ (0:Int) = 5); decide)]
        exact irMay_nop p _ _ _ _ h2 h3 h4 h5
    · unfold lastB
      simp only [List.getLast?_eq_getElem?, List.length_map, hge]
      rw [show w.code.length - 1 = jl by omega, hyl]
      simp only [Option.map_some, placed_kindX, decide_eq_true_eq]
      exact hlast
  · simp only [hge] at hy
    cases hz : w.code[j]? with
    | none => rw [hz] at hy; cases hy
    | some z =>
      rw [hz] at hy
      obtain rfl := Option.some.inj hy
      rw [placed_kindX] at hk
      rw [placed_cost]
      rcases hW.at' j z hz with ⟨o, x, k, h1, h2, h3, h4, h5, h6, h7, h8⟩ | ⟨k, pc, t, z', h1, h2, h3, h4, h5, h6, h7, h8, h9, h10, h11, h12⟩
      · rw [h4] at hk
        exact absurd hk h6
      · rw [h1]
        refine ⟨h2, ?_⟩
        have htl : t < c.code.length := by
          refine Decidable.byContradiction fun hne => ?_
          have : t = c.code.length := by omega
          subst this
          rw [List.getElem?_eq_getElem hll] at h8
          obtain rfl := Option.some.inj h8
          omega
        have hst := h11 htl
        have hsu := hsl t htl
        rcases (leaders_spec c.code htl).1 h10 with h | ⟨o, x, hx1, hx2, hx3⟩ | ⟨x, hx1, hx2, hx3⟩
        · omega
        · obtain ⟨ho, _⟩ := List.getElem?_eq_some_iff.1 hx1
          obtain ⟨jo, ko, hjo, hyo⟩ := hW.has o x ho hx1 (by omega)
          refine (leaders_spec _ (by rw [List.length_map]; omega)).2 (.inr (.inl ⟨jo, placed w.starts (costed x ko), by rw [hge, hyo] <;> rfl, by rw [placed_kindX]; exact hx2, ?_⟩))
          have hx2' : (costed x ko).kind = 4 ∨ (costed x ko).kind = 5 := hx2
          rw [placed_go hx2']
          show w.starts.getD x.k.toNat 0 = _
          rw [show x.k.toNat = t by omega, hst] <;> rfl
        · rw [h8] at hx2
          obtain rfl := Option.some.inj hx2
          omega
theorem sq_again {p : List Fnc} {a : Cod} (hok : MayOk p a) (hnop : ∀ (j : Nat) (y : Irc), a.code[j]? = some y → y.kind = 0 → 0 < y.cost ∧ (leadersF a.code).getD (j + 1) false = true) : ∀ (k i : Nat) (w : Low), a.code.length - i ≤ k → i ≤ a.code.length → SqI a i w → ∃ w', sqRun a.code (leadersF a.code) k i w = some w'
  | 0, i, w, hk, hi, h1 => ⟨w, by simp only [sqRun]; rw [if_neg (by omega)]⟩
  | k + 1, i, w, hk, hi, h1 => by
    simp only [sqRun]
    by_cases hlt : i < a.code.length
    · rw [if_pos hlt]
      obtain ⟨r1, r2, r3, r4⟩ := run_lt hok (leadersF a.code) hlt
      have hrun : (runR a.code (leadersF a.code) i) = (i, 0) ∨ ((runR a.code (leadersF a.code) i) = (i + 1, a.code[i].cost) ∧ (leadersF a.code).getD (i + 1) false = true) := by
        unfold runR
        rw [show a.code.length - i = (a.code.length - i - 1) + 1 by omega]
        simp only [runG, List.getElem?_eq_getElem hlt]
        by_cases hk0 : a.code[i].kind = 0
        · right
          obtain ⟨_, hL⟩ := hnop i _ (List.getElem?_eq_getElem hlt) hk0
          rw [if_pos ⟨hk0, .inl trivial⟩]
          refine ⟨?_, hL⟩
          rw [Int.zero_add]
          cases hf : a.code.length - i - 1 with
          | zero => rfl
          | succ f =>
            simp only [runG]
            split
            · rw [if_neg]
              rintro ⟨_, h | h⟩
              · omega
              · rw [hL] at h; cases h
            · rfl
        · left
          rw [if_neg fun h => hk0 h.1]
      have hne : ∃ r, sqNext a.code (leadersF a.code) i w = some r := by
        unfold sqNext
        rcases hrun with h | ⟨h, hL⟩
        · simp only [h]
          rw [if_pos (by simp), List.getElem?_eq_getElem hlt]
          simp only
          rw [if_neg (by have := (hok.ir i hlt).c0; omega)]
          exact ⟨_, rfl⟩
        · simp only [h]
          rw [if_neg (by rintro (h | h); omega; rw [hL] at h; cases h), if_neg (by have := (hok.ir i hlt).c0; omega)]
          exact ⟨_, rfl⟩
      obtain ⟨⟨j, w2⟩, he⟩ := hne
      rw [he]
      obtain ⟨a1, a2, a3⟩ := sq_next_ok hok hlt h1 he
      exact sq_again hok hnop k j w2 (by omega) a2 a3
    · rw [if_neg hlt]
      exact ⟨w, rfl⟩
theorem squeeze_may (p : List Fnc) (c : Cod) :
    ((squeezeR p c).2 = 1800 ∧ (squeezeR p c).1 = cod0 ∧ (codeMayB p c = false ∨ (codeMayB p c = true ∧ 256 < totC c.code))) ∨
    ((squeezeR p c).2 = 0 ∧ codeMayB p c = true ∧ SqOut p c (squeezeR p c).1 ∧ (squeezeR p (squeezeR p c).1).2 = 0 ∧ (squeezeR p (squeezeR p c).1).1.code.length ≤ (squeezeR p c).1.code.length) := by
  cases hm : codeMayB p c
  · left
    unfold squeezeR
    rw [hm, if_neg (by decide)]
    exact ⟨rfl, rfl, .inl rfl⟩
  have hok := may_ok hm
  cases he : sqRun c.code (leadersF c.code) c.code.length 0 ⟨[], c.metas, List.replicate c.code.length 0⟩ with
  | none =>
    left
    have h := sqRun_none hok c.code.length 0 _ (by omega) (sqI_zero c) he
    unfold squeezeR
    rw [hm, if_pos rfl, he]
    exact ⟨rfl, rfl, .inr ⟨rfl, h⟩⟩
  | some w =>
    right
    obtain ⟨hI, hW⟩ := sqRun_some hok c.code.length 0 _ w (Nat.zero_le _) (sqI_zero c) (sqW_zero c) he
    have hout := sq_out hm hI hW
    have e : squeezeR p c = (⟨c.fn, c.regs, w.code.map (placed w.starts), w.metas⟩, 0) := by
      unfold squeezeR
      rw [hm, if_pos rfl, he]
    rw [e]
    refine ⟨rfl, rfl, hout, ?_⟩
    clear e
    generalize (⟨c.fn, c.regs, w.code.map (placed w.starts), w.metas⟩ : Cod) = a at *
    show (squeezeR p a).2 = 0 ∧ (squeezeR p a).1.code.length ≤ a.code.length
    have hoka := may_ok hout.may
    obtain ⟨w2, he2⟩ := sq_again hoka hout.nop a.code.length 0 ⟨[], a.metas, List.replicate a.code.length 0⟩ (by omega) (Nat.zero_le _) (sqI_zero a)
    obtain ⟨hI2, _⟩ := sqRun_some hoka a.code.length 0 _ w2 (Nat.zero_le _) (sqI_zero a) (sqW_zero a) he2
    have e2 : squeezeR p a = (⟨a.fn, a.regs, w2.code.map (placed w2.starts), w2.metas⟩, 0) := by
      unfold squeezeR
      rw [hout.may, if_pos rfl, he2]
    rw [e2]
    exact ⟨rfl, by simp only [List.length_map]; exact hI2.cl⟩
end Go.Proofs.YticlgdhhnjpkjaaGreatDoor.Pf
namespace Go.Proofs.YticlgdhhnjpkjaaGreatDoor.Pf
open Go Go.RowKit Go.Proofs Go.Proofs.YticlgdhhnjpkjaaGreatDoor.Mw Go.Proofs.YticlgdhhnjpkjaaGreatDoor.Sx
set_option linter.unusedVariables false
set_option linter.unusedSimpArgs false
set_option maxRecDepth 8000
set_option maxHeartbeats 2000000 in
theorem sqr_loop {KK XX RR δ} {tyo : TypeId} {M1 M : DMem} {p : List Fnc} {c : Cod} {ob cap q8 pb o : Nat} {fn regs : Int} {dm : DV} {SA : List Nat} {lo : List (Irc × DV)} (hok : MayOk p c)
    (hc : SqC M1 ob cap q8 pb o c.code.length SA) (hlo : lo.map (·.1) = c.code) (h : SqSt tyo M1 M ob cap q8 pb o fn regs dm SA c.code.length lo [] .zsl (List.replicate c.code.length 0))
    (h4 : δ 4 = .mp o 0) (h6 : δ 6 = .ip [.int .i64 fn, .int .i64 regs, .msl ob 0 c.code.length cap, dm]) (h7 : δ 7 = slB (leadersF c.code)) (h8 : δ 8 = .mp q8 0) (h9 : δ 9 = .msl pb 0 c.code.length c.code.length) (h10 : δ 10 = .int .i64 0)
    (hdm : cellsD dm = some [dm] ∧ plainD dm = true)
    (hK : ∀ δ' M' lo' le' dO', δ' 4 = .mp o 0 → δ' 8 = .mp q8 0 → δ' 9 = .msl pb 0 c.code.length c.code.length →
      SqSt tyo M1 M' ob cap q8 pb o fn regs dm SA c.code.length lo' le' dO' (sqFin c).starts → le'.map (·.1) = (sqFin c).code → le'.length ≤ c.code.length →
      wpD Tryz.prog MU_swageref15_Squeeze (fun f => roL.contains f) (fun t => G_swageref15_Squeeze.contains t) 187 S8_swageref15_Squeeze KK XX RR δ' M') :
    wpD Tryz.prog MU_swageref15_Squeeze (fun f => roL.contains f) (fun t => G_swageref15_Squeeze.contains t) 187 (.seq (.block 0 (.loop S5_swageref15_Squeeze)) S8_swageref15_Squeeze) KK XX RR δ M := by
  have hn := hok.n
  have hL := leaders_len c.code
  have hlo1 : ∀ t (a : t < lo.length) (b : t < c.code.length), lo[t].1 = c.code[t] := fun t a b => by
    have : (lo.map (·.1))[t]? = c.code[t]? := by rw [hlo]
    rw [List.getElem?_map, List.getElem?_eq_getElem a, List.getElem?_eq_getElem b] at this
    simpa using this
  simp only [MU_swageref15_Squeeze, SW, SV, wpD, evDL, evDM, evD, bldLD, wpSp, DMem.mt, beq_self_eq_true, seval]
  refine ⟨fun f δ M' => ∃ (i : Nat) (w : Low) (pend : Int) (k : Nat) (lo le : List (Irc × DV)) (dO : DV), i ≤ c.code.length ∧ f = c.code.length - i ∧ δ 4 = .mp o 0 ∧ δ 6 = .ip [.int .i64 fn, .int .i64 regs, .msl ob 0 c.code.length cap, dm] ∧ δ 7 = slB (leadersF c.code) ∧ δ 8 = .mp q8 0 ∧ δ 9 = .msl pb 0 c.code.length c.code.length ∧ δ 10 = .int .i64 i ∧
      SqSt tyo M1 M' ob cap q8 pb o fn regs dm SA c.code.length lo le dO w.starts ∧ le.map (·.1) = w.code ∧ LoAt c i pend lo ∧ 0 ≤ pend ∧ pend ≤ 256 * i ∧ (∀ h : i < c.code.length, c.code[i].kind = 0 → pend = 0) ∧ le.length ≤ i ∧ c.code.length - i ≤ k ∧ sqFin c = sqT c k i w pend, c.code.length,
    ⟨0, sqW0 c, 0, c.code.length, lo, [], .zsl, Nat.zero_le _, rfl, h4, h6, h7, h8, h9, h10, h, rfl, (fun t a b _ => by rw [hlo1 t a b, costed_zero]; exact (ite_self _).symm), Int.le_refl _, by omega, fun _ _ => rfl, Nat.le_refl _, by omega, ?_⟩, ?_⟩
  · unfold sqFin; exact sqT_of c _ _ _ (by omega)
  clear h4 h6 h7 h8 h9 h10 h hlo1 hlo
  rintro f δ M' ⟨i, w, pend, k, lo, le, dO, hi, rfl, h4, h6, h7, h8, h9, h10, h, hcode, hlo, p0, p1, hpz, hle, hk, hfin⟩
  simp only [S5_swageref15_Squeeze, MU_swageref15_Squeeze, h4, h6, h7, h8, h9, h10, SW, SV, wpD, evDL, evDM, evD, bldLD, wpSp, DMem.mt, beq_self_eq_true, seval, decide_eq_true_eq, decide_eq_false_iff_not]
  refine ⟨fun hlt => ?_, fun hge => ?_⟩
  · have hil : i < c.code.length := by omega
    have hio : i < lo.length := by rw [h.lon]; exact hil
    have hli := hlo i hio hil (Nat.le_refl _)
    rw [if_pos rfl] at hli
    have hix : ixD 9 (.msl ob 0 c.code.length cap) (.int .i64 (i : Int)) = some (.mp ob (i * 9)) := by rw [ixM hil, Nat.zero_add]
    have hixp : ixD 1 (.msl pb 0 c.code.length c.code.length) (.int .i64 (i : Int)) = some (.mp pb i) := by rw [ixM hil]; simp
    have hkd : ldD M' (.mp ob (i * 9)) = some (.int .i64 c.code[i].kind) := by
      have := gc_get (j := 0) h.own hio (by decide) rfl
      rw [Nat.add_zero, hli] at this
      exact this
    have hlD := OwnD.len9 h.out
    have hqd := h.q
    simp only [hix, Nat.add_zero, hkd, hlD, hqd, hixp, h4, h6, h7, h8, h9, h10, SW, SV, wpD, evDL, evDM, evD, bldLD, wpSp, DMem.mt, beq_self_eq_true, seval]
    refine ⟨fun hnz => ?_, fun hz => ?_⟩
    · have hnz : c.code[i].kind ≠ 0 := of_decide_eq_true hnz
      refine stI h.p (by rw [h.stl]; exact hil) (by rw [h.stl]; exact Nat.le_refl _) fun M2 hM2 => ?_
      have h2 := h.place hc hM2
      have hldn := gc_ldn h2.own hio
      have ei : wr64 ((i : Int) + 1) = ((i + 1 : Nat) : Int) := w64s (by omega)
      have hd := h2.loh _ (List.getElem_mem hio)
      have hgd : cellsD lo[i].2 = some [lo[i].2] ∧ plainD lo[i].2 = true := by
        obtain ⟨T, t1, _⟩ := hd
        exact ⟨t1.cell, t1.plain⟩
      have hlen : w.code.length = le.length := by rw [← hcode, List.length_map]
      have hcells : cellsD (.agg (gc lo[i])) = some (gc lo[i]) := rfl
      have hgl : (gc lo[i]).length = 9 := rfl
      simp only [raw0_swageref15_Squeeze, P0_swageref15_Squeeze, hix, hldn, h2.q, freshI, hcells, hgl, List.map_cons, List.map_nil, h4, h6, h7, h8, h9, h10, SW, SV, wpD, evDL, evDM, evD, bldLD, wpSp, DMem.mt, beq_self_eq_true, seval]
      refine app_isl (n := le.length) (k := 1) (bytes := 88) h2.out (by decide) hgl (by unfold gc; simp only [List.all_cons, List.all_nil, hgd.2] <;> rfl) (by omega) (by omega) fun d' M3 ho hg => ?_
      have hnq : blkD dO ≠ some q8 := fun e => (h2.blk q8 e).2.1 rfl
      have hc9 := OwnD.cell9 ho
      refine stD (hg.keep q8 _ h2.q hnq) hc9.1 rfl (by simp) (by simp) (by simp [hc9.2]) fun M4 hM4 => ?_
      have h3 := h2.more hc (y := lo[i]) (M' := M4) hd ho hg hM4
      simp only [S1_swageref15_Squeeze, MU_swageref15_Squeeze, h10, ei, SW, SV, wpD, evDL, evDM, evD, bldLD, wpSp, DMem.mt, beq_self_eq_true, seval]
      refine ⟨c.code.length - (i + 1), M4, by omega, SubD.refl _, i + 1, ⟨w.code ++ [costed c.code[i] pend], w.metas, w.starts.set i w.code.length⟩, 0, k - 1, lo, le ++ [lo[i]], d', by omega, rfl, h4, h6, h7, h8, h9, rfl, by rw [hlen]; exact h3, by rw [List.map_append, hcode]; simp [hli], fun t a b htt => ?_, Int.le_refl _, by omega, fun _ _ => rfl, by simp; omega, by omega, by rw [hfin]; exact sqT_keep hil hnz hk⟩
      rw [hlo t a b (by omega), if_neg (by omega)]
      split
      · rw [costed_zero]
      · rfl
    · have hz : c.code[i].kind = 0 := by simpa using hz
      have hp0 := hpz hil hz
      subst hp0
      obtain ⟨r1, r2, r3, r4⟩ := run_lt hok (leadersF c.code) hil
      refine sqr_run hok hL hil hz hc hlo h h4 h6 h7 h8 h9 h10 hle fun δ2 M2 g4 g6 g7 g8 g9 g10 g11 g12 hs => ?_
      obtain ⟨q1, q2, q3, q4⟩ := sqT_runs hok (k := k) (w := w) hil hz hk (to := (runR c.code (leadersF c.code) i).1) (cost := (runR c.code (leadersF c.code) i).2) rfl
      refine sqr_S3 hok hL q1 q2 hc hlo hs ⟨r3, r4⟩ hle g4 g6 g7 g8 g9 g10 g11 g12 hdm fun δ3 M3 lo' le' dO' pend' e4 e6 e7 e8 e9 e10 hs3 hlo3 hor => ?_
      have hlen : w.code.length = le.length := by rw [← hcode, List.length_map]
      rcases hor with ⟨l1, rfl, rfl⟩ | ⟨l1, rfl, l3⟩
      · obtain ⟨k1, k2⟩ := q3 l1
        refine ⟨c.code.length - (runR c.code (leadersF c.code) i).1, M3, by omega, SubD.refl _, (runR c.code (leadersF c.code) i).1, ⟨w.code, w.metas, setR w.starts i w.code.length ((runR c.code (leadersF c.code) i).1 - i)⟩, _, k, lo', le', dO', by omega, rfl, e4, e6, e7, e8, e9, e10, by rw [hlen]; exact hs3, hcode, hlo3, r3, r4, fun _ hh => absurd hh k1, by omega, by omega, by rw [hfin]; exact k2⟩
      · have k2 := q4 l1
        refine ⟨c.code.length - (runR c.code (leadersF c.code) i).1, M3, by omega, SubD.refl _, (runR c.code (leadersF c.code) i).1, ⟨if 0 < (runR c.code (leadersF c.code) i).2 then w.code ++ [nopI (runR c.code (leadersF c.code) i).2 (pcAt c.code i)] else w.code, w.metas, setR w.starts i w.code.length ((runR c.code (leadersF c.code) i).1 - i)⟩, 0, k - 1, lo', le', dO', by omega, rfl, e4, e6, e7, e8, e9, e10, by rw [hlen]; exact hs3, by rw [l3, hcode], hlo3, Int.le_refl _, by omega, fun _ _ => rfl, ?_, by omega, by rw [hfin]; exact k2⟩
        have : le'.length = (le'.map (·.1)).length := by rw [List.length_map]
        rw [this, l3]
        split
        · rw [List.length_append, List.length_map, List.length_singleton]; omega
        · rw [List.length_map]; omega
  · have : i = c.code.length := by omega
    subst this
    have hw : sqFin c = w := by
      rw [hfin]; unfold sqT
      rw [List.getElem?_eq_none (Nat.le_refl _)]
    refine hK _ _ lo le dO h4 h8 h9 (by rw [hw]; exact h) (by rw [hw]; exact hcode) hle
end Go.Proofs.YticlgdhhnjpkjaaGreatDoor.Pf
namespace Go.Proofs.YticlgdhhnjpkjaaGreatDoor.Pf
open Go Go.RowKit Go.Proofs Go.Proofs.YticlgdhhnjpkjaaGreatDoor.Mw Go.Proofs.YticlgdhhnjpkjaaGreatDoor.Sx
set_option linter.unusedVariables false
set_option linter.unusedSimpArgs false
set_option maxRecDepth 8000
def GoC (c : Cod) (l : List Irc) : Prop := ∀ y ∈ l, goesB y.kind = true → 0 ≤ y.k ∧ y.k < c.code.length
theorem sqT_go1 {p : List Fnc} {c : Cod} (hok : MayOk p c) (L : List Bool) (i : Nat) (w : Low) (h : GoC c w.code) : GoC c (sqNextT c.code L i w).2.code := by
  unfold sqNextT
  split
  · split
    · rename_i x hx
      intro y hy hg
      rcases List.mem_append.1 hy with hy | hy
      · exact h y hy hg
      · simp at hy; subst hy
        obtain ⟨a, e⟩ := List.getElem?_eq_some_iff.1 hx
        have hg : goesB x.kind = true := hg
        have := (hok.ir _ a).go (by rw [e]; unfold goesB at hg; simpa using hg)
        rw [e] at this
        exact ⟨this.1, this.2.1⟩
    · exact h
  · intro y hy hg
    simp only at hy
    split at hy
    · rcases List.mem_append.1 hy with hy | hy
      · exact h y hy hg
      · simp at hy; subst hy
        exact absurd (show goesB 0 = true from hg) (by decide)
    · exact h y hy hg
theorem sqT_go {p : List Fnc} {c : Cod} (hok : MayOk p c) (L : List Bool) : ∀ (k i : Nat) (w : Low), GoC c w.code → GoC c (sqRunT c.code L k i w).code
  | 0, _, _, h => h
  | k + 1, i, w, h => by
    simp only [sqRunT]
    split
    · exact sqT_go hok L k _ _ (sqT_go1 hok L i w h)
    · exact h
theorem SqSt.putk {tyo : TypeId} {M1 M M' : DMem} {ob cap q8 pb o n b cc : Nat} {ty : TypeId} {fn regs : Int} {dm : DV} {SA : List Nat} {lo le : List (Irc × DV)} {st : List Int} (hc : SqC M1 ob cap q8 pb o n SA) (h : SqSt tyo M1 M ob cap q8 pb o fn regs dm SA n lo le (.msl b 0 le.length cc) st) (hcc : le.length ≤ cc) (hpos : 0 < cc) {t : Nat} {y : Irc × DV} (hy : Hd M1 SA y) (hM : M' = M.ins b ⟨ty, cc * 9, (le.set t y).flatMap gc⟩) :
    SqSt tyo M1 M' ob cap q8 pb o fn regs dm SA n lo (le.set t y) (.msl b 0 le.length cc) st := by
  have hb := h.blk b (by simp only [blkD]; rw [if_neg (by omega)])
  have n1 : ∀ y, y ≠ b → M' y = M y := fun y hy => by rw [hM, DMem.ins_ne _ _ hy]
  have hbn : ∀ y, M1 y ≠ none → y ≠ b := fun y hy e => hy (e ▸ hb.1)
  refine ⟨by rw [n1 ob (hbn _ hc.hob)]; exact h.own, h.lon, h.loh, by rw [n1 q8 (Ne.symm hb.2.1)]; exact h.q, ⟨by rw [gc_len], .inr ⟨b, cc, ty, by rw [List.length_set], by rw [hM, DMem.ins_same], by rw [List.length_set]; exact hcc, hpos⟩⟩, fun z hz => ?_, h.blk, by rw [n1 pb (Ne.symm hb.2.2)]; exact h.p, h.stl,
    fun y B hB g1 g2 => by rw [n1 y (hbn y (some_ne hB))]; exact h.keep y B hB g1 g2, by rw [n1 o (hbn _ hc.ho)]; exact h.oo⟩
  rcases List.mem_or_eq_of_mem_set hz with hz | rfl
  · exact h.leh z hz
  · exact hy
set_option maxHeartbeats 2000000 in
theorem sqr_S8 {KK XX δ} {tyo : TypeId} {R : DV → DMem → Prop} {M1 M : DMem} {p : List Fnc} {c : Cod} {ob cap q8 pb o : Nat} {fn regs : Int} {dm dO : DV} {SA : List Nat} {lo le : List (Irc × DV)} {code : List Irc} {st : List Int} (hok : MayOk p c)
    (hc : SqC M1 ob cap q8 pb o c.code.length SA) (h : SqSt tyo M1 M ob cap q8 pb o fn regs dm SA c.code.length lo le dO st) (hcode : le.map (·.1) = code) (hgo : GoC c code) (hle : le.length ≤ c.code.length)
    (h4 : δ 4 = .mp o 0) (h8 : δ 8 = .mp q8 0) (h9 : δ 9 = .msl pb 0 c.code.length c.code.length)
    (hdm : cellsD dm = some [dm] ∧ plainD dm = true)
    (hE : (code.any fun y => decide (256 < y.cost)) = true → ∀ M', R (.tup [.agg [.int .i64 0, .int .i64 0, .zsl, .zsl], .int .i64 1800]) M')
    (hR : (code.any fun y => decide (256 < y.cost)) = false → ∀ (M' : DMem) (lr : List (Irc × DV)), OwnD M' 9 dO lr.length (lr.flatMap gc) → lr.map (·.1) = code.map (placed st) → (∀ y ∈ lr, Hd M1 SA y) → (∀ b, blkD dO = some b → M1 b = none) → (∀ y B, M1 y = some B → y ≠ ob → y ≠ o → M' y = some B) → R (.tup [.agg [.int .i64 fn, .int .i64 regs, dO, dm], .int .i64 0]) M') :
    wpD Tryz.prog MU_swageref15_Squeeze (fun f => roL.contains f) (fun t => G_swageref15_Squeeze.contains t) 187 S8_swageref15_Squeeze KK XX (fun δ M' => ∃ d, evD Tryz.prog M' δ R_swageref15_Squeeze = some d ∧ R d M') δ M := by
  have hn := hok.n
  have hcl : code.length = le.length := by rw [← hcode, List.length_map]
  simp only [S8_swageref15_Squeeze, MU_swageref15_Squeeze, SW, SV, wpD, evDL, evDM, evD, bldLD, wpSp, DMem.mt, beq_self_eq_true, seval]
  refine ⟨fun f δ M' => ∃ (i : Nat) (lr : List (Irc × DV)), i ≤ code.length ∧ f = code.length - i ∧ δ 4 = .mp o 0 ∧ δ 8 = .mp q8 0 ∧ δ 9 = .msl pb 0 c.code.length c.code.length ∧ δ 13 = .int .i64 i ∧
      SqSt tyo M1 M' ob cap q8 pb o fn regs dm SA c.code.length lo lr dO st ∧ lr.map (·.1) = (code.take i).map (placed st) ++ code.drop i ∧ (∀ t (h : t < code.length), t < i → code[t].cost ≤ 256), code.length,
    ⟨0, le, Nat.zero_le _, rfl, h4, h8, h9, rfl, h, by simpa using hcode, fun _ _ h => absurd h (by omega)⟩, ?_⟩
  clear h4 h8 h9 h
  rintro f δ M' ⟨i, lr, hi, rfl, h4, h8, h9, h13, h, hlr, hall⟩
  have hlen : lr.length = code.length := by have := congrArg List.length hlr; rw [List.length_map, half_len (placed st) code hi] at this; exact this
  have hlD := OwnD.len9 h.out
  rw [hlen] at hlD
  simp only [S6_swageref15_Squeeze, MU_swageref15_Squeeze, h4, h8, h9, h13, h.q, hlD, SW, SV, wpD, evDL, evDM, evD, bldLD, wpSp, DMem.mt, beq_self_eq_true, seval, decide_eq_true_eq, decide_eq_false_iff_not]
  refine ⟨fun hlt => ?_, fun hge => ?_⟩
  · have hil : i < code.length := by omega
    have hir : i < lr.length := by omega
    have hx : lr[i].1 = code[i] := by
      have h1 := half_get (placed st) code hil (by rw [half_len (placed st) code hi]; exact hil)
      have h2 : (lr.map (·.1))[i]? = some lr[i].1 := by rw [List.getElem?_map, List.getElem?_eq_getElem hir]; rfl
      rw [hlr, List.getElem?_eq_getElem (by rw [half_len (placed st) code hi]; exact hil), h1] at h2
      exact (Option.some.inj h2).symm
    have ho := h.out
    obtain ⟨hcl9, ⟨rfl, hz⟩ | ⟨b, cc, ty, rfl, hMb, hcc, hpos⟩⟩ := ho
    · omega
    have hix : ixD 9 (.msl b 0 lr.length cc) (.int .i64 (i : Int)) = some (.mp b (i * 9)) := by rw [ixM hir, Nat.zero_add]
    have g0 := gc_get (j := 0) hMb hir (by decide) (v := .int .i64 code[i].kind) (by rw [← hx]; rfl)
    have g4 := gc_get (j := 4) hMb hir (by decide) (v := .int .i64 code[i].k) (by rw [← hx]; rfl)
    have g6 := gc_get (j := 6) hMb hir (by decide) (v := .int .i64 code[i].cost) (by rw [← hx]; rfl)
    rw [Nat.add_zero] at g0
    have ei : wr64 ((i : Int) + 1) = ((i + 1 : Nat) : Int) := w64s (by omega)
    simp only [hix, Nat.add_zero, g0, g4, g6, h4, h8, h9, h13, h.q, SW, SV, wpD, evDL, evDM, evD, bldLD, wpSp, DMem.mt, beq_self_eq_true, seval]
    refine ⟨fun hbad => ?_, fun hgood => ?_⟩
    · have hany : (code.any fun y => decide (256 < y.cost)) = true := List.any_eq_true.2 ⟨code[i], List.getElem_mem hil, hbad⟩
      refine stD h.oo rfl rfl (by simp) (by simp) rfl fun M2 hM2 => ?_
      have ho2 : M2 o = some ⟨29, 4, [.int .i64 0, .int .i64 0, .zsl, .zsl]⟩ := by rw [hM2, DMem.ins_same]; rfl
      simp only [R_swageref15_Squeeze, h4, SW, SV, wpD, evDL, evDM, evD, bldLD, wpSp, DMem.mt, beq_self_eq_true, seval]
      exact ⟨_, by rw [ho2]; rfl, hE hany M2⟩
    · have hgood : ¬ 256 < code[i].cost := of_decide_eq_false hgood
      have hall' : ∀ t (h : t < code.length), t < i + 1 → code[t].cost ≤ 256 := fun t a b => by
        by_cases e : t = i
        · subst e; omega
        · exact hall t a (by omega)
      have hgo' : (decide (code[i].kind = 4) || decide (code[i].kind = 5)) = goesB code[i].kind := rfl
      rw [hgo']
      have hset := half_set (placed st) code hil
      refine ⟨fun hg => ?_, fun hg => ?_⟩
      · obtain ⟨hk0, hk1⟩ := hgo _ (List.getElem_mem hil) hg
        obtain ⟨kn, hkn⟩ := Int.eq_ofNat_of_zero_le hk0
        have hkl : kn < c.code.length := by omega
        have hks : kn < st.length := by rw [h.stl]; exact hkl
        have hgs : ldD M' (.mp pb kn) = some (.int .i64 st[kn]) := by
          rw [ldM, h.p]
          show (st.map (DV.int .i64))[kn]? = _
          simp [hks]
        have hixp : ixD 1 (.msl pb 0 c.code.length c.code.length) (.int .i64 (kn : Int)) = some (.mp pb kn) := by rw [ixM hkl]; simp
        rw [hkn] at g4
        simp only [raw3_swageref15_Squeeze, P3_swageref15_Squeeze, hix, g4, hixp, hgs, h.q, ei, h4, h8, h9, h13, SW, SV, wpD, evDL, evDM, evD, bldLD, wpSp, DMem.mt, beq_self_eq_true, seval]
        have hpl : placed st code[i] = { code[i] with k := st[kn] } := by
          unfold placed
          rw [hg, if_pos rfl]
          congr 1
          rw [hkn]; simp [hks]
        refine gc_store (y := (placed st code[i], lr[i].2)) hMb hir (by omega) (by decide) (by unfold gc; rw [hx, hpl]; rfl) fun M2 hM2 => ?_
        have h2 := h.putk hc hcc hpos (y := (placed st code[i], lr[i].2)) (by
          obtain ⟨T, t1, t2⟩ := h.leh _ (List.getElem_mem hir)
          rw [hx] at t1
          exact ⟨T, by rw [hpl]; exact t1, t2⟩) hM2
        try simp only [h13, ei, h4, h8, h9, SW, SV, wpD, evDL, evDM, evD, bldLD, wpSp, DMem.mt, beq_self_eq_true, seval]
        refine ⟨code.length - (i + 1), M2, by omega, SubD.refl _, i + 1, _, by omega, rfl, rfl, h2, ?_, hall'⟩
        rw [List.map_set, hlr, hset]
      · have hpl : placed st code[i] = code[i] := by unfold placed; rw [hg]; rfl
        try simp only [ei, SW, SV, wpD, evDL, evDM, evD, bldLD, wpSp, DMem.mt, beq_self_eq_true, seval]
        refine ⟨code.length - (i + 1), M', by omega, SubD.refl _, i + 1, lr, by omega, rfl, rfl, h, ?_, hall'⟩
        rw [hlr, ← hset, hpl]
        have h1 := half_get (placed st) code hil (by rw [half_len (placed st) code hi]; exact hil)
        conv => rhs; arg 3; rw [← h1]
        exact (List.set_getElem_self _).symm
  · have : i = code.length := by omega
    subst this
    have hany : (code.any fun y => decide (256 < y.cost)) = false := by
      rw [← Bool.not_eq_true, List.any_eq_true]
      rintro ⟨y, hy, hb⟩
      obtain ⟨a, ha, rfl⟩ := List.getElem_of_mem hy
      have := hall a ha ha
      simp at hb; omega
    rw [List.take_length, List.drop_length, List.append_nil] at hlr
    have hc9 := OwnD.cell9 h.out
    simp only [S7_swageref15_Squeeze, MU_swageref15_Squeeze, h4, h8, h.q, ldnM, SW, SV, wpD, evDL, evDM, evD, bldLD, wpSp, DMem.mt, beq_self_eq_true, seval]
    refine stD h.oo rfl rfl (by simp) (by simp) (by simp only [List.all_cons, List.all_nil, hc9.2, hdm.2]; rfl) fun M2 hM2 => ?_
    have ho2 : M2 o = some ⟨29, 4, [.int .i64 fn, .int .i64 regs, dO, dm]⟩ := by rw [hM2, DMem.ins_same]; rfl
    have n2 : ∀ y, y ≠ o → M2 y = M' y := fun y hy => by rw [hM2, DMem.ins_ne _ _ hy]
    simp only [R_swageref15_Squeeze, h4, ho2, ldnM, SW, SV, wpD, evDL, evDM, evD, bldLD, wpSp, DMem.mt, beq_self_eq_true, seval]
    exact hR hany M2 lr (OwnD.at9 h.out fun b hb => n2 b (by rintro rfl; exact hc.ho (h.blk _ hb).1)) hlr h.leh (fun b hb => (h.blk b hb).1) fun y B hB g1 g2 => by rw [n2 y g2]; exact h.keep y B hB g1 g2
end Go.Proofs.YticlgdhhnjpkjaaGreatDoor.Pf
namespace Go.Proofs.YticlgdhhnjpkjaaGreatDoor.Pf
open Go Go.RowKit Go.Proofs Go.Proofs.YticlgdhhnjpkjaaGreatDoor.Mw Go.Proofs.YticlgdhhnjpkjaaGreatDoor.Sx
set_option linter.unusedVariables false
set_option linter.unusedSimpArgs false
set_option maxRecDepth 8000
theorem sqT_metas1 (code : List Irc) (L : List Bool) (i : Nat) (w : Low) : (sqNextT code L i w).2.metas = w.metas := by
  unfold sqNextT
  split
  · split <;> rfl
  · rfl
theorem sqT_metas (code : List Irc) (L : List Bool) : ∀ (k i : Nat) (w : Low), (sqRunT code L k i w).metas = w.metas
  | 0, _, _ => rfl
  | k + 1, i, w => by
    simp only [sqRunT]
    split
    · rw [sqT_metas code L k, sqT_metas1]
    · rfl
theorem gc_fz {M2 Mz : DMem} {SA : List Nat} (hk : ∀ b ∈ SA, Mz b = M2 b) : ∀ (l : List (Irc × DV)), (∀ y ∈ l, Hd M2 SA y) → (l.flatMap gc).map (fz Mz 3) = (l.map (·.1)).flatMap Irc.c
  | [], _ => rfl
  | y :: l, h => by
    have ih := gc_fz hk l fun z hz => h z (List.mem_cons_of_mem _ hz)
    obtain ⟨T, t1, t2⟩ := h y List.mem_cons_self
    have t3 : SlAt intE Mz y.2 y.1.args T := t1.frame intE_ok fun b hb => hk b (t2 b hb)
    have e := t3.fz intE_ok (k := 2) (by decide)
    have e2 : slD intE.c y.1.args = slI y.1.args := slD_ints y.1.args
    rw [e2] at e
    rw [List.flatMap_cons, List.map_append, ih, List.map_cons, List.flatMap_cons]
    congr 1
    simp only [gc, List.map_cons, List.map_nil, fz_int]
    rw [e]
theorem gc_thaw {M2 : DMem} {SA : List Nat} : ∀ (l : List (Irc × DV)), (∀ y ∈ l, Hd M2 SA y) → thawedL (l.flatMap gc) = true
  | [], _ => rfl
  | y :: l, h => by
    obtain ⟨T, t1, t2⟩ := h y List.mem_cons_self
    have ih := gc_thaw l fun z hz => h z (List.mem_cons_of_mem _ hz)
    have t := (intE_th.sl t1).1
    rw [List.flatMap_cons]
    simp only [gc, List.cons_append, List.nil_append, thawedL, thawed, t, ih]; rfl
set_option maxHeartbeats 2000000 in
theorem SqueezeR_pt (p : List Fnc) (c : Cod) (hz : SzC c) (hs : SrcC c) : Pt Tryz.prog F_swageref15_Squeeze [.agg [slD Fnc.c p], .agg c.c] (.tup [.agg (squeezeR p c).1.c, .int .i64 (squeezeR p c).2]) := by
  refine Pt.of (pc_swageref15_Squeeze (by simp) ?_)
  have hmay := CodeMayR_pf p c hz
  have l1 : ∀ (K : DMem), ldnD K 1 (.ip [slD Fnc.c p]) = some (.agg [slD Fnc.c p]) := fun K => rfl
  have fzp : ∀ K k, fz K k (.agg [slD Fnc.c p]) = .agg [slD Fnc.c p] := fun K k => fz_of (prog_froz p) K k
  have l4 : ∀ (K : DMem), ldnD K 4 (.ip c.c) = some (.agg c.c) := fun K => rfl
  have fzc : ∀ K k, fz K k (.agg c.c) = .agg c.c := fun K k => fz_of (cod_froz' c) K k
  have hth0 : ∀ M', ∃ M2, SubD M2 M' ∧ Thaw (.tup [.agg [.int .i64 0, .int .i64 0, .zsl, .zsl], .int .i64 1800]) M2 ∧ ∀ m v, Rep m (fz M2 4 (.tup [.agg [.int .i64 0, .int .i64 0, .zsl, .zsl], .int .i64 1800])) v → Rep m (.tup [.agg cod0.c, .int .i64 1800]) v := fun M' =>
    ⟨DMem.mt, SubD.mt _, ⟨rfl, fun b B h => by cases h⟩, fun m v hv => hv⟩
  simp only [S_swageref15_Squeeze, MU_swageref15_Squeeze, l1, l4, fzp, fzc, hmay, SW, SV, wpD, evDL, evDM, evD, bldLD, wpSp, DMem.mt, beq_self_eq_true, seval]
  intro o M1 hM1
  have ho1 : M1 o = some ⟨29, 4, [.int .i64 0, .int .i64 0, .zsl, .zsl]⟩ := by rw [hM1, DMem.ins_same]
  clear hM1
  refine ⟨fun hb => ?_, fun hb => ?_⟩
  · have e : squeezeR p c = (cod0, 1800) := by
      unfold squeezeR
      rw [if_neg (by intro h; rw [h] at hb; cases hb)]
    rw [e]
    refine stD ho1 rfl rfl (by simp) (by simp) rfl fun M2 hM2 => ?_
    have ho2 : M2 o = some ⟨29, 4, [.int .i64 0, .int .i64 0, .zsl, .zsl]⟩ := by rw [hM2, DMem.ins_same]; rfl
    simp only [R_swageref15_Squeeze, SW, SV, wpD, evDL, evDM, evD, bldLD, wpSp, DMem.mt, beq_self_eq_true, seval]
    exact ⟨_, by rw [ho2]; rfl, hth0 M2⟩
  · have hmb : codeMayB p c = true := by cases h : codeMayB p c; rw [h] at hb; cases hb; rfl
    have hok := may_ok hmb
    have hn := hok.n
    rw [squeezeR_T hmb]
    refine CopyCodeR_pc c hz hs fun dc dm M2 Sc Sm hcc hmm hnd new sub => ?_
    have ho2 := sub o _ ho1
    obtain ⟨ob, cap, ty, cs, SA, rfl, hob, hrow, rfl, hcap⟩ := hcc.at (by have := hok.n; omega)
    obtain ⟨lo, hlo, rfl, hlh⟩ := irs_gc hrow
    have hLs := LeadersR_pt c hz.n
    simp only [S10_swageref15_Squeeze, MU_swageref15_Squeeze, l4, hmm.cell, hmm.plain, SW, SV, wpD, evDL, evDM, evD, bldLD, wpSp, DMem.mt, beq_self_eq_true, seval]
    refine Pt.pc (by simp only [List.map_cons, List.map_nil, fzc]; exact hLs) ?_
    obtain ⟨T, hT⟩ : ∃ T : St, T = (.seq (.block 0 (.loop S5_swageref15_Squeeze)) S8_swageref15_Squeeze) := ⟨_, rfl⟩
    simp only [S9_swageref15_Squeeze]
    rw [← hT]
    simp only [MU_swageref15_Squeeze, hmm.cell, hmm.plain, SW, SV, wpD, evDL, evDM, evD, bldLD, wpSp, DMem.mt, beq_self_eq_true, seval]
    intro q8 M3 hq8 hM3
    refine mkI (by omega) fun pb M4 hpb hM4 => ?_
    have hpq : pb ≠ q8 := by rintro rfl; rw [hM3, DMem.ins_same] at hpb; cases hpb
    have hpb2 : M2 pb = none := by rw [hM3, DMem.ins_ne _ _ hpq] at hpb; exact hpb
    have hOb : M1 ob = none := new ob (by simp)
    have hoo : ob ≠ o := by rintro rfl; rw [ho1] at hOb; cases hOb
    have hnd1 := (List.nodup_append.1 hnd).1
    have hC : SqC M2 ob cap q8 pb o c.code.length SA := ⟨some_ne hob, some_ne ho2, hq8, hpb2, Ne.symm hpq, hoo, hcap, fun b hb => ⟨hrow.here irE_ok b hb, (by rintro rfl; exact (List.nodup_cons.1 hnd1).1 hb), (by rintro rfl; have := new b (by simp [hb]); rw [ho1] at this; cases this)⟩⟩
    have n4 : ∀ y B, M2 y = some B → M4 y = some B := fun y B hB => by
      rw [hM4, DMem.ins_ne _ _ (by rintro rfl; rw [hpb2] at hB; cases hB), hM3, DMem.ins_ne _ _ (by rintro rfl; rw [hq8] at hB; cases hB)]; exact hB
    have hS : SqSt ty M2 M4 ob cap q8 pb o c.fn c.regs dm SA c.code.length lo [] .zsl (List.replicate c.code.length 0) :=
      ⟨n4 _ _ hob, by rw [← hlo, List.length_map], hlh, by rw [hM4, DMem.ins_ne _ _ (Ne.symm hpq), hM3, DMem.ins_same], OwnD.zsl _ _, (fun y hy => by simp at hy), (fun b hb => by cases hb), by rw [hM4, DMem.ins_same], List.length_replicate, (fun y B hB _ _ => n4 y B hB), n4 _ _ ho2⟩
    rw [hT]
    refine sqr_loop hok hC hlo hS rfl rfl rfl rfl rfl rfl ⟨hmm.cell, hmm.plain⟩ fun δ5 M5 lo5 le5 dO5 e4 e8 e9 hS5 hc5 hl5 => ?_
    have hgo : GoC c (sqFin c).code := sqT_go hok _ _ _ _ fun y hy => by simp [sqW0] at hy
    refine sqr_S8 hok hC hS5 hc5 hgo hl5 e4 e8 e9 ⟨hmm.cell, hmm.plain⟩ (fun hany M6 => ?_) fun hany M6 lr ho hlr hlh6 hbl hkeep => ?_
    · rw [hany]; exact hth0 M6
    · rw [hany]
      rw [if_neg (by decide)]
      have kz : ∀ b ∈ SA ++ Sm, M6 b = M2 b := fun b hb => by
        have : M2 b ≠ none ∧ b ≠ ob ∧ b ≠ o := by
          rcases List.mem_append.1 hb with hb | hb
          · exact hC.sa b hb
          · exact ⟨hmm.here metaE_ok b hb, (fun e => (List.nodup_append.1 hnd).2.2 ob (by simp) b hb e.symm), (by rintro rfl; have := new b (by simp [hb]); rw [ho1] at this; cases this)⟩
        obtain ⟨B, hB⟩ := Option.ne_none_iff_exists'.1 this.1
        rw [hB]; exact hkeep b B hB this.2.1 this.2.2
      have mz : ∀ b ∈ SA ++ Sm, DMem.only M6 ((blkD dO5).toList ++ (SA ++ Sm)) b = M2 b := fun b hb => by rw [DMem.only_in (List.mem_append_right _ hb)]; exact kz b hb
      have hoz : OwnD (DMem.only M6 ((blkD dO5).toList ++ (SA ++ Sm))) 9 dO5 lr.length (lr.flatMap gc) := OwnD.at9 ho fun b hb => DMem.only_in (by rw [hb]; simp)
      have hmz : SlAt metaE (DMem.only M6 ((blkD dO5).toList ++ (SA ++ Sm))) dm c.metas Sm := hmm.frame metaE_ok fun b hb => mz b (List.mem_append_right _ hb)
      have f1 : fz (DMem.only M6 ((blkD dO5).toList ++ (SA ++ Sm))) 4 dO5 = slD Irc.c ((sqFin c).code.map (placed (sqFin c).starts)) := by
        rw [OwnD.fz hoz 3, gc_fz (M2 := M2) (SA := SA) (fun b hb => mz b (List.mem_append_left _ hb)) lr hlh6, hlr]
        unfold slD
        have : lr.length = ((sqFin c).code.map (placed (sqFin c).starts)).length := by rw [← hlr, List.length_map]
        rw [this]
      have f2 : fz (DMem.only M6 ((blkD dO5).toList ++ (SA ++ Sm))) 4 dm = slD metaC c.metas := hmz.fz metaE_ok (k := 3) (by decide)
      have hme : (sqFin c).metas = c.metas := sqT_metas _ _ _ _ _
      have td : thawed dO5 = true := by
        obtain ⟨_, ⟨e, _⟩ | ⟨b, cc, ty, e, _⟩⟩ := ho <;> rw [e] <;> rfl
      refine ⟨DMem.only M6 ((blkD dO5).toList ++ (SA ++ Sm)), DMem.only_sub _ _, ⟨by simp only [thawed, thawedL, td, (metaE_th.sl hmm).1]; rfl, fun b B hB => ?_⟩, fun m v hv => ?_⟩
      · by_cases hbs : b ∈ SA ++ Sm
        · rw [mz b hbs] at hB
          rcases List.mem_append.1 hbs with hb | hb
          · exact (irE_th.sl hcc).2 b (List.mem_cons_of_mem _ hb) B hB
          · exact (metaE_th.sl hmm).2 b hb B hB
        · unfold DMem.only at hB
          split at hB
          · rename_i hm
            rcases List.mem_append.1 hm with hm | hm
            · obtain ⟨_, ⟨e, _⟩ | ⟨b3, cc, ty3, e, e2, e3, e4⟩⟩ := ho
              · rw [e] at hm; simp [blkD] at hm
              · have : b = b3 := by
                  rw [e] at hm
                  simp only [blkD] at hm
                  rw [if_neg (by omega)] at hm
                  simpa using hm
                rw [this, e2] at hB
                cases hB
                exact gc_thaw lr hlh6
            · exact absurd hm hbs
          · cases hB
      · rw [fz_tup] at hv
        simp only [List.map_cons, List.map_nil, fz_agg, fz_int, f1, f2] at hv
        rw [hme]
        exact hv
end Go.Proofs.YticlgdhhnjpkjaaGreatDoor.Pf
namespace Go.Proofs.YticlgdhhnjpkjaaGreatDoor.Pf
open Go Go.RowKit Go.Proofs Go.Proofs.YticlgdhhnjpkjaaGreatDoor.Mw Go.Proofs.YticlgdhhnjpkjaaGreatDoor.Sx
set_option linter.unusedVariables false
set_option linter.unusedSimpArgs false
def sqz (cost : Int) : List Irc → List Irc
  | [] => []
  | x :: l => if x.kind = 0 then sqz (cost + x.cost) l else costed x cost :: sqz 0 l
def rkB (x : Int) : Int := bits .and .i64 (x.fdiv (2 ^ min 1 IntKind.i64.bits)) 3
def roB (x : Int) : Int := bits .and .i64 x 1
def runI (x : Int) : Irc := if roB x = 0 then ⟨0, 0, 0, 0, 0, [], rkB x, 0, 0⟩ else ⟨7, 0, 0, 0, 0, [], rkB x + 1, 0, 0⟩
def retI (c : Int) : Irc := ⟨8, 0, 0, 0, 0, [], c, 0, 0⟩
def runW (rows : List Int) : Nat → List Irc × Int
  | 0 => ([], 0)
  | i + 1 => match rows[i]? with
    | some x => if roB x = 0 then ((runW rows i).1, (runW rows i).2 + rkB x) else ((runW rows i).1 ++ [⟨7, 0, 0, 0, 0, [], rkB x + 1 + (runW rows i).2, 0, 0⟩], 0)
    | none => runW rows i
def oneP : List Fnc := [⟨0, 1, [⟨0, 1⟩, ⟨16, 0⟩]⟩]
def runC (rows : List Int) (k : Nat) : Cod := ⟨0, 1, (rows.take k).map runI ++ [retI 1], []⟩
end Go.Proofs.YticlgdhhnjpkjaaGreatDoor.Pf
