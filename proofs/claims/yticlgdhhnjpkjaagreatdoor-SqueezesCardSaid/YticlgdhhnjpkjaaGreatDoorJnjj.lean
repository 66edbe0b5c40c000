/- Xc Xd Zg Xe Xf Xg Xh Xi Xn Wl Wo Yb Yc: joined texts of this claim. No condition. -/
import Derived.Test.YticlgdhhnjpkjaaGreatDoorJnjh
import Derived.Test.YticlgdhhnjpkjaaGreatDoorJnji
import Derived.Test.YticlgdhhnjpkjaaGreatDoorJnjf
import Derived.Test.YticlgdhhnjpkjaaGreatDoorJnjg
namespace Go.Proofs.YticlgdhhnjpkjaaGreatDoor.Pf
open Go Go.RowKit Go.Proofs Go.Proofs.YticlgdhhnjpkjaaGreatDoor.Mw Go.Proofs.YticlgdhhnjpkjaaGreatDoor.Sx
set_option linter.unusedVariables false
set_option linter.unusedSimpArgs false
set_option maxRecDepth 8000
def runG (code : List Irc) (L : List Bool) (from' : Nat) : Nat → Nat → Int → Nat × Int
  | 0, to, cost => (to, cost)
  | k + 1, to, cost => match code[to]? with
    | some x => if x.kind = 0 ∧ (to = from' ∨ L.getD to false = false) then runG code L from' k (to + 1) (cost + x.cost) else (to, cost)
    | none => (to, cost)
def runR (code : List Irc) (L : List Bool) (from' : Nat) : Nat × Int := runG code L from' (code.length - from') from' 0
theorem run_pu (c : Cod) (L : List Bool) (from' : Nat) (hf : from' ≤ c.code.length) (hn : c.code.length ≤ 1000) (hL : L.length = c.code.length) (hc : ∀ x ∈ c.code, 0 ≤ x.cost ∧ x.cost ≤ 256) :
    Pu Tryz.prog F_squeeze_run [.ip [.int .i64 c.fn, .int .i64 c.regs, slD Irc.c c.code, slD metaC c.metas], slB L, .int .i64 from'] (.tup [.int .i64 (runR c.code L from').1, .int .i64 (runR c.code L from').2]) := by
  refine Pu.of (pc_squeeze_run (by simp) ?_)
  simp only [S_squeeze_run, R_squeeze_run, MU_squeeze_run, SW, SV, wpD, evDL, evDM, evD, bldLD, wpSp, DMem.mt, beq_self_eq_true, seval]
  refine ⟨fun n δ M' => ∃ (to : Nat) (cost : Int), to ≤ c.code.length ∧ n = c.code.length - to ∧ 0 ≤ cost ∧ cost ≤ 256 * to ∧ δ 0 = .ip [.int .i64 c.fn, .int .i64 c.regs, slD Irc.c c.code, slD metaC c.metas] ∧ δ 1 = slB L ∧ δ 2 = .int .i64 from' ∧ δ 8 = .int .i64 to ∧ δ 9 = .int .i64 cost ∧
      runG c.code L from' (c.code.length - to) to cost = runR c.code L from', c.code.length - from', ⟨from', 0, hf, rfl, by omega, by omega, rfl, rfl, rfl, rfl, rfl, rfl⟩, ?_⟩
  rintro n δ M' ⟨to, cost, ht, rfl, c0, c1, h0, h1, h2, h8, h9, hrun⟩
  have gF : ∀ x, grdD true (.bool false) x = some (.raw undef) := fun _ => rfl
  have gT : ∀ x, grdD false (.bool true) x = some (.raw undef) := fun _ => rfl
  have gU : ∀ x, grdD false (.raw undef) x = some (.raw undef) := fun _ => rfl
  have stop : (match c.code[to]? with | some x => ¬(x.kind = 0 ∧ (to = from' ∨ L.getD to false = false)) | none => True) → runR c.code L from' = (to, cost) := fun h => by
    rw [← hrun]
    cases hk : c.code.length - to with
    | zero => rfl
    | succ k =>
      simp only [runG]
      cases hx : c.code[to]? with
      | none => rfl
      | some x => rw [hx] at h; simp only [if_neg h]
  rcases Nat.lt_or_ge to c.code.length with hlt | hge
  · have e1 : decide ((to : Int) < c.code.length) = true := decide_eq_true (by omega)
    have hLt : to < L.length := by omega
    have hk : ((ixD 9 (slD Irc.c c.code) (.int .i64 to)).bind (faD 0)).bind (ldD M') = some (.int .i64 c.code[to].kind) := by rw [ix_slD Irc.len hlt] <;> rfl
    have hq : ((ixD 1 (slB L) (.int .i64 to)).bind (ldD M')) = some (.bool L[to]) := by rw [ix_slB hLt] <;> rfl
    have hw : ((ixD 9 (slD Irc.c c.code) (.int .i64 to)).bind (faD 6)).bind (ldD M') = some (.int .i64 c.code[to].cost) := by rw [ix_slD Irc.len hlt] <;> rfl
    have hcc := hc _ (List.getElem_mem hlt)
    have ew : wr64 (cost + c.code[to].cost) = cost + c.code[to].cost := w64 (by omega)
    have et : wr64 ((to : Int) + 1) = ((to + 1 : Nat) : Int) := w64s (by omega)
    have hgo : (c.code[to].kind = 0 ∧ (to = from' ∨ L.getD to false = false)) → runG c.code L from' (c.code.length - (to + 1)) (to + 1) (cost + c.code[to].cost) = runR c.code L from' := fun h => by
      rw [← hrun, show c.code.length - to = (c.code.length - (to + 1)) + 1 by omega]
      simp only [runG, List.getElem?_eq_getElem hlt, if_pos h]
    have eL : L.getD to false = L[to] := by rw [List.getD_eq_getElem?_getD, List.getElem?_eq_getElem hLt] <;> rfl
    have fin : c.code[to].kind = 0 ∧ (to = from' ∨ L.getD to false = false) → ∃ k' M0, k' < c.code.length - to ∧ SubD M0 M' ∧ ∃ (to' : Nat) (cost' : Int), to' ≤ c.code.length ∧ k' = c.code.length - to' ∧ 0 ≤ cost' ∧ cost' ≤ 256 * to' ∧ ((to + 1 : Nat) : Int) = to' ∧ cost + c.code[to].cost = cost' ∧ runG c.code L from' (c.code.length - to') to' cost' = runR c.code L from' := fun h =>
      ⟨c.code.length - (to + 1), M', by omega, SubD.refl _, to + 1, cost + c.code[to].cost, by omega, rfl, by omega, by omega, rfl, rfl, hgo h⟩
    have hst : ¬(c.code[to].kind = 0 ∧ (to = from' ∨ L.getD to false = false)) → runR c.code L from' = (to, cost) := fun h => stop (by rw [List.getElem?_eq_getElem hlt]; exact h)
    by_cases hk0 : c.code[to].kind = 0
    · by_cases hfe : to = from'
      · subst hfe
        simp only [S1_squeeze_run, MU_squeeze_run, h0, h1, h2, h8, h9, e1, hk, hk0, hq, hw, ew, et, gF, gT, gU, grdTT, grdFF, SW, SV, wpD, evDL, evDM, evD, bldLD, wpSp, DMem.mt, beq_self_eq_true, seval]
        exact fin ⟨hk0, .inl rfl⟩
      · have e2 : decide ((to : Int) = from') = false := decide_eq_false (by omega)
        cases hLb : L[to]
        · simp only [S1_squeeze_run, MU_squeeze_run, h0, h1, h2, h8, h9, e1, e2, hk, hk0, hq, hLb, hw, ew, et, gF, gT, gU, grdTT, grdFF, SW, SV, wpD, evDL, evDM, evD, bldLD, wpSp, DMem.mt, beq_self_eq_true, seval]
          exact fin ⟨hk0, .inr (by rw [eL, hLb])⟩
        · simp only [S1_squeeze_run, MU_squeeze_run, h0, h1, h2, h8, h9, e1, e2, hk, hk0, hq, hLb, hw, ew, et, gF, gT, gU, grdTT, grdFF, SW, SV, wpD, evDL, evDM, evD, bldLD, wpSp, DMem.mt, beq_self_eq_true, seval]
          rw [hst (by rintro ⟨_, h | h⟩; exact hfe h; rw [eL, hLb] at h; cases h)]
    · have e3 : decide (c.code[to].kind = 0) = false := decide_eq_false hk0
      simp only [S1_squeeze_run, MU_squeeze_run, h0, h1, h2, h8, h9, e1, e3, hk, hq, hw, ew, et, gF, gT, gU, grdTT, grdFF, SW, SV, wpD, evDL, evDM, evD, bldLD, wpSp, DMem.mt, beq_self_eq_true, seval]
      rw [hst fun h => hk0 h.1]
  · have e1 : decide ((to : Int) < c.code.length) = false := decide_eq_false (by omega)
    simp only [S1_squeeze_run, MU_squeeze_run, h0, h1, h2, h8, h9, e1, gF, gT, gU, grdTT, grdFF, SW, SV, wpD, evDL, evDM, evD, bldLD, wpSp, DMem.mt, beq_self_eq_true, seval]
    rw [stop (by rw [List.getElem?_eq_none hge]; trivial)]
end Go.Proofs.YticlgdhhnjpkjaaGreatDoor.Pf
namespace Go.Proofs.YticlgdhhnjpkjaaGreatDoor.Pf
open Go Go.RowKit Go.Proofs Go.Proofs.YticlgdhhnjpkjaaGreatDoor.Mw Go.Proofs.YticlgdhhnjpkjaaGreatDoor.Sx
set_option linter.unusedVariables false
set_option linter.unusedSimpArgs false
structure IrOk (p : List Fnc) (n mm i : Nat) (x : Irc) : Prop where
  c0 : 0 ≤ x.cost ∧ x.cost ≤ 256
  p0 : 0 ≤ x.pc ∧ x.pc < 64
  k0 : 0 ≤ x.kind ∧ x.kind ≤ 11
  go : x.kind = 4 ∨ x.kind = 5 → 0 ≤ x.k ∧ x.k < n ∧ ((i : Int) < x.k ∨ 0 < x.cost)
  ar : x.args.length ≤ 4
theorem ir_ok {p : List Fnc} (hp : packB p = true) {regs : Int} {n mm i : Nat} {x : Irc} (h : irMayB p regs n mm i x = true) : IrOk p n mm i x := by
  unfold irMayB at h
  rw [Bool.and_eq_true] at h
  obtain ⟨h0, h⟩ := h
  rw [Bool.and_eq_true, decide_eq_true_eq, decide_eq_true_eq] at h0
  obtain ⟨hc, hpc⟩ := h0
  have nil4 : x.args = [] → x.args.length ≤ 4 := fun h => by rw [h]; decide
  by_cases k0 : x.kind = 0 ∨ x.kind = 11
  · rw [if_pos k0] at h
    simp only [decide_eq_true_eq] at h
    exact ⟨hc, hpc, by omega, fun h => by omega, nil4 h.2.2.2.2.2⟩
  rw [if_neg k0] at h
  by_cases k1 : x.kind = 1
  · rw [if_pos k1] at h
    simp only [Bool.and_eq_true, decide_eq_true_eq] at h
    exact ⟨hc, hpc, by omega, fun h => by omega, nil4 h.2.2.2.2⟩
  rw [if_neg k1] at h
  by_cases k2 : x.kind = 2
  · rw [if_pos k2] at h
    simp only [Bool.and_eq_true, decide_eq_true_eq] at h
    exact ⟨hc, hpc, by omega, fun h => by omega, nil4 h.2.2.2.2⟩
  rw [if_neg k2] at h
  by_cases k3 : x.kind = 3
  · rw [if_pos k3] at h
    simp only [Bool.and_eq_true, decide_eq_true_eq] at h
    exact ⟨hc, hpc, by omega, fun h => by omega, nil4 h.2.2⟩
  rw [if_neg k3] at h
  by_cases k4 : x.kind = 4
  · rw [if_pos k4] at h
    simp only [Bool.and_eq_true, decide_eq_true_eq] at h
    exact ⟨hc, hpc, by omega, fun _ => h.1, nil4 h.2.2.2.2.2⟩
  rw [if_neg k4] at h
  by_cases k5 : x.kind = 5
  · rw [if_pos k5] at h
    simp only [Bool.and_eq_true, decide_eq_true_eq] at h
    exact ⟨hc, hpc, by omega, fun _ => h.1.2, nil4 h.2.2.2.2⟩
  rw [if_neg k5] at h
  by_cases k6 : x.kind = 6
  · rw [if_pos k6] at h
    simp only [Bool.and_eq_true, decide_eq_true_eq] at h
    refine ⟨hc, hpc, by omega, fun h => by omega, ?_⟩
    obtain ⟨⟨⟨_, h1, h2, h3, h4⟩, _⟩, _⟩ := h
    unfold argsOf at h4
    have hlt : x.k.toNat < p.length := by omega
    rw [List.getElem?_eq_getElem hlt] at h4
    have h4 : (x.args.length : Int) = p[x.k.toNat].args := h4
    have h5 := fnB_args (pack_fn hp _ (List.getElem_mem hlt))
    omega
  rw [if_neg k6] at h
  by_cases k7 : x.kind = 7
  · rw [if_pos k7] at h
    simp only [Bool.and_eq_true, decide_eq_true_eq] at h
    exact ⟨hc, hpc, by omega, fun h => by omega, nil4 h.2.2.2.2.2⟩
  rw [if_neg k7] at h
  by_cases k8 : x.kind = 8
  · rw [if_pos k8] at h
    simp only [Bool.and_eq_true, decide_eq_true_eq] at h
    exact ⟨hc, hpc, by omega, fun h => by omega, nil4 h.2.2.2.2.2⟩
  rw [if_neg k8] at h
  by_cases k9 : x.kind = 9
  · rw [if_pos k9] at h
    simp only [Bool.and_eq_true, decide_eq_true_eq] at h
    exact ⟨hc, hpc, by omega, fun h => by omega, nil4 h.2.2⟩
  rw [if_neg k9] at h
  by_cases k10 : x.kind = 10
  · rw [if_pos k10] at h
    simp only [Bool.and_eq_true, decide_eq_true_eq] at h
    exact ⟨hc, hpc, by omega, fun h => by omega, nil4 h.2.2.2.2.2⟩
  rw [if_neg k10] at h
  cases h
structure MayOk (p : List Fnc) (c : Cod) : Prop where
  v : verifyE p = 0
  n : 1 ≤ c.code.length ∧ c.code.length ≤ 256
  m : c.metas.length ≤ 64
  ir : ∀ (i : Nat) (h : i < c.code.length), IrOk p c.code.length c.metas.length i c.code[i]
  sz : ∀ m ∈ c.metas, SizeM m
  last : ∀ x, c.code[c.code.length - 1]? = some x → x.kind = 4 ∨ x.kind = 8
theorem part_sz {p : List Fnc} (hv : verifyE p = 0) {regs less : Int} (hl : 0 ≤ less) {x : Part} (h : partB p regs less x = true) : x.locals.length ≤ 8 ∧ x.stack.length ≤ 8 := by
  obtain ⟨hf0, hfl⟩ := part_fn h
  obtain ⟨n, hn⟩ := Int.eq_ofNat_of_zero_le hf0
  have hnl : n < p.length := by omega
  unfold partB at h
  simp only [Bool.and_eq_true, decide_eq_true_eq] at h
  obtain ⟨⟨⟨⟨h1, h2⟩, h3⟩, _⟩, _⟩ := h
  have hg := height_ge hv hnl x.pc
  rw [hn] at h1 h3
  have hloc := fn_loc (pack_fn (verify_ok hv).1 _ (List.getElem_mem hnl))
  unfold localsOf at h2
  rw [hn, Int.toNat_natCast, List.getElem?_eq_getElem hnl] at h2
  have h2 : (x.locals.length : Int) = p[n].locals := h2
  omega
theorem meta_sz {p : List Fnc} (hv : verifyE p = 0) {fn regs : Int} {m : List Part} (h : metaB p fn regs m = true) : SizeM m := by
  unfold metaB at h
  split at h
  · rename_i a
    simp only [Bool.and_eq_true, decide_eq_true_eq] at h
    have := part_sz hv (by decide) h.2
    refine ⟨by simp, fun x hx => ?_⟩
    simp at hx; subst hx; omega
  · rename_i a b
    simp only [Bool.and_eq_true, decide_eq_true_eq] at h
    have h1 := part_sz hv (by decide) h.1.1.2
    have h2 := part_sz hv (by decide) h.1.2
    refine ⟨by simp, fun x hx => ?_⟩
    simp at hx
    rcases hx with rfl | rfl <;> omega
  · cases h
theorem may_ok {p : List Fnc} {c : Cod} (h : codeMayB p c = true) : MayOk p c := by
  unfold codeMayB at h
  simp only [Bool.and_eq_true] at h
  obtain ⟨⟨⟨hh, hi⟩, hm⟩, hl⟩ := h
  have hh : _ := of_decide_eq_true hh
  obtain ⟨hv, _, _, _, _, _, n1, n2, m1⟩ := hh
  refine ⟨hv, ⟨by omega, by omega⟩, by omega, fun i hil => ?_, fun m hmm => ?_, fun x hx => ?_⟩
  · unfold irsB at hi
    rw [List.all_eq_true] at hi
    have := hi i (List.mem_range.2 hil)
    rw [List.getElem?_eq_getElem hil] at this
    exact ir_ok (verify_ok hv).1 this
  · exact meta_sz hv (List.all_eq_true.1 hm m hmm)
  · unfold lastB at hl
    rw [List.getLast?_eq_getElem?, hx] at hl
    exact of_decide_eq_true hl
end Go.Proofs.YticlgdhhnjpkjaaGreatDoor.Pf
namespace Go.Proofs.YticlgdhhnjpkjaaGreatDoor.Pf
open Go Go.RowKit Go.Proofs Go.Proofs.YticlgdhhnjpkjaaGreatDoor.Mw Go.Proofs.YticlgdhhnjpkjaaGreatDoor.Sx
set_option linter.unusedVariables false
set_option linter.unusedSimpArgs false
set_option maxRecDepth 8000
theorem thawed_bools : ∀ l : List Bool, thawedL (l.map .bool) = true
  | [] => rfl
  | x :: l => by simp only [List.map_cons, thawedL, thawed, thawed_bools l] <;> rfl
def ldS (n : Nat) (o : List Bool) (i : Nat) (x : Irc) : List Bool :=
  if x.kind = 4 ∨ x.kind = 5 then (if 0 ≤ x.k ∧ x.k < n then o.set x.k.toNat true else o).set (i + 1) true
  else if x.kind = 8 then o.set (i + 1) true else o
def ldF (code : List Irc) : Nat → List Bool
  | 0 => (List.replicate (code.length + 1) false).set 0 true
  | i + 1 => match code[i]? with
    | some x => ldS code.length (ldF code i) i x
    | none => ldF code i
def leadersF (code : List Irc) : List Bool := (ldF code code.length).take code.length
theorem ldS_len (n : Nat) (o : List Bool) (i : Nat) (x : Irc) : (ldS n o i x).length = o.length := by
  unfold ldS; repeat' split
  all_goals simp
theorem ldF_len (code : List Irc) : ∀ i, (ldF code i).length = code.length + 1
  | 0 => by simp [ldF]
  | i + 1 => by
    simp only [ldF]
    split
    · rw [ldS_len]; exact ldF_len code i
    · exact ldF_len code i
theorem Leaders_pt (c : Cod) (hz : c.code.length * 88 ≤ 140737488351232) : Pt Tryz.prog F_ir_Leaders [.agg c.c] (slB (leadersF c.code)) := by
  refine Pt.of (pc_ir_Leaders (by simp) ?_)
  have e1 : wr64 ((c.code.length : Int) + 1) = ((c.code.length + 1 : Nat) : Int) := w64s (by omega)
  simp only [S_ir_Leaders, R_ir_Leaders, MU_ir_Leaders, e1, SW, SV, wpD, evDL, evDM, evD, bldLD, wpSp, DMem.mt, beq_self_eq_true, seval]
  refine mkB (by omega) fun b M1 hb hM1 => ?_
  have hbM : DMem.mt b = none := hb
  simp only [ixM0 (show 0 < c.code.length + 1 by omega), SW, SV, wpD, evDL, evDM, evD, bldLD, wpSp, DMem.mt, beq_self_eq_true, seval]
  refine stD (by rw [hM1, DMem.ins_same]) rfl rfl (by simp) (by omega) rfl fun M2 hM2 => ?_
  have hM2b : M2 b = some ⟨4, c.code.length + 1, (ldF c.code 0).map .bool⟩ := by
    rw [hM2, DMem.ins_same, splD_one (by simp), ← List.map_set] <;> rfl
  clear hM1 hM2 hb hbM
  refine ⟨fun k δ M => ∃ i : Nat, i ≤ c.code.length ∧ k = c.code.length - i ∧ δ 1 = .ip c.c ∧ δ 3 = .int .i64 c.code.length ∧ δ 4 = .msl b 0 (c.code.length + 1) (c.code.length + 1) ∧ δ 16 = slD Irc.c c.code ∧ δ 17 = .int .i64 c.code.length ∧ δ 18 = .int .i64 i ∧ M b = some ⟨4, c.code.length + 1, (ldF c.code i).map .bool⟩, c.code.length,
    ⟨0, Nat.zero_le _, rfl, rfl, rfl, rfl, rfl, rfl, rfl, hM2b⟩, ?_⟩
  clear hM2b
  rintro k δ M ⟨i, hi, rfl, h1, h3, h4, h16, h17, h18, hMb⟩
  simp only [S1_ir_Leaders, MU_ir_Leaders, h1, h3, h4, h16, h17, h18, SW, SV, wpD, evDL, evDM, evD, bldLD, wpSp, DMem.mt, beq_self_eq_true, seval, decide_eq_true_eq, decide_eq_false_iff_not]
  refine ⟨fun hlt => ?_, fun hge => ?_⟩
  · have hil : i < c.code.length := by omega
    have hlen := ldF_len c.code i
    have eF : ldF c.code (i + 1) = ldS c.code.length (ldF c.code i) i c.code[i] := by simp only [ldF, List.getElem?_eq_getElem hil]
    simp only [ix_slD Irc.len hil, ldn_irc, SW, SV, wpD, evDL, evDM, evD, bldLD, wpSp, DMem.mt, beq_self_eq_true, seval]
    intro q M3 hq hM3
    have hqb : b ≠ q := by rintro rfl; rw [hMb] at hq; cases hq
    refine stD (by rw [hM3, DMem.ins_same]) rfl rfl (by simp) (by simp) rfl fun M4 hM4 => ?_
    have h4q : M4 q = some ⟨50, 9, c.code[i].c⟩ := by rw [hM4, DMem.ins_same] <;> rfl
    have h4b : M4 b = some ⟨4, c.code.length + 1, (ldF c.code i).map .bool⟩ := by rw [hM4, DMem.ins_ne _ _ hqb, hM3, DMem.ins_ne _ _ hqb]; exact hMb
    clear hM3 hM4 hq hMb
    generalize c.code[i] = x at *
    have ei : wr64 ((i : Int) + 1) = ((i + 1 : Nat) : Int) := w64s (by omega)
    have put : ∀ {M5 : DMem} {o : List Bool} {j : Nat} {Post : DV → DMem → Prop}, M5 b = some ⟨4, c.code.length + 1, o.map .bool⟩ → o.length = c.code.length + 1 → j < c.code.length + 1 → (∀ M6, M6 b = some ⟨4, c.code.length + 1, (o.set j true).map .bool⟩ → M6 q = M5 q → Post (.raw undef) M6) → StoreD M5 1 (.mp b j) (.bool true) Post := by
      intro M5 o j Post h5 ho hj hP
      refine stD h5 rfl rfl (by rw [List.length_map]; omega) (by omega) rfl fun M6 hM6 => hP M6 ?_ ?_
      · rw [hM6, DMem.ins_same, splD_one (by rw [List.length_map]; omega), ← List.map_set]
      · rw [hM6, DMem.ins_ne _ _ (Ne.symm hqb)]
    have nxt : ∀ {M6 : DMem} {o : List Bool}, M6 b = some ⟨4, c.code.length + 1, o.map .bool⟩ → o = ldF c.code (i + 1) → ∃ k' M0, k' < c.code.length - i ∧ SubD M0 M6 ∧ ∃ j : Nat, j ≤ c.code.length ∧ k' = c.code.length - j ∧ ((i + 1 : Nat) : Int) = (j : Int) ∧ M0 b = some ⟨4, c.code.length + 1, (ldF c.code j).map .bool⟩ := by
      rintro M6 o h6 rfl
      exact ⟨c.code.length - (i + 1), M6, by omega, SubD.refl _, i + 1, by omega, rfl, rfl, h6⟩
    simp only [h1, h3, h4, h16, h17, h18, h4q, ei, SW, SV, wpD, evDL, evDM, evD, bldLD, wpSp, DMem.mt, beq_self_eq_true, seval]
    have hi1 : ixD 1 (.msl b 0 (c.code.length + 1) (c.code.length + 1)) (.int .i64 ((i + 1 : Nat) : Int)) = some (.mp b (i + 1)) := by rw [ixM (show i + 1 < c.code.length + 1 by omega)]; simp
    refine ⟨fun h45 => ⟨fun hk => ?_, fun hk => ?_⟩, fun h45 => ⟨fun h8 => ?_, fun h8 => ?_⟩⟩
    · have e45 : x.kind = 4 ∨ x.kind = 5 := by simpa using h45
      simp only [Bool.and_eq_true, decide_eq_true_eq] at hk
      obtain ⟨kn, ekn⟩ := Int.eq_ofNat_of_zero_le hk.1
      have hkn : kn < c.code.length + 1 := by omega
      have hi2 : ixD 1 (.msl b 0 (c.code.length + 1) (c.code.length + 1)) (.int .i64 x.k) = some (.mp b kn) := by rw [ekn, ixM hkn]; simp
      simp only [hi2, h1, h3, h4, h16, h17, h18, SW, SV, wpD, evDL, evDM, evD, bldLD, wpSp, DMem.mt, beq_self_eq_true, seval]
      refine put h4b hlen hkn fun M6 g6 _ => ?_
      simp only [hi1, ei, h1, h3, h4, h16, h17, h18, SW, SV, wpD, evDL, evDM, evD, bldLD, wpSp, DMem.mt, beq_self_eq_true, seval]
      refine put g6 (by rw [List.length_set]; exact hlen) (show i + 1 < c.code.length + 1 by omega) fun M7 g7 _ => ?_
      try simp only [ei, h1, h3, h4, h16, h17, h18, SW, SV, wpD, evDL, evDM, evD, bldLD, wpSp, DMem.mt, beq_self_eq_true, seval]
      refine nxt g7 ?_
      rw [eF]; unfold ldS
      rw [if_pos e45, if_pos hk, ekn, Int.toNat_natCast]
    · have e45 : x.kind = 4 ∨ x.kind = 5 := by simpa using h45
      have hk : ¬ (0 ≤ x.k ∧ x.k < c.code.length) := by
        rintro ⟨g1, g2⟩
        rw [decide_eq_true g1, decide_eq_true g2] at hk; cases hk
      simp only [hi1, ei, h1, h3, h4, h16, h17, h18, SW, SV, wpD, evDL, evDM, evD, bldLD, wpSp, DMem.mt, beq_self_eq_true, seval]
      refine put h4b hlen (show i + 1 < c.code.length + 1 by omega) fun M7 g7 _ => ?_
      try simp only [ei, h1, h3, h4, h16, h17, h18, SW, SV, wpD, evDL, evDM, evD, bldLD, wpSp, DMem.mt, beq_self_eq_true, seval]
      refine nxt g7 ?_
      rw [eF]; unfold ldS
      rw [if_pos e45, if_neg hk]
    · have e45 : ¬ (x.kind = 4 ∨ x.kind = 5) := by simpa using h45
      have e8 : x.kind = 8 := of_decide_eq_true h8
      simp only [hi1, ei, h1, h3, h4, h16, h17, h18, SW, SV, wpD, evDL, evDM, evD, bldLD, wpSp, DMem.mt, beq_self_eq_true, seval]
      refine put h4b hlen (show i + 1 < c.code.length + 1 by omega) fun M7 g7 _ => ?_
      try simp only [ei, h1, h3, h4, h16, h17, h18, SW, SV, wpD, evDL, evDM, evD, bldLD, wpSp, DMem.mt, beq_self_eq_true, seval]
      refine nxt g7 ?_
      rw [eF]; unfold ldS
      rw [if_neg e45, if_pos e8]
    · have e45 : ¬ (x.kind = 4 ∨ x.kind = 5) := by simpa using h45
      have e8 : ¬ x.kind = 8 := of_decide_eq_false h8
      try simp only [ei, h1, h3, h4, h16, h17, h18, SW, SV, wpD, evDL, evDM, evD, bldLD, wpSp, DMem.mt, beq_self_eq_true, seval]
      refine nxt h4b ?_
      rw [eF]; unfold ldS
      rw [if_neg e45, if_neg e8]
  · have hje : i = c.code.length := by omega
    subst hje
    simp only [S2_ir_Leaders, MU_ir_Leaders, h3, h4, slcM_him (show c.code.length ≤ c.code.length + 1 by omega) (Nat.le_refl _) (show c.code.length ≤ c.code.length + 1 by omega), SW, SV, wpD, evDL, evDM, evD, bldLD, wpSp, DMem.mt, beq_self_eq_true, seval]
    have hMo : DMem.only M [b] b = some ⟨4, c.code.length + 1, (ldF c.code c.code.length).map .bool⟩ := by rw [DMem.only_in (by simp)]; exact hMb
    refine ⟨DMem.only M [b], DMem.only_sub _ _, ⟨by split <;> rfl, fun y B hy => ?_⟩, fun m v hv => ?_⟩
    · unfold DMem.only at hy
      split at hy
      · rename_i hyb
        have : y = b := by simpa using hyb
        subst this
        rw [hMb] at hy; cases hy
        exact thawed_bools _
      · cases hy
    · by_cases h0 : c.code.length = 0
      · rw [if_pos h0, fz_zsl] at hv
        have : leadersF c.code = [] := List.eq_nil_of_length_eq_zero (by unfold leadersF; rw [List.length_take]; omega)
        rw [this]; exact hv
      · rw [if_neg h0, fz_msl hMo 3 0 _ _ (Nat.le_refl _), List.drop_zero] at hv
        have hm : (List.map (fz (DMem.only M [b]) 3) (List.map DV.bool (ldF c.code c.code.length))) = (leadersF c.code).map .bool ++ ((ldF c.code c.code.length).drop c.code.length).map .bool := by
          rw [← List.map_append]
          unfold leadersF
          rw [List.take_append_drop, List.map_map]
          exact List.map_congr_left fun x _ => fz_bool _ _ _
        simp only at hv
        rw [hm] at hv
        have hl : (leadersF c.code).length = c.code.length := by unfold leadersF; rw [List.length_take, ldF_len]; omega
        have := rep_isl hv
        unfold slB
        rw [hl]; exact this
end Go.Proofs.YticlgdhhnjpkjaaGreatDoor.Pf
namespace Go.Proofs.YticlgdhhnjpkjaaGreatDoor.Pf
open Go Go.RowKit Go.Proofs Go.Proofs.YticlgdhhnjpkjaaGreatDoor.Mw Go.Proofs.YticlgdhhnjpkjaaGreatDoor.Sx
set_option linter.unusedVariables false
set_option linter.unusedSimpArgs false
set_option maxRecDepth 8000
def setR (s : List Int) (a : Nat) (v : Int) : Nat → List Int
  | 0 => s
  | k + 1 => (setR s a v k).set (a + k) v
theorem setR_len (s : List Int) (a : Nat) (v : Int) : ∀ k, (setR s a v k).length = s.length
  | 0 => rfl
  | k + 1 => by simp only [setR, List.length_set]; exact setR_len s a v k
def costed (x : Irc) (k : Int) : Irc := ⟨x.kind, x.r, x.a, x.b, x.k, x.args, x.cost + k, x.mt, x.pc⟩
def nopI (cost pc : Int) : Irc := ⟨0, 0, 0, 0, 0, [], cost, 0, pc⟩
def pcAt (code : List Irc) (i : Nat) : Int := match code[i]? with | some x => x.pc | none => 0
def sqNext (code : List Irc) (L : List Bool) (i : Nat) (w : Low) : Option (Nat × Low) :=
  let r := runR code L i
  let st := setR w.starts i w.code.length (r.1 - i)
  if r.1 = i ∨ L.getD r.1 false = false then
    match code[r.1]? with
    | some x => if 256 < x.cost + r.2 then none else some (r.1 + 1, ⟨w.code ++ [costed x r.2], w.metas, st.set r.1 w.code.length⟩)
    | none => none
  else if 256 < r.2 then none else some (r.1, ⟨if 0 < r.2 then w.code ++ [nopI r.2 (pcAt code i)] else w.code, w.metas, st⟩)
def sqRun (code : List Irc) (L : List Bool) : Nat → Nat → Low → Option Low
  | 0, i, w => if i < code.length then none else some w
  | k + 1, i, w => if i < code.length then (match sqNext code L i w with
    | some (j, w') => sqRun code L k j w'
    | none => none) else some w
def squeezeR (p : List Fnc) (c : Cod) : Cod × Int :=
  if codeMayB p c = true then
    match sqRun c.code (leadersF c.code) c.code.length 0 ⟨[], c.metas, List.replicate c.code.length 0⟩ with
    | some w => (⟨c.fn, c.regs, w.code.map (placed w.starts), w.metas⟩, 0)
    | none => (cod0, 1800)
  else (cod0, 1800)
theorem imp_any {w d : DV} {k r a b kk cost mt pc : Int} {args : List Int} (h : d = slI args ∨ (d = .zsl ∧ args = [])) : ImpL [w, .agg [.int .i64 k, .int .i64 r, .int .i64 a, .int .i64 b, .int .i64 kk, d, .int .i64 cost, .int .i64 mt, .int .i64 pc]] [w, .agg (⟨k, r, a, b, kk, args, cost, mt, pc⟩ : Irc).c] := by
  rcases h with rfl | ⟨rfl, rfl⟩
  · exact ImpL.refl _
  · exact ImpL.cons (Imp.refl _) <| ImpL.cons (Imp.agg (ImpL.cons (Imp.refl _) <| ImpL.cons (Imp.refl _) <| ImpL.cons (Imp.refl _) <| ImpL.cons (Imp.refl _) <| ImpL.cons (Imp.refl _) <| ImpL.cons imp_zsl <| ImpL.refl _)) (ImpL.refl _)
theorem WrAt.frame {M M' : DMem} {wb : Nat} {fn regs : Int} {w : Low} {S : List Nat} (h : WrAt M wb fn regs w S) (k : ∀ y ∈ S, M' y = M y) : WrAt M' wb fn regs w S := by
  obtain ⟨dc, dm, sb, Sc, Sm, hM, hc, hm, hs, rfl, hnd⟩ := h
  refine ⟨dc, dm, sb, Sc, Sm, (k wb (by simp)).trans hM, hc.frame irE_ok fun b hb => k b (by simp [hb]), hm.frame metaE_ok fun b hb => k b (by simp [hb]), (k sb (by simp)).trans hs, rfl, hnd⟩
theorem sq_S3 {KK XX RR δ} {M : DMem} {wb q o : Nat} {fn regs : Int} {w : Low} {S : List Nat} {d : DV} {x : Irc} {to en : Nat} {cost : Int} (h4 : δ 4 = .mp o 0) (h7 : δ 7 = .mp wb 0) (h9 : δ 9 = .int .i64 to) (h10 : δ 10 = .int .i64 cost) (h12 : δ 12 = .mp q 0) (h13 : δ 13 = .int .i64 en)
    (hw : WrAt M wb fn regs w S) (hq : M q = some ⟨50, 9, [.int .i64 x.kind, .int .i64 x.r, .int .i64 x.a, .int .i64 x.b, .int .i64 x.k, d, .int .i64 x.cost, .int .i64 x.mt, .int .i64 x.pc]⟩) (hd : d = slI x.args ∨ (d = .zsl ∧ x.args = []))
    (hqS : q ∉ S) (c0 : 0 ≤ x.cost ∧ x.cost ≤ 256) (c1 : 0 ≤ cost ∧ cost ≤ 1000000) (ha : x.args.length ≤ 4) (hl : w.code.length ≤ 100000) (hMo : M o = some ⟨29, 4, [.int .i64 0, .int .i64 0, .zsl, .zsl]⟩) (hoq : o ≠ q)
    (hbad : 256 < x.cost + cost → ∀ δ' M', δ' 4 = .mp o 0 → δ' 5 = .int .i64 1800 → M' o = some ⟨29, 4, [.int .i64 0, .int .i64 0, .zsl, .zsl]⟩ → (∀ y, y ≠ o → y ≠ q → M' y = M y) → RR δ' M')
    (hgood : ¬256 < x.cost + cost → ∀ δ' M' S', δ' 2 = δ 2 ∧ δ' 3 = δ 3 ∧ δ' 4 = δ 4 ∧ δ' 5 = δ 5 ∧ δ' 6 = δ 6 ∧ δ' 7 = δ 7 ∧ δ' 8 = δ 13 →
      WrAt M' wb fn regs (if to < en ∨ 0 < x.cost + cost then ⟨w.code ++ [costed x cost], w.metas, w.starts⟩ else w) S' → (∀ y B, y ∉ S → y ≠ q → M y = some B → M' y = some B) → (∀ y ∈ S', y ∈ S ∨ M y = none) → KK δ' M') :
    wpD Tryz.prog MU_squeeze_Squeeze (fun f => roL.contains f) (fun t => G_squeeze_Squeeze.contains t) 112 S3_squeeze_Squeeze KK XX RR δ M := by
  simp only [S3_squeeze_Squeeze, MU_squeeze_Squeeze, h4, h7, h9, h10, h12, h13, hq, SW, SV, wpD, evDL, evDM, evD, bldLD, wpSp, DMem.mt, beq_self_eq_true, seval]
  have ew : wr64 (x.cost + cost) = x.cost + cost := w64 (by omega)
  rw [ew]
  refine st_one hq rfl (by decide) rfl rfl fun M1 hq1 n1 => ?_
  have hq1 : M1 q = some ⟨50, 9, [.int .i64 x.kind, .int .i64 x.r, .int .i64 x.a, .int .i64 x.b, .int .i64 x.k, d, .int .i64 (x.cost + cost), .int .i64 x.mt, .int .i64 x.pc]⟩ := hq1
  have n1o : M1 o = some ⟨29, 4, [.int .i64 0, .int .i64 0, .zsl, .zsl]⟩ := (n1 o hoq).trans hMo
  have hw1 : WrAt M1 wb fn regs w S := hw.frame fun y hy => n1 y (by rintro rfl; exact hqS hy)
  simp only [hq1, SW, SV, wpD, evDL, evDM, evD, bldLD, wpSp, DMem.mt, beq_self_eq_true, seval, decide_eq_true_eq, decide_eq_false_iff_not]
  refine ⟨fun hb => ?_, fun hg => ?_⟩
  · rw [h4]
    refine stD (y := .agg [.int .i64 0, .int .i64 0, .zsl, .zsl]) (cs := [.int .i64 0, .int .i64 0, .zsl, .zsl]) n1o rfl rfl (by simp) (by simp) rfl fun M2 hM2 => ?_
    refine hbad hb _ _ h4 rfl (by rw [hM2, DMem.ins_same] <;> rfl) fun y hy hyq => by rw [hM2, DMem.ins_ne _ _ hy, n1 y hyq]
  · simp only [h7, h9, h12, h13, hq1, SW, SV, wpD, evDL, evDM, evD, bldLD, wpSp, DMem.mt, beq_self_eq_true, seval]
    refine ⟨fun hp => ?_, fun hp => ?_⟩
    · have hp' : to < en ∨ 0 < x.cost + cost := by
        rw [Bool.or_eq_true, decide_eq_true_eq, decide_eq_true_eq] at hp
        omega
      refine PC.weak (Put_pc hw1 (costed x cost) hl (by show x.args.length ≤ _; omega) fun M2 S2 hw2 keep2 in2 => ?_) (imp_any hd)
      refine hgood hg _ M2 S2 ⟨rfl, rfl, rfl, rfl, rfl, rfl, h13.symm⟩ (by rw [if_pos hp']; exact hw2) (fun y B hy hyq hB => keep2 y B hy (by rw [n1 y hyq]; exact hB)) fun y hy => ?_
      rcases in2 y hy with h | h
      · exact .inl h
      · right
        by_cases hyq : y = q
        · subst hyq; rw [hq1] at h; cases h
        · rw [← n1 y hyq]; exact h
    · have hp' : ¬(to < en ∨ 0 < x.cost + cost) := by
        rw [Bool.or_eq_false_iff, decide_eq_false_iff_not, decide_eq_false_iff_not] at hp
        omega
      exact hgood hg _ M1 S ⟨rfl, rfl, rfl, rfl, rfl, rfl, h13.symm⟩ (by rw [if_neg hp']; exact hw1) (fun y B hy hyq hB => by rw [n1 y hyq]; exact hB) fun y hy => .inl hy
end Go.Proofs.YticlgdhhnjpkjaaGreatDoor.Pf
namespace Go.Proofs.YticlgdhhnjpkjaaGreatDoor.Pf
open Go Go.RowKit Go.Proofs Go.Proofs.YticlgdhhnjpkjaaGreatDoor.Mw Go.Proofs.YticlgdhhnjpkjaaGreatDoor.Sx
set_option linter.unusedVariables false
set_option linter.unusedSimpArgs false
set_option maxRecDepth 8000
abbrev cIp (c : Cod) : DV := .ip [.int .i64 c.fn, .int .i64 c.regs, slD Irc.c c.code, slD metaC c.metas]
theorem runG_spec (code : List Irc) (L : List Bool) (f : Nat) (h0 : ∀ x ∈ code, 0 ≤ x.cost ∧ x.cost ≤ 256) : ∀ (k to : Nat) (cost : Int), to ≤ code.length → f ≤ to → 0 ≤ cost → cost ≤ 256 * to →
    f ≤ (runG code L f k to cost).1 ∧ to ≤ (runG code L f k to cost).1 ∧ (runG code L f k to cost).1 ≤ code.length ∧ 0 ≤ (runG code L f k to cost).2 ∧ (runG code L f k to cost).2 ≤ 256 * (runG code L f k to cost).1
  | 0, to, cost, h1, h2, h3, h4 => by simp only [runG]; omega
  | k + 1, to, cost, h1, h2, h3, h4 => by
    simp only [runG]
    cases hx : code[to]? with
    | none => simp only; omega
    | some x =>
      simp only
      split
      · have hlt : to < code.length := by
          rcases Nat.lt_or_ge to code.length with h | h
          · exact h
          · rw [List.getElem?_eq_none h] at hx; cases hx
        have hc := h0 x (List.mem_of_getElem? hx)
        have := runG_spec code L f h0 k (to + 1) (cost + x.cost) (by omega) (by omega) (by omega) (by omega)
        omega
      · simp only; omega
theorem runG_end (code : List Irc) (L : List Bool) (f : Nat) : ∀ (k to : Nat) (cost : Int), k = code.length - to → ∀ x, code[(runG code L f k to cost).1]? = some x → ¬(x.kind = 0 ∧ ((runG code L f k to cost).1 = f ∨ L.getD (runG code L f k to cost).1 false = false))
  | 0, to, cost, h, x, hx => by
    simp only [runG] at hx
    rw [List.getElem?_eq_none (by omega)] at hx; cases hx
  | k + 1, to, cost, h, x, hx => by
    simp only [runG] at hx ⊢
    cases hy : code[to]? with
    | none => rw [List.getElem?_eq_none_iff] at hy; omega
    | some y =>
      simp only [hy] at hx ⊢
      split
      · rename_i hc
        rw [if_pos hc] at hx
        exact runG_end code L f k (to + 1) _ (by omega) x hx
      · rename_i hc
        rw [if_neg hc] at hx
        simp only at hx
        rw [hy] at hx
        obtain rfl := Option.some.inj hx
        exact hc
theorem run_lt {p : List Fnc} {c : Cod} (h : MayOk p c) (L : List Bool) {i : Nat} (hi : i < c.code.length) : i ≤ (runR c.code L i).1 ∧ (runR c.code L i).1 < c.code.length ∧ 0 ≤ (runR c.code L i).2 ∧ (runR c.code L i).2 ≤ 256 * (runR c.code L i).1 := by
  have hc : ∀ x ∈ c.code, 0 ≤ x.cost ∧ x.cost ≤ 256 := fun x hx => by
    obtain ⟨j, hj, rfl⟩ := List.mem_iff_getElem.1 hx
    exact (h.ir j hj).c0
  have h1 := runG_spec c.code L i hc (c.code.length - i) i 0 (by omega) (Nat.le_refl _) (by omega) (by omega)
  refine ⟨h1.1, ?_, h1.2.2.2⟩
  refine Decidable.byContradiction fun hge => ?_
  have hlast : ∀ (k to : Nat) (cost : Int), to < c.code.length → (runG c.code L i k to cost).1 < c.code.length := fun k => by
    induction k with
    | zero => intro to cost h; exact h
    | succ k ih =>
      intro to cost hto
      simp only [runG, List.getElem?_eq_getElem hto]
      split
      · rename_i hk
        refine ih _ _ ?_
        refine Decidable.byContradiction fun hh => ?_
        have : to = c.code.length - 1 := by omega
        have := h.last c.code[to] (by rw [← this, List.getElem?_eq_getElem hto])
        omega
      · exact hto
  exact hge (hlast _ _ _ hi)
set_option maxHeartbeats 1000000 in
theorem sq_S4 {KK XX RR δ} {M : DMem} {p : List Fnc} {c : Cod} {L : List Bool} {wb o i to : Nat} {cost : Int} {w : Low} {st : List Int} {S : List Nat} (hok : MayOk p c) (hL : L.length = c.code.length) (hi : i < c.code.length) (hr : runR c.code L i = (to, cost))
    (h3 : δ 3 = cIp c) (h4 : δ 4 = .mp o 0) (h6 : δ 6 = slB L) (h7 : δ 7 = .mp wb 0) (h8 : δ 8 = .int .i64 i) (h9 : δ 9 = .int .i64 to) (h10 : δ 10 = .int .i64 cost)
    (hw : WrAt M wb c.fn c.regs ⟨w.code, w.metas, st⟩ S) (hst : st.length = c.code.length) (hst2 : st = setR w.starts i w.code.length (to - i)) (hl : w.code.length ≤ 100000)
    (hMo : M o = some ⟨29, 4, [.int .i64 0, .int .i64 0, .zsl, .zsl]⟩) (hoS : o ∉ S)
    (hbad : sqNext c.code L i w = none → ∀ δ' M', δ' 4 = .mp o 0 → δ' 5 = .int .i64 1800 → M' o = some ⟨29, 4, [.int .i64 0, .int .i64 0, .zsl, .zsl]⟩ → (∀ y B, y ∉ S → y ≠ o → M y = some B → M' y = some B) → RR δ' M')
    (hgood : ∀ j w', sqNext c.code L i w = some (j, w') → ∀ δ' M' S', δ' 2 = δ 2 ∧ δ' 3 = δ 3 ∧ δ' 4 = δ 4 ∧ δ' 5 = δ 5 ∧ δ' 6 = δ 6 ∧ δ' 7 = δ 7 ∧ δ' 8 = .int .i64 (j : Nat) →
      WrAt M' wb c.fn c.regs w' S' → (∀ y B, y ∉ S → M y = some B → M' y = some B) → (∀ y ∈ S', y ∈ S ∨ M y = none) → KK δ' M') :
    wpD Tryz.prog MU_squeeze_Squeeze (fun f => roL.contains f) (fun t => G_squeeze_Squeeze.contains t) 112 S4_squeeze_Squeeze KK XX RR δ M := by
  have hrl := run_lt hok L hi
  rw [hr] at hrl
  obtain ⟨r1, r2, r3, r4⟩ := hrl
  simp only at r1 r2 r3 r4
  have hn := hok.n
  have hpc : ((ixD 9 (slD Irc.c c.code) (.int .i64 i)).bind (faD 8)).bind (ldD M) = some (.int .i64 c.code[i].pc) := by rw [ix_slD Irc.len hi] <;> rfl
  have hLt : to < L.length := by omega
  simp only [S4_squeeze_Squeeze, MU_squeeze_Squeeze, h3, h4, h6, h7, h8, h9, h10, ld_ip2, hpc, SW, SV, wpD, evDL, evDM, evD, bldLD, wpSp, DMem.mt, beq_self_eq_true, seval]
  intro q M1 hq hM1
  have hqM : M q = none := hq
  have hqS : q ∉ S := fun hh => hw.here q hh hqM
  have hoq : o ≠ q := by rintro rfl; rw [hqM] at hMo; cases hMo
  have hq1 : M1 q = some ⟨50, 9, [.int .i64 0, .int .i64 0, .int .i64 0, .int .i64 0, .int .i64 0, .zsl, .int .i64 0, .int .i64 0, .int .i64 c.code[i].pc]⟩ := by rw [hM1, DMem.ins_same]
  have k1 : ∀ y, y ≠ q → M1 y = M y := fun y hy => by rw [hM1, DMem.ins_ne _ _ hy]
  clear hM1 hq
  have hw1 : WrAt M1 wb c.fn c.regs ⟨w.code, w.metas, st⟩ S := hw.frame fun y hy => k1 y (by rintro rfl; exact hqS hy)
  have hq' : ((ixD 1 (slB L) (.int .i64 to)).bind (ldD M1)) = some (.bool L[to]) := by rw [ix_slB hLt] <;> rfl
  have eL : L.getD to false = L[to] := by rw [List.getD_eq_getElem?_getD, List.getElem?_eq_getElem hLt] <;> rfl
  have hcc := hok.ir to r2
  have hMo1 : M1 o = some ⟨29, 4, [.int .i64 0, .int .i64 0, .zsl, .zsl]⟩ := (k1 o hoq).trans hMo
  simp only [h3, h6, h7, h8, h9, hq', SW, SV, wpD, evDL, evDM, evD, bldLD, wpSp, DMem.mt, beq_self_eq_true, seval]
  refine ⟨fun hp => ?_, fun hp => ?_⟩
  · have hp' : to = i ∨ L.getD to false = false := by
      rw [eL]
      rw [Bool.or_eq_true, decide_eq_true_eq] at hp
      rcases hp with h | h
      · left; omega
      · right; simpa using h
    refine At_pc hw1 to (by show to < st.length; omega) fun M2 hw2 k2 => ?_
    have hq2 : M2 q = _ := (k2 q hqS).trans hq1
    have hMo2 := (k2 o hoS).trans hMo1
    have hix : (ixD 9 (slD Irc.c c.code) (.int .i64 to)).bind (ldnD M2 9) = some (.agg c.code[to].c) := by rw [ix_slD Irc.len r2] <;> rfl
    have et : wr64 ((to : Int) + 1) = ((to + 1 : Nat) : Int) := w64s (by omega)
    simp only [S2_squeeze_Squeeze, MU_squeeze_Squeeze, h3, h4, h6, h7, h8, h9, h10, ld_ip2, hix, et, SW, SV, wpD, evDL, evDM, evD, bldLD, wpSp, DMem.mt, beq_self_eq_true, seval]
    refine stD (y := .agg c.code[to].c) (cs := c.code[to].c) hq2 rfl rfl (by simp) (by simp) rfl fun M3 hM3 => ?_
    have hq3 : M3 q = some ⟨50, 9, c.code[to].c⟩ := by rw [hM3, DMem.ins_same] <;> rfl
    have k3 : ∀ y, y ≠ q → M3 y = M2 y := fun y hy => by rw [hM3, DMem.ins_ne _ _ hy]
    have hw3 := hw2.frame (M' := M3) fun y hy => k3 y (by rintro rfl; exact hqS hy)
    have e : sqNext c.code L i w = if 256 < c.code[to].cost + cost then none else some (to + 1, ⟨w.code ++ [costed c.code[to] cost], w.metas, st.set to w.code.length⟩) := by
      unfold sqNext
      simp only [hr]
      rw [if_pos hp', List.getElem?_eq_getElem r2, hst2]
    try simp only [SW, SV, wpD, evDL, evDM, evD, bldLD, wpSp, DMem.mt, beq_self_eq_true, seval]
    refine sq_S3 (x := c.code[to]) (d := slI c.code[to].args) (to := to) (en := to + 1) (cost := cost) (o := o) (by exact h4) (by exact h7) (by exact h9) (by exact h10) rfl rfl hw3 hq3 (.inl rfl) hqS hcc.c0 (by omega) hcc.ar hl ((k3 o hoq).trans hMo2) hoq (fun hb δ' M' g4 g5 go gk => ?_) (fun hg δ' M' S' gδ gw gk gS => ?_)
    · refine hbad (by rw [e, if_pos hb]) δ' M' g4 g5 go fun y B hy hyo hB => ?_
      have hyq : y ≠ q := by rintro rfl; rw [hqM] at hB; cases hB
      rw [gk y hyo hyq, k3 y hyq, k2 y hy, k1 y hyq]; exact hB
    · rw [if_pos (.inl (by omega))] at gw
      refine hgood (to + 1) _ (by rw [e, if_neg hg]) δ' M' S' ⟨gδ.1, gδ.2.1, gδ.2.2.1, gδ.2.2.2.1, gδ.2.2.2.2.1, gδ.2.2.2.2.2.1, gδ.2.2.2.2.2.2⟩ gw (fun y B hy hB => ?_) fun y hy => ?_
      · have hyq : y ≠ q := by rintro rfl; rw [hqM] at hB; cases hB
        exact gk y B hy hyq (by rw [k3 y hyq, k2 y hy, k1 y hyq]; exact hB)
      · rcases gS y hy with h | h
        · exact .inl h
        · by_cases hyS : y ∈ S
          · exact .inl hyS
          · right
            by_cases hyq : y = q
            · rw [hyq]; exact hqM
            · rw [← k1 y hyq, ← k2 y hyS, ← k3 y hyq]; exact h
  · have hp' : ¬(to = i ∨ L.getD to false = false) := by
      rw [eL]
      rw [Bool.or_eq_false_iff, decide_eq_false_iff_not] at hp
      rintro (h | h)
      · exact hp.1 (by omega)
      · rw [h] at hp; exact absurd hp.2 (by decide)
    have e : sqNext c.code L i w = if 256 < cost then none else some (to, ⟨if 0 < cost then w.code ++ [nopI cost (pcAt c.code i)] else w.code, w.metas, st⟩) := by
      unfold sqNext
      simp only [hr]
      rw [if_neg hp', hst2]
    have epc : pcAt c.code i = c.code[i].pc := by unfold pcAt; rw [List.getElem?_eq_getElem hi]
    refine sq_S3 (x := nopI 0 c.code[i].pc) (d := .zsl) (to := to) (en := to) (cost := cost) (o := o) (by exact h4) (by exact h7) (by exact h9) (by exact h10) rfl rfl hw1 hq1 (.inr ⟨rfl, rfl⟩) hqS (by show (0:Int) ≤ 0 ∧ (0:Int) ≤ 256; omega) (by omega) (by show 0 ≤ 4; omega) hl hMo1 hoq (fun hb δ' M' g4 g5 go gk => ?_) (fun hg δ' M' S' gδ gw gk gS => ?_)
    · have hb : 256 < 0 + cost := hb
      rw [Int.zero_add] at hb
      refine hbad (by rw [e, if_pos hb]) δ' M' g4 g5 go fun y B hy hyo hB => ?_
      have hyq : y ≠ q := by rintro rfl; rw [hqM] at hB; cases hB
      rw [gk y hyo hyq, k1 y hyq]; exact hB
    · have hg : ¬256 < 0 + cost := hg
      rw [Int.zero_add] at hg
      have ew : (if to < to ∨ 0 < (nopI 0 c.code[i].pc).cost + cost then (⟨w.code ++ [costed (nopI 0 c.code[i].pc) cost], w.metas, st⟩ : Low) else ⟨w.code, w.metas, st⟩) = ⟨if 0 < cost then w.code ++ [nopI cost (pcAt c.code i)] else w.code, w.metas, st⟩ := by
        have ec : costed (nopI 0 c.code[i].pc) cost = nopI cost (pcAt c.code i) := by rw [epc]; simp [costed, nopI]
        by_cases h0 : 0 < cost
        · rw [if_pos (.inr (by show 0 < 0 + cost; omega)), if_pos h0, ec]
        · rw [if_neg (by rintro (h | h); omega; have h : 0 < 0 + cost := h; omega), if_neg h0]
      have gw : WrAt M' wb c.fn c.regs (if to < to ∨ 0 < (nopI 0 c.code[i].pc).cost + cost then (⟨w.code ++ [costed (nopI 0 c.code[i].pc) cost], w.metas, st⟩ : Low) else ⟨w.code, w.metas, st⟩) S' := gw
      rw [ew] at gw
      refine hgood to _ (by rw [e, if_neg hg]) δ' M' S' ⟨gδ.1, gδ.2.1, gδ.2.2.1, gδ.2.2.2.1, gδ.2.2.2.2.1, gδ.2.2.2.2.2.1, gδ.2.2.2.2.2.2⟩ gw (fun y B hy hB => ?_) fun y hy => ?_
      · have hyq : y ≠ q := by rintro rfl; rw [hqM] at hB; cases hB
        exact gk y B hy hyq (by rw [k1 y hyq]; exact hB)
      · rcases gS y hy with h | h
        · exact .inl h
        · right
          by_cases hyq : y = q
          · rw [hyq]; exact hqM
          · rw [← k1 y hyq]; exact h
end Go.Proofs.YticlgdhhnjpkjaaGreatDoor.Pf
namespace Go.Proofs.YticlgdhhnjpkjaaGreatDoor.Pf
open Go Go.RowKit Go.Proofs Go.Proofs.YticlgdhhnjpkjaaGreatDoor.Mw Go.Proofs.YticlgdhhnjpkjaaGreatDoor.Sx
set_option linter.unusedVariables false
set_option linter.unusedSimpArgs false
set_option maxRecDepth 8000
set_option maxHeartbeats 1000000 in
theorem sq_S5 {KK XX RR δ} {M : DMem} {p : List Fnc} {c : Cod} {L : List Bool} {wb o i to : Nat} {cost : Int} {w : Low} {S : List Nat} (hok : MayOk p c) (hL : L.length = c.code.length) (hi : i < c.code.length) (hr : runR c.code L i = (to, cost))
    (h3 : δ 3 = cIp c) (h4 : δ 4 = .mp o 0) (h6 : δ 6 = slB L) (h7 : δ 7 = .mp wb 0) (h8 : δ 8 = .int .i64 i) (h45 : δ 45 = .tup [.int .i64 to, .int .i64 cost])
    (hw : WrAt M wb c.fn c.regs w S) (hst : w.starts.length = c.code.length) (hl : w.code.length ≤ 100000)
    (hMo : M o = some ⟨29, 4, [.int .i64 0, .int .i64 0, .zsl, .zsl]⟩) (hoS : o ∉ S)
    (hbad : sqNext c.code L i w = none → ∀ δ' M', δ' 4 = .mp o 0 → δ' 5 = .int .i64 1800 → M' o = some ⟨29, 4, [.int .i64 0, .int .i64 0, .zsl, .zsl]⟩ → (∀ y B, y ∉ S → y ≠ o → M y = some B → M' y = some B) → RR δ' M')
    (hgood : ∀ j w', sqNext c.code L i w = some (j, w') → ∀ δ' M' S', δ' 2 = δ 2 ∧ δ' 3 = δ 3 ∧ δ' 4 = δ 4 ∧ δ' 5 = δ 5 ∧ δ' 6 = δ 6 ∧ δ' 7 = δ 7 ∧ δ' 8 = .int .i64 (j : Nat) →
      WrAt M' wb c.fn c.regs w' S' → (∀ y B, y ∉ S → M y = some B → M' y = some B) → (∀ y ∈ S', y ∈ S ∨ M y = none) → KK δ' M') :
    wpD Tryz.prog MU_squeeze_Squeeze (fun f => roL.contains f) (fun t => G_squeeze_Squeeze.contains t) 112 S5_squeeze_Squeeze KK XX RR δ M := by
  have hrl := run_lt hok L hi
  rw [hr] at hrl
  obtain ⟨r1, r2, r3, r4⟩ := hrl
  simp only at r1 r2 r3 r4
  have hn := hok.n
  simp only [S5_squeeze_Squeeze, MU_squeeze_Squeeze, h3, h4, h6, h7, h8, h45, SW, SV, wpD, evDL, evDM, evD, bldLD, wpSp, DMem.mt, beq_self_eq_true, seval]
  refine ⟨fun n δ' M' => ∃ (k : Nat), k ≤ to - i ∧ n = to - i - k ∧ (δ' 2 = δ 2 ∧ δ' 3 = δ 3 ∧ δ' 4 = δ 4 ∧ δ' 5 = δ 5 ∧ δ' 6 = δ 6 ∧ δ' 7 = δ 7 ∧ δ' 8 = δ 8) ∧ δ' 9 = .int .i64 to ∧ δ' 10 = .int .i64 cost ∧ δ' 11 = .int .i64 ((i + k : Nat) : Int) ∧
      WrAt M' wb c.fn c.regs ⟨w.code, w.metas, setR w.starts i w.code.length k⟩ S ∧ (∀ y, y ∉ S → M' y = M y), to - i,
    ⟨0, Nat.zero_le _, rfl, ⟨rfl, rfl, rfl, rfl, rfl, rfl, rfl⟩, rfl, rfl, rfl, hw, fun _ _ => rfl⟩, ?_⟩
  rintro n δ' M' ⟨k, hk, rfl, ⟨g2, g3, g4, g5, g6, g7, g8⟩, g9, g10, g11, hw', hk'⟩
  rw [h3] at g3
  rw [h4] at g4
  rw [h6] at g6
  rw [h7] at g7
  rw [h8] at g8
  simp only [S1_squeeze_Squeeze, MU_squeeze_Squeeze, g3, g4, g6, g7, g8, g9, g10, g11, SW, SV, wpD, evDL, evDM, evD, bldLD, wpSp, DMem.mt, beq_self_eq_true, seval, decide_eq_true_eq, decide_eq_false_iff_not]
  refine ⟨fun hlt => ?_, fun hge => ?_⟩
  · refine At_pc hw' (i + k) (by rw [setR_len]; omega) fun M2 hw2 k2 => ?_
    have et : wr64 (((i + k : Nat) : Int) + 1) = ((i + (k + 1) : Nat) : Int) := by rw [w64s (by omega)]; congr 1
    simp only [g2, g3, g4, g5, g6, g7, g8, g9, g10, g11, SW, SV, wpD, evDL, evDM, evD, bldLD, wpSp, DMem.mt, beq_self_eq_true, seval]
    refine ⟨to - i - (k + 1), M2, by omega, SubD.refl _, k + 1, by omega, rfl, ?_⟩
    exact ⟨h3.symm, h4.symm, h6.symm, h7.symm, h8.symm, et, hw2, fun y hy => (k2 y hy).trans (hk' y hy)⟩
  · have hke : k = to - i := by omega
    subst hke
    refine sq_S4 (i := i) (to := to) (cost := cost) (w := w) (o := o) hok hL hi hr (by exact g3) (by exact g4) (by exact g6) (by exact g7) (by exact g8) (by exact g9) (by exact g10) hw' (by rw [setR_len]; exact hst) rfl hl ((hk' o hoS).trans hMo) hoS (fun hb δ2 M2 a1 a2 a3 a4 => hbad hb δ2 M2 a1 a2 a3 fun y B hy hyo hB => a4 y B hy hyo (by rw [hk' y hy]; exact hB)) fun j w' hj δ2 M2 S2 a1 a2 a3 a4 => ?_
    refine hgood j w' hj δ2 M2 S2 ⟨a1.1.trans g2, a1.2.1.trans (g3.trans h3.symm), a1.2.2.1.trans (g4.trans h4.symm), a1.2.2.2.1.trans g5, a1.2.2.2.2.1.trans (g6.trans h6.symm), a1.2.2.2.2.2.1.trans (g7.trans h7.symm), a1.2.2.2.2.2.2⟩ a2 (fun y B hy hB => a3 y B hy (by rw [hk' y hy]; exact hB)) fun y hy => ?_
    rcases a4 y hy with h | h
    · exact .inl h
    · by_cases hyS : y ∈ S
      · exact .inl hyS
      · exact .inr (by rw [← hk' y hyS]; exact h)
structure SqI (c : Cod) (i : Nat) (w : Low) : Prop where
  st : w.starts.length = c.code.length
  cl : w.code.length ≤ i
  me : w.metas = c.metas
  go : ∀ x ∈ w.code, goesB x.kind = true → 0 ≤ x.k ∧ x.k < c.code.length
theorem sq_next_ok {p : List Fnc} {c : Cod} {L : List Bool} (hok : MayOk p c) {i j : Nat} {w w' : Low} (hi : i < c.code.length) (h : SqI c i w) (e : sqNext c.code L i w = some (j, w')) : i < j ∧ j ≤ c.code.length ∧ SqI c j w' := by
  obtain ⟨r1, r2, r3, r4⟩ := run_lt hok L hi
  unfold sqNext at e
  simp only at e
  have hgo : ∀ x ∈ c.code, goesB x.kind = true → 0 ≤ x.k ∧ x.k < c.code.length := fun x hx hg => by
    obtain ⟨a, ha, rfl⟩ := List.mem_iff_getElem.1 hx
    have := (hok.ir a ha).go (by unfold goesB at hg; simpa using hg)
    exact ⟨this.1, this.2.1⟩
  split at e
  · rename_i hc
    rw [List.getElem?_eq_getElem r2] at e
    simp only at e
    split at e
    · cases e
    · cases e
      refine ⟨by omega, by omega, by rw [List.length_set, setR_len]; exact h.st, by simp only [List.length_append, List.length_cons, List.length_nil]; have := h.cl; omega, h.me, fun x hx => ?_⟩
      rcases List.mem_append.1 hx with h2 | h2
      · exact h.go x h2
      · simp at h2; subst h2
        exact fun hg => hgo c.code[(runR c.code L i).1] (List.getElem_mem r2) hg
  · rename_i hc
    have hne : (runR c.code L i).1 ≠ i := fun hh => hc (.inl hh)
    split at e
    · cases e
    · cases e
      refine ⟨by omega, by omega, by rw [setR_len]; exact h.st, ?_, h.me, fun x hx => ?_⟩
      · have := h.cl
        show (if 0 < (runR c.code L i).2 then w.code ++ [nopI (runR c.code L i).2 (pcAt c.code i)] else w.code).length ≤ (runR c.code L i).1
        split
        · simp only [List.length_append, List.length_cons, List.length_nil]; omega
        · omega
      · split at hx
        · rcases List.mem_append.1 hx with h2 | h2
          · exact h.go x h2
          · simp at h2; subst h2
            intro hg; exact absurd (show goesB 0 = true from hg) (by decide)
        · exact h.go x hx
set_option maxHeartbeats 1000000 in
theorem Squeeze_pc {M : DMem} (p : List Fnc) (c : Cod) (hz : SzC c) {R : DV → DMem → Prop}
    (hR : ∀ dc dm M' Sc Sm, SlAt irE M' dc (squeezeR p c).1.code Sc → SlAt metaE M' dm (squeezeR p c).1.metas Sm → (Sc ++ Sm).Nodup → (∀ y ∈ Sc ++ Sm, M y = none) → SubD M M' →
      R (.tup [.agg [.int .i64 (squeezeR p c).1.fn, .int .i64 (squeezeR p c).1.regs, dc, dm], .int .i64 (squeezeR p c).2]) M') : PC Tryz.prog F_squeeze_Squeeze [.agg [slD Fnc.c p], .agg c.c] R M := by
  refine pc_squeeze_Squeeze (by simp) ?_
  have hmay := irMay_pf p c hz
  have hmay : pf Tryz.prog 18 [.agg [slD Fnc.c p], .agg [.int .i64 c.fn, .int .i64 c.regs, slD Irc.c c.code, slD metaC c.metas]] = some (.bool (codeMayB p c)) := hmay
  have f1 : ∀ M, fz M 4 (slD Fnc.c p) = slD Fnc.c p := fun M => fz_of (Froz.slD Fnc.froz p) M 4
  have f2 : ∀ M, fz M 4 (slD Irc.c c.code) = slD Irc.c c.code := fun M => fz_of (Froz.slD Irc.froz _) M 4
  have f3 : ∀ M, fz M 4 (slD metaC c.metas) = slD metaC c.metas := fun M => fz_of (Froz.slD metaC_froz _) M 4
  have h1 : ∀ M, ldnD M 1 (.ip [slD Fnc.c p]) = some (.agg [slD Fnc.c p]) := fun M => rfl
  have ec : c.c = [.int .i64 c.fn, .int .i64 c.regs, slD Irc.c c.code, slD metaC c.metas] := rfl
  simp only [S_squeeze_Squeeze, R_squeeze_Squeeze, MU_squeeze_Squeeze, ec, ldn4_ip, h1, f1, f2, f3, hmay, SW, SV, wpD, evDL, evDM, evD, bldLD, wpSp, DMem.mt, beq_self_eq_true, seval]
  intro o M1 ho hM1
  have hoM : M o = none := ho
  have k1 : SubD M M1 := fun y B hB => by rw [hM1, DMem.ins_ne _ _ (by rintro rfl; rw [hoM] at hB; cases hB)]; exact hB
  have ho1 : M1 o = some ⟨29, 4, [.int .i64 0, .int .i64 0, .zsl, .zsl]⟩ := by rw [hM1, DMem.ins_same]
  clear hM1 ho
  refine ⟨fun hb => ?_, fun hb => ?_⟩
  · have e : squeezeR p c = (cod0, 1800) := by
      unfold squeezeR
      rw [if_neg (by intro h; rw [h] at hb; cases hb)]
    rw [e] at hR
    refine stD ho1 rfl rfl (by simp) (by simp) rfl fun M2 hM2 => ?_
    have ho2 : M2 o = some ⟨29, 4, [.int .i64 0, .int .i64 0, .zsl, .zsl]⟩ := by rw [hM2, DMem.ins_same] <;> rfl
    refine ⟨_, by rw [ho2] <;> rfl, hR .zsl .zsl M2 [] [] SlAt.nil SlAt.nil List.nodup_nil (fun y hy => by simp at hy) fun y B hB => ?_⟩
    rw [hM2, DMem.ins_ne _ _ (by rintro rfl; rw [hoM] at hB; cases hB)]
    exact k1 y B hB
  · have hmb : codeMayB p c = true := by cases h : codeMayB p c; rw [h] at hb; cases hb; rfl
    have hok := may_ok hmb
    have hn := hok.n
    refine Pt.pc (d := slB (leadersF c.code)) (by rw [List.map_cons, List.map_nil, fz_of (Froz.agg (Cod.froz c)) M1 4]; exact Leaders_pt c (by omega)) ?_
    simp only [S11_squeeze_Squeeze, MU_squeeze_Squeeze, SW, SV, wpD, evDL, evDM, evD, bldLD, wpSp, DMem.mt, beq_self_eq_true, seval]
    refine Write_pc c.fn c.regs c.code.length (by omega) fun wb M2 S hw fS k2 => ?_
    obtain ⟨dc0, dm0, sb, Sc0, Sm0, hMw, hc0, hm0, hMs, rfl, hnd⟩ := hw
    have ho2 := k2 o _ ho1
    simp only [S10_squeeze_Squeeze, MU_squeeze_Squeeze, SW, SV, wpD, evDL, evDM, evD, bldLD, wpSp, DMem.mt, beq_self_eq_true, seval]
    refine Copy_pc c (by omega) (fun x hx => by obtain ⟨a, ha, rfl⟩ := List.mem_iff_getElem.1 hx; have := (hok.ir a ha).ar; omega) (by have := hok.m; omega) hok.sz fun dcc dm M3 Sc3 Sm hcc hmm hnd3 fr3 k3 => ?_
    have hMw3 := k3 wb _ hMw
    have hMs3 := k3 sb _ hMs
    have ho3 := k3 o _ ho2
    simp only [S9_squeeze_Squeeze, MU_squeeze_Squeeze, SW, SV, wpD, evDL, evDM, evD, bldLD, wpSp, DMem.mt, beq_self_eq_true, seval]
    refine st_one hMw3 rfl (by decide) hmm.cell hmm.plain fun M4 hMw4 n4 => ?_
    have hMw4 : M4 wb = some ⟨99, 5, [.int .i64 c.fn, .int .i64 c.regs, dc0, dm, .msl sb 0 (List.replicate c.code.length (0 : Int)).length (List.replicate c.code.length (0 : Int)).length]⟩ := hMw4
    have hnd1 := List.nodup_cons.1 hnd
    have hnd2 := List.nodup_cons.1 hnd1.2
    have hws : wb ≠ sb := by rintro rfl; exact hnd1.1 (by simp)
    have hwo : wb ≠ o := by rintro rfl; have := fS wb (by simp); rw [ho1] at this; cases this
    have hwm : wb ∉ Sm := fun hh => by have := fr3 wb (by simp [hh]); rw [hMw] at this; cases this
    have hsm : sb ∉ Sm := fun hh => by have := fr3 sb (by simp [hh]); rw [hMs] at this; cases this
    have hom : o ∉ Sm := fun hh => by have := fr3 o (by simp [hh]); rw [ho2] at this; cases this
    have hos : o ≠ sb := by rintro rfl; have := fS o (by simp); rw [ho1] at this; cases this
    have ho4 := (n4 o (Ne.symm hwo)).trans ho3
    obtain ⟨hn0, _, _⟩ := List.nodup_append.1 hnd2.2
    have hwc : wb ∉ Sc0 := fun hh => hnd1.1 (by simp [hh])
    have hsc : sb ∉ Sc0 := fun hh => hnd2.1 (by simp [hh])
    have hdis0 : ∀ x ∈ Sc0, x ∉ Sm := fun x hx hh => hc0.here irE_ok x hx (fr3 x (by simp [hh]))
    have hw4 : WrAt M4 wb c.fn c.regs ⟨[], c.metas, List.replicate c.code.length 0⟩ (wb :: sb :: (Sc0 ++ Sm)) := by
      refine ⟨dc0, dm, sb, Sc0, Sm, hMw4, (hc0.sub irE_ok k3).frame irE_ok fun b hb => n4 b (by rintro rfl; exact hwc hb), hmm.frame metaE_ok fun b hb => n4 b (by rintro rfl; exact hwm hb), (n4 sb (Ne.symm hws)).trans hMs3, rfl, ?_⟩
      refine List.nodup_cons.2 ⟨by simp [hws, hwm, hwc], List.nodup_cons.2 ⟨by simp [hsm, hsc], ?_⟩⟩
      exact List.nodup_append.2 ⟨hn0, (List.nodup_append.1 hnd3).2.1, fun x hx y hy e => hdis0 x hx (e ▸ hy)⟩
    have fr4 : ∀ x ∈ wb :: sb :: (Sc0 ++ Sm), M1 x = none := fun x hx => by
      simp only [List.mem_cons, List.mem_append] at hx
      have hs : x ∈ wb :: sb :: (Sc0 ++ Sm0) ∨ x ∈ Sm := by
        rcases hx with h | h | h | h
        · left; simp [h]
        · left; simp [h]
        · left; simp [h]
        · exact .inr h
      rcases hs with h | h
      · exact fS x h
      · cases e : M1 x with
        | none => rfl
        | some B => have := k2 x B e; rw [fr3 x (by simp [h])] at this; cases this
    have k4 : SubD M1 M4 := fun x B hB => by
      rw [n4 x (by rintro rfl; rw [fS x (by simp)] at hB; cases hB)]; exact k3 x B (k2 x B hB)
    have ho4S : o ∉ wb :: sb :: (Sc0 ++ Sm) := fun hh => by rw [fr4 o hh] at ho1; cases ho1
    generalize wb :: sb :: (Sc0 ++ Sm) = S4 at hw4 fr4 ho4S
    clear hMw hMs hc0 hm0 fS hnd ho2 hcc hmm hnd3 fr3 hMw3 hMs3 ho3 n4 hMw4 hnd1 hnd2 hwm hsm hom hn0 hwc hsc hdis0 k2 k3
    refine ⟨fun n δ M' => ∃ (i : Nat) (w : Low) (S : List Nat) (f : Nat), i ≤ c.code.length ∧ n = c.code.length - i ∧ c.code.length - i ≤ f ∧ sqRun c.code (leadersF c.code) f i w = sqRun c.code (leadersF c.code) c.code.length 0 ⟨[], c.metas, List.replicate c.code.length 0⟩ ∧ SqI c i w ∧
        δ 3 = cIp c ∧ δ 4 = .mp o 0 ∧ δ 5 = .int .i64 0 ∧ δ 6 = slB (leadersF c.code) ∧ δ 7 = .mp wb 0 ∧ δ 8 = .int .i64 i ∧
        WrAt M' wb c.fn c.regs w S ∧ (∀ y ∈ S, M1 y = none) ∧ SubD M1 M', c.code.length,
      ⟨0, ⟨[], c.metas, List.replicate c.code.length 0⟩, S4, c.code.length, Nat.zero_le _, rfl, Nat.le_refl _, rfl, ⟨by simp, by simp, rfl, fun x hx => by simp at hx⟩, rfl, rfl, rfl, rfl, rfl, rfl, hw4, fr4, k4⟩, ?_⟩
    rintro n δ M' ⟨i, w, S, f, hi, rfl, hf, hrun, hI, h3, h4, h5, h6, h7, h8, hw, fS, kM⟩
    simp only [S6_squeeze_Squeeze, MU_squeeze_Squeeze, h3, h4, h5, h6, h7, h8, ld_ip2, len_slD, SW, SV, wpD, evDL, evDM, evD, bldLD, wpSp, DMem.mt, beq_self_eq_true, seval, decide_eq_true_eq, decide_eq_false_iff_not]
    refine ⟨fun hlt => ?_, fun hge => ?_⟩
    · have hil : i < c.code.length := by omega
      obtain ⟨f, rfl⟩ : ∃ f', f = f' + 1 := ⟨f - 1, by omega⟩
      simp only [sqRun, if_pos hil] at hrun
      have hLl : (leadersF c.code).length = c.code.length := by unfold leadersF; rw [List.length_take, ldF_len]; omega
      refine Pu.pc (run_pu c (leadersF c.code) i hi (by omega) hLl fun x hx => by obtain ⟨a, ha, rfl⟩ := List.mem_iff_getElem.1 hx; exact (hok.ir a ha).c0) ?_
      have hoS : o ∉ S := fun hh => by have := fS o hh; rw [ho1] at this; cases this
      have hMo := kM o _ ho1
      refine sq_S5 (i := i) (to := (runR c.code (leadersF c.code) i).1) (cost := (runR c.code (leadersF c.code) i).2) (w := w) (o := o) (S := S) hok hLl hil rfl (by exact h3) (by exact h4) (by exact h6) (by exact h7) (by exact h8) rfl hw hI.st (by have := hI.cl; omega) hMo hoS (fun hb δ' M2 g4 g5 go gk => ?_) fun j w' hj δ' M2 S2 g gw gk gS => ?_
      · have e : squeezeR p c = (cod0, 1800) := by
          unfold squeezeR
          rw [if_pos hmb, ← hrun, hb]
        rw [e] at hR
        refine ⟨_, by rw [g4, g5, ldnM, go] <;> rfl, hR .zsl .zsl M2 [] [] SlAt.nil SlAt.nil List.nodup_nil (fun y hy => by simp at hy) fun y B hB => ?_⟩
        exact gk y B (fun hh => by have := fS y hh; rw [k1 y B hB] at this; cases this) (by rintro rfl; rw [hoM] at hB; cases hB) (kM y B (k1 y B hB))
      · obtain ⟨j1, j2, hI'⟩ := sq_next_ok hok hil hI hj
        rw [hj] at hrun
        refine ⟨c.code.length - j, M2, by omega, SubD.refl _, j, w', S2, f, j2, rfl, by omega, hrun, hI', g.2.1.trans h3, g.2.2.1.trans h4, g.2.2.2.1.trans h5, g.2.2.2.2.1.trans h6, g.2.2.2.2.2.1.trans h7, g.2.2.2.2.2.2, gw, fun y hy => ?_, fun y B hB => ?_⟩
        · rcases gS y hy with h | h
          · exact fS y h
          · cases e : M1 y with
            | none => rfl
            | some B => have := kM y B e; rw [h] at this; cases this
        · exact gk y B (fun hh => by have := fS y hh; rw [hB] at this; cases this) (kM y B hB)
    · have hie : i = c.code.length := by omega
      subst hie
      have hrun' : sqRun c.code (leadersF c.code) c.code.length 0 ⟨[], c.metas, List.replicate c.code.length 0⟩ = some w := by
        rw [← hrun]
        cases f <;> simp [sqRun]
      have e : squeezeR p c = (⟨c.fn, c.regs, w.code.map (placed w.starts), w.metas⟩, 0) := by
        unfold squeezeR
        rw [if_pos hmb, hrun']
      rw [e] at hR
      simp only [S8_squeeze_Squeeze, MU_squeeze_Squeeze, h7, SW, SV, wpD, evDL, evDM, evD, bldLD, wpSp, DMem.mt, beq_self_eq_true, seval]
      have hoS : o ∉ S := fun hh => by have := fS o hh; rw [ho1] at this; cases this
      have hMo := kM o _ ho1
      refine Done_pc hw (by have := hI.cl; omega) (by rw [hI.me]; have := hok.m; omega) (by rw [hI.st]; exact hI.go) fun dc dm' M5 Sc Sm' hcS hmS ndS inS keepS => ?_
      have ho5 := keepS o _ hoS hMo
      simp only [S7_squeeze_Squeeze, MU_squeeze_Squeeze, h4, hcS.plain, hmS.plain, ldn4_ip, SW, SV, wpD, evDL, evDM, evD, bldLD, wpSp, DMem.mt, beq_self_eq_true, seval]
      refine stD (y := .agg [.int .i64 c.fn, .int .i64 c.regs, dc, dm']) (cs := [.int .i64 c.fn, .int .i64 c.regs, dc, dm']) ho5 rfl rfl (by simp) (by simp) (by simp only [List.all_cons, List.all_nil, hcS.plain, hmS.plain] <;> rfl) fun M6 hM6 => ?_
      have ho6 : M6 o = some ⟨29, 4, [.int .i64 c.fn, .int .i64 c.regs, dc, dm']⟩ := by rw [hM6, DMem.ins_same] <;> rfl
      have n6 : ∀ x, x ≠ o → M6 x = M5 x := fun x hx => by rw [hM6, DMem.ins_ne _ _ hx]
      refine ⟨_, by rw [ho6] <;> rfl, hR dc dm' M6 Sc Sm' (hcS.frame irE_ok fun x hx => n6 x (by rintro rfl; exact hoS (inS x (by simp [hx])))) (hmS.frame metaE_ok fun x hx => n6 x (by rintro rfl; exact hoS (inS x (by simp [hx])))) ndS (fun y hy => ?_) fun y B hB => ?_⟩
      · have h := fS y (inS y hy)
        cases e : M y with
        | none => rfl
        | some B => rw [k1 y B e] at h; cases h
      · rw [n6 y (by rintro rfl; rw [hoM] at hB; cases hB)]
        exact keepS y B (fun hh => by have := fS y hh; rw [k1 y B hB] at this; cases this) (kM y B (k1 y B hB))
end Go.Proofs.YticlgdhhnjpkjaaGreatDoor.Pf
namespace Go.Proofs.YticlgdhhnjpkjaaGreatDoor.Pf
open Go Go.RowKit Go.Proofs Go.Proofs.YticlgdhhnjpkjaaGreatDoor.Mw Go.Proofs.YticlgdhhnjpkjaaGreatDoor.Sx
set_option linter.unusedVariables false
set_option linter.unusedSimpArgs false
def totC (l : List Irc) : Int := (l.map (·.cost)).sum
theorem totC_append (a b : List Irc) : totC (a ++ b) = totC a + totC b := by unfold totC; rw [List.map_append, List.sum_append]
theorem totC_one (x : Irc) : totC [x] = x.cost := by simp [totC]
theorem totC_take {l : List Irc} {i : Nat} (h : i < l.length) : totC (l.take (i + 1)) = totC (l.take i) + l[i].cost := by
  rw [List.take_succ_eq_append_getElem h, totC_append, totC_one]
theorem totC_nonneg {l : List Irc} (h : ∀ x ∈ l, 0 ≤ x.cost) : 0 ≤ totC l := by
  induction l with
  | nil => exact Int.le_refl 0
  | cons x l ih =>
    have h1 := h x (by simp)
    have h2 := ih fun y hy => h y (by simp [hy])
    have : totC (x :: l) = x.cost + totC l := by simp [totC]
    omega
theorem totC_le {l : List Irc} (h : ∀ x ∈ l, 0 ≤ x.cost) (i : Nat) : totC (l.take i) ≤ totC l := by
  have h1 := totC_append (l.take i) (l.drop i)
  rw [List.take_append_drop] at h1
  have := totC_nonneg (l := l.drop i) fun x hx => h x (List.mem_of_mem_drop hx)
  omega
theorem runG_tot (code : List Irc) (L : List Bool) (f : Nat) : ∀ (k to : Nat) (cost : Int), totC (code.take (runG code L f k to cost).1) = totC (code.take to) + ((runG code L f k to cost).2 - cost)
  | 0, to, cost => by simp [runG]
  | k + 1, to, cost => by
    simp only [runG]
    cases hx : code[to]? with
    | none => simp
    | some x =>
      simp only
      split
      · rw [runG_tot code L f k (to + 1) (cost + x.cost)]
        obtain ⟨h, rfl⟩ := List.getElem?_eq_some_iff.1 hx
        rw [totC_take h]; omega
      · simp
theorem runG_nop (code : List Irc) (L : List Bool) (f : Nat) : ∀ (k to : Nat) (cost : Int) (t : Nat), to ≤ t → t < (runG code L f k to cost).1 → ∃ x, code[t]? = some x ∧ x.kind = 0
  | 0, to, cost, t, h1, h2 => by simp [runG] at h2; omega
  | k + 1, to, cost, t, h1, h2 => by
    simp only [runG] at h2
    cases hx : code[to]? with
    | none => rw [hx] at h2; simp at h2; omega
    | some x =>
      rw [hx] at h2
      simp only at h2
      split at h2
      · rename_i hc
        rcases Nat.eq_or_lt_of_le h1 with rfl | h
        · exact ⟨x, hx, hc.1⟩
        · exact runG_nop code L f k (to + 1) _ t h h2
      · simp at h2; omega
theorem setR_get (s : List Int) (a : Nat) (v : Int) {t : Nat} (ht : t < s.length) : ∀ k, (setR s a v k).getD t 0 = if a ≤ t ∧ t < a + k then v else s.getD t 0
  | 0 => by rw [if_neg (by omega)] <;> rfl
  | k + 1 => by
    have ih := setR_get s a v ht k
    simp only [setR, List.getD_eq_getElem?_getD, List.getElem?_set, setR_len]
    by_cases h : a + k = t
    · subst h; rw [if_pos rfl, if_pos ht, if_pos (by omega)] <;> rfl
    · rw [if_neg h, ← List.getD_eq_getElem?_getD, ih]
      by_cases h2 : a ≤ t ∧ t < a + k
      · rw [if_pos h2, if_pos (by omega)]
      · rw [if_neg h2, if_neg (by omega), List.getD_eq_getElem?_getD]
theorem set_get (s : List Int) (a : Nat) (v : Int) {t : Nat} (ht : t < s.length) : (s.set a v).getD t 0 = if a = t then v else s.getD t 0 := by
  simp only [List.getD_eq_getElem?_getD, List.getElem?_set]
  by_cases h : a = t
  · subst h; rw [if_pos rfl, if_pos ht, if_pos rfl] <;> rfl
  · rw [if_neg h, if_neg h]
theorem ldF_spec (code : List Irc) (t : Nat) (ht : t ≤ code.length) : ∀ i, i ≤ code.length → ((ldF code i).getD t false = true ↔ t = 0 ∨ (∃ o x, o < i ∧ code[o]? = some x ∧ (x.kind = 4 ∨ x.kind = 5) ∧ x.k = t ∧ t < code.length) ∨ (∃ x, 1 ≤ t ∧ t ≤ i ∧ code[t - 1]? = some x ∧ (x.kind = 4 ∨ x.kind = 5 ∨ x.kind = 8)))
  | 0, _ => by
    simp only [ldF]
    constructor
    · intro h
      left
      refine Decidable.byContradiction fun hn => ?_
      rw [List.getD_eq_getElem?_getD, List.getElem?_set_ne (by omega), List.getElem?_replicate, if_pos (by omega)] at h
      cases h
    · rintro (rfl | ⟨o, x, h, _⟩ | ⟨x, h1, h2, _⟩)
      · simp
      · omega
      · omega
  | i + 1, hi => by
    have ih := ldF_spec code t ht i (by omega)
    have hil : i < code.length := by omega
    have hlen := ldF_len code i
    simp only [ldF, List.getElem?_eq_getElem hil]
    have hset : ∀ (o : List Bool) (a : Nat), o.length = code.length + 1 → ((o.set a true).getD t false = true ↔ a = t ∨ o.getD t false = true) := fun o a ho => by
      simp only [List.getD_eq_getElem?_getD, List.getElem?_set]
      by_cases h : a = t
      · subst h; rw [if_pos rfl, if_pos (by omega)]; simp
      · rw [if_neg h]; simp [h]
    have fwd : ((ldF code i).getD t false = true) → t = 0 ∨ (∃ o x, o < i + 1 ∧ code[o]? = some x ∧ (x.kind = 4 ∨ x.kind = 5) ∧ x.k = t ∧ t < code.length) ∨ (∃ x, 1 ≤ t ∧ t ≤ i + 1 ∧ code[t - 1]? = some x ∧ (x.kind = 4 ∨ x.kind = 5 ∨ x.kind = 8)) := fun h => by
      rcases ih.1 h with h | ⟨o, x, h1, h2⟩ | ⟨x, h1, h2, h3⟩
      · exact .inl h
      · exact .inr (.inl ⟨o, x, by omega, h2⟩)
      · exact .inr (.inr ⟨x, h1, by omega, h3⟩)
    have e1 : i + 1 - 1 = i := rfl
    unfold ldS
    by_cases h45 : code[i].kind = 4 ∨ code[i].kind = 5
    · rw [if_pos h45]
      have hl2 : (if 0 ≤ code[i].k ∧ code[i].k < (code.length : Nat) then (ldF code i).set code[i].k.toNat true else ldF code i).length = code.length + 1 := by split <;> simp [hlen]
      rw [hset _ _ hl2]
      constructor
      · rintro (rfl | h)
        · exact .inr (.inr ⟨code[i], by omega, Nat.le_refl _, by rw [e1, List.getElem?_eq_getElem hil], by rcases h45 with h | h; exact .inl h; exact .inr (.inl h)⟩)
        · split at h
          · rename_i hk
            rw [hset _ _ hlen] at h
            rcases h with h | h
            · exact .inr (.inl ⟨i, code[i], by omega, List.getElem?_eq_getElem hil, h45, by omega, by omega⟩)
            · exact fwd h
          · exact fwd h
      · rintro (h | ⟨o, x, h1, h2, h3, h4, h5⟩ | ⟨x, h1, h2, h3, h4⟩)
        · right
          have h0 := ih.2 (.inl h)
          split
          · rw [hset _ _ hlen]; exact .inr h0
          · exact h0
        · right
          rcases Nat.eq_or_lt_of_le (Nat.le_of_lt_succ h1) with rfl | ho
          · rw [List.getElem?_eq_getElem hil] at h2
            obtain rfl := Option.some.inj h2
            rw [if_pos (by omega), hset _ _ hlen]
            left; omega
          · have h0 := ih.2 (.inr (.inl ⟨o, x, ho, h2, h3, h4, h5⟩))
            split
            · rw [hset _ _ hlen]; exact .inr h0
            · exact h0
        · rcases Nat.eq_or_lt_of_le h2 with rfl | ho
          · exact .inl rfl
          · right
            have h0 := ih.2 (.inr (.inr ⟨x, h1, by omega, h3, h4⟩))
            split
            · rw [hset _ _ hlen]; exact .inr h0
            · exact h0
    · rw [if_neg h45]
      have old : ∀ {o : Nat} {x : Irc}, o < i + 1 → code[o]? = some x → (x.kind = 4 ∨ x.kind = 5) → o < i := fun {o x} h1 h2 h3 => by
        rcases Nat.eq_or_lt_of_le (Nat.le_of_lt_succ h1) with rfl | ho
        · rw [List.getElem?_eq_getElem hil] at h2
          obtain rfl := Option.some.inj h2
          exact absurd h3 h45
        · exact ho
      by_cases h8 : code[i].kind = 8
      · rw [if_pos h8, hset _ _ hlen]
        constructor
        · rintro (rfl | h)
          · exact .inr (.inr ⟨code[i], by omega, Nat.le_refl _, by rw [e1, List.getElem?_eq_getElem hil], .inr (.inr h8)⟩)
          · exact fwd h
        · rintro (h | ⟨o, x, h1, h2, h3, h4⟩ | ⟨x, h1, h2, h3, h4⟩)
          · exact .inr (ih.2 (.inl h))
          · exact .inr (ih.2 (.inr (.inl ⟨o, x, old h1 h2 h3, h2, h3, h4⟩)))
          · rcases Nat.eq_or_lt_of_le h2 with rfl | ho
            · exact .inl rfl
            · exact .inr (ih.2 (.inr (.inr ⟨x, h1, by omega, h3, h4⟩)))
      · rw [if_neg h8]
        constructor
        · exact fwd
        · rintro (h | ⟨o, x, h1, h2, h3, h4⟩ | ⟨x, h1, h2, h3, h4⟩)
          · exact ih.2 (.inl h)
          · exact ih.2 (.inr (.inl ⟨o, x, old h1 h2 h3, h2, h3, h4⟩))
          · rcases Nat.eq_or_lt_of_le h2 with rfl | ho
            · rw [e1, List.getElem?_eq_getElem hil] at h3
              obtain rfl := Option.some.inj h3
              rcases h4 with h | h | h
              · exact absurd (.inl h) h45
              · exact absurd (.inr h) h45
              · exact absurd h h8
            · exact ih.2 (.inr (.inr ⟨x, h1, by omega, h3, h4⟩))
theorem leaders_spec (code : List Irc) {t : Nat} (ht : t < code.length) : (leadersF code).getD t false = true ↔ t = 0 ∨ (∃ (o : Nat) (x : Irc), code[o]? = some x ∧ (x.kind = 4 ∨ x.kind = 5) ∧ x.k = t) ∨ (∃ x : Irc, 1 ≤ t ∧ code[t - 1]? = some x ∧ (x.kind = 4 ∨ x.kind = 5 ∨ x.kind = 8)) := by
  have h := ldF_spec code t (by omega) code.length (Nat.le_refl _)
  have e : (leadersF code).getD t false = (ldF code code.length).getD t false := by
    unfold leadersF
    rw [List.getD_eq_getElem?_getD, List.getElem?_take_of_lt ht, ← List.getD_eq_getElem?_getD]
  rw [e, h]
  constructor
  · rintro (h | ⟨o, x, h1, h2, h3, h4, h5⟩ | ⟨x, h1, h2, h3⟩)
    · exact .inl h
    · exact .inr (.inl ⟨o, x, h2, h3, h4⟩)
    · exact .inr (.inr ⟨x, h1, h3⟩)
  · rintro (h | ⟨o, x, h2, h3, h4⟩ | ⟨x, h1, h3⟩)
    · exact .inl h
    · obtain ⟨ho, _⟩ := List.getElem?_eq_some_iff.1 h2
      exact .inr (.inl ⟨o, x, ho, h2, h3, h4, ht⟩)
    · exact .inr (.inr ⟨x, h1, by omega, h3⟩)
end Go.Proofs.YticlgdhhnjpkjaaGreatDoor.Pf
namespace Go.Proofs.YticlgdhhnjpkjaaGreatDoor.Pf
open Go Go.RowKit Go.Proofs Go.Proofs.YticlgdhhnjpkjaaGreatDoor.Mw Go.Proofs.YticlgdhhnjpkjaaGreatDoor.Sx
set_option linter.unusedVariables false
set_option linter.unusedSimpArgs false
structure SqW (c : Cod) (i : Nat) (w : Low) : Prop where
  lo : ∀ t, t < i → 0 ≤ w.starts.getD t 0 ∧ w.starts.getD t 0 ≤ w.code.length
  mono : ∀ t t', t ≤ t' → t' < i → w.starts.getD t 0 ≤ w.starts.getD t' 0
  at' : ∀ (j : Nat) (y : Irc), w.code[j]? = some y →
    (∃ (o : Nat) (x : Irc) (k : Int), o < i ∧ c.code[o]? = some x ∧ 0 ≤ k ∧ y = costed x k ∧ y.cost ≤ 256 ∧ x.kind ≠ 0 ∧ w.starts.getD o 0 = j ∧ ∀ t, o < t → t < i → (j : Int) < w.starts.getD t 0) ∨
    (∃ (k pc : Int) (t : Nat) (z : Irc), y = nopI k pc ∧ 0 < k ∧ k ≤ 256 ∧ 0 ≤ pc ∧ pc < 64 ∧ 1 ≤ t ∧ t ≤ i ∧ c.code[t - 1]? = some z ∧ z.kind = 0 ∧ (leadersF c.code).getD t false = true ∧ (t < i → w.starts.getD t 0 = j + 1) ∧ (t = i → j + 1 = w.code.length))
  has : ∀ (o : Nat) (x : Irc), o < i → c.code[o]? = some x → x.kind ≠ 0 → ∃ (j : Nat) (k : Int), w.starts.getD o 0 = j ∧ w.code[j]? = some (costed x k)
  tot : totC w.code = totC (c.code.take i)
theorem runR_nop (code : List Irc) (L : List Bool) (i t : Nat) (h1 : i ≤ t) (h2 : t < (runR code L i).1) : ∃ x, code[t]? = some x ∧ x.kind = 0 := runG_nop code L i _ i 0 t h1 h2
theorem runR_end (code : List Irc) (L : List Bool) (i : Nat) (hi : i ≤ code.length) : ∀ x, code[(runR code L i).1]? = some x → ¬(x.kind = 0 ∧ ((runR code L i).1 = i ∨ L.getD (runR code L i).1 false = false)) := runG_end code L i _ i 0 rfl
theorem runR_tot (code : List Irc) (L : List Bool) (i : Nat) : totC (code.take (runR code L i).1) = totC (code.take i) + (runR code L i).2 := by
  have := runG_tot code L i (code.length - i) i 0
  rw [Int.sub_zero] at this
  exact this
theorem sq_next_w {p : List Fnc} {c : Cod} (hok : MayOk p c) {i j : Nat} {w w' : Low} (hi : i < c.code.length) (h : SqI c i w) (hw : SqW c i w) (e : sqNext c.code (leadersF c.code) i w = some (j, w')) : SqW c j w' := by
  obtain ⟨r1, r2, r3, r4⟩ := run_lt hok (leadersF c.code) hi
  have hnop := runR_nop c.code (leadersF c.code) i
  have hend := runR_end c.code (leadersF c.code) i (by omega)
  have htot := runR_tot c.code (leadersF c.code) i
  unfold sqNext at e
  simp only at e
  generalize hto : (runR c.code (leadersF c.code) i).1 = to at *
  generalize hco : (runR c.code (leadersF c.code) i).2 = cost at *
  have hst := h.st
  have g1 : ∀ t, t < c.code.length → (setR w.starts i w.code.length (to - i)).getD t 0 = if i ≤ t ∧ t < to then (w.code.length : Int) else w.starts.getD t 0 := fun t ht => by
    rw [setR_get _ _ _ (by omega), show i + (to - i) = to by omega]
  split at e
  · rename_i hc
    rw [List.getElem?_eq_getElem r2] at e
    simp only at e
    split at e
    · cases e
    · rename_i hcost
      cases e
      have g2 : ∀ t, t ≤ to → ((setR w.starts i w.code.length (to - i)).set to (w.code.length : Int)).getD t 0 = if i ≤ t then (w.code.length : Int) else w.starts.getD t 0 := fun t ht => by
        rw [set_get _ _ _ (by rw [setR_len]; omega)]
        by_cases h1 : to = t
        · subst h1; rw [if_pos rfl, if_pos r1]
        · rw [if_neg h1, g1 t (by omega)]
          by_cases h2 : i ≤ t
          · rw [if_pos ⟨h2, by omega⟩, if_pos h2]
          · rw [if_neg (by omega), if_neg h2]
      have hk0 : c.code[to].kind ≠ 0 := fun hk => hend _ (List.getElem?_eq_getElem r2) ⟨hk, hc⟩
      have hll : (w.code ++ [costed c.code[to] cost]).length = w.code.length + 1 := by simp
      refine ⟨fun t ht => ?_, fun t t' h1 h2 => ?_, fun j y hy => ?_, fun o x ho hx hk => ?_, ?_⟩
      · show 0 ≤ _ ∧ _
        simp only [g2 t (by omega), hll]
        have := hw.lo t
        split <;> omega
      · simp only
        rw [g2 t (by omega), g2 t' (by omega)]
        have := hw.lo t
        have := hw.mono t t' h1
        split <;> split <;> omega
      · simp only at hy ⊢
        rcases Nat.lt_or_ge j w.code.length with hj | hj
        · rw [List.getElem?_append_left hj] at hy
          rcases hw.at' j y hy with ⟨o, x, k, h1, h2, h3, h4, h5, h6, h7, h8⟩ | ⟨k, pc, t, z, h1, h2, h3, h4, h5, h6, h7, h8, h9, h10, h11, h12⟩
          · refine .inl ⟨o, x, k, by omega, h2, h3, h4, h5, h6, by rw [g2 o (by omega), if_neg (by omega)]; exact h7, fun t ht1 ht2 => ?_⟩
            rw [g2 t (by omega)]
            split
            · omega
            · exact h8 t ht1 (by omega)
          · refine .inr ⟨k, pc, t, z, h1, h2, h3, h4, h5, h6, by omega, h8, h9, h10, fun ht => ?_, fun ht => by omega⟩
            rw [g2 t (by omega)]
            split
            · have := h12 (by omega); omega
            · exact h11 (by omega)
        · rw [List.getElem?_append_right hj] at hy
          have hj0 : j - w.code.length = 0 := by
            rcases Nat.eq_zero_or_pos (j - w.code.length) with h | h
            · exact h
            · rw [List.getElem?_eq_none (by simp; omega)] at hy; cases hy
          rw [hj0] at hy
          have hje : j = w.code.length := by omega
          subst hje
          obtain rfl := (Option.some.inj hy).symm
          refine .inl ⟨to, c.code[to], cost, by omega, List.getElem?_eq_getElem r2, r3, rfl, by show c.code[to].cost + cost ≤ 256; omega, hk0, by rw [g2 to (Nat.le_refl _), if_pos r1], fun t ht1 ht2 => by omega⟩
      · simp only
        rw [g2 o (by omega)]
        rcases Nat.lt_or_ge o i with h1 | h1
        · obtain ⟨j, k, h2, h3⟩ := hw.has o x h1 hx hk
          rw [if_neg (by omega)]
          obtain ⟨hj, _⟩ := List.getElem?_eq_some_iff.1 h3
          exact ⟨j, k, h2, by rw [List.getElem?_append_left hj]; exact h3⟩
        · rw [if_pos h1]
          rcases Nat.lt_or_ge o to with h2 | h2
          · obtain ⟨z, hz, hzk⟩ := hnop o h1 h2
            rw [hx] at hz
            obtain rfl := Option.some.inj hz
            exact absurd hzk hk
          · have : o = to := by omega
            subst this
            rw [List.getElem?_eq_getElem r2] at hx
            obtain rfl := Option.some.inj hx
            exact ⟨w.code.length, cost, rfl, by rw [List.getElem?_append_right (Nat.le_refl _), Nat.sub_self] <;> rfl⟩
      · simp only
        rw [totC_append, totC_one, totC_take r2, htot, hw.tot]
        show _ + (c.code[to].cost + cost) = _
        omega
  · rename_i hc
    have hne : to ≠ i := fun hh => hc (.inl hh)
    have hL : (leadersF c.code).getD to false = true := by
      cases hb : (leadersF c.code).getD to false
      · exact absurd (.inr hb) hc
      · rfl
    split at e
    · cases e
    · rename_i hcost
      obtain ⟨hj1, hj2⟩ := Prod.mk.inj (Option.some.inj e)
      subst hj1
      subst hj2
      have old : ∀ (cd : List Irc) (hle : ∃ l, cd = w.code ++ l), (∀ t, t < to → 0 ≤ (setR w.starts i w.code.length (to - i)).getD t 0 ∧ (setR w.starts i w.code.length (to - i)).getD t 0 ≤ cd.length) ∧ (∀ t t', t ≤ t' → t' < to → (setR w.starts i w.code.length (to - i)).getD t 0 ≤ (setR w.starts i w.code.length (to - i)).getD t' 0) ∧
          (∀ (j : Nat) (y : Irc), w.code[j]? = some y → (∃ (o : Nat) (x : Irc) (k : Int), o < to ∧ c.code[o]? = some x ∧ 0 ≤ k ∧ y = costed x k ∧ y.cost ≤ 256 ∧ x.kind ≠ 0 ∧ (setR w.starts i w.code.length (to - i)).getD o 0 = j ∧ ∀ t, o < t → t < to → (j : Int) < (setR w.starts i w.code.length (to - i)).getD t 0) ∨
    (∃ (k pc : Int) (t : Nat) (z : Irc), y = nopI k pc ∧ 0 < k ∧ k ≤ 256 ∧ 0 ≤ pc ∧ pc < 64 ∧ 1 ≤ t ∧ t ≤ to ∧ c.code[t - 1]? = some z ∧ z.kind = 0 ∧ (leadersF c.code).getD t false = true ∧ (t < to → (setR w.starts i w.code.length (to - i)).getD t 0 = j + 1) ∧ (t = to → j + 1 = cd.length))) ∧
          (∀ (o : Nat) (x : Irc), o < to → c.code[o]? = some x → x.kind ≠ 0 → ∃ (j : Nat) (k : Int), (setR w.starts i w.code.length (to - i)).getD o 0 = j ∧ cd[j]? = some (costed x k)) := by
        rintro cd ⟨l, rfl⟩
        refine ⟨fun t ht => ?_, fun t t' h1 h2 => ?_, fun j y hy => ?_, fun o x ho hx hk => ?_⟩
        · rw [g1 t (by omega), List.length_append]
          have := hw.lo t
          split <;> omega
        · rw [g1 t (by omega), g1 t' (by omega)]
          have := hw.lo t
          have := hw.mono t t' h1
          split <;> split <;> omega
        · obtain ⟨hj, _⟩ := List.getElem?_eq_some_iff.1 hy
          rcases hw.at' j y hy with ⟨o, x, k, h1, h2, h3, h4, h5, h6, h7, h8⟩ | ⟨k, pc, t, z, h1, h2, h3, h4, h5, h6, h7, h8, h9, h10, h11, h12⟩
          · refine .inl ⟨o, x, k, by omega, h2, h3, h4, h5, h6, by rw [g1 o (by omega), if_neg (by omega)]; exact h7, fun t ht1 ht2 => ?_⟩
            rw [g1 t (by omega)]
            split
            · omega
            · exact h8 t ht1 (by omega)
          · refine .inr ⟨k, pc, t, z, h1, h2, h3, h4, h5, h6, by omega, h8, h9, h10, fun ht => ?_, fun ht => by omega⟩
            rw [g1 t (by omega)]
            split
            · have := h12 (by omega); omega
            · exact h11 (by omega)
        · rw [g1 o (by omega)]
          rcases Nat.lt_or_ge o i with h1 | h1
          · obtain ⟨j, k, h2, h3⟩ := hw.has o x h1 hx hk
            rw [if_neg (by omega)]
            obtain ⟨hj, _⟩ := List.getElem?_eq_some_iff.1 h3
            exact ⟨j, k, h2, by rw [List.getElem?_append_left hj]; exact h3⟩
          · obtain ⟨z, hz, hzk⟩ := hnop o h1 ho
            rw [hx] at hz
            obtain rfl := Option.some.inj hz
            exact absurd hzk hk
      by_cases h0 : 0 < cost
      · rw [if_pos h0]
        obtain ⟨o1, o2, o3, o4⟩ := old (w.code ++ [nopI cost (pcAt c.code i)]) ⟨_, rfl⟩
        refine ⟨o1, o2, fun j y hy => ?_, o4, ?_⟩
        · simp only at hy ⊢
          rcases Nat.lt_or_ge j w.code.length with hj | hj
          · rw [List.getElem?_append_left hj] at hy
            exact o3 j y hy
          · rw [List.getElem?_append_right hj] at hy
            have hj0 : j - w.code.length = 0 := by
              rcases Nat.eq_zero_or_pos (j - w.code.length) with h | h
              · exact h
              · rw [List.getElem?_eq_none (by simp; omega)] at hy; cases hy
            rw [hj0] at hy
            have hje : j = w.code.length := by omega
            subst hje
            obtain rfl := (Option.some.inj hy).symm
            obtain ⟨z, hz, hzk⟩ := hnop (to - 1) (by omega) (by omega)
            have hpc := (hok.ir i hi).p0
            have epc : pcAt c.code i = c.code[i].pc := by unfold pcAt; rw [List.getElem?_eq_getElem hi]
            exact .inr ⟨cost, pcAt c.code i, to, z, rfl, h0, by omega, by omega, by omega, by omega, Nat.le_refl _, hz, hzk, hL, fun h => by omega, fun _ => by simp⟩
        · simp only
          rw [totC_append, totC_one, htot, hw.tot] <;> rfl
      · rw [if_neg h0]
        obtain ⟨o1, o2, o3, o4⟩ := old w.code ⟨[], by simp⟩
        refine ⟨o1, o2, o3, o4, ?_⟩
        simp only
        rw [htot, hw.tot]; omega
theorem sqW_zero (c : Cod) : SqW c 0 ⟨[], c.metas, List.replicate c.code.length 0⟩ :=
  ⟨fun t h => by omega, fun t t' h h2 => by omega, fun j y h => by simp at h, fun o x h => by omega, by simp [totC]⟩
theorem sqI_zero (c : Cod) : SqI c 0 ⟨[], c.metas, List.replicate c.code.length 0⟩ := ⟨by simp, by simp, rfl, fun x hx => by simp at hx⟩
theorem sqRun_some {p : List Fnc} {c : Cod} (hok : MayOk p c) : ∀ (k i : Nat) (w w' : Low), i ≤ c.code.length → SqI c i w → SqW c i w → sqRun c.code (leadersF c.code) k i w = some w' → SqI c c.code.length w' ∧ SqW c c.code.length w'
  | 0, i, w, w', hi, h1, h2, e => by
    simp only [sqRun] at e
    split at e
    · cases e
    · obtain rfl := Option.some.inj e
      have : i = c.code.length := by omega
      subst this
      exact ⟨h1, h2⟩
  | k + 1, i, w, w', hi, h1, h2, e => by
    simp only [sqRun] at e
    split at e
    · rename_i hlt
      split at e
      · rename_i j w2 he
        obtain ⟨a1, a2, a3⟩ := sq_next_ok hok hlt h1 he
        exact sqRun_some hok k j w2 w' a2 a3 (sq_next_w hok hlt h1 h2 he) e
      · cases e
    · obtain rfl := Option.some.inj e
      have : i = c.code.length := by omega
      subst this
      exact ⟨h1, h2⟩
theorem sqRun_none {p : List Fnc} {c : Cod} (hok : MayOk p c) : ∀ (k i : Nat) (w : Low), c.code.length - i ≤ k → SqI c i w → sqRun c.code (leadersF c.code) k i w = none → 256 < totC c.code
  | 0, i, w, hk, h1, e => by
    simp only [sqRun] at e
    rw [if_neg (by omega)] at e
    cases e
  | k + 1, i, w, hk, h1, e => by
    simp only [sqRun] at e
    split at e
    · rename_i hlt
      split at e
      · rename_i j w2 he
        obtain ⟨a1, a2, a3⟩ := sq_next_ok hok hlt h1 he
        exact sqRun_none hok k j w2 (by omega) a3 e
      · rename_i he
        have hc : ∀ x ∈ c.code, 0 ≤ x.cost := fun x hx => by
          obtain ⟨a, ha, rfl⟩ := List.mem_iff_getElem.1 hx
          exact (hok.ir a ha).c0.1
        obtain ⟨r1, r2, r3, r4⟩ := run_lt hok (leadersF c.code) hlt
        have htot := runR_tot c.code (leadersF c.code) i
        have n0 : 0 ≤ totC (c.code.take i) := totC_nonneg fun x hx => hc x (List.mem_of_mem_take hx)
        have n1 := totC_le hc ((runR c.code (leadersF c.code) i).1 + 1)
        have n2 := totC_le hc (runR c.code (leadersF c.code) i).1
        rw [totC_take r2] at n1
        unfold sqNext at he
        simp only at he
        split at he
        · rw [List.getElem?_eq_getElem r2] at he
          simp only at he
          split at he
          · omega
          · cases he
        · split at he
          · omega
          · cases he
    · cases e
end Go.Proofs.YticlgdhhnjpkjaaGreatDoor.Pf
namespace Go.Proofs.YticlgdhhnjpkjaaGreatDoor.Pf
open Go Go.RowKit Go.Proofs Go.Proofs.YticlgdhhnjpkjaaGreatDoor.Mw Go.Proofs.YticlgdhhnjpkjaaGreatDoor.Sx
set_option linter.unusedVariables false
set_option linter.unusedSimpArgs false
def sqNextT (code : List Irc) (L : List Bool) (i : Nat) (w : Low) : Nat × Low :=
  if (runR code L i).1 = i ∨ L.getD (runR code L i).1 false = false then
    match code[(runR code L i).1]? with
    | some x => ((runR code L i).1 + 1, ⟨w.code ++ [costed x (runR code L i).2], w.metas, (setR w.starts i w.code.length ((runR code L i).1 - i)).set (runR code L i).1 w.code.length⟩)
    | none => ((runR code L i).1, w)
  else ((runR code L i).1, ⟨if 0 < (runR code L i).2 then w.code ++ [nopI (runR code L i).2 (pcAt code i)] else w.code, w.metas, setR w.starts i w.code.length ((runR code L i).1 - i)⟩)
def sqRunT (code : List Irc) (L : List Bool) : Nat → Nat → Low → Low
  | 0, _, w => w
  | k + 1, i, w => if i < code.length then sqRunT code L k (sqNextT code L i w).1 (sqNextT code L i w).2 else w
theorem sqT_next {code : List Irc} {L : List Bool} {i j : Nat} {w w' : Low} (h : sqNext code L i w = some (j, w')) : sqNextT code L i w = (j, w') ∧ ((∀ y ∈ w.code, y.cost ≤ 256) → ∀ y ∈ w'.code, y.cost ≤ 256) := by
  unfold sqNext at h
  unfold sqNextT
  simp only at h
  split at h
  · rename_i hc
    rw [if_pos hc]
    split at h
    · rename_i x hx
      try rw [hx]
      split at h
      · cases h
      · cases h
        refine ⟨rfl, fun ha y hy => ?_⟩
        rcases List.mem_append.1 hy with hy | hy
        · exact ha y hy
        · simp at hy; subst hy; show x.cost + _ ≤ 256; omega
    · cases h
  · rename_i hc
    rw [if_neg hc]
    split at h
    · cases h
    · cases h
      refine ⟨rfl, fun ha y hy => ?_⟩
      simp only at hy
      split at hy
      · rcases List.mem_append.1 hy with hy | hy
        · exact ha y hy
        · simp at hy; subst hy; show (runR code L i).2 ≤ 256; omega
      · exact ha y hy
theorem sqT_bad {code : List Irc} {L : List Bool} {i : Nat} {w : Low} (hr : (runR code L i).1 < code.length) (h : sqNext code L i w = none) : ∃ y ∈ (sqNextT code L i w).2.code, 256 < y.cost := by
  unfold sqNext at h
  unfold sqNextT
  simp only at h
  split at h
  · rename_i hc
    rw [if_pos hc]
    rw [List.getElem?_eq_getElem hr] at h ⊢
    simp only at h ⊢
    split at h
    · rename_i hx
      exact ⟨_, List.mem_append_right _ (List.mem_singleton.2 rfl), hx⟩
    · cases h
  · rename_i hc
    rw [if_neg hc]
    split at h
    · rename_i hx
      have : 0 < (runR code L i).2 := by omega
      simp only [if_pos this]
      exact ⟨_, List.mem_append_right _ (List.mem_singleton.2 rfl), hx⟩
    · cases h
theorem sqT_pre1 (code : List Irc) (L : List Bool) (i : Nat) (w : Low) : ∀ y ∈ w.code, y ∈ (sqNextT code L i w).2.code := by
  intro y hy
  unfold sqNextT
  split
  · split
    · exact List.mem_append_left _ hy
    · exact hy
  · simp only
    split
    · exact List.mem_append_left _ hy
    · exact hy
theorem sqT_pre (code : List Irc) (L : List Bool) : ∀ (k i : Nat) (w : Low), ∀ y ∈ w.code, y ∈ (sqRunT code L k i w).code
  | 0, _, w, y, hy => hy
  | k + 1, i, w, y, hy => by
    simp only [sqRunT]
    split
    · exact sqT_pre code L k _ _ y (sqT_pre1 code L i w y hy)
    · exact hy
theorem sqT_run (code : List Irc) (L : List Bool) : ∀ (k i : Nat) (w W : Low), sqRun code L k i w = some W → sqRunT code L k i w = W ∧ ((∀ y ∈ w.code, y.cost ≤ 256) → ∀ y ∈ W.code, y.cost ≤ 256)
  | 0, i, w, W, h => by
    unfold sqRun at h
    split at h
    · cases h
    · cases h; exact ⟨rfl, id⟩
  | k + 1, i, w, W, h => by
    unfold sqRun at h
    unfold sqRunT
    split at h
    · rename_i hi
      rw [if_pos hi]
      split at h
      · rename_i j w' e
        obtain ⟨e1, e2⟩ := sqT_next e
        rw [e1]
        obtain ⟨g1, g2⟩ := sqT_run code L k j w' W h
        exact ⟨g1, fun ha => g2 (e2 ha)⟩
      · cases h
    · rename_i hi
      rw [if_neg hi]
      cases h; exact ⟨rfl, id⟩
theorem sqT_none {p : List Fnc} {c : Cod} (hok : MayOk p c) (L : List Bool) (hL : ∀ i, i < c.code.length → (runR c.code L i).1 < c.code.length) (hg : ∀ (i j : Nat) (w w' : Low), i < c.code.length → sqNext c.code L i w = some (j, w') → i < j) : ∀ (k i : Nat) (w : Low), c.code.length - i ≤ k → sqRun c.code L k i w = none → ∃ y ∈ (sqRunT c.code L k i w).code, 256 < y.cost
  | 0, i, w, hk, h => by
    unfold sqRun at h
    rw [if_neg (by omega)] at h
    cases h
  | k + 1, i, w, hk, h => by
    unfold sqRun at h
    unfold sqRunT
    split at h
    · rename_i hi
      rw [if_pos hi]
      split at h
      · rename_i j w' e
        rw [(sqT_next e).1]
        exact sqT_none hok L hL hg k j w' (by have := hg i j w w' hi e; omega) h
      · rename_i e
        obtain ⟨y, hy, hc⟩ := sqT_bad (hL i hi) e
        exact ⟨y, sqT_pre c.code L k _ _ y hy, hc⟩
    · cases h
def sqW0 (c : Cod) : Low := ⟨[], c.metas, List.replicate c.code.length 0⟩
def sqFin (c : Cod) : Low := sqRunT c.code (leadersF c.code) c.code.length 0 (sqW0 c)
theorem squeezeR_T {p : List Fnc} {c : Cod} (hm : codeMayB p c = true) : squeezeR p c = if (sqFin c).code.any (fun y => decide (256 < y.cost)) = true then (cod0, 1800) else (⟨c.fn, c.regs, (sqFin c).code.map (placed (sqFin c).starts), (sqFin c).metas⟩, 0) := by
  have hok := may_ok hm
  have hL := fun i hi => (run_lt hok (leadersF c.code) (i := i) hi).2.1
  unfold squeezeR
  rw [if_pos hm]
  split
  · rename_i W e
    obtain ⟨e1, e2⟩ := sqT_run _ _ _ _ _ _ e
    have e1 : sqFin c = W := e1
    rw [e1, if_neg]
    rw [List.any_eq_true]
    rintro ⟨y, hy, hc⟩
    have := e2 (by simp) y hy
    simp at hc; omega
  · rename_i e
    obtain ⟨y, hy, hc⟩ := sqT_none hok (leadersF c.code) hL (fun i j w w' hi e => by
      have := run_lt hok (leadersF c.code) hi
      unfold sqNext at e
      simp only at e
      split at e
      · split at e
        · split at e
          · cases e
          · cases e; omega
        · cases e
      · rename_i hc
        split at e
        · cases e
        · cases e
          have : (runR c.code (leadersF c.code) i).1 ≠ i := fun hh => hc (.inl hh)
          omega) c.code.length 0 (sqW0 c) (by omega) e
    rw [if_pos]
    rw [List.any_eq_true]
    exact ⟨y, hy, by simpa using hc⟩
theorem runR_on {code : List Irc} {L : List Bool} {i : Nat} (hi : i < code.length) (h : code[i].kind ≠ 0) : runR code L i = (i, 0) := by
  unfold runR
  obtain ⟨k, hk⟩ : ∃ k, code.length - i = k + 1 := ⟨code.length - i - 1, by omega⟩
  rw [hk]
  simp only [runG, List.getElem?_eq_getElem hi]
  rw [if_neg (fun hh => h hh.1)]
theorem runR_first {code : List Irc} {L : List Bool} {i : Nat} (hi : i < code.length) (h : code[i].kind = 0) : runR code L i = runG code L i (code.length - (i + 1)) (i + 1) code[i].cost := by
  unfold runR
  obtain ⟨k, hk⟩ : ∃ k, code.length - i = k + 1 := ⟨code.length - i - 1, by omega⟩
  rw [hk, show code.length - (i + 1) = k by omega]
  simp only [runG, List.getElem?_eq_getElem hi]
  rw [if_pos ⟨h, .inl trivial⟩, Int.zero_add]
theorem runG_ge (code : List Irc) (L : List Bool) (f : Nat) : ∀ (k to : Nat) (cost : Int), to ≤ (runG code L f k to cost).1
  | 0, to, cost => Nat.le_refl _
  | k + 1, to, cost => by
    simp only [runG]
    split
    · split
      · have := runG_ge code L f k (to + 1) (cost + (by assumption : Irc).cost)
        omega
      · exact Nat.le_refl _
    · exact Nat.le_refl _
def sqT (c : Cod) (k i : Nat) (w : Low) (pend : Int) : Low := match c.code[i]? with
  | some x => if x.kind = 0 then sqRunT c.code (leadersF c.code) k i w else sqRunT c.code (leadersF c.code) (k - 1) (i + 1) ⟨w.code ++ [costed x pend], w.metas, w.starts.set i w.code.length⟩
  | none => w
theorem sqT_of (c : Cod) (k i : Nat) (w : Low) (hk : c.code.length - i ≤ k) : sqRunT c.code (leadersF c.code) k i w = sqT c k i w 0 := by
  unfold sqT
  rcases Nat.lt_or_ge i c.code.length with hi | hi
  · rw [List.getElem?_eq_getElem hi]
    simp only
    split
    · rfl
    · rename_i hx
      obtain ⟨j, rfl⟩ : ∃ j, k = j + 1 := ⟨k - 1, by omega⟩
      simp only [sqRunT]
      rw [if_pos hi]
      unfold sqNextT
      rw [runR_on hi hx]
      simp only [true_or, if_true, List.getElem?_eq_getElem hi, Nat.sub_self, setR, Nat.add_sub_cancel]
  · rw [List.getElem?_eq_none hi]
    cases k with
    | zero => rfl
    | succ k => simp only [sqRunT]; rw [if_neg (by omega)]
theorem sqT_keep {c : Cod} {k i : Nat} {w : Low} {pend : Int} (hi : i < c.code.length) (hx : c.code[i].kind ≠ 0) (hk : c.code.length - i ≤ k) : sqT c k i w pend = sqT c (k - 1) (i + 1) ⟨w.code ++ [costed c.code[i] pend], w.metas, w.starts.set i w.code.length⟩ 0 := by
  rw [← sqT_of c (k - 1) (i + 1) _ (by omega)]
  unfold sqT
  rw [List.getElem?_eq_getElem hi]
  simp only
  rw [if_neg hx]
theorem sqT_runs {p : List Fnc} {c : Cod} (hok : MayOk p c) {k i : Nat} {w : Low} (hi : i < c.code.length) (hx : c.code[i].kind = 0) (hk : c.code.length - i ≤ k) {to : Nat} {cost : Int} (hr : runR c.code (leadersF c.code) i = (to, cost)) :
    i < to ∧ ∃ (ht : to < c.code.length), ((leadersF c.code).getD to false = false → c.code[to].kind ≠ 0 ∧ sqT c k i w 0 = sqT c k to ⟨w.code, w.metas, setR w.starts i w.code.length (to - i)⟩ cost) ∧
      ((leadersF c.code).getD to false = true → sqT c k i w 0 = sqT c (k - 1) to ⟨if 0 < cost then w.code ++ [nopI cost (pcAt c.code i)] else w.code, w.metas, setR w.starts i w.code.length (to - i)⟩ 0) := by
  have ht : to < c.code.length := by have := (run_lt hok (leadersF c.code) hi).2.1; rw [hr] at this; exact this
  have hgt : i < to := by
    have h1 := runR_first (L := leadersF c.code) hi hx
    rw [hr] at h1
    have := runG_ge c.code (leadersF c.code) i (c.code.length - (i + 1)) (i + 1) c.code[i].cost
    rw [← h1] at this
    exact this
  have hend := runR_end c.code (leadersF c.code) i (by omega) c.code[to] (by rw [hr]; exact List.getElem?_eq_getElem ht)
  rw [hr] at hend
  obtain ⟨j, rfl⟩ : ∃ j, k = j + 1 := ⟨k - 1, by omega⟩
  have h0 : sqT c (j + 1) i w 0 = sqRunT c.code (leadersF c.code) j (sqNextT c.code (leadersF c.code) i w).1 (sqNextT c.code (leadersF c.code) i w).2 := by
    rw [← sqT_of c (j + 1) i w hk]
    simp only [sqRunT]
    rw [if_pos hi]
  refine ⟨hgt, ht, fun hl => ?_, fun hl => ?_⟩
  · have hkt : c.code[to].kind ≠ 0 := fun h => hend ⟨h, .inr hl⟩
    refine ⟨hkt, ?_⟩
    rw [h0]
    unfold sqNextT sqT
    rw [hr, List.getElem?_eq_getElem ht]
    simp only [hl, or_true, if_true, Nat.add_sub_cancel]
    rw [if_neg hkt]
  · rw [h0]
    unfold sqNextT
    rw [hr]
    have hne : ¬(to = i ∨ (leadersF c.code).getD to false = false) := by
      rintro (h | h)
      · omega
      · rw [hl] at h; cases h
    simp only [if_neg hne, Nat.add_sub_cancel]
    exact sqT_of c j to _ (by omega)
end Go.Proofs.YticlgdhhnjpkjaaGreatDoor.Pf
namespace Go.Proofs.YticlgdhhnjpkjaaGreatDoor.Pf
open Go Go.RowKit Go.Proofs Go.Proofs.YticlgdhhnjpkjaaGreatDoor.Mw Go.Proofs.YticlgdhhnjpkjaaGreatDoor.Sx
set_option linter.unusedVariables false
set_option linter.unusedSimpArgs false
set_option maxRecDepth 4000
end Go.Proofs.YticlgdhhnjpkjaaGreatDoor.Pf
namespace Go.Proofs.YticlgdhhnjpkjaaGreatDoor.Pf
open Go Go.RowKit Go.Proofs Go.Proofs.YticlgdhhnjpkjaaGreatDoor.Mw Go.Proofs.YticlgdhhnjpkjaaGreatDoor.Sx
set_option linter.unusedVariables false
set_option linter.unusedSimpArgs false
set_option maxRecDepth 8000
structure DocAt (M1 M : DMem) (q7 pb o : Nat) (fn regs : Int) (code : List Irc) (metas : List (List Part)) (st : List Int) (dc dm : DV) (Sc Sm : List Nat) : Prop where
  q : M q7 = some ⟨29, 4, [.int .i64 fn, .int .i64 regs, dc, dm]⟩
  p : M pb = some ⟨3, st.length, st.map (.int .i64)⟩
  c : SlAt irG M dc code Sc
  m : SlAt metaG M dm metas Sm
  nd : (q7 :: pb :: o :: (Sc ++ Sm)).Nodup
  new : ∀ y ∈ Sc ++ Sm, M1 y = none
  qn : M1 q7 = none
  pn : M1 pb = none
  on : M1 o ≠ none
  sub : SubD M1 M
section
variable {M1 M : DMem} {q7 pb o : Nat} {fn regs : Int} {code : List Irc} {metas : List (List Part)} {st : List Int} {dc dm : DV} {Sc Sm : List Nat}
theorem DocAt.nds (h : DocAt M1 M q7 pb o fn regs code metas st dc dm Sc Sm) : q7 ≠ pb ∧ q7 ≠ o ∧ pb ≠ o ∧ (∀ y ∈ Sc, y ≠ q7 ∧ y ≠ pb ∧ y ≠ o) ∧ (∀ y ∈ Sm, y ≠ q7 ∧ y ≠ pb ∧ y ≠ o) ∧ Sc.Nodup ∧ Sm.Nodup ∧ (∀ y ∈ Sc, y ∉ Sm) := by
  have hnd1 := List.nodup_cons.1 h.nd
  have hnd2 := List.nodup_cons.1 hnd1.2
  have hnd3 := List.nodup_cons.1 hnd2.2
  obtain ⟨hnc, hnm, hdis⟩ := List.nodup_append.1 hnd3.2
  refine ⟨by rintro rfl; exact hnd1.1 (by simp), by rintro rfl; exact hnd1.1 (by simp), by rintro rfl; exact hnd2.1 (by simp), fun y hy => ⟨?_, ?_, ?_⟩, fun y hy => ⟨?_, ?_, ?_⟩, hnc, hnm, fun y hy hy' => hdis y hy y hy' rfl⟩
  · rintro rfl; exact hnd1.1 (by simp [hy])
  · rintro rfl; exact hnd2.1 (by simp [hy])
  · rintro rfl; exact hnd3.1 (by simp [hy])
  · rintro rfl; exact hnd1.1 (by simp [hy])
  · rintro rfl; exact hnd2.1 (by simp [hy])
  · rintro rfl; exact hnd3.1 (by simp [hy])
theorem nd3 {q7 pb o : Nat} {l : List Nat} (h1 : q7 ≠ pb) (h2 : q7 ≠ o) (h3 : pb ≠ o) (hl : l.Nodup) (h : ∀ y ∈ l, y ≠ q7 ∧ y ≠ pb ∧ y ≠ o) : (q7 :: pb :: o :: l).Nodup := by
  refine List.nodup_cons.2 ⟨fun hh => ?_, List.nodup_cons.2 ⟨fun hh => ?_, List.nodup_cons.2 ⟨fun hh => (h o hh).2.2 rfl, hl⟩⟩⟩
  · simp only [List.mem_cons] at hh
    rcases hh with hh | hh | hh
    · exact h1 hh
    · exact h2 hh
    · exact (h _ hh).1 rfl
  · simp only [List.mem_cons] at hh
    rcases hh with hh | hh
    · exact h3 hh
    · exact (h _ hh).2.1 rfl
theorem DocAt.gone (h : DocAt M1 M q7 pb o fn regs code metas st dc dm Sc Sm) {M5 M6 : DMem} {d' : DV} {code' : List Irc} {S' : List Nat} (h1 : SlAt irG M5 d' code' S') (h2 : ∀ b B, M b = some B → b ∉ Sc → M5 b = some B) (h3 : ∀ b ∈ S', b ∈ Sc ∨ b ∈ ([] : List Nat) ∨ M b = none) (h4 : S'.Nodup)
    (hM6 : M6 = M5.ins q7 ⟨29, 4, [.int .i64 fn, .int .i64 regs, d', dm]⟩) : DocAt M1 M6 q7 pb o fn regs code' metas st d' dm S' Sm := by
  obtain ⟨n1, n2, n3, n4, n5, n6, n7, n8⟩ := h.nds
  have hq : ∀ y, y ≠ q7 → M6 y = M5 y := fun y hy => by rw [hM6, DMem.ins_ne _ _ hy]
  have hS' : ∀ y ∈ S', (y ≠ q7 ∧ y ≠ pb ∧ y ≠ o) ∧ M1 y = none ∧ y ∉ Sm := fun y hy => by
    rcases h3 y hy with h5 | h5 | h5
    · exact ⟨n4 y h5, h.new y (by simp [h5]), n8 y h5⟩
    · simp at h5
    · refine ⟨⟨?_, ?_, ?_⟩, ?_, fun hh => h.m.here metaG_ok y hh h5⟩
      · rintro rfl; rw [h.q] at h5; cases h5
      · rintro rfl; rw [h.p] at h5; cases h5
      · rintro rfl
        cases e : M1 y with
        | none => exact h.on e
        | some B => rw [h.sub y B e] at h5; cases h5
      · cases e : M1 y with
        | none => rfl
        | some B => rw [h.sub y B e] at h5; cases h5
  have hpc : pb ∉ Sc := fun hh => (n4 pb hh).2.1 rfl
  refine ⟨by rw [hM6, DMem.ins_same], by rw [hq pb (Ne.symm n1)]; exact h2 pb _ h.p hpc, h1.frame irG_ok fun y hy => hq y (hS' y hy).1.1, ?_, nd3 n1 n2 n3 (List.nodup_append.2 ⟨h4, n7, fun a ha b hb => by rintro rfl; exact (hS' a ha).2.2 hb⟩) fun y hy => ?_, fun y hy => ?_, h.qn, h.pn, h.on, fun y B hB => ?_⟩
  · refine h.m.frame metaG_ok fun y hy => ?_
    obtain ⟨B, hB⟩ := Option.ne_none_iff_exists'.1 (h.m.here metaG_ok y hy)
    rw [hq y (n5 y hy).1, hB]
    exact h2 y B hB fun hh => n8 y hh hy
  · rcases List.mem_append.1 hy with hy | hy
    · exact (hS' y hy).1
    · exact n5 y hy
  · rcases List.mem_append.1 hy with hy | hy
    · exact (hS' y hy).2.1
    · exact h.new y (by simp [hy])
  · rw [hq y (by rintro rfl; rw [h.qn] at hB; cases hB)]
    exact h2 y B (h.sub y B hB) fun hh => by have := h.new y (by simp [hh]); rw [this] at hB; cases hB
theorem DocAt.left (h : DocAt M1 M q7 pb o fn regs code metas st dc dm Sc Sm) {M5 M6 : DMem} {d' : DV} {metas' : List (List Part)} {S' : List Nat} (h1 : SlAt metaG M5 d' metas' S') (h2 : ∀ b B, M b = some B → b ∉ Sm → M5 b = some B) (h3 : ∀ b ∈ S', b ∈ Sm ∨ b ∈ ([] : List Nat) ∨ M b = none) (h4 : S'.Nodup)
    (hM6 : M6 = M5.ins q7 ⟨29, 4, [.int .i64 fn, .int .i64 regs, dc, d']⟩) : DocAt M1 M6 q7 pb o fn regs code metas' st dc d' Sc S' := by
  obtain ⟨n1, n2, n3, n4, n5, n6, n7, n8⟩ := h.nds
  have hq : ∀ y, y ≠ q7 → M6 y = M5 y := fun y hy => by rw [hM6, DMem.ins_ne _ _ hy]
  have hS' : ∀ y ∈ S', (y ≠ q7 ∧ y ≠ pb ∧ y ≠ o) ∧ M1 y = none ∧ y ∉ Sc := fun y hy => by
    rcases h3 y hy with h5 | h5 | h5
    · exact ⟨n5 y h5, h.new y (by simp [h5]), fun hh => n8 y hh h5⟩
    · simp at h5
    · refine ⟨⟨?_, ?_, ?_⟩, ?_, fun hh => h.c.here irG_ok y hh h5⟩
      · rintro rfl; rw [h.q] at h5; cases h5
      · rintro rfl; rw [h.p] at h5; cases h5
      · rintro rfl
        cases e : M1 y with
        | none => exact h.on e
        | some B => rw [h.sub y B e] at h5; cases h5
      · cases e : M1 y with
        | none => rfl
        | some B => rw [h.sub y B e] at h5; cases h5
  have hpc : pb ∉ Sm := fun hh => (n5 pb hh).2.1 rfl
  refine ⟨by rw [hM6, DMem.ins_same], by rw [hq pb (Ne.symm n1)]; exact h2 pb _ h.p hpc, ?_, h1.frame metaG_ok fun y hy => hq y (hS' y hy).1.1, nd3 n1 n2 n3 (List.nodup_append.2 ⟨n6, h4, fun a ha b hb => by rintro rfl; exact (hS' a hb).2.2 ha⟩) fun y hy => ?_, fun y hy => ?_, h.qn, h.pn, h.on, fun y B hB => ?_⟩
  · refine h.c.frame irG_ok fun y hy => ?_
    obtain ⟨B, hB⟩ := Option.ne_none_iff_exists'.1 (h.c.here irG_ok y hy)
    rw [hq y (n4 y hy).1, hB]
    exact h2 y B hB fun hh => n8 y hy hh
  · rcases List.mem_append.1 hy with hy | hy
    · exact n4 y hy
    · exact (hS' y hy).1
  · rcases List.mem_append.1 hy with hy | hy
    · exact h.new y (by simp [hy])
    · exact (hS' y hy).2.1
  · rw [hq y (by rintro rfl; rw [h.qn] at hB; cases hB)]
    exact h2 y B (h.sub y B hB) fun hh => by have := h.new y (by simp [hh]); rw [this] at hB; cases hB
theorem DocAt.told (h : DocAt M1 M q7 pb o fn regs code metas st dc dm Sc Sm) {M6 : DMem} {st' : List Int} (hl : st'.length = st.length) (hM6 : M6 = M.ins pb ⟨3, st.length, st'.map (.int .i64)⟩) : DocAt M1 M6 q7 pb o fn regs code metas st' dc dm Sc Sm := by
  obtain ⟨n1, n2, n3, n4, n5, n6, n7, n8⟩ := h.nds
  have hq : ∀ y, y ≠ pb → M6 y = M y := fun y hy => by rw [hM6, DMem.ins_ne _ _ hy]
  exact ⟨by rw [hq q7 n1]; exact h.q, by rw [hM6, DMem.ins_same, hl], h.c.frame irG_ok fun y hy => hq y (n4 y hy).2.1, h.m.frame metaG_ok fun y hy => hq y (n5 y hy).2.1, h.nd, h.new, h.qn, h.pn, h.on,
    fun y B hB => by rw [hq y (by rintro rfl; rw [h.pn] at hB; cases hB)]; exact h.sub y B hB⟩
end
end Go.Proofs.YticlgdhhnjpkjaaGreatDoor.Pf
namespace Go.Proofs.YticlgdhhnjpkjaaGreatDoor.Pf
open Go Go.RowKit Go.Proofs Go.Proofs.YticlgdhhnjpkjaaGreatDoor.Mw Go.Proofs.YticlgdhhnjpkjaaGreatDoor.Sx
set_option linter.unusedVariables false
set_option linter.unusedSimpArgs false
end Go.Proofs.YticlgdhhnjpkjaaGreatDoor.Pf
namespace Go.Proofs.YticlgdhhnjpkjaaGreatDoor.Pf
open Go Go.RowKit Go.Proofs Go.Proofs.YticlgdhhnjpkjaaGreatDoor.Mw Go.Proofs.YticlgdhhnjpkjaaGreatDoor.Sx
set_option linter.unusedVariables false
set_option linter.unusedSimpArgs false
structure LowOk (p : List Fnc) (n : Nat) : Prop where
  may : codeMayB p (lowF p (p.getD n ⟨0, 0, []⟩) n) = true
end Go.Proofs.YticlgdhhnjpkjaaGreatDoor.Pf
