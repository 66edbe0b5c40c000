/- Zi Fc Fr Fs Ft Fv Fx: joined texts of this claim. No condition. -/
import Derived.Test.YticlgdhhnjpkjaaGreatDoorJnjh
import Derived.Test.YticlgdhhnjpkjaaGreatDoorJnjj
import Derived.Test.YticlgdhhnjpkjaaGreatDoorJnjk
import Derived.Test.YticlgdhhnjpkjaaGreatDoorJnje
import Derived.Test.YticlgdhhnjpkjaaGreatDoorJnjg
namespace Go.Proofs.YticlgdhhnjpkjaaGreatDoor.Pf
open Go Go.RowKit Go.Proofs Go.Proofs.YticlgdhhnjpkjaaGreatDoor.Mw Go.Proofs.YticlgdhhnjpkjaaGreatDoor.Sx
set_option linter.unusedVariables false
set_option linter.unusedSimpArgs false
set_option maxRecDepth 8000
def twoQ : List Fnc := [⟨1, 1, [⟨1, 0⟩, ⟨0, 2⟩, ⟨14, 1⟩, ⟨10, 0⟩, ⟨15, 0⟩, ⟨16, 0⟩]⟩, ⟨2, 2, [⟨1, 0⟩, ⟨1, 1⟩, ⟨3, 0⟩, ⟨16, 0⟩]⟩]
def addC : List Irc := [⟨2, 2, 0, 0, 0, [], 1, 0, 0⟩, ⟨2, 3, 1, 0, 0, [], 1, 0, 1⟩, ⟨3, 2, 2, 3, 3, [], 1, 0, 2⟩, ⟨8, 0, 2, 0, 0, [], 1, 0, 3⟩]
def addX : List Irc := [⟨2, 2, 0, 0, 0, [], 1, 0, 0⟩, ⟨2, 3, 1, 0, 0, [], 1, 0, 1⟩, ⟨3, 2, 2, 3, 3, [], -1, 0, 2⟩, ⟨8, 0, 2, 0, 0, [], 1, 0, 3⟩]
def leadC : List Irc := [⟨5, 0, 0, 0, 2, [], 1, 0, 0⟩, ⟨0, 0, 0, 0, 0, [], 0, 0, 0⟩, ⟨8, 0, 0, 0, 0, [], 0, 0, 0⟩, ⟨8, 0, 0, 0, 0, [], 0, 0, 0⟩]
end Go.Proofs.YticlgdhhnjpkjaaGreatDoor.Pf
namespace Go.Proofs.YticlgdhhnjpkjaaGreatDoor.Pf
open Go Go.RowKit Go.Proofs Go.Proofs.YticlgdhhnjpkjaaGreatDoor.Mw Go.Proofs.YticlgdhhnjpkjaaGreatDoor.Sx
set_option linter.unusedVariables false
set_option linter.unusedSimpArgs false
def stF' (f : Int → Option Int) (v : Int) : Int := (f v).getD v
def cpIr (f : Int → Option Int) (x : Irc) : Irc :=
  if x.kind = 3 then { x with a := stF' f x.a, b := stF' f x.b }
  else if x.kind = 2 ∨ x.kind = 5 ∨ x.kind = 7 ∨ x.kind = 8 ∨ x.kind = 9 then { x with a := stF' f x.a }
  else if x.kind = 6 then { x with args := x.args.map (stF' f) }
  else x
def cpSrc (f : Int → Option Int) (s : Src) : Src := if s.const = true then s else ⟨false, stF' f s.v⟩
def mapP (g : Src → Src) (x : Part) : Part := ⟨x.fn, x.pc, x.locals.map g, x.stack.map g⟩
def forget (f : Int → Option Int) (r : Int) : Int → Option Int := fun k => (f k).bind fun v => if (decide (k = r) || decide (v = r)) = true then none else some v
structure CpSt where
  f : Int → Option Int
  code : List Irc
  metas : List (List Part)
def blankI (x : Irc) : Irc := ⟨0, 0, 0, 0, 0, [], x.cost, 0, x.pc⟩
def cpF0 (L : List Bool) (i : Nat) (f : Int → Option Int) : Int → Option Int := if L.getD i false = true then fun _ => none else f
def setM (ms : List (List Part)) (x : Irc) (g : Src → Src) : List (List Part) := if leavesB x.kind = true then ms.modify x.mt.toNat (List.map (mapP g)) else ms
def cpStep (L : List Bool) (i : Nat) (s : CpSt) (x : Irc) : CpSt :=
  let f0 := cpF0 L i s.f
  let x1 := cpIr f0 x
  let f1 := if setsB x.kind = true then forget f0 x.r else f0
  if x.kind = 2 then
    if x1.a = x.r then ⟨f1, s.code.set i (blankI x), setM s.metas x (cpSrc f0)⟩
    else ⟨fun k => if k = x.r then some x1.a else f1 k, s.code.set i x1, setM s.metas x (cpSrc f0)⟩
  else ⟨f1, s.code.set i x1, setM s.metas x (cpSrc f0)⟩
def cpRun (c : Cod) : Nat → CpSt
  | 0 => ⟨fun _ => none, c.code, c.metas⟩
  | i + 1 => match c.code[i]? with
    | some x => cpStep (leadersF c.code) i (cpRun c i) x
    | none => cpRun c i
def copiesR (p : List Fnc) (c : Cod) : Cod × Int :=
  if codeMayB p c = true then (⟨c.fn, c.regs, (cpRun c c.code.length).code, (cpRun c c.code.length).metas⟩, 0) else (cod0, 1600)
theorem irMay_kind {p : List Fnc} {regs : Int} {n mm i : Nat} {x : Irc} (h : irMayB p regs n mm i x = true) : x.kind = 0 ∨ x.kind = 1 ∨ x.kind = 2 ∨ x.kind = 3 ∨ x.kind = 4 ∨ x.kind = 5 ∨ x.kind = 6 ∨ x.kind = 7 ∨ x.kind = 8 ∨ x.kind = 9 ∨ x.kind = 10 ∨ x.kind = 11 := by
  unfold irMayB at h
  rw [Bool.and_eq_true] at h
  have h := h.2
  refine Decidable.byContradiction fun hn => ?_
  simp only [not_or] at hn
  obtain ⟨h0, h1, h2, h3, h4, h5, h6, h7, h8, h9, h10, h11⟩ := hn
  rw [if_neg (by omega), if_neg h1, if_neg h2, if_neg h3, if_neg h4, if_neg h5, if_neg h6, if_neg h7, if_neg h8, if_neg h9, if_neg h10] at h
  cases h
end Go.Proofs.YticlgdhhnjpkjaaGreatDoor.Pf
namespace Go.Proofs.YticlgdhhnjpkjaaGreatDoor.Pf
open Go Go.RowKit Go.Proofs Go.Proofs.YticlgdhhnjpkjaaGreatDoor.Mw Go.Proofs.YticlgdhhnjpkjaaGreatDoor.Sx
set_option linter.unusedVariables false
set_option linter.unusedSimpArgs false
set_option maxRecDepth 8000
theorem cod_froz' (c : Cod) : Froz (.agg c.c) := Froz.agg (Cod.froz c)
theorem gor1 (C D E : Bool) : ((grdD true (.bool C) (some (.bool D))).bind fun x => grdD false x (some (.bool E))).isSome = true := by
  cases C <;> cases D <;> rfl
theorem gor2 (C D E : Bool) : (andD (.bool C) ((grdD true (.bool C) (some (.bool D))).bind fun x => orD x (some (.bool E)))) = some (.bool (C && (D || E))) := by
  cases C <;> cases D <;> cases E <;> rfl
theorem regR_pf (c : Cod) (x : Int) : pf Tryz.prog F_swageref9_reg [.agg c.c, .int .i64 x] = some (.bool (regB c.regs x)) := by
  refine pf_of (v := .bool _) (pc_swageref9_reg (by simp) ?_) ((FrozL.nil.cons (Froz.int _ _)).cons (cod_froz' c)) rfl rfl
  simp only [S_swageref9_reg, R_swageref9_reg, MU_swageref9_reg, SW, SV, wpD, evDL, evDM, evD, bldLD, wpSp, DMem.mt, beq_self_eq_true, seval] <;> rfl
theorem stY {M : DMem} {q : Nat} {cs : List DV} {j : Nat} {v : Int} (h : M q = some ⟨50, 9, cs⟩) (hl : cs.length = 9) (hj : j < 9) {Post : DV → DMem → Prop} (hP : ∀ M', M' q = some ⟨50, 9, cs.set j (.int .i64 v)⟩ → Post (.raw undef) M') : StoreD M 1 (.mp q j) (.int .i64 v) Post :=
  stD h rfl rfl (by omega) (by omega) rfl fun M6 hM6 => hP M6 (by rw [hM6, DMem.ins_same, splD_one (by omega)])
set_option maxHeartbeats 2000000 in
theorem irMayR_pf (p : List Fnc) (c : Cod) (i : Nat) (hi : i < c.code.length) (ha : c.code[i].args.length * 8 ≤ 140737488351232) : pf Tryz.prog F_swageref9_irMay [.agg [slD Fnc.c p], .agg c.c, .int .i64 i] = some (.bool (irMayB p c.regs c.code.length c.metas.length i c.code[i])) := by
  refine pf_of (v := .bool _) (pc_swageref9_irMay (by simp) ?_) (((FrozL.nil.cons (Froz.int _ _)).cons (cod_froz' c)).cons (Froz.agg (FrozL.nil.cons (Froz.slD Fnc.froz p)))) rfl rfl
  have hN : ∀ x, pf Tryz.prog F_swageref1_Number [.int .i64 x] = some (.bool (isB x)) := Number_pf
  simp (config := { maxSteps := 4000000 }) only [S_swageref9_irMay, R_swageref9_irMay, MU_swageref9_irMay, ix_slD Irc.len hi, ldn_irc, SW, SV, wpD, evDL, evDM, evD, bldLD, wpSp, DMem.mt, beq_self_eq_true, seval]
  intro q M hM
  have hMq : M q = some ⟨50, 9, [.int .i64 c.code[i].kind, .int .i64 0, .int .i64 0, .int .i64 0, .int .i64 0, .zsl, .int .i64 c.code[i].cost, .int .i64 0, .int .i64 c.code[i].pc]⟩ := by rw [hM, DMem.ins_same]
  clear hM
  have hRg := regR_pf c
  have l4 : ∀ (K : DMem), ldnD K 4 (.ip c.c) = some (.agg c.c) := fun K => rfl
  have fzc : ∀ K k, fz K k (.agg c.c) = .agg c.c := fun K k => fz_of (cod_froz' c) K k
  generalize c.code[i] = x at *
  have fin : ∀ {δ : DEnv} {M' : DMem} {g : Bool} {n r a b k mt : Int} {KK XX}, δ 7 = .ip x.c → δ 8 = .mp q 0 → δ 9 = .bool g → δ 10 = .int .i64 n → M' q = some ⟨50, 9, [.int .i64 x.kind, .int .i64 r, .int .i64 a, .int .i64 b, .int .i64 k, .zsl, .int .i64 x.cost, .int .i64 mt, .int .i64 x.pc]⟩ →
      (g && decide (n = (x.args.length : Int)) && decide (x.r = r) && decide (x.a = a) && decide (x.b = b) && decide (x.k = k) && decide (x.mt = mt)) = irMayB p c.regs c.code.length c.metas.length i x →
      wpD Tryz.prog MU_swageref9_irMay (fun f => roL.contains f) (fun t => G_swageref9_irMay.contains t) 397 S2_swageref9_irMay KK XX (fun δ M' => δ 6 = .bool (irMayB p c.regs c.code.length c.metas.length i x)) δ M' := by
    intro δ M' g n r a b k mt KK XX h7 h8 h9 h10 hq he
    simp only [S2_swageref9_irMay, MU_swageref9_irMay, h7, h8, h9, h10, hq, SW, SV, wpD, evDL, evDM, evD, bldLD, wpSp, DMem.mt, beq_self_eq_true, seval]
    exact he
  have cl : (decide (0 ≤ x.cost) && decide (x.cost ≤ 256) && decide (0 ≤ x.pc) && decide (x.pc < 64)) = (decide (0 ≤ x.cost ∧ x.cost ≤ 256) && decide (0 ≤ x.pc ∧ x.pc < 64)) := by
    rw [Bool.eq_iff_iff]; simp only [Bool.and_eq_true, decide_eq_true_eq]; omega
  have al : (decide ((0 : Int) = x.args.length)) = decide (x.args = []) := decide_eq_decide.2 (by cases x.args <;> simp; omega)
  refine ⟨fun h0 => ?_, fun h0 => ⟨fun h1 => ?_, fun h1 => ⟨fun h2 => ?_, fun h2 => ⟨fun h3 => ?_, fun h3 => ⟨fun h4 => ?_, fun h4 => ⟨fun h5 => ?_, fun h5 => ⟨fun h6 => ?_, fun h6 => ⟨fun h7 => ?_, fun h7 => ⟨fun h9 => ?_, fun h9 => ⟨fun h10 => ?_, fun h10 => ?_⟩⟩⟩⟩⟩⟩⟩⟩⟩⟩
  · refine fin rfl rfl rfl rfl hMq ?_
    have : x.kind = 0 ∨ x.kind = 11 := by simpa using h0
    rw [cl, al]; unfold irMayB; rw [if_pos this]
    rw [Bool.eq_iff_iff]; simp only [Bool.and_eq_true, decide_eq_true_eq]
    grind
  · have hk : x.kind = 1 := of_decide_eq_true h1
    refine stY hMq rfl (by omega) fun M1 m1 => stY m1 rfl (by omega) fun M2 m2 => ?_
    try simp only [gor1, gor2, l4, fzc, hRg, hN, SW, SV, wpD, evDL, evDM, evD, bldLD, wpSp, DMem.mt, beq_self_eq_true, seval]
    refine fin rfl rfl rfl rfl m2 ?_
    rw [cl, al]; unfold irMayB; simp only [hk]
    rw [Bool.eq_iff_iff]; simp only [Bool.and_eq_true, Bool.or_eq_true, decide_eq_true_eq]
    grind
  · have hk : x.kind = 2 := of_decide_eq_true h2
    refine stY hMq rfl (by omega) fun M1 m1 => stY m1 rfl (by omega) fun M2 m2 => ?_
    try simp only [gor1, gor2, l4, fzc, hRg, hN, SW, SV, wpD, evDL, evDM, evD, bldLD, wpSp, DMem.mt, beq_self_eq_true, seval]
    refine fin rfl rfl rfl rfl m2 ?_
    rw [cl, al]; unfold irMayB; simp only [hk]
    rw [Bool.eq_iff_iff]; simp only [Bool.and_eq_true, Bool.or_eq_true, decide_eq_true_eq]
    grind
  · have hk : x.kind = 3 := of_decide_eq_true h3
    refine stY hMq rfl (by omega) fun M1 m1 => stY m1 rfl (by omega) fun M2 m2 => stY m2 rfl (by omega) fun M3 m3 => stY m3 rfl (by omega) fun M4 m4 => ?_
    try simp only [gor1, gor2, l4, fzc, hRg, hN, SW, SV, wpD, evDL, evDM, evD, bldLD, wpSp, DMem.mt, beq_self_eq_true, seval]
    refine fin rfl rfl rfl rfl m4 ?_
    rw [cl, al]; unfold irMayB; simp only [hk]
    rw [Bool.eq_iff_iff]; simp only [Bool.and_eq_true, Bool.or_eq_true, decide_eq_true_eq]
    grind
  · have hk : x.kind = 4 := of_decide_eq_true h4
    refine stY hMq rfl (by omega) fun M1 m1 => ?_
    try simp only [gor1, gor2, l4, fzc, hRg, hN, SW, SV, wpD, evDL, evDM, evD, bldLD, wpSp, DMem.mt, beq_self_eq_true, seval]
    refine fin rfl rfl rfl rfl m1 ?_
    rw [cl, al]; unfold irMayB; simp only [hk]
    rw [Bool.eq_iff_iff]; simp only [Bool.and_eq_true, Bool.or_eq_true, decide_eq_true_eq]
    grind
  · have hk : x.kind = 5 := of_decide_eq_true h5
    refine stY hMq rfl (by omega) fun M1 m1 => stY m1 rfl (by omega) fun M2 m2 => ?_
    try simp only [gor1, gor2, l4, fzc, hRg, hN, SW, SV, wpD, evDL, evDM, evD, bldLD, wpSp, DMem.mt, beq_self_eq_true, seval]
    refine fin rfl rfl rfl rfl m2 ?_
    rw [cl, al]; unfold irMayB; simp only [hk]
    rw [Bool.eq_iff_iff]; simp only [Bool.and_eq_true, Bool.or_eq_true, decide_eq_true_eq]
    grind
  · have hk : x.kind = 6 := of_decide_eq_true h6
    refine stY hMq rfl (by omega) fun M1 m1 => stY m1 rfl (by omega) fun M2 m2 => ?_
    generalize hC : (decide (0 ≤ x.cost) && decide (x.cost ≤ 256) && decide (0 ≤ x.pc) && decide (x.pc < 64)) = c0 at *
    have hA : (andD (.bool (c0 && regB c.regs x.r && decide (0 ≤ x.k) && decide (x.k < (p.length : Int)) && decide (0 < x.cost))) ((((ixD 3 (slD Fnc.c p) (.int .i64 x.k)).bind (faD 0)).bind (ldD M2)).bind fun y => binD .eql (.int .i64 x.args.length) y)) = some (.bool (c0 && regB c.regs x.r && decide (0 ≤ x.k) && decide (x.k < (p.length : Int)) && decide (0 < x.cost) && decide ((x.args.length : Int) = argsOf p x.k))) := by
      cases hb : (c0 && regB c.regs x.r && decide (0 ≤ x.k) && decide (x.k < (p.length : Int)) && decide (0 < x.cost)) with
      | false => simp only [SW, SV, wpD, evDL, evDM, evD, bldLD, wpSp, DMem.mt, beq_self_eq_true, seval]
      | true =>
        simp only [Bool.and_eq_true, decide_eq_true_eq] at hb
        obtain ⟨n, hn⟩ := Int.eq_ofNat_of_zero_le hb.1.1.2
        have hnl : n < p.length := by omega
        have : argsOf p x.k = p[n].args := by unfold argsOf; rw [hn, Int.toNat_natCast, List.getElem?_eq_getElem hnl]
        rw [this]
        simp only [hn, ix_slD Fnc.len hnl, SW, SV, wpD, evDL, evDM, evD, bldLD, wpSp, DMem.mt, beq_self_eq_true, seval]
    simp only [l4, fzc, hRg, hN, SW, SV, wpD, evDL, evDM, evD, bldLD, wpSp, DMem.mt, beq_self_eq_true, seval]
    simp only [hA, SW, SV, wpD, evDL, evDM, evD, bldLD, wpSp, DMem.mt, beq_self_eq_true, seval]
    generalize hG : (c0 && regB c.regs x.r && decide (0 ≤ x.k) && decide (x.k < (p.length : Int)) && decide (0 < x.cost) && decide ((x.args.length : Int) = argsOf p x.k)) = g0
    refine ⟨fun f δ M' => ∃ j : Nat, j ≤ x.args.length ∧ f = x.args.length - j ∧ δ 4 = .ip c.c ∧ δ 7 = .ip x.c ∧ δ 8 = .mp q 0 ∧ δ 9 = .bool (g0 && (x.args.take j).all (regB c.regs)) ∧ δ 10 = .int .i64 x.args.length ∧ δ 11 = .int .i64 j ∧ M' q = M2 q, x.args.length,
      ⟨0, Nat.zero_le _, rfl, rfl, rfl, rfl, ?_, rfl, rfl, rfl⟩, ?_⟩
    · rw [List.take_zero, List.all_nil, Bool.and_true] <;> rfl
    rintro f δ M' ⟨j, hj, rfl, e4, e7, e8, e9, e10, e11, eM⟩
    have m2' := eM.trans m2
    simp only [S1_swageref9_irMay, MU_swageref9_irMay, e4, e7, e8, e9, e10, e11, SW, SV, wpD, evDL, evDM, evD, bldLD, wpSp, DMem.mt, beq_self_eq_true, seval, decide_eq_true_eq, decide_eq_false_iff_not]
    refine ⟨fun hlt => ?_, fun hge => ?_⟩
    · have hjl : j < x.args.length := by omega
      have ei : wr64 ((j : Int) + 1) = ((j + 1 : Nat) : Int) := w64s (by omega)
      simp only [ix_slI hjl, l4, fzc, hRg, ei, e4, e7, e8, e9, e10, e11, SW, SV, wpD, evDL, evDM, evD, bldLD, wpSp, DMem.mt, beq_self_eq_true, seval]
      refine ⟨x.args.length - (j + 1), M', by omega, SubD.refl _, j + 1, by omega, rfl, ?_, rfl, eM⟩
      rw [List.take_succ_eq_append_getElem hjl, List.all_append]
      simp [Bool.and_assoc]
    · have : j = x.args.length := by omega
      subst this
      rw [List.take_length] at e9
      refine fin e7 e8 e9 e10 m2' ?_
      rw [← hG, cl]; unfold irMayB; simp only [hk]
      rw [Bool.eq_iff_iff]; simp only [Bool.and_eq_true, Bool.or_eq_true, decide_eq_true_eq]
      grind
  · have hk : x.kind = 7 ∨ x.kind = 8 := by simpa using h7
    refine stY hMq rfl (by omega) fun M1 m1 => ?_
    try simp only [gor1, gor2, l4, fzc, hRg, hN, SW, SV, wpD, evDL, evDM, evD, bldLD, wpSp, DMem.mt, beq_self_eq_true, seval]
    refine fin rfl rfl rfl rfl m1 ?_
    rw [cl, al]; unfold irMayB
    rcases hk with hk | hk
    all_goals simp only [hk]
    all_goals rw [Bool.eq_iff_iff]; simp only [Bool.and_eq_true, Bool.or_eq_true, decide_eq_true_eq]
    all_goals grind
  · have hk : x.kind = 9 := of_decide_eq_true h9
    refine stY hMq rfl (by omega) fun M1 m1 => stY m1 rfl (by omega) fun M2 m2 => stY m2 rfl (by omega) fun M3 m3 => stY m3 rfl (by omega) fun M4 m4 => ?_
    try simp only [gor1, gor2, l4, fzc, hRg, hN, SW, SV, wpD, evDL, evDM, evD, bldLD, wpSp, DMem.mt, beq_self_eq_true, seval]
    refine fin rfl rfl rfl rfl m4 ?_
    rw [cl, al]; unfold irMayB; simp only [hk]
    rw [Bool.eq_iff_iff]; simp only [Bool.and_eq_true, Bool.or_eq_true, decide_eq_true_eq]
    grind
  · have hk : x.kind = 10 := of_decide_eq_true h10
    refine stY hMq rfl (by omega) fun M1 m1 => ?_
    try simp only [gor1, gor2, l4, fzc, hRg, hN, SW, SV, wpD, evDL, evDM, evD, bldLD, wpSp, DMem.mt, beq_self_eq_true, seval]
    refine fin rfl rfl rfl rfl m1 ?_
    rw [cl, al]; unfold irMayB; simp only [hk]
    rw [Bool.eq_iff_iff]; simp only [Bool.and_eq_true, Bool.or_eq_true, decide_eq_true_eq]
    grind
  · have hb : irMayB p c.regs c.code.length c.metas.length i x = false := by
      rw [Bool.eq_false_iff]
      intro hm
      have := irMay_kind hm
      simp at h0 h1 h2 h3 h4 h5 h6 h7 h9 h10
      omega
    rw [hb]
end Go.Proofs.YticlgdhhnjpkjaaGreatDoor.Pf
namespace Go.Proofs.YticlgdhhnjpkjaaGreatDoor.Pf
open Go Go.RowKit Go.Proofs Go.Proofs.YticlgdhhnjpkjaaGreatDoor.Mw Go.Proofs.YticlgdhhnjpkjaaGreatDoor.Sx
set_option linter.unusedVariables false
set_option linter.unusedSimpArgs false
set_option maxRecDepth 8000
theorem prog_froz (p : List Fnc) : Froz (.agg [slD Fnc.c p]) := Froz.agg (FrozL.nil.cons (Froz.slD Fnc.froz p))
theorem srcsR_pf (c : Cod) (l : List Src) (k : Int) (hl : l.length ≤ 4611686018427387904) : pf Tryz.prog F_swageref9_srcs [.agg c.c, slD Src.c l, .int .i64 k] = some (.bool (l.all (srcB c.regs) && decide ((l.length : Int) = k))) := by
  refine pf_of (v := .bool _) (pc_swageref9_srcs (by simp) ?_) (((FrozL.nil.cons (Froz.int _ _)).cons (Froz.slD Src.froz l)).cons (cod_froz' c)) rfl rfl
  have hN : ∀ x, pf Tryz.prog F_swageref1_Number [.int .i64 x] = some (.bool (isB x)) := Number_pf
  have hRg := regR_pf c
  have l4 : ∀ (K : DMem), ldnD K 4 (.ip c.c) = some (.agg c.c) := fun K => rfl
  have fzc : ∀ K k, fz K k (.agg c.c) = .agg c.c := fun K k => fz_of (cod_froz' c) K k
  simp only [S_swageref9_srcs, R_swageref9_srcs, MU_swageref9_srcs, SW, SV, wpD, evDL, evDM, evD, bldLD, wpSp, DMem.mt, beq_self_eq_true, seval]
  refine ⟨fun f δ M' => ∃ j : Nat, j ≤ l.length ∧ f = l.length - j ∧ δ 1 = slD Src.c l ∧ δ 2 = .int .i64 k ∧ δ 3 = .ip c.c ∧ δ 7 = .int .i64 j ∧ (l.take j).all (srcB c.regs) = true, l.length,
    ⟨0, Nat.zero_le _, rfl, rfl, rfl, rfl, rfl, rfl⟩, ?_⟩
  rintro f δ M' ⟨j, hj, rfl, e1, e2, e3, e7, ha⟩
  simp only [S1_swageref9_srcs, MU_swageref9_srcs, e1, e2, e3, e7, SW, SV, wpD, evDL, evDM, evD, bldLD, wpSp, DMem.mt, beq_self_eq_true, seval, decide_eq_true_eq, decide_eq_false_iff_not]
  refine ⟨fun hlt => ?_, fun hge => ?_⟩
  · have hjl : j < l.length := by omega
    have ei : wr64 ((j : Int) + 1) = ((j + 1 : Nat) : Int) := w64s (by omega)
    have hB : srcB c.regs l[j] = if l[j].const = true then isB l[j].v else regB c.regs l[j].v := rfl
    have nx : srcB c.regs l[j] = true → (l.take (j + 1)).all (srcB c.regs) = true := fun h => by rw [List.take_succ_eq_append_getElem hjl, List.all_append, ha]; simp [h]
    have no : srcB c.regs l[j] = false → (l.all (srcB c.regs) && decide ((l.length : Int) = k)) = false := fun h => by
      have : l.all (srcB c.regs) = false := by rw [← Bool.not_eq_true, List.all_eq_true]; intro hh; rw [hh _ (List.getElem_mem hjl)] at h; cases h
      rw [this] <;> rfl
    generalize hx : l[j] = x at *
    obtain ⟨const, v⟩ := x
    have hix := ix_slD (k := .i64) Src.len hjl
    rw [hx] at hix
    cases const with
    | false =>
      have hB : srcB c.regs ⟨false, v⟩ = regB c.regs v := rfl
      rw [hB] at nx no
      simp only [hix, hN, l4, fzc, hRg, SW, SV, wpD, evDL, evDM, evD, bldLD, wpSp, DMem.mt, beq_self_eq_true, seval]
      cases hb : regB c.regs v with
      | true =>
        simp only [ei, e1, e2, e3, e7, SW, SV, wpD, evDL, evDM, evD, bldLD, wpSp, DMem.mt, beq_self_eq_true, seval]
        exact ⟨l.length - (j + 1), M', by omega, SubD.refl _, j + 1, by omega, rfl, rfl, nx hb⟩
      | false =>
        simp only [ei, e1, e2, e3, e7, SW, SV, wpD, evDL, evDM, evD, bldLD, wpSp, DMem.mt, beq_self_eq_true, seval]
        exact (no hb).symm
    | true =>
      have hB : srcB c.regs ⟨true, v⟩ = isB v := rfl
      rw [hB] at nx no
      simp only [hix, hN, l4, fzc, hRg, SW, SV, wpD, evDL, evDM, evD, bldLD, wpSp, DMem.mt, beq_self_eq_true, seval]
      cases hb : isB v with
      | true =>
        simp only [hN, hb, l4, fzc, hRg, ei, e1, e2, e3, e7, SW, SV, wpD, evDL, evDM, evD, bldLD, wpSp, DMem.mt, beq_self_eq_true, seval]
        exact ⟨l.length - (j + 1), M', by omega, SubD.refl _, j + 1, by omega, rfl, rfl, nx hb⟩
      | false =>
        simp only [hN, hb, l4, fzc, hRg, ei, e1, e2, e3, e7, SW, SV, wpD, evDL, evDM, evD, bldLD, wpSp, DMem.mt, beq_self_eq_true, seval]
        exact (no hb).symm
  · have : j = l.length := by omega
    subst this
    rw [List.take_length] at ha
    simp only [S2_swageref9_srcs, e1, e2, e3, e7, ha, SW, SV, wpD, evDL, evDM, evD, bldLD, wpSp, DMem.mt, beq_self_eq_true, seval]
theorem height_fn {p : List Fnc} {fn pc : Int} (h : 0 ≤ heightF p fn pc) : 0 ≤ fn ∧ fn < p.length := by
  refine Decidable.byContradiction fun hf => ?_
  have : heightF p fn pc = -1 := by
    unfold heightF
    rw [if_neg]
    rintro ⟨h1, h2, h3⟩
    unfold heightsR at h1
    rw [if_neg (fun hh => hf hh.2)] at h1
    exact absurd h1 (by decide)
  omega
theorem BehindR_pf (p : List Fnc) (hv : verifyE p = 0) (fn pc called : Int) (hf : 0 ≤ heightF p fn pc) : pf Tryz.prog F_swageref1_Behind [.agg [slD Fnc.c p], .int .i64 fn, .int .i64 pc, .int .i64 called] = some (.bool (behindB p fn pc called)) := by
  refine pf_of (v := .bool _) (pc_swageref1_Behind (by simp) ?_) ((((FrozL.nil.cons (Froz.int _ _)).cons (Froz.int _ _)).cons (Froz.int _ _)).cons (prog_froz p)) rfl rfl
  have hH := HeightR_pf p
  have l1 : ∀ (K : DMem), ldnD K 1 (.ip [slD Fnc.c p]) = some (.agg [slD Fnc.c p]) := fun K => rfl
  have fzp : ∀ K k, fz K k (.agg [slD Fnc.c p]) = .agg [slD Fnc.c p] := fun K k => fz_of (prog_froz p) K k
  simp only [S_swageref1_Behind, R_swageref1_Behind, MU_swageref1_Behind, l1, fzp, hH, SW, SV, wpD, evDL, evDM, evD, bldLD, wpSp, DMem.mt, beq_self_eq_true, seval]
  obtain ⟨n, hn⟩ := Int.eq_ofNat_of_zero_le (height_fn hf).1
  have hnl : n < p.length := by have := (height_fn hf).2; omega
  rw [hn] at hf ⊢
  obtain ⟨hpk, hall⟩ := verify_ok hv
  have hl64 := (fmay_le (fn_may (heights_hf hpk hnl (hall n hnl)).fn)).2
  have hpc : 0 ≤ pc ∧ pc < p[n].code.length := by
    rcases height_ge hv hnl pc with h | h
    · omega
    · exact h.2.2
  have ew : wr64 (pc - 1) = pc - 1 := w64 (by omega)
  rw [ew]
  have hu : behindB p (n : Int) pc called = (decide (0 ≤ heightF p n (pc - 1)) && decide (codeAt p n (pc - 1) = ⟨14, called⟩)) := rfl
  refine ⟨fun h => ?_, fun h => ?_⟩
  · have h := of_decide_eq_true h
    rw [hu, decide_eq_false (by omega)] <;> rfl
  · have h := of_decide_eq_false h
    have h0 : 0 ≤ heightF p n (pc - 1) := by omega
    obtain ⟨m, hm⟩ : ∃ m : Nat, pc - 1 = (m : Int) := by
      rcases height_ge hv hnl (pc - 1) with h | h
      · omega
      · exact Int.eq_ofNat_of_zero_le h.2.2.1
    have hml : m < p[n].code.length := by omega
    have hc : codeAt p n m = p[n].code[m] := by unfold codeAt; rw [Int.toNat_natCast, List.getElem?_eq_getElem hnl]; simp only [Int.toNat_natCast, List.getD_eq_getElem?_getD, List.getElem?_eq_getElem hml, Option.getD_some]
    have hl2 : ∀ K : DMem, ∀ r : List DV, ldnD K 2 (.ip (.int .i64 p[n].code[m].kind :: .int .i64 p[n].code[m].a :: r)) = some (.agg p[n].code[m].c) := fun K r => by simp [ldnD]
    rw [hu, decide_eq_true h0, hm, hc]
    simp only [ix_slD Fnc.len hnl, ix_slD Ins.len hml, hl2, eqs2, SW, SV, wpD, evDL, evDM, evD, bldLD, wpSp, DMem.mt, beq_self_eq_true, seval]
    rw [Bool.eq_iff_iff]
    cases p[n].code[m]; simp
def goodP (p : List Fnc) (regs : Int) (m : List Part) (j : Nat) : Bool := match m[j]? with
  | some x => partB p regs ((m.length : Int) - 1 - j) x && (decide ((m.length : Int) - 1 - j ≠ 1) || match m[1]? with
    | some y => behindB p x.fn x.pc y.fn
    | none => false)
  | none => true
theorem meta_good (p : List Fnc) (fn regs : Int) (m : List Part) (h : 0 < m.length) (h2 : m.length ≤ 2) : metaB p fn regs m = (decide (m[0].fn = fn) && (List.range m.length).all (goodP p regs m)) := by
  match m, h, h2 with
  | [a], _, _ => simp [metaB, goodP, List.range_succ]
  | [a, b], _, _ =>
    simp [metaB, goodP, List.range_succ]
    rw [Bool.eq_iff_iff]; simp only [Bool.and_eq_true, decide_eq_true_eq]
    grind
theorem metaMayR_pf (p : List Fnc) (c : Cod) (hv : verifyE p = 0) (m : List Part) (hz : SzM m) : pf Tryz.prog F_swageref9_metaMay [.agg [slD Fnc.c p], .agg c.c, .agg (metaC m)] = some (.bool (metaB p c.fn c.regs m)) := by
  refine pf_of (v := .bool _) (pc_swageref9_metaMay (by simp) ?_) (((FrozL.nil.cons (Froz.agg (metaC_froz m))).cons (cod_froz' c)).cons (prog_froz p)) rfl rfl
  have hH := HeightR_pf p
  have l1 : ∀ (K : DMem), ldnD K 1 (.ip [slD Fnc.c p]) = some (.agg [slD Fnc.c p]) := fun K => rfl
  have fzp : ∀ K k, fz K k (.agg [slD Fnc.c p]) = .agg [slD Fnc.c p] := fun K k => fz_of (prog_froz p) K k
  have l4 : ∀ (K : DMem), ldnD K 4 (.ip c.c) = some (.agg c.c) := fun K => rfl
  have fzc : ∀ K k, fz K k (.agg c.c) = .agg c.c := fun K k => fz_of (cod_froz' c) K k
  have hfp : ∀ x : Part, ∀ r : List DV, ∀ K, ldnD K 4 (.ip (.int .i64 x.fn :: .int .i64 x.pc :: slD Src.c x.locals :: slD Src.c x.stack :: r)) = some (.agg x.c) := fun x r K => by simp [ldnD]
  simp only [S_swageref9_metaMay, R_swageref9_metaMay, MU_swageref9_metaMay, l1, l4, fzp, fzc, hH, SW, SV, wpD, evDL, evDM, evD, bldLD, wpSp, DMem.mt, beq_self_eq_true, seval]
  by_cases hl : m.length < 1 ∨ 2 < m.length
  · have e : (decide ((m.length : Int) < 1) || decide (2 < (m.length : Int))) = true := by simp; omega
    have eB : metaB p c.fn c.regs m = false := by
      match m, hl with
      | [], _ => rfl
      | _ :: _ :: _ :: _, _ => rfl
      | [_], h => simp at h
      | [_, _], h => simp at h
    simp only [e, eB, SW, SV, wpD, evDL, evDM, evD, bldLD, wpSp, DMem.mt, beq_self_eq_true, seval]
  · have e : (decide ((m.length : Int) < 1) || decide (2 < (m.length : Int))) = false := by simp; omega
    have h0 : 0 < m.length := by omega
    have hi0 := ix_slD (k := .i64) Part.len h0
    have hmg := meta_good p c.fn c.regs m h0 (by omega)
    simp only [Int.ofNat_zero, Int.natCast_zero, Int.ofNat_eq_natCast] at hi0
    simp only [e, hi0, SW, SV, wpD, evDL, evDM, evD, bldLD, wpSp, DMem.mt, beq_self_eq_true, seval]
    refine ⟨fun hn => ?_, fun hy => ?_⟩
    · have : ¬ m[0].fn = c.fn := by simpa using hn
      rw [hmg, decide_eq_false this] <;> rfl
    · have hy : m[0].fn = c.fn := by simpa using hy
      rw [decide_eq_true hy, Bool.true_and] at hmg
      refine ⟨fun f δ M' => ∃ j : Nat, j ≤ m.length ∧ f = m.length - j ∧ δ 3 = .ip [slD Fnc.c p] ∧ δ 4 = .ip c.c ∧ δ 5 = .ip (metaC m) ∧ δ 7 = .int .i64 j ∧ ∀ i < j, goodP p c.regs m i = true, m.length,
        ⟨0, Nat.zero_le _, rfl, rfl, rfl, rfl, rfl, fun i h => absurd h (by omega)⟩, ?_⟩
      rintro f δ M' ⟨j, hj, rfl, e3, e4, e5, e7, hall⟩
      simp only [S1_swageref9_metaMay, MU_swageref9_metaMay, e3, e4, e5, e7, SW, SV, wpD, evDL, evDM, evD, bldLD, wpSp, DMem.mt, beq_self_eq_true, seval, decide_eq_true_eq, decide_eq_false_iff_not]
      refine ⟨fun hlt => ?_, fun hge => ?_⟩
      · have hjl : j < m.length := by omega
        have ei : wr64 ((j : Int) + 1) = ((j + 1 : Nat) : Int) := w64s (by omega)
        have el : wr64 (wr64 ((m.length : Int) - 1) - j) = (m.length : Int) - 1 - j := by rw [w64 (x := (m.length : Int) - 1) (by omega), w64 (by omega)]
        have hg : goodP p c.regs m j = (partB p c.regs ((m.length : Int) - 1 - j) m[j] && (decide ((m.length : Int) - 1 - j ≠ 1) || match m[1]? with
          | some y => behindB p m[j].fn m[j].pc y.fn
          | none => false)) := by unfold goodP; rw [List.getElem?_eq_getElem hjl]
        have no : goodP p c.regs m j = false → false = metaB p c.fn c.regs m := fun h => by
          rw [hmg, eq_comm, ← Bool.not_eq_true, List.all_eq_true]
          intro hh
          rw [hh j (List.mem_range.2 hjl)] at h; cases h
        have yes : goodP p c.regs m j = true → ∀ i < j + 1, goodP p c.regs m i = true := fun h i hi => by
          by_cases he : i = j
          · rw [he]; exact h
          · exact hall i (by omega)
        have hxz := hz _ (List.getElem_mem hjl)
        have hij := ix_slD (k := .i64) Part.len hjl
        generalize hx : m[j] = x at *
        simp only [hij, hfp, el, l1, l4, fzp, fzc, hH, e3, e4, e5, e7, SW, SV, wpD, evDL, evDM, evD, bldLD, wpSp, DMem.mt, beq_self_eq_true, seval]
        by_cases hh : heightF p x.fn x.pc < 0
        · have hp : partB p c.regs ((m.length : Int) - 1 - j) x = false := by unfold partB; rw [decide_eq_false (by omega)]; simp
          have hgf : goodP p c.regs m j = false := by rw [hg, hp] <;> rfl
          simp only [decide_eq_true hh, SW, SV, wpD, evDL, evDM, evD, bldLD, wpSp, DMem.mt, beq_self_eq_true, seval]
          exact no hgf
        · have hf : 0 ≤ heightF p x.fn x.pc := by omega
          obtain ⟨n, hn⟩ := Int.eq_ofNat_of_zero_le (height_fn hf).1
          have hnl : n < p.length := by have := (height_fn hf).2; omega
          have hlo : localsOf p x.fn = p[n].locals := by unfold localsOf; rw [hn, Int.toNat_natCast, List.getElem?_eq_getElem hnl]
          have hsL := srcsR_pf c x.locals p[n].locals hxz.1
          have hsS := srcsR_pf c x.stack (heightF p x.fn x.pc - ((m.length : Int) - 1 - j)) hxz.2
          have h8 : heightF p x.fn x.pc ≤ 8 := by
            rw [hn] at hf ⊢
            rcases height_ge hv hnl x.pc with h | h
            · omega
            · exact h.2.1
          have ew : wr64 (heightF p x.fn x.pc - ((m.length : Int) - 1 - j)) = heightF p x.fn x.pc - ((m.length : Int) - 1 - j) := w64 (by omega)
          have hpB : partB p c.regs ((m.length : Int) - 1 - j) x = ((x.locals.all (srcB c.regs) && decide ((x.locals.length : Int) = p[n].locals)) && (x.stack.all (srcB c.regs) && decide ((x.stack.length : Int) = heightF p x.fn x.pc - ((m.length : Int) - 1 - j)))) := by
            unfold partB
            rw [hlo, decide_eq_true hf, Bool.true_and]
            rw [Bool.eq_iff_iff]; simp only [Bool.and_eq_true, decide_eq_true_eq]; grind
          have hBe := BehindR_pf p hv x.fn x.pc
          have hix3 : ixD 3 (slD Fnc.c p) (.int .i64 x.fn) = ixD 3 (slD Fnc.c p) (.int .i64 (n : Int)) := by rw [hn]
          simp only [decide_eq_false hh, hix3, ix_slD Fnc.len hnl, fz_srcs, fzc, ew, hsL, hsS, SW, SV, wpD, evDL, evDM, evD, bldLD, wpSp, DMem.mt, beq_self_eq_true, seval]
          generalize hA : (x.locals.all (srcB c.regs) && decide ((x.locals.length : Int) = p[n].locals)) = A at *
          generalize hB : (x.stack.all (srcB c.regs) && decide ((x.stack.length : Int) = heightF p x.fn x.pc - ((m.length : Int) - 1 - j))) = B at *
          cases A with
          | false =>
            simp only [SW, SV, wpD, evDL, evDM, evD, bldLD, wpSp, DMem.mt, beq_self_eq_true, seval]
            exact no (by rw [hg, hpB] <;> rfl)
          | true => cases B with
            | false =>
              simp only [SW, SV, wpD, evDL, evDM, evD, bldLD, wpSp, DMem.mt, beq_self_eq_true, seval]
              exact no (by rw [hg, hpB] <;> rfl)
            | true =>
              by_cases h1 : (m.length : Int) - 1 - j = 1
              · have hm1 : 1 < m.length := by omega
                have hi1 := ix_slD (k := .i64) Part.len hm1
                have hb := hBe m[1].fn hf
                have hg1 : goodP p c.regs m j = behindB p x.fn x.pc m[1].fn := by
                  rw [hg, hpB, List.getElem?_eq_getElem hm1, decide_eq_false (by omega)] <;> rfl
                simp only [decide_eq_true h1, show ((1 : Nat) : Int) = 1 from rfl] at hi1
                simp only [decide_eq_true h1, hi1, l1, fzp, hb, e3, e4, e5, e7, SW, SV, wpD, evDL, evDM, evD, bldLD, wpSp, DMem.mt, beq_self_eq_true, seval]
                cases hbb : behindB p x.fn x.pc m[1].fn with
                | false =>
                  simp only [SW, SV, wpD, evDL, evDM, evD, bldLD, wpSp, DMem.mt, beq_self_eq_true, seval]
                  exact no (by rw [hg1, hbb])
                | true =>
                  simp only [ei, e3, e4, e5, e7, SW, SV, wpD, evDL, evDM, evD, bldLD, wpSp, DMem.mt, beq_self_eq_true, seval]
                  exact ⟨m.length - (j + 1), M', by omega, SubD.refl _, j + 1, by omega, rfl, rfl, yes (by rw [hg1, hbb])⟩
              · simp only [decide_eq_false h1, ei, e3, e4, e5, e7, SW, SV, wpD, evDL, evDM, evD, bldLD, wpSp, DMem.mt, beq_self_eq_true, seval]
                exact ⟨m.length - (j + 1), M', by omega, SubD.refl _, j + 1, by omega, rfl, rfl, yes (by rw [hg, hpB, decide_eq_true h1] <;> rfl)⟩
      · have : j = m.length := by omega
        subst this
        rw [hmg, eq_comm, List.all_eq_true]
        exact fun i hi => hall i (List.mem_range.1 hi)
set_option maxHeartbeats 1000000 in
theorem CodeMayR_pf (p : List Fnc) (c : Cod) (hz : SzC c) : pf Tryz.prog F_swageref9_CodeMay [.agg [slD Fnc.c p], .agg c.c] = some (.bool (codeMayB p c)) := by
  refine pf_of (v := .bool _) (pc_swageref9_CodeMay (by simp) ?_) ((FrozL.nil.cons (cod_froz' c)).cons (prog_froz p)) rfl rfl
  have hV := VerifyR_pf p
  have l1 : ∀ (K : DMem), ldnD K 1 (.ip [slD Fnc.c p]) = some (.agg [slD Fnc.c p]) := fun K => rfl
  have fzp : ∀ K k, fz K k (.agg [slD Fnc.c p]) = .agg [slD Fnc.c p] := fun K k => fz_of (prog_froz p) K k
  have l4 : ∀ (K : DMem), ldnD K 4 (.ip c.c) = some (.agg c.c) := fun K => rfl
  have fzc : ∀ K k, fz K k (.agg c.c) = .agg c.c := fun K k => fz_of (cod_froz' c) K k
  have fzm : ∀ K k m, fz K k (.agg (metaC m)) = .agg (metaC m) := fun K k m => fz_of (Froz.agg (metaC_froz m)) K k
  simp only [S_swageref9_CodeMay, R_swageref9_CodeMay, MU_swageref9_CodeMay, l1, fzp, hV, SW, SV, wpD, evDL, evDM, evD, bldLD, wpSp, DMem.mt, beq_self_eq_true, seval]
  by_cases hA : verifyE p = 0 ∧ 0 ≤ c.fn ∧ c.fn < p.length
  · obtain ⟨hv, hf0, hfl⟩ := hA
    obtain ⟨n, hn⟩ := Int.eq_ofNat_of_zero_le hf0
    have hnl : n < p.length := by omega
    have hlo : localsOf p c.fn = p[n].locals := by unfold localsOf; rw [hn, Int.toNat_natCast, List.getElem?_eq_getElem hnl]
    have hix : ixD 3 (slD Fnc.c p) (.int .i64 c.fn) = some (.ip (p[n].c ++ (p.drop (n + 1)).flatMap Fnc.c)) := by rw [hn]; exact ix_slD Fnc.len hnl
    simp only [hix, SW, SV, wpD, evDL, evDM, evD, bldLD, wpSp, DMem.mt, beq_self_eq_true, seval]
    refine ⟨fun h => ?_, fun h => ?_⟩
    · have : headB p c = false := by
        unfold headB
        refine decide_eq_false ?_
        rintro ⟨g1, g2, g3, g4, g5, g6, g7, g8, g9⟩
        simp only [Bool.or_eq_true, decide_eq_true_eq] at h
        rw [hlo] at g5
        omega
      unfold codeMayB
      rw [this] <;> rfl
    · have hh : headB p c = true := by
        unfold headB
        refine decide_eq_true ?_
        simp only [Bool.or_eq_false_iff, decide_eq_false_iff_not] at h
        rw [hlo]
        exact ⟨hv, by omega, by omega, by omega, by omega, by omega, by omega, by omega, by omega⟩
      have hcl : 1 ≤ c.code.length := by simp only [Bool.or_eq_false_iff, decide_eq_false_iff_not] at h; omega
      refine ⟨fun k δ M' => ∃ i : Nat, i ≤ c.code.length ∧ k = c.code.length - i ∧ δ 2 = .ip [slD Fnc.c p] ∧ δ 3 = .ip c.c ∧ δ 5 = .int .i64 i ∧ (∀ j (hj : j < c.code.length), j < i → irMayB p c.regs c.code.length c.metas.length j c.code[j] = true), c.code.length,
        ⟨0, Nat.zero_le _, rfl, rfl, rfl, rfl, fun j _ hj => absurd hj (by omega)⟩, ?_⟩
      rintro k δ M' ⟨i, hi, rfl, h2, h3, h5, hall⟩
      have hzn := hz.n
      simp only [S1_swageref9_CodeMay, MU_swageref9_CodeMay, h2, h3, h5, SW, SV, wpD, evDL, evDM, evD, bldLD, wpSp, DMem.mt, beq_self_eq_true, seval, decide_eq_true_eq, decide_eq_false_iff_not]
      refine ⟨fun hlt => ?_, fun hge => ?_⟩
      · have hil : i < c.code.length := by omega
        have ei : wr64 ((i : Int) + 1) = ((i + 1 : Nat) : Int) := w64s (by omega)
        simp only [h2, h3, h5, ei, l1, l4, fzp, fzc, irMayR_pf p c i hil (hz.a _ (List.getElem_mem hil)), SW, SV, wpD, evDL, evDM, evD, bldLD, wpSp, DMem.mt, beq_self_eq_true, seval]
        refine ⟨fun hb => ?_, fun hb => ⟨c.code.length - (i + 1), M', by omega, SubD.refl _, i + 1, by omega, rfl, rfl, fun j g1 g2 => ?_⟩⟩
        · have hb : irMayB p c.regs c.code.length c.metas.length i c.code[i] = false := by simpa using hb
          have : irsB p c = false := by
            unfold irsB
            rw [List.all_eq_false]
            exact ⟨i, List.mem_range.2 hil, by simp only [List.getElem?_eq_getElem hil]; simp [hb]⟩
          unfold codeMayB
          rw [this]; simp
        · have hb : irMayB p c.regs c.code.length c.metas.length i c.code[i] = true := by simpa using hb
          by_cases hji : j = i
          · subst hji; exact hb
          · exact hall j g1 (by omega)
      · have : i = c.code.length := by omega
        subst this
        have hI : irsB p c = true := by
          unfold irsB
          rw [List.all_eq_true]
          intro j hj
          have hj := List.mem_range.1 hj
          simp only [List.getElem?_eq_getElem hj]
          exact hall j hj hj
        have hmB : codeMayB p c = (c.metas.all (metaB p c.fn c.regs) && lastB c) := by unfold codeMayB; rw [hh, hI]; simp
        simp only [S4_swageref9_CodeMay, MU_swageref9_CodeMay, h2, h3, SW, SV, wpD, evDL, evDM, evD, bldLD, wpSp, DMem.mt, beq_self_eq_true, seval]
        refine ⟨fun k δ M' => ∃ i : Nat, i ≤ c.metas.length ∧ k = c.metas.length - i ∧ δ 2 = .ip [slD Fnc.c p] ∧ δ 3 = .ip c.c ∧ δ 6 = .int .i64 i ∧ (∀ j (hj : j < c.metas.length), j < i → metaB p c.fn c.regs c.metas[j] = true), c.metas.length,
          ⟨0, Nat.zero_le _, rfl, h2, h3, rfl, fun j _ hj => absurd hj (by omega)⟩, ?_⟩
        clear hall h5 h2 h3
        rintro k δ M' ⟨i, hi, rfl, h2, h3, h6, hall⟩
        have hzm := hz.m
        simp only [S2_swageref9_CodeMay, MU_swageref9_CodeMay, h2, h3, h6, SW, SV, wpD, evDL, evDM, evD, bldLD, wpSp, DMem.mt, beq_self_eq_true, seval, decide_eq_true_eq, decide_eq_false_iff_not]
        refine ⟨fun hlt => ?_, fun hge => ?_⟩
        · have hil : i < c.metas.length := by omega
          have ei : wr64 ((i : Int) + 1) = ((i + 1 : Nat) : Int) := w64s (by omega)
          have hix1 : ixD 1 (slD metaC c.metas) (.int .i64 (i : Int)) = some (.ip (slD Part.c c.metas[i] :: (c.metas.drop (i + 1)).flatMap metaC)) := ix_slD metaC_len hil
          have hl1 : ∀ (K : DMem) (d : DV) (r : List DV), ldnD K 1 (.ip (d :: r)) = some (.agg [d]) := fun K d r => by simp [ldnD]
          have hl1' : ∀ (K : DMem) (r : List DV), ldnD K 1 (.ip (slD Part.c c.metas[i] :: r)) = some (.agg (metaC c.metas[i])) := fun K r => hl1 K _ r
          simp only [hix1, h2, h3, h6, ei, hl1', l1, l4, fzp, fzc, fzm, metaMayR_pf p c hv c.metas[i] (hz.s _ (List.getElem_mem hil)), SW, SV, wpD, evDL, evDM, evD, bldLD, wpSp, DMem.mt, beq_self_eq_true, seval]
          refine ⟨fun hb => ?_, fun hb => ⟨c.metas.length - (i + 1), M', by omega, SubD.refl _, i + 1, by omega, rfl, rfl, fun j g1 g2 => ?_⟩⟩
          · have hb : metaB p c.fn c.regs c.metas[i] = false := by simpa using hb
            rw [hmB, eq_comm]
            have : c.metas.all (metaB p c.fn c.regs) = false := by rw [← Bool.not_eq_true, List.all_eq_true]; intro hx; rw [hx _ (List.getElem_mem hil)] at hb; cases hb
            rw [this] <;> rfl
          · have hb : metaB p c.fn c.regs c.metas[i] = true := by simpa using hb
            by_cases hji : j = i
            · subst hji; exact hb
            · exact hall j g1 (by omega)
        · have : i = c.metas.length := by omega
          subst this
          have hM : c.metas.all (metaB p c.fn c.regs) = true := by
            rw [List.all_eq_true]
            intro m hm
            obtain ⟨j, hj, rfl⟩ := List.getElem_of_mem hm
            exact hall j hj hj
          rw [hM, Bool.true_and] at hmB
          have el : wr64 ((c.code.length : Int) - 1) = ((c.code.length - 1 : Nat) : Int) := by rw [w64 (by omega)]; omega
          have hll : c.code.length - 1 < c.code.length := by omega
          have hlB : lastB c = decide (c.code[c.code.length - 1].kind = 4 ∨ c.code[c.code.length - 1].kind = 8) := by
            unfold lastB
            rw [List.getLast?_eq_getElem?, List.getElem?_eq_getElem hll]
          simp only [S3_swageref9_CodeMay, MU_swageref9_CodeMay, h2, h3, el, ix_slD Irc.len hll, SW, SV, wpD, evDL, evDM, evD, bldLD, wpSp, DMem.mt, beq_self_eq_true, seval]
          rw [hmB, hlB, Bool.eq_iff_iff]; simp
  · have hX : ((((decide (¬verifyE p = 0) || decide (c.fn < 0)) || decide ((p.length : Int) ≤ c.fn)) || decide (c.regs < 1))) = true := by
      simp only [Bool.or_eq_true, decide_eq_true_eq]; omega
    have hB : codeMayB p c = false := by
      have : headB p c = false := decide_eq_false (by rintro ⟨g1, g2, g3, _⟩; exact hA ⟨g1, g2, g3⟩)
      unfold codeMayB
      rw [this] <;> rfl
    simp only [hX, hB, SW, SV, wpD, evDL, evDM, evD, bldLD, wpSp, DMem.mt, beq_self_eq_true, seval]
end Go.Proofs.YticlgdhhnjpkjaaGreatDoor.Pf
namespace Go.Proofs.YticlgdhhnjpkjaaGreatDoor.Pf
open Go Go.RowKit Go.Proofs Go.Proofs.YticlgdhhnjpkjaaGreatDoor.Mw Go.Proofs.YticlgdhhnjpkjaaGreatDoor.Sx
set_option linter.unusedVariables false
set_option linter.unusedSimpArgs false
set_option maxRecDepth 8000
def ldT (code : List Irc) (i : Nat) : List Bool := if i = 0 then List.replicate code.length false else (ldF code i).take code.length
theorem ldT_len (code : List Irc) (i : Nat) : (ldT code i).length = code.length := by
  unfold ldT; split
  · simp
  · rw [List.length_take, ldF_len]; omega
theorem ldT_zero (code : List Irc) (h : 0 < code.length) : (ldT code 0).set 0 true = (ldF code 0).take code.length := by
  unfold ldT ldF
  rw [if_pos rfl, List.take_set, List.take_replicate, Nat.min_eq_left (by omega)]
theorem ldT_suc (code : List Irc) (i : Nat) (h : i ≠ 0) : ldT code i = (ldF code i).take code.length := by
  unfold ldT; rw [if_neg h]
theorem ldT_step {code : List Irc} {i : Nat} (hi : i < code.length) {C D : Bool} (hC : ((decide (code[i].kind = 4) || decide (code[i].kind = 5)) && decide (0 ≤ code[i].k) && decide (code[i].k < (code.length : Int))) = C)
    (hD : ((decide (code[i].kind = 4) || decide (code[i].kind = 5) || decide (code[i].kind = 8)) && decide (((i + 1 : Nat) : Int) < (code.length : Int))) = D) :
    ldT code (i + 1) = (if D then (if C then ((ldF code i).take code.length).set code[i].k.toNat true else (ldF code i).take code.length).set (i + 1) true else (if C then ((ldF code i).take code.length).set code[i].k.toNat true else (ldF code i).take code.length)) := by
  have hs : ∀ l : List Bool, code.length ≤ i + 1 → ((l.set (i + 1) true).take code.length) = l.take code.length := fun l h => by
    rw [List.take_set, List.set_eq_of_length_le (by rw [List.length_take]; omega)]
  have hlen : ∀ (o : List Bool), ¬ (((i + 1 : Nat) : Int) < (code.length : Int)) → code.length ≤ i + 1 := fun _ h => by omega
  rw [ldT_suc _ _ (by omega)]
  simp only [ldF, List.getElem?_eq_getElem hi]
  generalize code[i] = x at *
  generalize ldF code i = o at *
  unfold ldS
  by_cases h45 : x.kind = 4 ∨ x.kind = 5
  · have e45 : (decide (x.kind = 4) || decide (x.kind = 5)) = true := by simpa using h45
    rw [e45, Bool.true_or, Bool.true_and] at hD
    rw [e45, Bool.true_and] at hC
    rw [if_pos h45]
    have eC : (0 ≤ x.k ∧ x.k < code.length) ↔ C = true := by rw [← hC]; simp
    by_cases hc : C = true
    · rw [if_pos (eC.2 hc), hc]
      simp only [if_true]
      cases D with
      | true => rw [if_pos rfl, List.take_set, List.take_set]
      | false =>
        have := of_decide_eq_false hD
        rw [hs _ (by omega), List.take_set] <;> rfl
    · rw [if_neg (fun h => hc (eC.1 h))]
      have hc : C = false := by simpa using hc
      rw [hc]
      cases D with
      | true => simp [List.take_set]
      | false =>
        have := of_decide_eq_false hD
        rw [hs _ (by omega)] <;> rfl
  · have e45 : (decide (x.kind = 4) || decide (x.kind = 5)) = false := by
      rw [← Bool.not_eq_true]; simpa using h45
    rw [e45, Bool.false_or] at hD
    rw [e45, Bool.false_and, Bool.false_and] at hC
    rw [if_neg h45, ← hC]
    by_cases h8 : x.kind = 8
    · rw [decide_eq_true h8, Bool.true_and] at hD
      rw [if_pos h8]
      cases D with
      | true => simp [List.take_set]
      | false =>
        have := of_decide_eq_false hD
        rw [hs _ (by omega)] <;> rfl
    · rw [decide_eq_false h8, Bool.false_and] at hD
      rw [if_neg h8, ← hD] <;> rfl
set_option maxHeartbeats 1000000 in
theorem LeadersR_pt (c : Cod) (hz : c.code.length * 88 ≤ 140737488351232) : Pt Tryz.prog F_swageref9_Leaders [.agg c.c] (slB (leadersF c.code)) := by
  refine Pt.of (pc_swageref9_Leaders (by simp) ?_)
  simp only [S_swageref9_Leaders, R_swageref9_Leaders, MU_swageref9_Leaders, SW, SV, wpD, evDL, evDM, evD, bldLD, wpSp, DMem.mt, beq_self_eq_true, seval]
  refine mkB (by omega) fun b M1 hb hM1 => ?_
  have hbM : DMem.mt b = none := hb
  have hM1b : M1 b = some ⟨4, c.code.length, (ldT c.code 0).map .bool⟩ := by
    rw [hM1, DMem.ins_same]; unfold ldT; simp
  clear hM1 hb hbM
  try simp only [SW, SV, wpD, evDL, evDM, evD, bldLD, wpSp, DMem.mt, beq_self_eq_true, seval]
  refine ⟨fun k δ M => ∃ i : Nat, i ≤ c.code.length ∧ k = c.code.length - i ∧ δ 1 = .ip c.c ∧ δ 3 = .msl b 0 c.code.length c.code.length ∧ δ 4 = .int .i64 i ∧ M b = some ⟨4, c.code.length, (ldT c.code i).map .bool⟩, c.code.length,
    ⟨0, Nat.zero_le _, rfl, rfl, rfl, rfl, hM1b⟩, ?_⟩
  clear hM1b
  rintro k δ M ⟨i, hi, rfl, h1, h3, h4, hMb⟩
  simp only [S1_swageref9_Leaders, MU_swageref9_Leaders, h1, h3, h4, SW, SV, wpD, evDL, evDM, evD, bldLD, wpSp, DMem.mt, beq_self_eq_true, seval, decide_eq_true_eq, decide_eq_false_iff_not]
  refine ⟨fun hlt => ?_, fun hge => ?_⟩
  · have hil : i < c.code.length := by omega
    have ei : wr64 ((i : Int) + 1) = ((i + 1 : Nat) : Int) := w64s (by omega)
    have hl0 := ldT_len c.code i
    have hix : ∀ {j : Nat}, j < c.code.length → ixD 1 (.msl b 0 c.code.length c.code.length) (.int .i64 (j : Int)) = some (.mp b j) := fun hj => by rw [ixM hj]; simp
    have put : ∀ {M5 : DMem} {o : List Bool} {j : Nat} {Post : DV → DMem → Prop}, M5 b = some ⟨4, c.code.length, o.map .bool⟩ → o.length = c.code.length → j < c.code.length → (∀ M6, M6 b = some ⟨4, c.code.length, (o.set j true).map .bool⟩ → Post (.raw undef) M6) → StoreD M5 1 (.mp b j) (.bool true) Post := by
      intro M5 o j Post h5 ho hj hP
      refine stD h5 rfl rfl (by rw [List.length_map]; omega) (by omega) rfl fun M6 hM6 => hP M6 ?_
      rw [hM6, DMem.ins_same, splD_one (by rw [List.length_map]; omega), ← List.map_set]
    have nxt : ∀ {M6 : DMem} {o : List Bool}, M6 b = some ⟨4, c.code.length, o.map .bool⟩ → o = ldT c.code (i + 1) → ∃ k' M0, k' < c.code.length - i ∧ SubD M0 M6 ∧ ∃ j : Nat, j ≤ c.code.length ∧ k' = c.code.length - j ∧ ((i + 1 : Nat) : Int) = (j : Int) ∧ M0 b = some ⟨4, c.code.length, (ldT c.code j).map .bool⟩ := by
      rintro M6 o h6 rfl
      exact ⟨c.code.length - (i + 1), M6, by omega, SubD.refl _, i + 1, by omega, rfl, rfl, h6⟩
    have hn : 0 < c.code.length := by omega
    have hi0 : ixD 1 (.msl b 0 c.code.length c.code.length) (.int .i64 0) = some (.mp b 0) := hix (j := 0) hn
    have hsT : decide ((i : Int) = 0) = false → ldT c.code i = (ldF c.code i).take c.code.length := fun h => ldT_suc _ _ (by have := of_decide_eq_false h; omega)
    have h0T : decide ((i : Int) = 0) = true → (ldT c.code i).set 0 true = (ldF c.code i).take c.code.length := fun h => by
      have h := of_decide_eq_true h
      obtain rfl : i = 0 := by omega
      exact ldT_zero _ hn
    have hstep := @ldT_step c.code i hil
    obtain ⟨kn, hkn⟩ : ∃ kn : Nat, c.code[i].k.toNat = kn := ⟨_, rfl⟩
    rw [hkn] at hstep
    have hki : ∀ {C : Bool}, ((decide (c.code[i].kind = 4) || decide (c.code[i].kind = 5)) && decide (0 ≤ c.code[i].k) && decide (c.code[i].k < (c.code.length : Int))) = true → c.code[i].k = (kn : Int) ∧ kn < c.code.length := fun h => by
      simp only [Bool.and_eq_true, decide_eq_true_eq] at h
      omega
    have hdn : ((decide (c.code[i].kind = 4) || decide (c.code[i].kind = 5) || decide (c.code[i].kind = 8)) && decide (((i + 1 : Nat) : Int) < (c.code.length : Int))) = true → i + 1 < c.code.length := fun h => by
      simp only [Bool.and_eq_true, decide_eq_true_eq] at h
      omega
    have ixc := ix_slD (k := .i64) Irc.len hil
    generalize c.code[i] = x at *
    cases hz0 : decide ((i : Int) = 0) <;> cases hC : ((decide (x.kind = 4) || decide (x.kind = 5)) && decide (0 ≤ x.k) && decide (x.k < (c.code.length : Int))) <;> cases hD : ((decide (x.kind = 4) || decide (x.kind = 5) || decide (x.kind = 8)) && decide (((i + 1 : Nat) : Int) < (c.code.length : Int)))
    · have hst := hstep hC hD
      simp only [ixc, h1, h3, h4, ei, hz0, hC, hD, hi0, SW, SV, wpD, evDL, evDM, evD, bldLD, wpSp, DMem.mt, beq_self_eq_true, seval]
      exact nxt hMb (by rw [hst, ← hsT hz0] <;> rfl)
    · have hst := hstep hC hD
      have hdn := hdn hD
      have hi1 := hix hdn
      simp only [ixc, h1, h3, h4, ei, hz0, hC, hD, hi0, hi1, SW, SV, wpD, evDL, evDM, evD, bldLD, wpSp, DMem.mt, beq_self_eq_true, seval]
      refine put hMb (by simp [hl0]) hdn fun M2 m2 => ?_
      try simp only [ixc, h1, h3, h4, ei, hz0, hC, hD, hi0, hi1, SW, SV, wpD, evDL, evDM, evD, bldLD, wpSp, DMem.mt, beq_self_eq_true, seval]
      exact nxt m2 (by rw [hst, ← hsT hz0] <;> rfl)
    · have hst := hstep hC hD
      obtain ⟨ek, hkn⟩ := hki (C := true) hC
      have hi2 := hix hkn
      rw [← ek] at hi2
      simp only [ixc, h1, h3, h4, ei, hz0, hC, hD, hi0, hi2, SW, SV, wpD, evDL, evDM, evD, bldLD, wpSp, DMem.mt, beq_self_eq_true, seval]
      refine put hMb (by simp [hl0]) hkn fun M2 m2 => ?_
      try simp only [ixc, h1, h3, h4, ei, hz0, hC, hD, hi0, hi2, SW, SV, wpD, evDL, evDM, evD, bldLD, wpSp, DMem.mt, beq_self_eq_true, seval]
      exact nxt m2 (by rw [hst, ← hsT hz0] <;> rfl)
    · have hst := hstep hC hD
      obtain ⟨ek, hkn⟩ := hki (C := true) hC
      have hi2 := hix hkn
      rw [← ek] at hi2
      have hdn := hdn hD
      have hi1 := hix hdn
      simp only [ixc, h1, h3, h4, ei, hz0, hC, hD, hi0, hi2, hi1, SW, SV, wpD, evDL, evDM, evD, bldLD, wpSp, DMem.mt, beq_self_eq_true, seval]
      refine put hMb (by simp [hl0]) hkn fun M2 m2 => ?_
      try simp only [ixc, h1, h3, h4, ei, hz0, hC, hD, hi0, hi2, hi1, SW, SV, wpD, evDL, evDM, evD, bldLD, wpSp, DMem.mt, beq_self_eq_true, seval]
      refine put m2 (by simp [hl0]) hdn fun M3 m3 => ?_
      try simp only [ixc, h1, h3, h4, ei, hz0, hC, hD, hi0, hi2, hi1, SW, SV, wpD, evDL, evDM, evD, bldLD, wpSp, DMem.mt, beq_self_eq_true, seval]
      exact nxt m3 (by rw [hst, ← hsT hz0] <;> rfl)
    · have hst := hstep hC hD
      simp only [ixc, h1, h3, h4, ei, hz0, hC, hD, hi0, SW, SV, wpD, evDL, evDM, evD, bldLD, wpSp, DMem.mt, beq_self_eq_true, seval]
      refine put hMb (by simp [hl0]) hn fun M2 m2 => ?_
      try simp only [ixc, h1, h3, h4, ei, hz0, hC, hD, hi0, SW, SV, wpD, evDL, evDM, evD, bldLD, wpSp, DMem.mt, beq_self_eq_true, seval]
      exact nxt m2 (by rw [hst, ← h0T hz0] <;> rfl)
    · have hst := hstep hC hD
      have hdn := hdn hD
      have hi1 := hix hdn
      simp only [ixc, h1, h3, h4, ei, hz0, hC, hD, hi0, hi1, SW, SV, wpD, evDL, evDM, evD, bldLD, wpSp, DMem.mt, beq_self_eq_true, seval]
      refine put hMb (by simp [hl0]) hn fun M2 m2 => ?_
      try simp only [ixc, h1, h3, h4, ei, hz0, hC, hD, hi0, hi1, SW, SV, wpD, evDL, evDM, evD, bldLD, wpSp, DMem.mt, beq_self_eq_true, seval]
      refine put m2 (by simp [hl0]) hdn fun M3 m3 => ?_
      try simp only [ixc, h1, h3, h4, ei, hz0, hC, hD, hi0, hi1, SW, SV, wpD, evDL, evDM, evD, bldLD, wpSp, DMem.mt, beq_self_eq_true, seval]
      exact nxt m3 (by rw [hst, ← h0T hz0] <;> rfl)
    · have hst := hstep hC hD
      obtain ⟨ek, hkn⟩ := hki (C := true) hC
      have hi2 := hix hkn
      rw [← ek] at hi2
      simp only [ixc, h1, h3, h4, ei, hz0, hC, hD, hi0, hi2, SW, SV, wpD, evDL, evDM, evD, bldLD, wpSp, DMem.mt, beq_self_eq_true, seval]
      refine put hMb (by simp [hl0]) hn fun M2 m2 => ?_
      try simp only [ixc, h1, h3, h4, ei, hz0, hC, hD, hi0, hi2, SW, SV, wpD, evDL, evDM, evD, bldLD, wpSp, DMem.mt, beq_self_eq_true, seval]
      refine put m2 (by simp [hl0]) hkn fun M3 m3 => ?_
      try simp only [ixc, h1, h3, h4, ei, hz0, hC, hD, hi0, hi2, SW, SV, wpD, evDL, evDM, evD, bldLD, wpSp, DMem.mt, beq_self_eq_true, seval]
      exact nxt m3 (by rw [hst, ← h0T hz0] <;> rfl)
    · have hst := hstep hC hD
      obtain ⟨ek, hkn⟩ := hki (C := true) hC
      have hi2 := hix hkn
      rw [← ek] at hi2
      have hdn := hdn hD
      have hi1 := hix hdn
      simp only [ixc, h1, h3, h4, ei, hz0, hC, hD, hi0, hi2, hi1, SW, SV, wpD, evDL, evDM, evD, bldLD, wpSp, DMem.mt, beq_self_eq_true, seval]
      refine put hMb (by simp [hl0]) hn fun M2 m2 => ?_
      try simp only [ixc, h1, h3, h4, ei, hz0, hC, hD, hi0, hi2, hi1, SW, SV, wpD, evDL, evDM, evD, bldLD, wpSp, DMem.mt, beq_self_eq_true, seval]
      refine put m2 (by simp [hl0]) hkn fun M3 m3 => ?_
      try simp only [ixc, h1, h3, h4, ei, hz0, hC, hD, hi0, hi2, hi1, SW, SV, wpD, evDL, evDM, evD, bldLD, wpSp, DMem.mt, beq_self_eq_true, seval]
      refine put m3 (by simp [hl0]) hdn fun M4 m4 => ?_
      try simp only [ixc, h1, h3, h4, ei, hz0, hC, hD, hi0, hi2, hi1, SW, SV, wpD, evDL, evDM, evD, bldLD, wpSp, DMem.mt, beq_self_eq_true, seval]
      exact nxt m4 (by rw [hst, ← h0T hz0] <;> rfl)
  · have : i = c.code.length := by omega
    subst this
    have hlT : ldT c.code c.code.length = leadersF c.code := by
      unfold ldT leadersF
      split
      · rename_i h; rw [h] <;> rfl
      · rfl
    rw [hlT] at hMb
    have hl : (leadersF c.code).length = c.code.length := by rw [← hlT]; exact ldT_len _ _
    try simp only [h3, SW, SV, wpD, evDL, evDM, evD, bldLD, wpSp, DMem.mt, beq_self_eq_true, seval]
    have hMo : DMem.only M [b] b = some ⟨4, c.code.length, (leadersF c.code).map .bool⟩ := by rw [DMem.only_in (by simp)]; exact hMb
    refine ⟨DMem.only M [b], DMem.only_sub _ _, ⟨rfl, fun y B hy => ?_⟩, fun m v hv => ?_⟩
    · unfold DMem.only at hy
      split at hy
      · rename_i hyb
        have : y = b := by simpa using hyb
        subst this
        rw [hMb] at hy; cases hy
        exact thawed_bools _
      · cases hy
    · rw [fz_msl hMo 3 0 _ _ (Nat.le_refl _), List.drop_zero] at hv
      have hm : (List.map (fz (DMem.only M [b]) 3) (List.map DV.bool (leadersF c.code))) = (leadersF c.code).map .bool ++ [] := by
        rw [List.map_map, List.append_nil]
        exact List.map_congr_left fun x _ => fz_bool _ _ _
      simp only at hv
      rw [hm] at hv
      have := rep_isl hv
      unfold slB
      rw [hl]; exact this
end Go.Proofs.YticlgdhhnjpkjaaGreatDoor.Pf
namespace Go.Proofs.YticlgdhhnjpkjaaGreatDoor.Pf
open Go Go.RowKit Go.Proofs Go.Proofs.YticlgdhhnjpkjaaGreatDoor.Mw Go.Proofs.YticlgdhhnjpkjaaGreatDoor.Sx
set_option linter.unusedVariables false
set_option linter.unusedSimpArgs false
set_option maxRecDepth 8000
def SrcC (c : Cod) : Prop := ∀ m ∈ c.metas, m.length * 64 ≤ 140737488351232 ∧ ∀ x ∈ m, x.locals.length * 16 ≤ 140737488351232 ∧ x.stack.length * 16 ≤ 140737488351232
theorem CopyCode_pt (c : Cod) (hz : SzC c) (hs : SrcC c) : Pt Tryz.prog F_swagelaw0_CopyCode [.agg c.c] (.agg c.c) := by
  refine Pt.of (CopyCode_pc c hz hs fun dc dm M' Sc Sm g1 g2 g3 _ _ => ?_)
  obtain ⟨t1, t2⟩ := irE_th.sl g1
  obtain ⟨t3, t4⟩ := metaE_th.sl g2
  have o1 : SlAt irE (DMem.only M' (Sc ++ Sm)) dc c.code Sc := SlAt.only irE_ok g1 (fun b hb => by simp [hb])
  have o2 : SlAt metaE (DMem.only M' (Sc ++ Sm)) dm c.metas Sm := SlAt.only metaE_ok g2 (fun b hb => by simp [hb])
  refine ⟨DMem.only M' (Sc ++ Sm), DMem.only_sub _ _, ⟨by simp only [thawed, thawedL, t1, t3] <;> rfl, fun b B hb => ?_⟩, fun m v hv => ?_⟩
  · unfold DMem.only at hb
    split at hb
    · rename_i hm
      rcases List.mem_append.1 hm with hm | hm
      · exact t2 b hm B hb
      · exact t4 b hm B hb
    · cases hb
  · rw [fz_agg] at hv
    simp only [List.map_cons, List.map_nil, fz_int] at hv
    rw [o1.fz irE_ok (k := 3) (by decide), o2.fz metaE_ok (k := 3) (by decide)] at hv
    exact hv
end Go.Proofs.YticlgdhhnjpkjaaGreatDoor.Pf
namespace Go.Proofs.YticlgdhhnjpkjaaGreatDoor.Pf
open Go Go.RowKit Go.Proofs Go.Proofs.YticlgdhhnjpkjaaGreatDoor.Mw Go.Proofs.YticlgdhhnjpkjaaGreatDoor.Sx
set_option linter.unusedVariables false
set_option linter.unusedSimpArgs false
set_option maxRecDepth 8000
def gc (y : Irc × DV) : List DV := [.int .i64 y.1.kind, .int .i64 y.1.r, .int .i64 y.1.a, .int .i64 y.1.b, .int .i64 y.1.k, y.2, .int .i64 y.1.cost, .int .i64 y.1.mt, .int .i64 y.1.pc]
theorem gc_split (l : List (Irc × DV)) {i : Nat} (hi : i < l.length) : l.flatMap gc = (l.take i).flatMap gc ++ gc l[i] ++ (l.drop (i + 1)).flatMap gc := by
  have e : l = l.take i ++ (l[i] :: l.drop (i + 1)) := by rw [← List.drop_eq_getElem_cons hi, List.take_append_drop]
  calc l.flatMap gc = (l.take i ++ (l[i] :: l.drop (i + 1))).flatMap gc := congrArg (List.flatMap gc) e
    _ = _ := by rw [List.flatMap_append, List.flatMap_cons, List.append_assoc]
theorem gc_len : ∀ l : List (Irc × DV), (l.flatMap gc).length = l.length * 9
  | [] => rfl
  | x :: l => by rw [List.flatMap_cons, List.length_append, gc_len l, List.length_cons]; show 9 + _ = _; omega
theorem gc_set (l : List (Irc × DV)) {i : Nat} (hi : i < l.length) (y : Irc × DV) : (l.set i y).flatMap gc = (l.take i).flatMap gc ++ gc y ++ (l.drop (i + 1)).flatMap gc := by
  rw [List.set_eq_take_append_cons_drop, if_pos hi]
  simp [List.append_assoc]
theorem gc_tl (l : List (Irc × DV)) {i : Nat} (hi : i < l.length) : ((l.take i).flatMap gc).length = i * 9 := by rw [gc_len, List.length_take]; rw [Nat.min_eq_left (by omega)]
theorem gc_get {M : DMem} {ob N t j : Nat} {ty : TypeId} {l : List (Irc × DV)} {v : DV} (h : M ob = some ⟨ty, N, l.flatMap gc⟩) (ht : t < l.length) (hj : j < 9) (hv : (gc l[t])[j]? = some v) : ldD M (.mp ob (t * 9 + j)) = some v := by
  rw [ldM, h]
  show (l.flatMap gc)[t * 9 + j]? = _
  rw [gc_split l ht, get_field (gc_tl l ht) hj]; exact hv
theorem gc_ldn {M : DMem} {ob N t : Nat} {ty : TypeId} {l : List (Irc × DV)} (h : M ob = some ⟨ty, N, l.flatMap gc⟩) (ht : t < l.length) : ldnD M 9 (.mp ob (t * 9)) = some (.agg (gc l[t])) := by
  rw [ldnM, h]
  show (if t * 9 + 9 ≤ (l.flatMap gc).length then some (DV.agg (((l.flatMap gc).drop (t * 9)).take 9)) else none) = _
  rw [if_pos (by rw [gc_len]; omega), gc_split l ht, take_field (sz := 9) (gc_tl l ht) rfl]
theorem gc_store {M : DMem} {ob N t j : Nat} {ty : TypeId} {l : List (Irc × DV)} {v : Int} {y : Irc × DV} {Post : DV → DMem → Prop} (h : M ob = some ⟨ty, N, l.flatMap gc⟩) (ht : t < l.length) (hN : l.length * 9 ≤ N) (hj : j < 9) (hy : (gc l[t]).set j (.int .i64 v) = gc y)
    (hP : ∀ M', M' = M.ins ob ⟨ty, N, (l.set t y).flatMap gc⟩ → Post (.raw undef) M') : StoreD M 1 (.mp ob (t * 9 + j)) (.int .i64 v) Post := by
  refine stD h rfl rfl (by rw [gc_len]; omega) (by omega) rfl fun M' hM' => hP M' ?_
  rw [hM', gc_set l ht, gc_split l ht, splD_field (gc_tl l ht) hj, hy]
def Hd (M1 : DMem) (SA : List Nat) (y : Irc × DV) : Prop := ∃ T, SlAt intE M1 y.2 y.1.args T ∧ ∀ b ∈ T, b ∈ SA
theorem irs_gc {M : DMem} : ∀ {xs : List Irc} {cs : List DV} {S : List Nat}, RowAt irE M xs cs S → ∃ l : List (Irc × DV), l.map (·.1) = xs ∧ cs = l.flatMap gc ∧ ∀ y ∈ l, Hd M S y
  | [], cs, S, h => ⟨[], rfl, h.1, fun y hy => by simp at hy⟩
  | x :: xs, cs, S, ⟨c1, c2, S1, S2, e1, e2, ⟨d, h1, h1'⟩, h2⟩ => by
    obtain ⟨l, g1, g2, g3⟩ := irs_gc h2
    refine ⟨(x, d) :: l, by rw [List.map_cons, g1], by rw [e1, h1, g2] <;> rfl, fun y hy => ?_⟩
    rcases List.mem_cons.1 hy with rfl | hy
    · exact ⟨S1, h1', fun b hb => by rw [e2]; exact List.mem_append_left _ hb⟩
    · obtain ⟨T, t1, t2⟩ := g3 y hy
      exact ⟨T, t1, fun b hb => by rw [e2]; exact List.mem_append_right _ (t2 b hb)⟩
structure SqC (M1 : DMem) (ob cap q8 pb o n : Nat) (SA : List Nat) : Prop where
  hob : M1 ob ≠ none
  ho : M1 o ≠ none
  hq : M1 q8 = none
  hp : M1 pb = none
  qp : q8 ≠ pb
  oo : ob ≠ o
  nc : n ≤ cap
  sa : ∀ b ∈ SA, M1 b ≠ none ∧ b ≠ ob ∧ b ≠ o
structure SqSt (tyo : TypeId) (M1 M : DMem) (ob cap q8 pb o : Nat) (fn regs : Int) (dm : DV) (SA : List Nat) (n : Nat) (lo le : List (Irc × DV)) (dO : DV) (st : List Int) : Prop where
  own : M ob = some ⟨tyo, cap * 9, lo.flatMap gc⟩
  lon : lo.length = n
  loh : ∀ y ∈ lo, Hd M1 SA y
  q : M q8 = some ⟨29, 4, [.int .i64 fn, .int .i64 regs, dO, dm]⟩
  out : OwnD M 9 dO le.length (le.flatMap gc)
  leh : ∀ y ∈ le, Hd M1 SA y
  blk : ∀ b, blkD dO = some b → M1 b = none ∧ b ≠ q8 ∧ b ≠ pb
  p : M pb = some ⟨3, n, st.map (.int .i64)⟩
  stl : st.length = n
  keep : ∀ y B, M1 y = some B → y ≠ ob → y ≠ o → M y = some B
  oo : M o = some ⟨29, 4, [.int .i64 0, .int .i64 0, .zsl, .zsl]⟩
theorem OwnD.at9 {M M' : DMem} {d : DV} {n : Nat} {cs : List DV} (h : OwnD M 9 d n cs) (hk : ∀ b, blkD d = some b → M' b = M b) : OwnD M' 9 d n cs := by
  obtain ⟨h0, ⟨rfl, rfl⟩ | ⟨b, c, ty, rfl, h1, h2, h3⟩⟩ := h
  · exact ⟨h0, .inl ⟨rfl, rfl⟩⟩
  · exact ⟨h0, .inr ⟨b, c, ty, rfl, by rw [hk b (by simp only [blkD]; rw [if_neg (by omega)]), h1], h2, h3⟩⟩
section
variable {tyo : TypeId} {M1 M M' : DMem} {ob cap q8 pb o n : Nat} {fn regs : Int} {dm dO : DV} {SA : List Nat} {lo le : List (Irc × DV)} {st : List Int}
theorem some_ne {M : DMem} {x : Nat} {B : DBlk} (h : M x = some B) : M x ≠ none := by rw [h]; simp
theorem SqSt.place (hc : SqC M1 ob cap q8 pb o n SA) (h : SqSt tyo M1 M ob cap q8 pb o fn regs dm SA n lo le dO st) {t : Nat} {v : Int} (hM : M' = M.ins pb ⟨3, n, (st.set t v).map (.int .i64)⟩) : SqSt tyo M1 M' ob cap q8 pb o fn regs dm SA n lo le dO (st.set t v) := by
  have n1 : ∀ y, y ≠ pb → M' y = M y := fun y hy => by rw [hM, DMem.ins_ne _ _ hy]
  have hpn : ∀ y, M1 y ≠ none → y ≠ pb := fun y hy e => hy (e ▸ hc.hp)
  exact ⟨by rw [n1 ob (hpn _ hc.hob)]; exact h.own, h.lon, h.loh, by rw [n1 q8 hc.qp]; exact h.q, OwnD.at9 h.out fun b hb => n1 b (h.blk b hb).2.2, h.leh, h.blk, by rw [hM, DMem.ins_same], by rw [List.length_set]; exact h.stl,
    fun y B hB g1 g2 => by rw [n1 y (hpn y (some_ne hB))]; exact h.keep y B hB g1 g2, by rw [n1 o (hpn _ hc.ho)]; exact h.oo⟩
theorem SqSt.cost (hc : SqC M1 ob cap q8 pb o n SA) (h : SqSt tyo M1 M ob cap q8 pb o fn regs dm SA n lo le dO st) {t : Nat} {y : Irc × DV} (hy : Hd M1 SA y) (hM : M' = M.ins ob ⟨tyo, cap * 9, (lo.set t y).flatMap gc⟩) : SqSt tyo M1 M' ob cap q8 pb o fn regs dm SA n (lo.set t y) le dO st := by
  have n1 : ∀ y, y ≠ ob → M' y = M y := fun y hy => by rw [hM, DMem.ins_ne _ _ hy]
  have hpn : ∀ y, M1 y = none → y ≠ ob := fun y hy e => hc.hob (e ▸ hy)
  refine ⟨by rw [hM, DMem.ins_same], by rw [List.length_set]; exact h.lon, fun z hz => ?_, by rw [n1 q8 (hpn _ hc.hq)]; exact h.q, OwnD.at9 h.out fun b hb => n1 b (hpn b (h.blk b hb).1), h.leh, h.blk, by rw [n1 pb (hpn _ hc.hp)]; exact h.p, h.stl,
    fun y B hB g1 g2 => by rw [n1 y g1]; exact h.keep y B hB g1 g2, by rw [n1 o (Ne.symm hc.oo)]; exact h.oo⟩
  rcases List.mem_or_eq_of_mem_set hz with hz | rfl
  · exact h.loh z hz
  · exact hy
theorem SqSt.more (hc : SqC M1 ob cap q8 pb o n SA) (h : SqSt tyo M1 M ob cap q8 pb o fn regs dm SA n lo le dO st) {M2 : DMem} {d' : DV} {y : Irc × DV} (hy : Hd M1 SA y) (ho : OwnD M2 9 d' (le.length + 1) (le.flatMap gc ++ gc y)) (hg : GrewD M M2 dO d') (hM : M' = M2.ins q8 ⟨29, 4, [.int .i64 fn, .int .i64 regs, d', dm]⟩) : SqSt tyo M1 M' ob cap q8 pb o fn regs dm SA n lo (le ++ [y]) d' st := by
  have n1 : ∀ y, y ≠ q8 → M' y = M2 y := fun y hy => by rw [hM, DMem.ins_ne _ _ hy]
  have hqn : ∀ y, M1 y ≠ none → y ≠ q8 := fun y hy e => hy (e ▸ hc.hq)
  have hbn : ∀ y, M1 y ≠ none → blkD dO ≠ some y := fun y hy e => hy (h.blk y e).1
  have hdead : ∀ y, M y = none → M1 y = none := fun y hy => by
    cases e : M1 y with
    | none => rfl
    | some B =>
      by_cases e1 : y = ob
      · subst e1; rw [h.own] at hy; cases hy
      · by_cases e2 : y = o
        · subst e2; rw [h.oo] at hy; cases hy
        · rw [h.keep y B e e1 e2] at hy; cases hy
  have hb' : ∀ b, blkD d' = some b → M1 b = none ∧ b ≠ q8 ∧ b ≠ pb := fun b hb => by
    rcases hg.here with e | ⟨x, e, hx⟩
    · exact h.blk b (e ▸ hb)
    · rw [hb] at e; cases e
      exact ⟨hdead b hx, (by rintro rfl; rw [h.q] at hx; cases hx), (by rintro rfl; rw [h.p] at hx; cases hx)⟩
  refine ⟨by rw [n1 ob (hqn _ hc.hob)]; exact hg.keep _ _ h.own (hbn _ hc.hob), h.lon, h.loh, by rw [hM, DMem.ins_same], ?_, fun z hz => ?_, hb', by rw [n1 pb (Ne.symm hc.qp)]; exact hg.keep _ _ h.p (fun e => (h.blk pb e).2.2 rfl), h.stl,
    fun y B hB g1 g2 => by rw [n1 y (hqn y (some_ne hB))]; exact hg.keep _ _ (h.keep y B hB g1 g2) (hbn y (some_ne hB)), by rw [n1 o (hqn _ hc.ho)]; exact hg.keep _ _ h.oo (hbn _ hc.ho)⟩
  · rw [List.length_append, List.length_singleton, List.flatMap_append, List.flatMap_singleton]
    exact OwnD.at9 ho fun b hb => n1 b (hb' b hb).2.1
  · rcases List.mem_append.1 hz with hz | hz
    · exact h.leh z hz
    · rw [List.mem_singleton.1 hz]; exact hy
end
end Go.Proofs.YticlgdhhnjpkjaaGreatDoor.Pf
