/- Xc Xd Fc Fr Fs Ft Fv Mr Mt Do Dp Lw: joined texts of this claim. No condition. -/
import Derived.Test.YticlgdhhnjpkjaaGreatDoorJmjj
import Derived.Test.YticlgdhhnjpkjaaGreatDoorJmjh
import Derived.Test.YticlgdhhnjpkjaaGreatDoorJmjk
import Derived.Test.YticlgdhhnjpkjaaGreatDoorJmje
import Derived.Test.YticlgdhhnjpkjaaGreatDoorJmjg
import Derived.Test.YticlgdhhnjpkjaaGreatDoorJmjd
import Derived.WalkKit
import Derived.ProofKit
import Derived.OpenShut
import Derived.ShutString
import Derived.ChangeOld
import Derived.Below
import Derived.Carry
import Derived.SizedLaws
import Derived.ChangeSame
import Derived.ChangeVars
import Derived.JoinedOf
import Derived.LaidLaws
import Derived.LaidHandle
import Derived.Handed
import Derived.Stop.Joined
import Derived.Deep.Slices
import Derived.Test.YticlgdhhnjpkjaaGreatDoorRows
import Derived.Test.YticlgdhhnjpkjaaGreatDoorTie
import Derived.Test.YticlgdhhnjpkjaaGreatDoorCards
import Derived.Lib.SmallJoins
import Derived.SevenTiedAt
namespace Go.Proofs.YticlgdhhnjpkjaaGreatDoor.Pf
open Go Go.RowKit Go.Proofs Go.Proofs.YticlgdhhnjpkjaaGreatDoor.Mw Go.Proofs.YticlgdhhnjpkjaaGreatDoor.Sx
set_option linter.unusedVariables false
set_option linter.unusedSimpArgs false
set_option maxRecDepth 8000
def runG (code : List Irc) (L : List Bool) (from' : Nat) : Nat → Nat → Int → Nat × Int
  | 0, to, cost => (to, cost)
  | k + 1, to, cost => match code[to]? with
    | some x => if x.kind = 0 ∧ (to = from' ∨ L.getD to false = false) then runG code L from' k (to + 1) (cost + x.cost) else (to, cost)
    | none => (to, cost)
def runR (code : List Irc) (L : List Bool) (from' : Nat) : Nat × Int := runG code L from' (code.length - from') from' 0
end Go.Proofs.YticlgdhhnjpkjaaGreatDoor.Pf
namespace Go.Proofs.YticlgdhhnjpkjaaGreatDoor.Pf
open Go Go.RowKit Go.Proofs Go.Proofs.YticlgdhhnjpkjaaGreatDoor.Mw Go.Proofs.YticlgdhhnjpkjaaGreatDoor.Sx
set_option linter.unusedVariables false
set_option linter.unusedSimpArgs false
structure IrOk (p : List Fnc) (n mm i : Nat) (x : Irc) : Prop where
  c0 : 0 ≤ x.cost ∧ x.cost ≤ 256
  p0 : 0 ≤ x.pc ∧ x.pc < 64
  k0 : 0 ≤ x.kind ∧ x.kind ≤ 11
  go : x.kind = 4 ∨ x.kind = 5 → 0 ≤ x.k ∧ x.k < n ∧ ((i : Int) < x.k ∨ 0 < x.cost)
  ar : x.args.length ≤ 4
structure MayOk (p : List Fnc) (c : Cod) : Prop where
  v : verifyE p = 0
  n : 1 ≤ c.code.length ∧ c.code.length ≤ 256
  m : c.metas.length ≤ 64
  ir : ∀ (i : Nat) (h : i < c.code.length), IrOk p c.code.length c.metas.length i c.code[i]
  sz : ∀ m ∈ c.metas, SizeM m
  last : ∀ x, c.code[c.code.length - 1]? = some x → x.kind = 4 ∨ x.kind = 8
end Go.Proofs.YticlgdhhnjpkjaaGreatDoor.Pf
namespace Go.Proofs.YticlgdhhnjpkjaaGreatDoor.Pf
open Go Go.RowKit Go.Proofs Go.Proofs.YticlgdhhnjpkjaaGreatDoor.Mw Go.Proofs.YticlgdhhnjpkjaaGreatDoor.Sx
set_option linter.unusedVariables false
set_option linter.unusedSimpArgs false
def stF' (f : Int → Option Int) (v : Int) : Int := (f v).getD v
def cpIr (f : Int → Option Int) (x : Irc) : Irc :=
  if x.kind = 3 then { x with a := stF' f x.a, b := stF' f x.b }
  else if x.kind = 2 ∨ x.kind = 5 ∨ x.kind = 7 ∨ x.kind = 8 ∨ x.kind = 9 then { x with a := stF' f x.a }
  else if x.kind = 6 then { x with args := x.args.map (stF' f) }
  else x
def cpSrc (f : Int → Option Int) (s : Src) : Src := if s.const = true then s else ⟨false, stF' f s.v⟩
def mapP (g : Src → Src) (x : Part) : Part := ⟨x.fn, x.pc, x.locals.map g, x.stack.map g⟩
def forget (f : Int → Option Int) (r : Int) : Int → Option Int := fun k => (f k).bind fun v => if (decide (k = r) || decide (v = r)) = true then none else some v
structure CpSt where
  f : Int → Option Int
  code : List Irc
  metas : List (List Part)
def blankI (x : Irc) : Irc := ⟨0, 0, 0, 0, 0, [], x.cost, 0, x.pc⟩
def cpF0 (L : List Bool) (i : Nat) (f : Int → Option Int) : Int → Option Int := if L.getD i false = true then fun _ => none else f
def setM (ms : List (List Part)) (x : Irc) (g : Src → Src) : List (List Part) := if leavesB x.kind = true then ms.modify x.mt.toNat (List.map (mapP g)) else ms
def cpStep (L : List Bool) (i : Nat) (s : CpSt) (x : Irc) : CpSt :=
  let f0 := cpF0 L i s.f
  let x1 := cpIr f0 x
  let f1 := if setsB x.kind = true then forget f0 x.r else f0
  if x.kind = 2 then
    if x1.a = x.r then ⟨f1, s.code.set i (blankI x), setM s.metas x (cpSrc f0)⟩
    else ⟨fun k => if k = x.r then some x1.a else f1 k, s.code.set i x1, setM s.metas x (cpSrc f0)⟩
  else ⟨f1, s.code.set i x1, setM s.metas x (cpSrc f0)⟩
def cpRun (c : Cod) : Nat → CpSt
  | 0 => ⟨fun _ => none, c.code, c.metas⟩
  | i + 1 => match c.code[i]? with
    | some x => cpStep (leadersF c.code) i (cpRun c i) x
    | none => cpRun c i
def copiesR (p : List Fnc) (c : Cod) : Cod × Int :=
  if codeMayB p c = true then (⟨c.fn, c.regs, (cpRun c c.code.length).code, (cpRun c c.code.length).metas⟩, 0) else (cod0, 1600)
theorem irMay_kind {p : List Fnc} {regs : Int} {n mm i : Nat} {x : Irc} (h : irMayB p regs n mm i x = true) : x.kind = 0 ∨ x.kind = 1 ∨ x.kind = 2 ∨ x.kind = 3 ∨ x.kind = 4 ∨ x.kind = 5 ∨ x.kind = 6 ∨ x.kind = 7 ∨ x.kind = 8 ∨ x.kind = 9 ∨ x.kind = 10 ∨ x.kind = 11 := by
  unfold irMayB at h
  rw [Bool.and_eq_true] at h
  have h := h.2
  refine Decidable.byContradiction fun hn => ?_
  simp only [not_or] at hn
  obtain ⟨h0, h1, h2, h3, h4, h5, h6, h7, h8, h9, h10, h11⟩ := hn
  rw [if_neg (by omega), if_neg h1, if_neg h2, if_neg h3, if_neg h4, if_neg h5, if_neg h6, if_neg h7, if_neg h8, if_neg h9, if_neg h10] at h
  cases h
end Go.Proofs.YticlgdhhnjpkjaaGreatDoor.Pf
namespace Go.Proofs.YticlgdhhnjpkjaaGreatDoor.Pf
open Go Go.RowKit Go.Proofs Go.Proofs.YticlgdhhnjpkjaaGreatDoor.Mw Go.Proofs.YticlgdhhnjpkjaaGreatDoor.Sx
set_option linter.unusedVariables false
set_option linter.unusedSimpArgs false
set_option maxRecDepth 8000
theorem ldn4_cod (M : DMem) (c : Cod) : ldnD M 4 (.ip [.int .i64 c.fn, .int .i64 c.regs, slD Irc.c c.code, slD metaC c.metas]) = some (.agg c.c) := rfl
theorem cod_froz' (c : Cod) : Froz (.agg c.c) := Froz.agg (Cod.froz c)
theorem gor1 (C D E : Bool) : ((grdD true (.bool C) (some (.bool D))).bind fun x => grdD false x (some (.bool E))).isSome = true := by
  cases C <;> cases D <;> rfl
theorem gor2 (C D E : Bool) : (andD (.bool C) ((grdD true (.bool C) (some (.bool D))).bind fun x => orD x (some (.bool E)))) = some (.bool (C && (D || E))) := by
  cases C <;> cases D <;> cases E <;> rfl
theorem regR_pf (c : Cod) (x : Int) : pf Tryz.prog F_swageref9_reg [.agg c.c, .int .i64 x] = some (.bool (regB c.regs x)) := by
  refine pf_of (v := .bool _) (pc_swageref9_reg (by simp) ?_) ((FrozL.nil.cons (Froz.int _ _)).cons (cod_froz' c)) rfl rfl
  simp only [S_swageref9_reg, R_swageref9_reg, MU_swageref9_reg, SW, SV, wpD, evDL, evDM, evD, bldLD, wpSp, DMem.mt, beq_self_eq_true, seval] <;> rfl
theorem stY {M : DMem} {q : Nat} {cs : List DV} {j : Nat} {v : Int} (h : M q = some ⟨50, 9, cs⟩) (hl : cs.length = 9) (hj : j < 9) {Post : DV → DMem → Prop} (hP : ∀ M', M' q = some ⟨50, 9, cs.set j (.int .i64 v)⟩ → Post (.raw undef) M') : StoreD M 1 (.mp q j) (.int .i64 v) Post :=
  stD h rfl rfl (by omega) (by omega) rfl fun M6 hM6 => hP M6 (by rw [hM6, DMem.ins_same, splD_one (by omega)])
set_option maxHeartbeats 2000000 in
theorem irMayR_pf (p : List Fnc) (c : Cod) (i : Nat) (hi : i < c.code.length) (ha : c.code[i].args.length * 8 ≤ 140737488351232) : pf Tryz.prog F_swageref9_irMay [.agg [slD Fnc.c p], .agg c.c, .int .i64 i] = some (.bool (irMayB p c.regs c.code.length c.metas.length i c.code[i])) := by
  refine pf_of (v := .bool _) (pc_swageref9_irMay (by simp) ?_) (((FrozL.nil.cons (Froz.int _ _)).cons (cod_froz' c)).cons (Froz.agg (FrozL.nil.cons (Froz.slD Fnc.froz p)))) rfl rfl
  have hN : ∀ x, pf Tryz.prog F_swageref1_Number [.int .i64 x] = some (.bool (isB x)) := Number_pf
  simp (config := { maxSteps := 4000000 }) only [S_swageref9_irMay, R_swageref9_irMay, MU_swageref9_irMay, ix_slD Irc.len hi, ldn_irc, SW, SV, wpD, evDL, evDM, evD, bldLD, wpSp, DMem.mt, beq_self_eq_true, seval]
  intro q M hM
  have hMq : M q = some ⟨50, 9, [.int .i64 c.code[i].kind, .int .i64 0, .int .i64 0, .int .i64 0, .int .i64 0, .zsl, .int .i64 c.code[i].cost, .int .i64 0, .int .i64 c.code[i].pc]⟩ := by rw [hM, DMem.ins_same]
  clear hM
  have hRg := regR_pf c
  have l4 : ∀ (K : DMem), ldnD K 4 (.ip c.c) = some (.agg c.c) := fun K => rfl
  have fzc : ∀ K k, fz K k (.agg c.c) = .agg c.c := fun K k => fz_of (cod_froz' c) K k
  generalize c.code[i] = x at *
  have fin : ∀ {δ : DEnv} {M' : DMem} {g : Bool} {n r a b k mt : Int} {KK XX}, δ 7 = .ip x.c → δ 8 = .mp q 0 → δ 9 = .bool g → δ 10 = .int .i64 n → M' q = some ⟨50, 9, [.int .i64 x.kind, .int .i64 r, .int .i64 a, .int .i64 b, .int .i64 k, .zsl, .int .i64 x.cost, .int .i64 mt, .int .i64 x.pc]⟩ →
      (g && decide (n = (x.args.length : Int)) && decide (x.r = r) && decide (x.a = a) && decide (x.b = b) && decide (x.k = k) && decide (x.mt = mt)) = irMayB p c.regs c.code.length c.metas.length i x →
      wpD Tryz.prog MU_swageref9_irMay (fun f => roL.contains f) (fun t => G_swageref9_irMay.contains t) 397 S2_swageref9_irMay KK XX (fun δ M' => δ 6 = .bool (irMayB p c.regs c.code.length c.metas.length i x)) δ M' := by
    intro δ M' g n r a b k mt KK XX h7 h8 h9 h10 hq he
    simp only [S2_swageref9_irMay, MU_swageref9_irMay, h7, h8, h9, h10, hq, SW, SV, wpD, evDL, evDM, evD, bldLD, wpSp, DMem.mt, beq_self_eq_true, seval]
    exact he
  have cl : (decide (0 ≤ x.cost) && decide (x.cost ≤ 256) && decide (0 ≤ x.pc) && decide (x.pc < 64)) = (decide (0 ≤ x.cost ∧ x.cost ≤ 256) && decide (0 ≤ x.pc ∧ x.pc < 64)) := by
    rw [Bool.eq_iff_iff]; simp only [Bool.and_eq_true, decide_eq_true_eq]; omega
  have al : (decide ((0 : Int) = x.args.length)) = decide (x.args = []) := decide_eq_decide.2 (by cases x.args <;> simp; omega)
  refine ⟨fun h0 => ?_, fun h0 => ⟨fun h1 => ?_, fun h1 => ⟨fun h2 => ?_, fun h2 => ⟨fun h3 => ?_, fun h3 => ⟨fun h4 => ?_, fun h4 => ⟨fun h5 => ?_, fun h5 => ⟨fun h6 => ?_, fun h6 => ⟨fun h7 => ?_, fun h7 => ⟨fun h9 => ?_, fun h9 => ⟨fun h10 => ?_, fun h10 => ?_⟩⟩⟩⟩⟩⟩⟩⟩⟩⟩
  · refine fin rfl rfl rfl rfl hMq ?_
    have : x.kind = 0 ∨ x.kind = 11 := by simpa using h0
    rw [cl, al]; unfold irMayB; rw [if_pos this]
    rw [Bool.eq_iff_iff]; simp only [Bool.and_eq_true, decide_eq_true_eq]
    grind
  · have hk : x.kind = 1 := of_decide_eq_true h1
    refine stY hMq rfl (by omega) fun M1 m1 => stY m1 rfl (by omega) fun M2 m2 => ?_
    try simp only [gor1, gor2, l4, fzc, hRg, hN, SW, SV, wpD, evDL, evDM, evD, bldLD, wpSp, DMem.mt, beq_self_eq_true, seval]
    refine fin rfl rfl rfl rfl m2 ?_
    rw [cl, al]; unfold irMayB; simp only [hk]
    rw [Bool.eq_iff_iff]; simp only [Bool.and_eq_true, Bool.or_eq_true, decide_eq_true_eq]
    grind
  · have hk : x.kind = 2 := of_decide_eq_true h2
    refine stY hMq rfl (by omega) fun M1 m1 => stY m1 rfl (by omega) fun M2 m2 => ?_
    try simp only [gor1, gor2, l4, fzc, hRg, hN, SW, SV, wpD, evDL, evDM, evD, bldLD, wpSp, DMem.mt, beq_self_eq_true, seval]
    refine fin rfl rfl rfl rfl m2 ?_
    rw [cl, al]; unfold irMayB; simp only [hk]
    rw [Bool.eq_iff_iff]; simp only [Bool.and_eq_true, Bool.or_eq_true, decide_eq_true_eq]
    grind
  · have hk : x.kind = 3 := of_decide_eq_true h3
    refine stY hMq rfl (by omega) fun M1 m1 => stY m1 rfl (by omega) fun M2 m2 => stY m2 rfl (by omega) fun M3 m3 => stY m3 rfl (by omega) fun M4 m4 => ?_
    try simp only [gor1, gor2, l4, fzc, hRg, hN, SW, SV, wpD, evDL, evDM, evD, bldLD, wpSp, DMem.mt, beq_self_eq_true, seval]
    refine fin rfl rfl rfl rfl m4 ?_
    rw [cl, al]; unfold irMayB; simp only [hk]
    rw [Bool.eq_iff_iff]; simp only [Bool.and_eq_true, Bool.or_eq_true, decide_eq_true_eq]
    grind
  · have hk : x.kind = 4 := of_decide_eq_true h4
    refine stY hMq rfl (by omega) fun M1 m1 => ?_
    try simp only [gor1, gor2, l4, fzc, hRg, hN, SW, SV, wpD, evDL, evDM, evD, bldLD, wpSp, DMem.mt, beq_self_eq_true, seval]
    refine fin rfl rfl rfl rfl m1 ?_
    rw [cl, al]; unfold irMayB; simp only [hk]
    rw [Bool.eq_iff_iff]; simp only [Bool.and_eq_true, Bool.or_eq_true, decide_eq_true_eq]
    grind
  · have hk : x.kind = 5 := of_decide_eq_true h5
    refine stY hMq rfl (by omega) fun M1 m1 => stY m1 rfl (by omega) fun M2 m2 => ?_
    try simp only [gor1, gor2, l4, fzc, hRg, hN, SW, SV, wpD, evDL, evDM, evD, bldLD, wpSp, DMem.mt, beq_self_eq_true, seval]
    refine fin rfl rfl rfl rfl m2 ?_
    rw [cl, al]; unfold irMayB; simp only [hk]
    rw [Bool.eq_iff_iff]; simp only [Bool.and_eq_true, Bool.or_eq_true, decide_eq_true_eq]
    grind
  · have hk : x.kind = 6 := of_decide_eq_true h6
    refine stY hMq rfl (by omega) fun M1 m1 => stY m1 rfl (by omega) fun M2 m2 => ?_
    generalize hC : (decide (0 ≤ x.cost) && decide (x.cost ≤ 256) && decide (0 ≤ x.pc) && decide (x.pc < 64)) = c0 at *
    have hA : (andD (.bool (c0 && regB c.regs x.r && decide (0 ≤ x.k) && decide (x.k < (p.length : Int)) && decide (0 < x.cost))) ((((ixD 3 (slD Fnc.c p) (.int .i64 x.k)).bind (faD 0)).bind (ldD M2)).bind fun y => binD .eql (.int .i64 x.args.length) y)) = some (.bool (c0 && regB c.regs x.r && decide (0 ≤ x.k) && decide (x.k < (p.length : Int)) && decide (0 < x.cost) && decide ((x.args.length : Int) = argsOf p x.k))) := by
      cases hb : (c0 && regB c.regs x.r && decide (0 ≤ x.k) && decide (x.k < (p.length : Int)) && decide (0 < x.cost)) with
      | false => simp only [SW, SV, wpD, evDL, evDM, evD, bldLD, wpSp, DMem.mt, beq_self_eq_true, seval]
      | true =>
        simp only [Bool.and_eq_true, decide_eq_true_eq] at hb
        obtain ⟨n, hn⟩ := Int.eq_ofNat_of_zero_le hb.1.1.2
        have hnl : n < p.length := by omega
        have : argsOf p x.k = p[n].args := by unfold argsOf; rw [hn, Int.toNat_natCast, List.getElem?_eq_getElem hnl]
        rw [this]
        simp only [hn, ix_slD Fnc.len hnl, SW, SV, wpD, evDL, evDM, evD, bldLD, wpSp, DMem.mt, beq_self_eq_true, seval]
    simp only [l4, fzc, hRg, hN, SW, SV, wpD, evDL, evDM, evD, bldLD, wpSp, DMem.mt, beq_self_eq_true, seval]
    simp only [hA, SW, SV, wpD, evDL, evDM, evD, bldLD, wpSp, DMem.mt, beq_self_eq_true, seval]
    generalize hG : (c0 && regB c.regs x.r && decide (0 ≤ x.k) && decide (x.k < (p.length : Int)) && decide (0 < x.cost) && decide ((x.args.length : Int) = argsOf p x.k)) = g0
    refine ⟨fun f δ M' => ∃ j : Nat, j ≤ x.args.length ∧ f = x.args.length - j ∧ δ 4 = .ip c.c ∧ δ 7 = .ip x.c ∧ δ 8 = .mp q 0 ∧ δ 9 = .bool (g0 && (x.args.take j).all (regB c.regs)) ∧ δ 10 = .int .i64 x.args.length ∧ δ 11 = .int .i64 j ∧ M' q = M2 q, x.args.length,
      ⟨0, Nat.zero_le _, rfl, rfl, rfl, rfl, ?_, rfl, rfl, rfl⟩, ?_⟩
    · rw [List.take_zero, List.all_nil, Bool.and_true] <;> rfl
    rintro f δ M' ⟨j, hj, rfl, e4, e7, e8, e9, e10, e11, eM⟩
    have m2' := eM.trans m2
    simp only [S1_swageref9_irMay, MU_swageref9_irMay, e4, e7, e8, e9, e10, e11, SW, SV, wpD, evDL, evDM, evD, bldLD, wpSp, DMem.mt, beq_self_eq_true, seval, decide_eq_true_eq, decide_eq_false_iff_not]
    refine ⟨fun hlt => ?_, fun hge => ?_⟩
    · have hjl : j < x.args.length := by omega
      have ei : wr64 ((j : Int) + 1) = ((j + 1 : Nat) : Int) := w64s (by omega)
      simp only [ix_slI hjl, l4, fzc, hRg, ei, e4, e7, e8, e9, e10, e11, SW, SV, wpD, evDL, evDM, evD, bldLD, wpSp, DMem.mt, beq_self_eq_true, seval]
      refine ⟨x.args.length - (j + 1), M', by omega, SubD.refl _, j + 1, by omega, rfl, ?_, rfl, eM⟩
      rw [List.take_succ_eq_append_getElem hjl, List.all_append]
      simp [Bool.and_assoc]
    · have : j = x.args.length := by omega
      subst this
      rw [List.take_length] at e9
      refine fin e7 e8 e9 e10 m2' ?_
      rw [← hG, cl]; unfold irMayB; simp only [hk]
      rw [Bool.eq_iff_iff]; simp only [Bool.and_eq_true, Bool.or_eq_true, decide_eq_true_eq]
      grind
  · have hk : x.kind = 7 ∨ x.kind = 8 := by simpa using h7
    refine stY hMq rfl (by omega) fun M1 m1 => ?_
    try simp only [gor1, gor2, l4, fzc, hRg, hN, SW, SV, wpD, evDL, evDM, evD, bldLD, wpSp, DMem.mt, beq_self_eq_true, seval]
    refine fin rfl rfl rfl rfl m1 ?_
    rw [cl, al]; unfold irMayB
    rcases hk with hk | hk
    all_goals simp only [hk]
    all_goals rw [Bool.eq_iff_iff]; simp only [Bool.and_eq_true, Bool.or_eq_true, decide_eq_true_eq]
    all_goals grind
  · have hk : x.kind = 9 := of_decide_eq_true h9
    refine stY hMq rfl (by omega) fun M1 m1 => stY m1 rfl (by omega) fun M2 m2 => stY m2 rfl (by omega) fun M3 m3 => stY m3 rfl (by omega) fun M4 m4 => ?_
    try simp only [gor1, gor2, l4, fzc, hRg, hN, SW, SV, wpD, evDL, evDM, evD, bldLD, wpSp, DMem.mt, beq_self_eq_true, seval]
    refine fin rfl rfl rfl rfl m4 ?_
    rw [cl, al]; unfold irMayB; simp only [hk]
    rw [Bool.eq_iff_iff]; simp only [Bool.and_eq_true, Bool.or_eq_true, decide_eq_true_eq]
    grind
  · have hk : x.kind = 10 := of_decide_eq_true h10
    refine stY hMq rfl (by omega) fun M1 m1 => ?_
    try simp only [gor1, gor2, l4, fzc, hRg, hN, SW, SV, wpD, evDL, evDM, evD, bldLD, wpSp, DMem.mt, beq_self_eq_true, seval]
    refine fin rfl rfl rfl rfl m1 ?_
    rw [cl, al]; unfold irMayB; simp only [hk]
    rw [Bool.eq_iff_iff]; simp only [Bool.and_eq_true, Bool.or_eq_true, decide_eq_true_eq]
    grind
  · have hb : irMayB p c.regs c.code.length c.metas.length i x = false := by
      rw [Bool.eq_false_iff]
      intro hm
      have := irMay_kind hm
      simp at h0 h1 h2 h3 h4 h5 h6 h7 h9 h10
      omega
    rw [hb]
end Go.Proofs.YticlgdhhnjpkjaaGreatDoor.Pf
namespace Go.Proofs.YticlgdhhnjpkjaaGreatDoor.Pf
open Go Go.RowKit Go.Proofs Go.Proofs.YticlgdhhnjpkjaaGreatDoor.Mw Go.Proofs.YticlgdhhnjpkjaaGreatDoor.Sx
set_option linter.unusedVariables false
set_option linter.unusedSimpArgs false
set_option maxRecDepth 8000
theorem prog_froz (p : List Fnc) : Froz (.agg [slD Fnc.c p]) := Froz.agg (FrozL.nil.cons (Froz.slD Fnc.froz p))
theorem srcsR_pf (c : Cod) (l : List Src) (k : Int) (hl : l.length ≤ 4611686018427387904) : pf Tryz.prog F_swageref9_srcs [.agg c.c, slD Src.c l, .int .i64 k] = some (.bool (l.all (srcB c.regs) && decide ((l.length : Int) = k))) := by
  refine pf_of (v := .bool _) (pc_swageref9_srcs (by simp) ?_) (((FrozL.nil.cons (Froz.int _ _)).cons (Froz.slD Src.froz l)).cons (cod_froz' c)) rfl rfl
  have hN : ∀ x, pf Tryz.prog F_swageref1_Number [.int .i64 x] = some (.bool (isB x)) := Number_pf
  have hRg := regR_pf c
  have l4 : ∀ (K : DMem), ldnD K 4 (.ip c.c) = some (.agg c.c) := fun K => rfl
  have fzc : ∀ K k, fz K k (.agg c.c) = .agg c.c := fun K k => fz_of (cod_froz' c) K k
  simp only [S_swageref9_srcs, R_swageref9_srcs, MU_swageref9_srcs, SW, SV, wpD, evDL, evDM, evD, bldLD, wpSp, DMem.mt, beq_self_eq_true, seval]
  refine ⟨fun f δ M' => ∃ j : Nat, j ≤ l.length ∧ f = l.length - j ∧ δ 1 = slD Src.c l ∧ δ 2 = .int .i64 k ∧ δ 3 = .ip c.c ∧ δ 7 = .int .i64 j ∧ (l.take j).all (srcB c.regs) = true, l.length,
    ⟨0, Nat.zero_le _, rfl, rfl, rfl, rfl, rfl, rfl⟩, ?_⟩
  rintro f δ M' ⟨j, hj, rfl, e1, e2, e3, e7, ha⟩
  simp only [S1_swageref9_srcs, MU_swageref9_srcs, e1, e2, e3, e7, SW, SV, wpD, evDL, evDM, evD, bldLD, wpSp, DMem.mt, beq_self_eq_true, seval, decide_eq_true_eq, decide_eq_false_iff_not]
  refine ⟨fun hlt => ?_, fun hge => ?_⟩
  · have hjl : j < l.length := by omega
    have ei : wr64 ((j : Int) + 1) = ((j + 1 : Nat) : Int) := w64s (by omega)
    have hB : srcB c.regs l[j] = if l[j].const = true then isB l[j].v else regB c.regs l[j].v := rfl
    have nx : srcB c.regs l[j] = true → (l.take (j + 1)).all (srcB c.regs) = true := fun h => by rw [List.take_succ_eq_append_getElem hjl, List.all_append, ha]; simp [h]
    have no : srcB c.regs l[j] = false → (l.all (srcB c.regs) && decide ((l.length : Int) = k)) = false := fun h => by
      have : l.all (srcB c.regs) = false := by rw [← Bool.not_eq_true, List.all_eq_true]; intro hh; rw [hh _ (List.getElem_mem hjl)] at h; cases h
      rw [this] <;> rfl
    generalize hx : l[j] = x at *
    obtain ⟨const, v⟩ := x
    have hix := ix_slD (k := .i64) Src.len hjl
    rw [hx] at hix
    cases const with
    | false =>
      have hB : srcB c.regs ⟨false, v⟩ = regB c.regs v := rfl
      rw [hB] at nx no
      simp only [hix, hN, l4, fzc, hRg, SW, SV, wpD, evDL, evDM, evD, bldLD, wpSp, DMem.mt, beq_self_eq_true, seval]
      cases hb : regB c.regs v with
      | true =>
        simp only [ei, e1, e2, e3, e7, SW, SV, wpD, evDL, evDM, evD, bldLD, wpSp, DMem.mt, beq_self_eq_true, seval]
        exact ⟨l.length - (j + 1), M', by omega, SubD.refl _, j + 1, by omega, rfl, rfl, nx hb⟩
      | false =>
        simp only [ei, e1, e2, e3, e7, SW, SV, wpD, evDL, evDM, evD, bldLD, wpSp, DMem.mt, beq_self_eq_true, seval]
        exact (no hb).symm
    | true =>
      have hB : srcB c.regs ⟨true, v⟩ = isB v := rfl
      rw [hB] at nx no
      simp only [hix, hN, l4, fzc, hRg, SW, SV, wpD, evDL, evDM, evD, bldLD, wpSp, DMem.mt, beq_self_eq_true, seval]
      cases hb : isB v with
      | true =>
        simp only [hN, hb, l4, fzc, hRg, ei, e1, e2, e3, e7, SW, SV, wpD, evDL, evDM, evD, bldLD, wpSp, DMem.mt, beq_self_eq_true, seval]
        exact ⟨l.length - (j + 1), M', by omega, SubD.refl _, j + 1, by omega, rfl, rfl, nx hb⟩
      | false =>
        simp only [hN, hb, l4, fzc, hRg, ei, e1, e2, e3, e7, SW, SV, wpD, evDL, evDM, evD, bldLD, wpSp, DMem.mt, beq_self_eq_true, seval]
        exact (no hb).symm
  · have : j = l.length := by omega
    subst this
    rw [List.take_length] at ha
    simp only [S2_swageref9_srcs, e1, e2, e3, e7, ha, SW, SV, wpD, evDL, evDM, evD, bldLD, wpSp, DMem.mt, beq_self_eq_true, seval]
theorem height_fn {p : List Fnc} {fn pc : Int} (h : 0 ≤ heightF p fn pc) : 0 ≤ fn ∧ fn < p.length := by
  refine Decidable.byContradiction fun hf => ?_
  have : heightF p fn pc = -1 := by
    unfold heightF
    rw [if_neg]
    rintro ⟨h1, h2, h3⟩
    unfold heightsR at h1
    rw [if_neg (fun hh => hf hh.2)] at h1
    exact absurd h1 (by decide)
  omega
theorem BehindR_pf (p : List Fnc) (hv : verifyE p = 0) (fn pc called : Int) (hf : 0 ≤ heightF p fn pc) : pf Tryz.prog F_swageref1_Behind [.agg [slD Fnc.c p], .int .i64 fn, .int .i64 pc, .int .i64 called] = some (.bool (behindB p fn pc called)) := by
  refine pf_of (v := .bool _) (pc_swageref1_Behind (by simp) ?_) ((((FrozL.nil.cons (Froz.int _ _)).cons (Froz.int _ _)).cons (Froz.int _ _)).cons (prog_froz p)) rfl rfl
  have hH := HeightR_pf p
  have l1 : ∀ (K : DMem), ldnD K 1 (.ip [slD Fnc.c p]) = some (.agg [slD Fnc.c p]) := fun K => rfl
  have fzp : ∀ K k, fz K k (.agg [slD Fnc.c p]) = .agg [slD Fnc.c p] := fun K k => fz_of (prog_froz p) K k
  simp only [S_swageref1_Behind, R_swageref1_Behind, MU_swageref1_Behind, l1, fzp, hH, SW, SV, wpD, evDL, evDM, evD, bldLD, wpSp, DMem.mt, beq_self_eq_true, seval]
  obtain ⟨n, hn⟩ := Int.eq_ofNat_of_zero_le (height_fn hf).1
  have hnl : n < p.length := by have := (height_fn hf).2; omega
  rw [hn] at hf ⊢
  obtain ⟨hpk, hall⟩ := verify_ok hv
  have hl64 := (fmay_le (fn_may (heights_hf hpk hnl (hall n hnl)).fn)).2
  have hpc : 0 ≤ pc ∧ pc < p[n].code.length := by
    rcases height_ge hv hnl pc with h | h
    · omega
    · exact h.2.2
  have ew : wr64 (pc - 1) = pc - 1 := w64 (by omega)
  rw [ew]
  have hu : behindB p (n : Int) pc called = (decide (0 ≤ heightF p n (pc - 1)) && decide (codeAt p n (pc - 1) = ⟨14, called⟩)) := rfl
  refine ⟨fun h => ?_, fun h => ?_⟩
  · have h := of_decide_eq_true h
    rw [hu, decide_eq_false (by omega)] <;> rfl
  · have h := of_decide_eq_false h
    have h0 : 0 ≤ heightF p n (pc - 1) := by omega
    obtain ⟨m, hm⟩ : ∃ m : Nat, pc - 1 = (m : Int) := by
      rcases height_ge hv hnl (pc - 1) with h | h
      · omega
      · exact Int.eq_ofNat_of_zero_le h.2.2.1
    have hml : m < p[n].code.length := by omega
    have hc : codeAt p n m = p[n].code[m] := by unfold codeAt; rw [Int.toNat_natCast, List.getElem?_eq_getElem hnl]; simp only [Int.toNat_natCast, List.getD_eq_getElem?_getD, List.getElem?_eq_getElem hml, Option.getD_some]
    have hl2 : ∀ K : DMem, ∀ r : List DV, ldnD K 2 (.ip (.int .i64 p[n].code[m].kind :: .int .i64 p[n].code[m].a :: r)) = some (.agg p[n].code[m].c) := fun K r => by simp [ldnD]
    rw [hu, decide_eq_true h0, hm, hc]
    simp only [ix_slD Fnc.len hnl, ix_slD Ins.len hml, hl2, eqs2, SW, SV, wpD, evDL, evDM, evD, bldLD, wpSp, DMem.mt, beq_self_eq_true, seval]
    rw [Bool.eq_iff_iff]
    cases p[n].code[m]; simp
def goodP (p : List Fnc) (regs : Int) (m : List Part) (j : Nat) : Bool := match m[j]? with
  | some x => partB p regs ((m.length : Int) - 1 - j) x && (decide ((m.length : Int) - 1 - j ≠ 1) || match m[1]? with
    | some y => behindB p x.fn x.pc y.fn
    | none => false)
  | none => true
theorem meta_good (p : List Fnc) (fn regs : Int) (m : List Part) (h : 0 < m.length) (h2 : m.length ≤ 2) : metaB p fn regs m = (decide (m[0].fn = fn) && (List.range m.length).all (goodP p regs m)) := by
  match m, h, h2 with
  | [a], _, _ => simp [metaB, goodP, List.range_succ]
  | [a, b], _, _ =>
    simp [metaB, goodP, List.range_succ]
    rw [Bool.eq_iff_iff]; simp only [Bool.and_eq_true, decide_eq_true_eq]
    grind
theorem metaMayR_pf (p : List Fnc) (c : Cod) (hv : verifyE p = 0) (m : List Part) (hz : SzM m) : pf Tryz.prog F_swageref9_metaMay [.agg [slD Fnc.c p], .agg c.c, .agg (metaC m)] = some (.bool (metaB p c.fn c.regs m)) := by
  refine pf_of (v := .bool _) (pc_swageref9_metaMay (by simp) ?_) (((FrozL.nil.cons (Froz.agg (metaC_froz m))).cons (cod_froz' c)).cons (prog_froz p)) rfl rfl
  have hH := HeightR_pf p
  have l1 : ∀ (K : DMem), ldnD K 1 (.ip [slD Fnc.c p]) = some (.agg [slD Fnc.c p]) := fun K => rfl
  have fzp : ∀ K k, fz K k (.agg [slD Fnc.c p]) = .agg [slD Fnc.c p] := fun K k => fz_of (prog_froz p) K k
  have l4 : ∀ (K : DMem), ldnD K 4 (.ip c.c) = some (.agg c.c) := fun K => rfl
  have fzc : ∀ K k, fz K k (.agg c.c) = .agg c.c := fun K k => fz_of (cod_froz' c) K k
  have hfp : ∀ x : Part, ∀ r : List DV, ∀ K, ldnD K 4 (.ip (.int .i64 x.fn :: .int .i64 x.pc :: slD Src.c x.locals :: slD Src.c x.stack :: r)) = some (.agg x.c) := fun x r K => by simp [ldnD]
  simp only [S_swageref9_metaMay, R_swageref9_metaMay, MU_swageref9_metaMay, l1, l4, fzp, fzc, hH, SW, SV, wpD, evDL, evDM, evD, bldLD, wpSp, DMem.mt, beq_self_eq_true, seval]
  by_cases hl : m.length < 1 ∨ 2 < m.length
  · have e : (decide ((m.length : Int) < 1) || decide (2 < (m.length : Int))) = true := by simp; omega
    have eB : metaB p c.fn c.regs m = false := by
      match m, hl with
      | [], _ => rfl
      | _ :: _ :: _ :: _, _ => rfl
      | [_], h => simp at h
      | [_, _], h => simp at h
    simp only [e, eB, SW, SV, wpD, evDL, evDM, evD, bldLD, wpSp, DMem.mt, beq_self_eq_true, seval]
  · have e : (decide ((m.length : Int) < 1) || decide (2 < (m.length : Int))) = false := by simp; omega
    have h0 : 0 < m.length := by omega
    have hi0 := ix_slD (k := .i64) Part.len h0
    have hmg := meta_good p c.fn c.regs m h0 (by omega)
    simp only [Int.ofNat_zero, Int.natCast_zero, Int.ofNat_eq_natCast] at hi0
    simp only [e, hi0, SW, SV, wpD, evDL, evDM, evD, bldLD, wpSp, DMem.mt, beq_self_eq_true, seval]
    refine ⟨fun hn => ?_, fun hy => ?_⟩
    · have : ¬ m[0].fn = c.fn := by simpa using hn
      rw [hmg, decide_eq_false this] <;> rfl
    · have hy : m[0].fn = c.fn := by simpa using hy
      rw [decide_eq_true hy, Bool.true_and] at hmg
      refine ⟨fun f δ M' => ∃ j : Nat, j ≤ m.length ∧ f = m.length - j ∧ δ 3 = .ip [slD Fnc.c p] ∧ δ 4 = .ip c.c ∧ δ 5 = .ip (metaC m) ∧ δ 7 = .int .i64 j ∧ ∀ i < j, goodP p c.regs m i = true, m.length,
        ⟨0, Nat.zero_le _, rfl, rfl, rfl, rfl, rfl, fun i h => absurd h (by omega)⟩, ?_⟩
      rintro f δ M' ⟨j, hj, rfl, e3, e4, e5, e7, hall⟩
      simp only [S1_swageref9_metaMay, MU_swageref9_metaMay, e3, e4, e5, e7, SW, SV, wpD, evDL, evDM, evD, bldLD, wpSp, DMem.mt, beq_self_eq_true, seval, decide_eq_true_eq, decide_eq_false_iff_not]
      refine ⟨fun hlt => ?_, fun hge => ?_⟩
      · have hjl : j < m.length := by omega
        have ei : wr64 ((j : Int) + 1) = ((j + 1 : Nat) : Int) := w64s (by omega)
        have el : wr64 (wr64 ((m.length : Int) - 1) - j) = (m.length : Int) - 1 - j := by rw [w64 (x := (m.length : Int) - 1) (by omega), w64 (by omega)]
        have hg : goodP p c.regs m j = (partB p c.regs ((m.length : Int) - 1 - j) m[j] && (decide ((m.length : Int) - 1 - j ≠ 1) || match m[1]? with
          | some y => behindB p m[j].fn m[j].pc y.fn
          | none => false)) := by unfold goodP; rw [List.getElem?_eq_getElem hjl]
        have no : goodP p c.regs m j = false → false = metaB p c.fn c.regs m := fun h => by
          rw [hmg, eq_comm, ← Bool.not_eq_true, List.all_eq_true]
          intro hh
          rw [hh j (List.mem_range.2 hjl)] at h; cases h
        have yes : goodP p c.regs m j = true → ∀ i < j + 1, goodP p c.regs m i = true := fun h i hi => by
          by_cases he : i = j
          · rw [he]; exact h
          · exact hall i (by omega)
        have hxz := hz _ (List.getElem_mem hjl)
        have hij := ix_slD (k := .i64) Part.len hjl
        generalize hx : m[j] = x at *
        simp only [hij, hfp, el, l1, l4, fzp, fzc, hH, e3, e4, e5, e7, SW, SV, wpD, evDL, evDM, evD, bldLD, wpSp, DMem.mt, beq_self_eq_true, seval]
        by_cases hh : heightF p x.fn x.pc < 0
        · have hp : partB p c.regs ((m.length : Int) - 1 - j) x = false := by unfold partB; rw [decide_eq_false (by omega)]; simp
          have hgf : goodP p c.regs m j = false := by rw [hg, hp] <;> rfl
          simp only [decide_eq_true hh, SW, SV, wpD, evDL, evDM, evD, bldLD, wpSp, DMem.mt, beq_self_eq_true, seval]
          exact no hgf
        · have hf : 0 ≤ heightF p x.fn x.pc := by omega
          obtain ⟨n, hn⟩ := Int.eq_ofNat_of_zero_le (height_fn hf).1
          have hnl : n < p.length := by have := (height_fn hf).2; omega
          have hlo : localsOf p x.fn = p[n].locals := by unfold localsOf; rw [hn, Int.toNat_natCast, List.getElem?_eq_getElem hnl]
          have hsL := srcsR_pf c x.locals p[n].locals hxz.1
          have hsS := srcsR_pf c x.stack (heightF p x.fn x.pc - ((m.length : Int) - 1 - j)) hxz.2
          have h8 : heightF p x.fn x.pc ≤ 8 := by
            rw [hn] at hf ⊢
            rcases height_ge hv hnl x.pc with h | h
            · omega
            · exact h.2.1
          have ew : wr64 (heightF p x.fn x.pc - ((m.length : Int) - 1 - j)) = heightF p x.fn x.pc - ((m.length : Int) - 1 - j) := w64 (by omega)
          have hpB : partB p c.regs ((m.length : Int) - 1 - j) x = ((x.locals.all (srcB c.regs) && decide ((x.locals.length : Int) = p[n].locals)) && (x.stack.all (srcB c.regs) && decide ((x.stack.length : Int) = heightF p x.fn x.pc - ((m.length : Int) - 1 - j)))) := by
            unfold partB
            rw [hlo, decide_eq_true hf, Bool.true_and]
            rw [Bool.eq_iff_iff]; simp only [Bool.and_eq_true, decide_eq_true_eq]; grind
          have hBe := BehindR_pf p hv x.fn x.pc
          have hix3 : ixD 3 (slD Fnc.c p) (.int .i64 x.fn) = ixD 3 (slD Fnc.c p) (.int .i64 (n : Int)) := by rw [hn]
          simp only [decide_eq_false hh, hix3, ix_slD Fnc.len hnl, fz_srcs, fzc, ew, hsL, hsS, SW, SV, wpD, evDL, evDM, evD, bldLD, wpSp, DMem.mt, beq_self_eq_true, seval]
          generalize hA : (x.locals.all (srcB c.regs) && decide ((x.locals.length : Int) = p[n].locals)) = A at *
          generalize hB : (x.stack.all (srcB c.regs) && decide ((x.stack.length : Int) = heightF p x.fn x.pc - ((m.length : Int) - 1 - j))) = B at *
          cases A with
          | false =>
            simp only [SW, SV, wpD, evDL, evDM, evD, bldLD, wpSp, DMem.mt, beq_self_eq_true, seval]
            exact no (by rw [hg, hpB] <;> rfl)
          | true => cases B with
            | false =>
              simp only [SW, SV, wpD, evDL, evDM, evD, bldLD, wpSp, DMem.mt, beq_self_eq_true, seval]
              exact no (by rw [hg, hpB] <;> rfl)
            | true =>
              by_cases h1 : (m.length : Int) - 1 - j = 1
              · have hm1 : 1 < m.length := by omega
                have hi1 := ix_slD (k := .i64) Part.len hm1
                have hb := hBe m[1].fn hf
                have hg1 : goodP p c.regs m j = behindB p x.fn x.pc m[1].fn := by
                  rw [hg, hpB, List.getElem?_eq_getElem hm1, decide_eq_false (by omega)] <;> rfl
                simp only [decide_eq_true h1, show ((1 : Nat) : Int) = 1 from rfl] at hi1
                simp only [decide_eq_true h1, hi1, l1, fzp, hb, e3, e4, e5, e7, SW, SV, wpD, evDL, evDM, evD, bldLD, wpSp, DMem.mt, beq_self_eq_true, seval]
                cases hbb : behindB p x.fn x.pc m[1].fn with
                | false =>
                  simp only [SW, SV, wpD, evDL, evDM, evD, bldLD, wpSp, DMem.mt, beq_self_eq_true, seval]
                  exact no (by rw [hg1, hbb])
                | true =>
                  simp only [ei, e3, e4, e5, e7, SW, SV, wpD, evDL, evDM, evD, bldLD, wpSp, DMem.mt, beq_self_eq_true, seval]
                  exact ⟨m.length - (j + 1), M', by omega, SubD.refl _, j + 1, by omega, rfl, rfl, yes (by rw [hg1, hbb])⟩
              · simp only [decide_eq_false h1, ei, e3, e4, e5, e7, SW, SV, wpD, evDL, evDM, evD, bldLD, wpSp, DMem.mt, beq_self_eq_true, seval]
                exact ⟨m.length - (j + 1), M', by omega, SubD.refl _, j + 1, by omega, rfl, rfl, yes (by rw [hg, hpB, decide_eq_true h1] <;> rfl)⟩
      · have : j = m.length := by omega
        subst this
        rw [hmg, eq_comm, List.all_eq_true]
        exact fun i hi => hall i (List.mem_range.1 hi)
set_option maxHeartbeats 1000000 in
theorem CodeMayR_pf (p : List Fnc) (c : Cod) (hz : SzC c) : pf Tryz.prog F_swageref9_CodeMay [.agg [slD Fnc.c p], .agg c.c] = some (.bool (codeMayB p c)) := by
  refine pf_of (v := .bool _) (pc_swageref9_CodeMay (by simp) ?_) ((FrozL.nil.cons (cod_froz' c)).cons (prog_froz p)) rfl rfl
  have hV := VerifyR_pf p
  have l1 : ∀ (K : DMem), ldnD K 1 (.ip [slD Fnc.c p]) = some (.agg [slD Fnc.c p]) := fun K => rfl
  have fzp : ∀ K k, fz K k (.agg [slD Fnc.c p]) = .agg [slD Fnc.c p] := fun K k => fz_of (prog_froz p) K k
  have l4 : ∀ (K : DMem), ldnD K 4 (.ip c.c) = some (.agg c.c) := fun K => rfl
  have fzc : ∀ K k, fz K k (.agg c.c) = .agg c.c := fun K k => fz_of (cod_froz' c) K k
  have fzm : ∀ K k m, fz K k (.agg (metaC m)) = .agg (metaC m) := fun K k m => fz_of (Froz.agg (metaC_froz m)) K k
  simp only [S_swageref9_CodeMay, R_swageref9_CodeMay, MU_swageref9_CodeMay, l1, fzp, hV, SW, SV, wpD, evDL, evDM, evD, bldLD, wpSp, DMem.mt, beq_self_eq_true, seval]
  by_cases hA : verifyE p = 0 ∧ 0 ≤ c.fn ∧ c.fn < p.length
  · obtain ⟨hv, hf0, hfl⟩ := hA
    obtain ⟨n, hn⟩ := Int.eq_ofNat_of_zero_le hf0
    have hnl : n < p.length := by omega
    have hlo : localsOf p c.fn = p[n].locals := by unfold localsOf; rw [hn, Int.toNat_natCast, List.getElem?_eq_getElem hnl]
    have hix : ixD 3 (slD Fnc.c p) (.int .i64 c.fn) = some (.ip (p[n].c ++ (p.drop (n + 1)).flatMap Fnc.c)) := by rw [hn]; exact ix_slD Fnc.len hnl
    simp only [hix, SW, SV, wpD, evDL, evDM, evD, bldLD, wpSp, DMem.mt, beq_self_eq_true, seval]
    refine ⟨fun h => ?_, fun h => ?_⟩
    · have : headB p c = false := by
        unfold headB
        refine decide_eq_false ?_
        rintro ⟨g1, g2, g3, g4, g5, g6, g7, g8, g9⟩
        simp only [Bool.or_eq_true, decide_eq_true_eq] at h
        rw [hlo] at g5
        omega
      unfold codeMayB
      rw [this] <;> rfl
    · have hh : headB p c = true := by
        unfold headB
        refine decide_eq_true ?_
        simp only [Bool.or_eq_false_iff, decide_eq_false_iff_not] at h
        rw [hlo]
        exact ⟨hv, by omega, by omega, by omega, by omega, by omega, by omega, by omega, by omega⟩
      have hcl : 1 ≤ c.code.length := by simp only [Bool.or_eq_false_iff, decide_eq_false_iff_not] at h; omega
      refine ⟨fun k δ M' => ∃ i : Nat, i ≤ c.code.length ∧ k = c.code.length - i ∧ δ 2 = .ip [slD Fnc.c p] ∧ δ 3 = .ip c.c ∧ δ 5 = .int .i64 i ∧ (∀ j (hj : j < c.code.length), j < i → irMayB p c.regs c.code.length c.metas.length j c.code[j] = true), c.code.length,
        ⟨0, Nat.zero_le _, rfl, rfl, rfl, rfl, fun j _ hj => absurd hj (by omega)⟩, ?_⟩
      rintro k δ M' ⟨i, hi, rfl, h2, h3, h5, hall⟩
      have hzn := hz.n
      simp only [S1_swageref9_CodeMay, MU_swageref9_CodeMay, h2, h3, h5, SW, SV, wpD, evDL, evDM, evD, bldLD, wpSp, DMem.mt, beq_self_eq_true, seval, decide_eq_true_eq, decide_eq_false_iff_not]
      refine ⟨fun hlt => ?_, fun hge => ?_⟩
      · have hil : i < c.code.length := by omega
        have ei : wr64 ((i : Int) + 1) = ((i + 1 : Nat) : Int) := w64s (by omega)
        simp only [h2, h3, h5, ei, l1, l4, fzp, fzc, irMayR_pf p c i hil (hz.a _ (List.getElem_mem hil)), SW, SV, wpD, evDL, evDM, evD, bldLD, wpSp, DMem.mt, beq_self_eq_true, seval]
        refine ⟨fun hb => ?_, fun hb => ⟨c.code.length - (i + 1), M', by omega, SubD.refl _, i + 1, by omega, rfl, rfl, fun j g1 g2 => ?_⟩⟩
        · have hb : irMayB p c.regs c.code.length c.metas.length i c.code[i] = false := by simpa using hb
          have : irsB p c = false := by
            unfold irsB
            rw [List.all_eq_false]
            exact ⟨i, List.mem_range.2 hil, by simp only [List.getElem?_eq_getElem hil]; simp [hb]⟩
          unfold codeMayB
          rw [this]; simp
        · have hb : irMayB p c.regs c.code.length c.metas.length i c.code[i] = true := by simpa using hb
          by_cases hji : j = i
          · subst hji; exact hb
          · exact hall j g1 (by omega)
      · have : i = c.code.length := by omega
        subst this
        have hI : irsB p c = true := by
          unfold irsB
          rw [List.all_eq_true]
          intro j hj
          have hj := List.mem_range.1 hj
          simp only [List.getElem?_eq_getElem hj]
          exact hall j hj hj
        have hmB : codeMayB p c = (c.metas.all (metaB p c.fn c.regs) && lastB c) := by unfold codeMayB; rw [hh, hI]; simp
        simp only [S4_swageref9_CodeMay, MU_swageref9_CodeMay, h2, h3, SW, SV, wpD, evDL, evDM, evD, bldLD, wpSp, DMem.mt, beq_self_eq_true, seval]
        refine ⟨fun k δ M' => ∃ i : Nat, i ≤ c.metas.length ∧ k = c.metas.length - i ∧ δ 2 = .ip [slD Fnc.c p] ∧ δ 3 = .ip c.c ∧ δ 6 = .int .i64 i ∧ (∀ j (hj : j < c.metas.length), j < i → metaB p c.fn c.regs c.metas[j] = true), c.metas.length,
          ⟨0, Nat.zero_le _, rfl, h2, h3, rfl, fun j _ hj => absurd hj (by omega)⟩, ?_⟩
        clear hall h5 h2 h3
        rintro k δ M' ⟨i, hi, rfl, h2, h3, h6, hall⟩
        have hzm := hz.m
        simp only [S2_swageref9_CodeMay, MU_swageref9_CodeMay, h2, h3, h6, SW, SV, wpD, evDL, evDM, evD, bldLD, wpSp, DMem.mt, beq_self_eq_true, seval, decide_eq_true_eq, decide_eq_false_iff_not]
        refine ⟨fun hlt => ?_, fun hge => ?_⟩
        · have hil : i < c.metas.length := by omega
          have ei : wr64 ((i : Int) + 1) = ((i + 1 : Nat) : Int) := w64s (by omega)
          have hix1 : ixD 1 (slD metaC c.metas) (.int .i64 (i : Int)) = some (.ip (slD Part.c c.metas[i] :: (c.metas.drop (i + 1)).flatMap metaC)) := ix_slD metaC_len hil
          have hl1 : ∀ (K : DMem) (d : DV) (r : List DV), ldnD K 1 (.ip (d :: r)) = some (.agg [d]) := fun K d r => by simp [ldnD]
          have hl1' : ∀ (K : DMem) (r : List DV), ldnD K 1 (.ip (slD Part.c c.metas[i] :: r)) = some (.agg (metaC c.metas[i])) := fun K r => hl1 K _ r
          simp only [hix1, h2, h3, h6, ei, hl1', l1, l4, fzp, fzc, fzm, metaMayR_pf p c hv c.metas[i] (hz.s _ (List.getElem_mem hil)), SW, SV, wpD, evDL, evDM, evD, bldLD, wpSp, DMem.mt, beq_self_eq_true, seval]
          refine ⟨fun hb => ?_, fun hb => ⟨c.metas.length - (i + 1), M', by omega, SubD.refl _, i + 1, by omega, rfl, rfl, fun j g1 g2 => ?_⟩⟩
          · have hb : metaB p c.fn c.regs c.metas[i] = false := by simpa using hb
            rw [hmB, eq_comm]
            have : c.metas.all (metaB p c.fn c.regs) = false := by rw [← Bool.not_eq_true, List.all_eq_true]; intro hx; rw [hx _ (List.getElem_mem hil)] at hb; cases hb
            rw [this] <;> rfl
          · have hb : metaB p c.fn c.regs c.metas[i] = true := by simpa using hb
            by_cases hji : j = i
            · subst hji; exact hb
            · exact hall j g1 (by omega)
        · have : i = c.metas.length := by omega
          subst this
          have hM : c.metas.all (metaB p c.fn c.regs) = true := by
            rw [List.all_eq_true]
            intro m hm
            obtain ⟨j, hj, rfl⟩ := List.getElem_of_mem hm
            exact hall j hj hj
          rw [hM, Bool.true_and] at hmB
          have el : wr64 ((c.code.length : Int) - 1) = ((c.code.length - 1 : Nat) : Int) := by rw [w64 (by omega)]; omega
          have hll : c.code.length - 1 < c.code.length := by omega
          have hlB : lastB c = decide (c.code[c.code.length - 1].kind = 4 ∨ c.code[c.code.length - 1].kind = 8) := by
            unfold lastB
            rw [List.getLast?_eq_getElem?, List.getElem?_eq_getElem hll]
          simp only [S3_swageref9_CodeMay, MU_swageref9_CodeMay, h2, h3, el, ix_slD Irc.len hll, SW, SV, wpD, evDL, evDM, evD, bldLD, wpSp, DMem.mt, beq_self_eq_true, seval]
          rw [hmB, hlB, Bool.eq_iff_iff]; simp
  · have hX : ((((decide (¬verifyE p = 0) || decide (c.fn < 0)) || decide ((p.length : Int) ≤ c.fn)) || decide (c.regs < 1))) = true := by
      simp only [Bool.or_eq_true, decide_eq_true_eq]; omega
    have hB : codeMayB p c = false := by
      have : headB p c = false := decide_eq_false (by rintro ⟨g1, g2, g3, _⟩; exact hA ⟨g1, g2, g3⟩)
      unfold codeMayB
      rw [this] <;> rfl
    simp only [hX, hB, SW, SV, wpD, evDL, evDM, evD, bldLD, wpSp, DMem.mt, beq_self_eq_true, seval]
end Go.Proofs.YticlgdhhnjpkjaaGreatDoor.Pf
namespace Go.Proofs.YticlgdhhnjpkjaaGreatDoor.Pf
open Go Go.RowKit Go.Proofs Go.Proofs.YticlgdhhnjpkjaaGreatDoor.Mw Go.Proofs.YticlgdhhnjpkjaaGreatDoor.Sx
set_option linter.unusedVariables false
set_option linter.unusedSimpArgs false
set_option maxRecDepth 8000
def ldT (code : List Irc) (i : Nat) : List Bool := if i = 0 then List.replicate code.length false else (ldF code i).take code.length
theorem ldT_len (code : List Irc) (i : Nat) : (ldT code i).length = code.length := by
  unfold ldT; split
  · simp
  · rw [List.length_take, ldF_len]; omega
theorem ldT_zero (code : List Irc) (h : 0 < code.length) : (ldT code 0).set 0 true = (ldF code 0).take code.length := by
  unfold ldT ldF
  rw [if_pos rfl, List.take_set, List.take_replicate, Nat.min_eq_left (by omega)]
theorem ldT_suc (code : List Irc) (i : Nat) (h : i ≠ 0) : ldT code i = (ldF code i).take code.length := by
  unfold ldT; rw [if_neg h]
theorem ldT_step {code : List Irc} {i : Nat} (hi : i < code.length) {C D : Bool} (hC : ((decide (code[i].kind = 4) || decide (code[i].kind = 5)) && decide (0 ≤ code[i].k) && decide (code[i].k < (code.length : Int))) = C)
    (hD : ((decide (code[i].kind = 4) || decide (code[i].kind = 5) || decide (code[i].kind = 8)) && decide (((i + 1 : Nat) : Int) < (code.length : Int))) = D) :
    ldT code (i + 1) = (if D then (if C then ((ldF code i).take code.length).set code[i].k.toNat true else (ldF code i).take code.length).set (i + 1) true else (if C then ((ldF code i).take code.length).set code[i].k.toNat true else (ldF code i).take code.length)) := by
  have hs : ∀ l : List Bool, code.length ≤ i + 1 → ((l.set (i + 1) true).take code.length) = l.take code.length := fun l h => by
    rw [List.take_set, List.set_eq_of_length_le (by rw [List.length_take]; omega)]
  have hlen : ∀ (o : List Bool), ¬ (((i + 1 : Nat) : Int) < (code.length : Int)) → code.length ≤ i + 1 := fun _ h => by omega
  rw [ldT_suc _ _ (by omega)]
  simp only [ldF, List.getElem?_eq_getElem hi]
  generalize code[i] = x at *
  generalize ldF code i = o at *
  unfold ldS
  by_cases h45 : x.kind = 4 ∨ x.kind = 5
  · have e45 : (decide (x.kind = 4) || decide (x.kind = 5)) = true := by simpa using h45
    rw [e45, Bool.true_or, Bool.true_and] at hD
    rw [e45, Bool.true_and] at hC
    rw [if_pos h45]
    have eC : (0 ≤ x.k ∧ x.k < code.length) ↔ C = true := by rw [← hC]; simp
    by_cases hc : C = true
    · rw [if_pos (eC.2 hc), hc]
      simp only [if_true]
      cases D with
      | true => rw [if_pos rfl, List.take_set, List.take_set]
      | false =>
        have := of_decide_eq_false hD
        rw [hs _ (by omega), List.take_set] <;> rfl
    · rw [if_neg (fun h => hc (eC.1 h))]
      have hc : C = false := by simpa using hc
      rw [hc]
      cases D with
      | true => simp [List.take_set]
      | false =>
        have := of_decide_eq_false hD
        rw [hs _ (by omega)] <;> rfl
  · have e45 : (decide (x.kind = 4) || decide (x.kind = 5)) = false := by
      rw [← Bool.not_eq_true]; simpa using h45
    rw [e45, Bool.false_or] at hD
    rw [e45, Bool.false_and, Bool.false_and] at hC
    rw [if_neg h45, ← hC]
    by_cases h8 : x.kind = 8
    · rw [decide_eq_true h8, Bool.true_and] at hD
      rw [if_pos h8]
      cases D with
      | true => simp [List.take_set]
      | false =>
        have := of_decide_eq_false hD
        rw [hs _ (by omega)] <;> rfl
    · rw [decide_eq_false h8, Bool.false_and] at hD
      rw [if_neg h8, ← hD] <;> rfl
set_option maxHeartbeats 1000000 in
theorem LeadersR_pt (c : Cod) (hz : c.code.length * 88 ≤ 140737488351232) : Pt Tryz.prog F_swageref9_Leaders [.agg c.c] (slB (leadersF c.code)) := by
  refine Pt.of (pc_swageref9_Leaders (by simp) ?_)
  simp only [S_swageref9_Leaders, R_swageref9_Leaders, MU_swageref9_Leaders, SW, SV, wpD, evDL, evDM, evD, bldLD, wpSp, DMem.mt, beq_self_eq_true, seval]
  refine mkB (by omega) fun b M1 hb hM1 => ?_
  have hbM : DMem.mt b = none := hb
  have hM1b : M1 b = some ⟨4, c.code.length, (ldT c.code 0).map .bool⟩ := by
    rw [hM1, DMem.ins_same]; unfold ldT; simp
  clear hM1 hb hbM
  try simp only [SW, SV, wpD, evDL, evDM, evD, bldLD, wpSp, DMem.mt, beq_self_eq_true, seval]
  refine ⟨fun k δ M => ∃ i : Nat, i ≤ c.code.length ∧ k = c.code.length - i ∧ δ 1 = .ip c.c ∧ δ 3 = .msl b 0 c.code.length c.code.length ∧ δ 4 = .int .i64 i ∧ M b = some ⟨4, c.code.length, (ldT c.code i).map .bool⟩, c.code.length,
    ⟨0, Nat.zero_le _, rfl, rfl, rfl, rfl, hM1b⟩, ?_⟩
  clear hM1b
  rintro k δ M ⟨i, hi, rfl, h1, h3, h4, hMb⟩
  simp only [S1_swageref9_Leaders, MU_swageref9_Leaders, h1, h3, h4, SW, SV, wpD, evDL, evDM, evD, bldLD, wpSp, DMem.mt, beq_self_eq_true, seval, decide_eq_true_eq, decide_eq_false_iff_not]
  refine ⟨fun hlt => ?_, fun hge => ?_⟩
  · have hil : i < c.code.length := by omega
    have ei : wr64 ((i : Int) + 1) = ((i + 1 : Nat) : Int) := w64s (by omega)
    have hl0 := ldT_len c.code i
    have hix : ∀ {j : Nat}, j < c.code.length → ixD 1 (.msl b 0 c.code.length c.code.length) (.int .i64 (j : Int)) = some (.mp b j) := fun hj => by rw [ixM hj]; simp
    have put : ∀ {M5 : DMem} {o : List Bool} {j : Nat} {Post : DV → DMem → Prop}, M5 b = some ⟨4, c.code.length, o.map .bool⟩ → o.length = c.code.length → j < c.code.length → (∀ M6, M6 b = some ⟨4, c.code.length, (o.set j true).map .bool⟩ → Post (.raw undef) M6) → StoreD M5 1 (.mp b j) (.bool true) Post := by
      intro M5 o j Post h5 ho hj hP
      refine stD h5 rfl rfl (by rw [List.length_map]; omega) (by omega) rfl fun M6 hM6 => hP M6 ?_
      rw [hM6, DMem.ins_same, splD_one (by rw [List.length_map]; omega), ← List.map_set]
    have nxt : ∀ {M6 : DMem} {o : List Bool}, M6 b = some ⟨4, c.code.length, o.map .bool⟩ → o = ldT c.code (i + 1) → ∃ k' M0, k' < c.code.length - i ∧ SubD M0 M6 ∧ ∃ j : Nat, j ≤ c.code.length ∧ k' = c.code.length - j ∧ ((i + 1 : Nat) : Int) = (j : Int) ∧ M0 b = some ⟨4, c.code.length, (ldT c.code j).map .bool⟩ := by
      rintro M6 o h6 rfl
      exact ⟨c.code.length - (i + 1), M6, by omega, SubD.refl _, i + 1, by omega, rfl, rfl, h6⟩
    have hn : 0 < c.code.length := by omega
    have hi0 : ixD 1 (.msl b 0 c.code.length c.code.length) (.int .i64 0) = some (.mp b 0) := hix (j := 0) hn
    have hsT : decide ((i : Int) = 0) = false → ldT c.code i = (ldF c.code i).take c.code.length := fun h => ldT_suc _ _ (by have := of_decide_eq_false h; omega)
    have h0T : decide ((i : Int) = 0) = true → (ldT c.code i).set 0 true = (ldF c.code i).take c.code.length := fun h => by
      have h := of_decide_eq_true h
      obtain rfl : i = 0 := by omega
      exact ldT_zero _ hn
    have hstep := @ldT_step c.code i hil
    obtain ⟨kn, hkn⟩ : ∃ kn : Nat, c.code[i].k.toNat = kn := ⟨_, rfl⟩
    rw [hkn] at hstep
    have hki : ∀ {C : Bool}, ((decide (c.code[i].kind = 4) || decide (c.code[i].kind = 5)) && decide (0 ≤ c.code[i].k) && decide (c.code[i].k < (c.code.length : Int))) = true → c.code[i].k = (kn : Int) ∧ kn < c.code.length := fun h => by
      simp only [Bool.and_eq_true, decide_eq_true_eq] at h
      omega
    have hdn : ((decide (c.code[i].kind = 4) || decide (c.code[i].kind = 5) || decide (c.code[i].kind = 8)) && decide (((i + 1 : Nat) : Int) < (c.code.length : Int))) = true → i + 1 < c.code.length := fun h => by
      simp only [Bool.and_eq_true, decide_eq_true_eq] at h
      omega
    have ixc := ix_slD (k := .i64) Irc.len hil
    generalize c.code[i] = x at *
    cases hz0 : decide ((i : Int) = 0) <;> cases hC : ((decide (x.kind = 4) || decide (x.kind = 5)) && decide (0 ≤ x.k) && decide (x.k < (c.code.length : Int))) <;> cases hD : ((decide (x.kind = 4) || decide (x.kind = 5) || decide (x.kind = 8)) && decide (((i + 1 : Nat) : Int) < (c.code.length : Int)))
    · have hst := hstep hC hD
      simp only [ixc, h1, h3, h4, ei, hz0, hC, hD, hi0, SW, SV, wpD, evDL, evDM, evD, bldLD, wpSp, DMem.mt, beq_self_eq_true, seval]
      exact nxt hMb (by rw [hst, ← hsT hz0] <;> rfl)
    · have hst := hstep hC hD
      have hdn := hdn hD
      have hi1 := hix hdn
      simp only [ixc, h1, h3, h4, ei, hz0, hC, hD, hi0, hi1, SW, SV, wpD, evDL, evDM, evD, bldLD, wpSp, DMem.mt, beq_self_eq_true, seval]
      refine put hMb (by simp [hl0]) hdn fun M2 m2 => ?_
      try simp only [ixc, h1, h3, h4, ei, hz0, hC, hD, hi0, hi1, SW, SV, wpD, evDL, evDM, evD, bldLD, wpSp, DMem.mt, beq_self_eq_true, seval]
      exact nxt m2 (by rw [hst, ← hsT hz0] <;> rfl)
    · have hst := hstep hC hD
      obtain ⟨ek, hkn⟩ := hki (C := true) hC
      have hi2 := hix hkn
      rw [← ek] at hi2
      simp only [ixc, h1, h3, h4, ei, hz0, hC, hD, hi0, hi2, SW, SV, wpD, evDL, evDM, evD, bldLD, wpSp, DMem.mt, beq_self_eq_true, seval]
      refine put hMb (by simp [hl0]) hkn fun M2 m2 => ?_
      try simp only [ixc, h1, h3, h4, ei, hz0, hC, hD, hi0, hi2, SW, SV, wpD, evDL, evDM, evD, bldLD, wpSp, DMem.mt, beq_self_eq_true, seval]
      exact nxt m2 (by rw [hst, ← hsT hz0] <;> rfl)
    · have hst := hstep hC hD
      obtain ⟨ek, hkn⟩ := hki (C := true) hC
      have hi2 := hix hkn
      rw [← ek] at hi2
      have hdn := hdn hD
      have hi1 := hix hdn
      simp only [ixc, h1, h3, h4, ei, hz0, hC, hD, hi0, hi2, hi1, SW, SV, wpD, evDL, evDM, evD, bldLD, wpSp, DMem.mt, beq_self_eq_true, seval]
      refine put hMb (by simp [hl0]) hkn fun M2 m2 => ?_
      try simp only [ixc, h1, h3, h4, ei, hz0, hC, hD, hi0, hi2, hi1, SW, SV, wpD, evDL, evDM, evD, bldLD, wpSp, DMem.mt, beq_self_eq_true, seval]
      refine put m2 (by simp [hl0]) hdn fun M3 m3 => ?_
      try simp only [ixc, h1, h3, h4, ei, hz0, hC, hD, hi0, hi2, hi1, SW, SV, wpD, evDL, evDM, evD, bldLD, wpSp, DMem.mt, beq_self_eq_true, seval]
      exact nxt m3 (by rw [hst, ← hsT hz0] <;> rfl)
    · have hst := hstep hC hD
      simp only [ixc, h1, h3, h4, ei, hz0, hC, hD, hi0, SW, SV, wpD, evDL, evDM, evD, bldLD, wpSp, DMem.mt, beq_self_eq_true, seval]
      refine put hMb (by simp [hl0]) hn fun M2 m2 => ?_
      try simp only [ixc, h1, h3, h4, ei, hz0, hC, hD, hi0, SW, SV, wpD, evDL, evDM, evD, bldLD, wpSp, DMem.mt, beq_self_eq_true, seval]
      exact nxt m2 (by rw [hst, ← h0T hz0] <;> rfl)
    · have hst := hstep hC hD
      have hdn := hdn hD
      have hi1 := hix hdn
      simp only [ixc, h1, h3, h4, ei, hz0, hC, hD, hi0, hi1, SW, SV, wpD, evDL, evDM, evD, bldLD, wpSp, DMem.mt, beq_self_eq_true, seval]
      refine put hMb (by simp [hl0]) hn fun M2 m2 => ?_
      try simp only [ixc, h1, h3, h4, ei, hz0, hC, hD, hi0, hi1, SW, SV, wpD, evDL, evDM, evD, bldLD, wpSp, DMem.mt, beq_self_eq_true, seval]
      refine put m2 (by simp [hl0]) hdn fun M3 m3 => ?_
      try simp only [ixc, h1, h3, h4, ei, hz0, hC, hD, hi0, hi1, SW, SV, wpD, evDL, evDM, evD, bldLD, wpSp, DMem.mt, beq_self_eq_true, seval]
      exact nxt m3 (by rw [hst, ← h0T hz0] <;> rfl)
    · have hst := hstep hC hD
      obtain ⟨ek, hkn⟩ := hki (C := true) hC
      have hi2 := hix hkn
      rw [← ek] at hi2
      simp only [ixc, h1, h3, h4, ei, hz0, hC, hD, hi0, hi2, SW, SV, wpD, evDL, evDM, evD, bldLD, wpSp, DMem.mt, beq_self_eq_true, seval]
      refine put hMb (by simp [hl0]) hn fun M2 m2 => ?_
      try simp only [ixc, h1, h3, h4, ei, hz0, hC, hD, hi0, hi2, SW, SV, wpD, evDL, evDM, evD, bldLD, wpSp, DMem.mt, beq_self_eq_true, seval]
      refine put m2 (by simp [hl0]) hkn fun M3 m3 => ?_
      try simp only [ixc, h1, h3, h4, ei, hz0, hC, hD, hi0, hi2, SW, SV, wpD, evDL, evDM, evD, bldLD, wpSp, DMem.mt, beq_self_eq_true, seval]
      exact nxt m3 (by rw [hst, ← h0T hz0] <;> rfl)
    · have hst := hstep hC hD
      obtain ⟨ek, hkn⟩ := hki (C := true) hC
      have hi2 := hix hkn
      rw [← ek] at hi2
      have hdn := hdn hD
      have hi1 := hix hdn
      simp only [ixc, h1, h3, h4, ei, hz0, hC, hD, hi0, hi2, hi1, SW, SV, wpD, evDL, evDM, evD, bldLD, wpSp, DMem.mt, beq_self_eq_true, seval]
      refine put hMb (by simp [hl0]) hn fun M2 m2 => ?_
      try simp only [ixc, h1, h3, h4, ei, hz0, hC, hD, hi0, hi2, hi1, SW, SV, wpD, evDL, evDM, evD, bldLD, wpSp, DMem.mt, beq_self_eq_true, seval]
      refine put m2 (by simp [hl0]) hkn fun M3 m3 => ?_
      try simp only [ixc, h1, h3, h4, ei, hz0, hC, hD, hi0, hi2, hi1, SW, SV, wpD, evDL, evDM, evD, bldLD, wpSp, DMem.mt, beq_self_eq_true, seval]
      refine put m3 (by simp [hl0]) hdn fun M4 m4 => ?_
      try simp only [ixc, h1, h3, h4, ei, hz0, hC, hD, hi0, hi2, hi1, SW, SV, wpD, evDL, evDM, evD, bldLD, wpSp, DMem.mt, beq_self_eq_true, seval]
      exact nxt m4 (by rw [hst, ← h0T hz0] <;> rfl)
  · have : i = c.code.length := by omega
    subst this
    have hlT : ldT c.code c.code.length = leadersF c.code := by
      unfold ldT leadersF
      split
      · rename_i h; rw [h] <;> rfl
      · rfl
    rw [hlT] at hMb
    have hl : (leadersF c.code).length = c.code.length := by rw [← hlT]; exact ldT_len _ _
    try simp only [h3, SW, SV, wpD, evDL, evDM, evD, bldLD, wpSp, DMem.mt, beq_self_eq_true, seval]
    have hMo : DMem.only M [b] b = some ⟨4, c.code.length, (leadersF c.code).map .bool⟩ := by rw [DMem.only_in (by simp)]; exact hMb
    refine ⟨DMem.only M [b], DMem.only_sub _ _, ⟨rfl, fun y B hy => ?_⟩, fun m v hv => ?_⟩
    · unfold DMem.only at hy
      split at hy
      · rename_i hyb
        have : y = b := by simpa using hyb
        subst this
        rw [hMb] at hy; cases hy
        exact thawed_bools _
      · cases hy
    · rw [fz_msl hMo 3 0 _ _ (Nat.le_refl _), List.drop_zero] at hv
      have hm : (List.map (fz (DMem.only M [b]) 3) (List.map DV.bool (leadersF c.code))) = (leadersF c.code).map .bool ++ [] := by
        rw [List.map_map, List.append_nil]
        exact List.map_congr_left fun x _ => fz_bool _ _ _
      simp only at hv
      rw [hm] at hv
      have := rep_isl hv
      unfold slB
      rw [hl]; exact this
end Go.Proofs.YticlgdhhnjpkjaaGreatDoor.Pf
namespace Go.Proofs.YticlgdhhnjpkjaaGreatDoor.Pf
open Go Go.RowKit Go.Proofs Go.Proofs.YticlgdhhnjpkjaaGreatDoor.Mw Go.Proofs.YticlgdhhnjpkjaaGreatDoor.Sx
set_option linter.unusedVariables false
set_option linter.unusedSimpArgs false
set_option maxRecDepth 8000
def SrcC (c : Cod) : Prop := ∀ m ∈ c.metas, m.length * 64 ≤ 140737488351232 ∧ ∀ x ∈ m, x.locals.length * 16 ≤ 140737488351232 ∧ x.stack.length * 16 ≤ 140737488351232
theorem CopyCode_pt (c : Cod) (hz : SzC c) (hs : SrcC c) : Pt Tryz.prog F_swagelaw0_CopyCode [.agg c.c] (.agg c.c) := by
  refine Pt.of (CopyCode_pc c hz hs fun dc dm M' Sc Sm g1 g2 g3 _ _ => ?_)
  obtain ⟨t1, t2⟩ := irE_th.sl g1
  obtain ⟨t3, t4⟩ := metaE_th.sl g2
  have o1 : SlAt irE (DMem.only M' (Sc ++ Sm)) dc c.code Sc := SlAt.only irE_ok g1 (fun b hb => by simp [hb])
  have o2 : SlAt metaE (DMem.only M' (Sc ++ Sm)) dm c.metas Sm := SlAt.only metaE_ok g2 (fun b hb => by simp [hb])
  refine ⟨DMem.only M' (Sc ++ Sm), DMem.only_sub _ _, ⟨by simp only [thawed, thawedL, t1, t3] <;> rfl, fun b B hb => ?_⟩, fun m v hv => ?_⟩
  · unfold DMem.only at hb
    split at hb
    · rename_i hm
      rcases List.mem_append.1 hm with hm | hm
      · exact t2 b hm B hb
      · exact t4 b hm B hb
    · cases hb
  · rw [fz_agg] at hv
    simp only [List.map_cons, List.map_nil, fz_int] at hv
    rw [o1.fz irE_ok (k := 3) (by decide), o2.fz metaE_ok (k := 3) (by decide)] at hv
    exact hv
theorem Irs_pc (p : List Fnc) (c : Cod) (hz : SzC c) (hs : SrcC c) : PC Tryz.prog F_swagelaw10_Irs [.agg [slD Fnc.c p], .agg c.c] (fun d' M' => d' = .bool true) DMem.mt := by
  refine pc_swagelaw10_Irs (by simp) ?_
  simp only [S_swagelaw10_Irs, R_swagelaw10_Irs, MU_swagelaw10_Irs, ldn4_cod, SW, SV, wpD, evDL, evDM, evD, bldLD, wpSp, DMem.mt, beq_self_eq_true, seval]
  have fzc : ∀ K k, fz K k (.agg c.c) = .agg c.c := fun K k => fz_of (cod_froz' c) K k
  refine Pt.pc (by simp only [List.map_cons, List.map_nil, fzc]; exact CopyCode_pt c hz hs) ?_
  have l4 : ∀ (K : DMem), ldnD K 4 (.ip c.c) = some (.agg c.c) := fun K => rfl
  have l1 : ∀ (K : DMem), ldnD K 1 (.ip [slD Fnc.c p]) = some (.agg [slD Fnc.c p]) := fun K => rfl
  have fzp : ∀ K k, fz K k (.agg [slD Fnc.c p]) = .agg [slD Fnc.c p] := fun K k => fz_of (prog_froz p) K k
  have hm := irMay_pf p c hz
  have hm2 := CodeMayR_pf p c hz
  have hL1 : Pt Tryz.prog F_ir_Leaders [.agg c.c] (slB (leadersF c.code)) := Leaders_pt c hz.n
  have hL2 := LeadersR_pt c hz.n
  simp only [S1_swagelaw10_Irs, MU_swagelaw10_Irs, raw0_swagelaw10_Irs, P0_swagelaw10_Irs, l4, l1, fzp, fzc, hm, hm2, SW, SV, wpD, evDL, evDM, evD, bldLD, wpSp, DMem.mt, beq_self_eq_true, seval]
  have hz' := hz
  obtain ⟨z1, z2, z3, z4⟩ := hz'
  have hll : (leadersF c.code).length ≤ c.code.length := by unfold leadersF; rw [List.length_take]; omega
  have hB : pf Tryz.prog F_swagelaw0_SameBools [slB (leadersF c.code), slB (leadersF c.code)] = some (.bool true) := (SameBools_pf _ _ (by omega)).trans (by rw [decide_eq_true rfl])
  have hSz : SzCod c := ⟨by unfold Big; omega, fun y hy => by have := z2 y hy; unfold Big; omega, by unfold Big; omega, fun m hm => by
    have := hs m hm
    exact ⟨by unfold Big; omega, fun y hy => by have := this.2 y hy; exact ⟨by unfold Big; omega, by unfold Big; omega⟩⟩⟩
  have hC : pf Tryz.prog F_swagelaw0_SameCode [.agg c.c, .agg c.c] = some (.bool true) := (SameCode_pf c c hSz).trans (by rw [decide_eq_true rfl])
  refine Pt.pc (by simp only [List.map_cons, List.map_nil, fzc]; exact hL1) ?_
  refine Pt.pc (by simp only [List.map_cons, List.map_nil, fzc]; exact hL2) ?_
  simp only [fz_slB, hB, hC, fzc, grdTT, awake10_pf, SW, SV, wpD, evDL, evDM, evD, bldLD, wpSp, DMem.mt, beq_self_eq_true, seval]
end Go.Proofs.YticlgdhhnjpkjaaGreatDoor.Pf
namespace Go.Proofs.YticlgdhhnjpkjaaGreatDoor.Mw
open Go Go.RowKit Go.ChangeShapes Go.WideShapes Go.ChangeAt
set_option linter.unusedVariables false
theorem walk_of {P : Program} {f : FuncId} {args : List Value} {w : World} (h : MC P f args (fun v _ => v = .bool true) (snap w)) :
    Calls P f args.toArray w fun e w' => e = .returned (.bool true) ∧ Below w.heap.size w w' :=
  (h.2 w w (snap_sat w)).mono fun e w' ⟨v, m', he, hs, hv⟩ => ⟨by rw [he, hv], hs.below⟩
theorem args_stay {H : Type} {enc : TypeId × Value → H} {P : Program} (hl : laidOutB P = true) {W W' : World} (hb : Below W.heap.size W W') : ∀ (ts : List TypeId) (vs : List Value) (ds : List (DataW H)) (ps : List MemPlace),
    (∀ t ∈ ts, P.readableRec t = true ∧ t < P.types.size) → DataW.TrodAll enc P W 0 (fun _ => true) true ts vs ds ps → DataW.TrodAll enc P W' 0 (fun b => decide (b < W.heap.size)) true ts vs ds ps
  | [], [], [], ps, _, h => h
  | t :: ts, v :: vs, d :: ds, ps, ht, h => by
    have hlt := DataW.TrodAll.lt h
    obtain ⟨p, q, h1, h2, rfl⟩ := h
    exact ⟨p, q, Below.trod hl (ht t (by simp)).1 (ht t (by simp)).2 h1 hb (fun x hx => hlt x (by simp [hx])), args_stay hl hb ts vs ds q (fun t' h' => ht t' (by simp [h'])) h2, rfl⟩
  | [], [], _ :: _, _, _, h => h.elim
  | [], _ :: _, _, _, _, h => by cases h
  | _ :: _, [], _, _, _, h => by cases h
  | _ :: _, _ :: _, [], _, _, h => by cases h
end Go.Proofs.YticlgdhhnjpkjaaGreatDoor.Mw
namespace Go.Proofs.YticlgdhhnjpkjaaGreatDoor.Mw
open Go Go.RowKit Go.ChangeShapes Go.WideShapes Go.ChangeAt
set_option linter.unusedVariables false
theorem law_row_laid {C : Checked} {os : Os} {H : Type} {enc : TypeId × Value → H} (laid : List (String × DataW Unit)) (own : ownKnob C.prog.godebug = none) (started : os.Started) {f : FuncId} {fn : Func} {s : ChangeSpec}
    (noInit : C.prog.inits.idxOf? f = none) (hfn : C.prog.funcs[f]? = some fn) (hvars : s.vars = [])
    (hspec : ∀ ds : List (DataW H), ds.length = fn.params.toList.length → s.fn H ds = { results := [.lit (.bool true)], args := ds })
    {tb : TypeId} (hres : fn.resultTypes = #[tb]) (htb : C.prog.underlying tb = some .bool)
    (hl : laidOutB C.prog = true) (hread : ∀ t ∈ fn.params.toList, C.prog.readableRec t = true ∧ t < C.prog.types.size) {apart : Bool}
    (witness : ∃ (w : World) (tape : Tape) (i : Input), w.os = os ∧ (w.forCall tape i).Shaped C.prog ∧ i.vars = [] ∧ Input.okWide C.prog (w.forCall tape i) .any w.heap.size f i ∧
      ((s.pre enc C.prog fn [] apart (w.forCall tape i).memory i.args ∧ laidMetH C.prog laid (w.forCall tape i).memory) ∧ sizedMet enc C.prog fn (OpenSpec.ofChange s) apart (w.forCall tape i).memory i.args) ∧ ({} : Assume).holds C.prog (lone (Frame.enter C.prog f i.args .normal) [] (w.forCall tape i)))
    (hmc : ∀ (W : World) (base : Nat) (args : List Value) (ds : List (DataW H)) (p : List MemPlace), DataW.TrodAll enc C.prog W 0 (fun _ => true) true fn.params.toList args ds p →
      (∀ (j : Nat) t v, fn.params[j]? = some t → args[j]? = some v → Value.okWide C.prog W .any base t v) →
      (DataW.weightsEach C.prog fn.params.toList ds).all (· ≤ reachBytes) = true → laidMetH C.prog laid W → MC C.prog f args (fun v _ => v = .bool true) (snap W)) :
    ReturnsInHanded {} C os f .any (fun w args => (s.pre enc C.prog fn [] apart w args ∧ laidMetH C.prog laid w) ∧ sizedMet enc C.prog fn (OpenSpec.ofChange s) apart w args) (s.post enc C.prog fn apart true false false) := by
  refine returnsInHanded_of_change_and (X := fun w _ => laidMetH C.prog laid w) (fun _ _ _ hh h => h.of_heap hh) own started noInit hfn witness ?_
  intro W base args ds gs before hval hW _ hsz hL _
  have hW' := hW
  obtain ⟨p, q, hA, hV, rfl, hfz, hnd⟩ := hW
  have hg : gs = [] := by
    rw [hvars] at hV
    cases gs with
    | nil => rfl
    | cons a b => exact hV.elim
  subst hg
  have hlen : ds.length = fn.params.toList.length := by
    have : ∀ (ts : List TypeId) (vs : List Value) (ds : List (DataW H)) (ps : List MemPlace), DataW.TrodAll enc C.prog W 0 (fun _ => true) true ts vs ds ps → ds.length = ts.length := by
      intro ts
      induction ts with
      | nil => intro vs ds ps h; cases vs <;> cases ds <;> first | rfl | exact h.elim | cases h
      | cons t ts ih =>
        intro vs ds ps h
        cases vs with
        | nil => cases h
        | cons v vs =>
          cases ds with
          | nil => cases h
          | cons d ds => obtain ⟨p, q, _, h2, _⟩ := h; simp [ih _ _ _ h2]
    exact this _ _ _ _ hA
  have hv0 : s.plain.varTypes C.prog = [] := by
    have : s.plain.vars = [] := hvars
    simp [DataSpec.varTypes, this]
  have hmc' := hmc W base args.toList ds p hA (fun j t v ht hv => hval j t v ht (by simpa using hv)) (by rw [hv0] at hsz; simpa using hsz) hL
  have hw := walk_of hmc'
  rw [Array.toArray_toList] at hw
  refine hw.mono fun e W' ⟨he, bel⟩ => ?_
  have hsp := hspec ds hlen
  refine ⟨_, he, ds, [], _, [], p, [], hW', ?_, ?_, ?_, bel.frame _, fun h => by cases h⟩
  · rw [List.append_nil, hsp, hres]
    exact trodAll_mk1 (shut_bool htb _)
  · rw [List.append_nil, hsp]
    exact args_stay hl bel _ _ _ _ hread hA
  · rw [List.append_nil, hsp, hvars]
    rfl
end Go.Proofs.YticlgdhhnjpkjaaGreatDoor.Mw
namespace Go.Proofs.YticlgdhhnjpkjaaGreatDoor.Mw
open Go Go.RowKit Go.ChangeShapes Go.WideShapes Go.ChangeAt Go.Deep
set_option linter.unusedVariables false
structure Opens (P : Program) (w : World) (t : TypeId) {α : Type} (c : α → List DV) : Prop where
  op : ∀ {H : Type} (enc : TypeId × Value → H) (base : Nat) (spare : Nat → Bool) (held : Bool) (fuel : Nat) (cs : List Value) (x : DataW H × List MemPlace),
    DataW.trod enc P w base spare held fuel t cs = some x → ∃ a, RepL (snap w) (c a) cs
structure OpensF (P : Program) (w : World) (tot : Nat) (fs : List Field) (o : Nat) {α : Type} (c : α → List DV) : Prop where
  op : ∀ {H : Type} (enc : TypeId × Value → H) (base : Nat) (spare : Nat → Bool) (held : Bool) (fuel : Nat) (cs : List Value), cs.length = tot →
    (∀ f ∈ fs, ∃ y, DataW.trod enc P w base spare held fuel f.type ((cs.drop f.offset).take (P.cellsOf f.type)) = some y) → ∃ a, RepL (snap w) (c a) (cs.drop o)
section
variable {P : Program} {w : World} {t : TypeId}
theorem RepL.one {m : Mem} {d : DV} {v : Value} (h : Rep m d v) : RepL m [d] [v] := RepL.cons h (RepL.nil m)
theorem Opens.int {k : IntKind} (ht : P.underlying t = some (.int k)) : Opens P w t (fun z : Int => [.int k z]) := by
  constructor
  intro _ enc base sp held fuel cs x h
  obtain ⟨n, rfl, _, _⟩ := DataW.trod_int ht h
  exact ⟨n, RepL.one (by simp only [Rep])⟩
theorem Opens.bool (ht : P.underlying t = some .bool) : Opens P w t (fun z : Bool => [.bool z]) := by
  constructor
  intro _ enc base sp held fuel cs x h
  obtain ⟨n, rfl, _⟩ := DataW.trod_bool ht h
  exact ⟨n, RepL.one (by simp only [Rep])⟩
theorem Opens.str (ht : P.underlying t = some .string) : Opens P w t (fun z : ByteArray => [.str z]) := by
  constructor
  intro _ enc base sp held fuel cs x h
  obtain ⟨n, rfl, _⟩ := DataW.trod_string ht h
  exact ⟨n, RepL.one (by simp only [Rep])⟩
theorem Opens.map {α β : Type} {c : α → List DV} {c' : β → List DV} (h : Opens P w t c) (f : α → β) (e : ∀ a, c' (f a) = c a) : Opens P w t c' := by
  constructor
  intro _ enc base sp held fuel cs x hx
  obtain ⟨a, ha⟩ := h.op enc base sp held fuel cs x hx
  exact ⟨f a, by rw [e]; exact ha⟩
theorem OpensF.nil {tot : Nat} : OpensF P w tot [] tot (fun _ : Unit => []) := by
  constructor
  intro _ enc base sp held fuel cs hl h
  exact ⟨(), by rw [List.drop_eq_nil_of_le (by omega)]; exact RepL.nil _⟩
theorem OpensF.cons {α β : Type} {c0 : α → List DV} {c1 : β → List DV} {tot o k : Nat} {f : Field} {fs : List Field} (h0 : Opens P w f.type c0) (ho : f.offset = o) (hk : P.cellsOf f.type = k) (h1 : OpensF P w tot fs (o + k) c1) :
    OpensF P w tot (f :: fs) o (fun p : α × β => c0 p.1 ++ c1 p.2) := by
  constructor
  intro _ enc base sp held fuel cs hl h
  obtain ⟨y, hy⟩ := h f (by simp)
  obtain ⟨a, ha⟩ := h0.op enc base sp held fuel _ _ hy
  obtain ⟨b, hb⟩ := h1.op enc base sp held fuel cs hl fun g hg => h g (by simp [hg])
  rw [ho, hk] at ha
  refine ⟨(a, b), ?_⟩
  have e : cs.drop o = (cs.drop o).take k ++ cs.drop (o + k) := by rw [← List.drop_drop, List.take_append_drop]
  rw [e]
  exact ha.append hb
theorem Opens.struct {α : Type} {c : α → List DV} {fs : Array Field} {tot : Nat} (ht : P.underlying t = some (.struct fs)) (hc : P.cellsOf t = tot) (h : OpensF P w tot fs.toList 0 c) : Opens P w t c := by
  constructor
  intro _ enc base sp held fuel cs x hx
  obtain ⟨xs, n, _, _, hl, hlen, hf⟩ := DataW.trod_struct ht hx
  have := h.op enc base sp held n cs (hl.trans hc) fun f hf' => by
    obtain ⟨i, hi, e⟩ := List.getElem_of_mem hf'
    have hi' : i < xs.length := by rw [hlen]; simpa using hi
    refine ⟨xs[i], ?_⟩
    rw [hf i f (by rw [← Array.getElem?_toList, List.getElem?_eq_getElem hi, e]), List.getElem?_eq_getElem hi']
  simpa using this
theorem snap_cell {a : Addr} {v : Value} (h : w.cell? a = some v) : ∃ b o ty N full, a = ⟨b, o, none⟩ ∧ snap w b = some (.cells ty N true full) ∧ full[o]? = some v := by
  obtain ⟨b, o, sp⟩ := a
  have hs := World.cell?_spot h
  simp only at hs; subst hs
  unfold World.cell? at h
  split at h
  · rename_i c ty fz hb
    simp only [Option.isSome_none, Bool.false_eq_true, if_false] at h
    refine ⟨b, o, ty, c.size, c.toList, rfl, ?_, by simpa using h⟩
    simp only at hb
    simp only [snap, hb]
    rw [if_neg]
    rintro ⟨h0, _⟩
    have : c = #[] := Array.eq_empty_of_size_eq_zero h0
    subst this
    simp at h
  · cases h
theorem rep_cells {α : Type} {c : α → List DV} {n : Nat} {base b o : Nat} {ty : TypeId} {N : Nat} {full : List Value} (hm : snap w b = some (.cells ty N true full)) :
    ∀ (l : List α) (k : Nat), (∀ i (hi : i < l.length), ∃ cs', w.cells? base ((⟨b, o, none⟩ : Addr).add ((k + i) * n)) n = some cs' ∧ RepL (snap w) (c l[i]) cs') → RepP (snap w) (l.flatMap c) (full.drop (o + k * n))
  | [], k, h => by simp [RepP]
  | x :: l, k, h => by
    obtain ⟨cs', h1, h2⟩ := h 0 (by simp)
    obtain ⟨_, hlen, hcell⟩ := World.cells?_some h1
    have ih := rep_cells (base := base) hm l (k + 1) fun i hi => by
      have := h (i + 1) (by simpa using hi)
      simpa [Nat.add_assoc, Nat.add_comm 1 i] using this
    have e : cs' = (full.drop (o + k * n)).take n := by
      apply List.ext_getElem?
      intro i
      by_cases hi : i < n
      · rw [List.getElem?_take_of_lt hi, List.getElem?_drop, ← hcell i hi]
        simp only [Nat.add_zero, add_plain]
        unfold World.cell?
        unfold snap at hm
        split at hm
        · rename_i c' ty' fz hb
          split at hm
          · cases hm
          cases hm
          simp only [hb]
          simp [Nat.add_assoc]
        · cases hm
      · rw [List.getElem?_eq_none (by omega), List.getElem?_eq_none (by simp; omega)]
    have e2 : full.drop (o + k * n) = cs' ++ full.drop (o + (k + 1) * n) := by
      rw [e, show o + (k + 1) * n = o + k * n + n by rw [Nat.add_mul]; omega, ← List.drop_drop (i := n), List.take_append_drop]
    rw [List.flatMap_cons, e2]
    exact h2.1.append h2.2 ih
theorem Opens.slice {α : Type} {c : α → List DV} {e : TypeId} {n : Nat} (h : Opens P w e c) (ht : P.underlying t = some (.slice e)) (hn : P.cellsOf e = n) (hpos : 0 < n) : Opens P w t (fun l : List α => [slD c l]) := by
  constructor
  intro _ enc base sp held fuel cs x hx
  rcases open_slice ht hx with ⟨rfl, _⟩ | ⟨a, len, cap, m, k, D, Pl, rfl, _, hl, _, hm, _, hel⟩
  · refine ⟨[], RepL.one ?_⟩
    simp only [slD, Rep, List.flatMap_nil, List.length_nil]
    exact ⟨none, 0, rfl, Nat.le_refl _, fun h => absurd h (by omega)⟩
  · have hlm : len ≤ m := by rw [hm]; split <;> omega
    have each : ∀ i, i < len → ∃ y : α, ∃ cs', w.cells? base (a.add (i * n)) n = some cs' ∧ RepL (snap w) (c y) cs' := fun i hi => by
      obtain ⟨cs', h1, h2⟩ := hel i (by omega)
      obtain ⟨y, hy⟩ := h.op enc base sp held k cs' _ h2
      rw [hn] at h1
      exact ⟨y, cs', h1, hy⟩
    have : ∃ l : List α, l.length = len ∧ ∀ i (hi : i < l.length), ∃ cs', w.cells? base (a.add (i * n)) n = some cs' ∧ RepL (snap w) (c l[i]) cs' := by
      clear hel hl hlm hm hx
      rename_i hxx
      clear hxx
      induction len with
      | zero => exact ⟨[], rfl, fun i hi => absurd hi (by simp)⟩
      | succ len ih =>
        obtain ⟨l, h1, h2⟩ := ih fun i hi => each i (by omega)
        obtain ⟨y, hy⟩ := each len (by omega)
        refine ⟨l ++ [y], by simp [h1], fun i hi => ?_⟩
        by_cases h' : i < l.length
        · simpa [List.getElem_append_left h'] using h2 i h'
        · have : i = len := by simp at hi; omega
          subst this
          simpa [h1] using hy
    obtain ⟨l, rfl, hlc⟩ := this
    refine ⟨l, RepL.one ?_⟩
    simp only [slD, Rep]
    refine ⟨some a, cap, rfl, hl, fun h0 => ?_⟩
    obtain ⟨cs', h1, h2⟩ := hlc 0 h0
    obtain ⟨_, hlen, hcell⟩ := World.cells?_some h1
    have h3 := hcell 0 hpos
    have h4 : 0 < cs'.length := by omega
    rw [List.getElem?_eq_getElem h4] at h3
    simp only [Nat.zero_mul] at h3
    obtain ⟨b, o, ty, N, full, e1, e2, _⟩ := snap_cell h3
    have ea : a = ⟨b, o, none⟩ := by simpa [Addr.add] using e1
    subst ea
    refine ⟨b, o, ty, N, full, rfl, e2, ?_⟩
    have := rep_cells (base := base) (n := n) e2 l 0 (by simpa using hlc)
    simpa using this
theorem Opens.val {α : Type} {d : α → DV} (h : Opens P w t (fun a => [d a])) {v : Value} (hc : v.cells = #[v]) {H : Type} {enc : TypeId × Value → H} {base : Nat} {sp : Nat → Bool} {held : Bool} {x : DataW H} {p : List MemPlace}
    (hx : DataW.Trod enc P w base sp held t v x p) : ∃ a, Rep (snap w) (d a) v := by
  obtain ⟨fuel, hf⟩ := hx
  obtain ⟨a, ha⟩ := h.op enc base sp held fuel _ _ hf
  rw [hc] at ha
  have h1 := ha.1
  simp only [RepP] at h1
  exact ⟨a, h1.1⟩
end
end Go.Proofs.YticlgdhhnjpkjaaGreatDoor.Mw
namespace Go.Proofs.YticlgdhhnjpkjaaGreatDoor.Mw
open Go Go.RowKit Go.ChangeShapes Go.WideShapes Go.ChangeAt Go.Deep
set_option linter.unusedVariables false
structure OpensS (P : Program) (w : World) (t : TypeId) {α : Type} (c : α → List DV) (S : α → Prop) : Prop where
  op : ∀ {H : Type} (enc : TypeId × Value → H) (base : Nat) (spare : Nat → Bool) (held : Bool) (fuel : Nat) (cs : List Value) (x : DataW H × List MemPlace),
    DataW.trod enc P w base spare held fuel t cs = some x → (∀ n ∈ x.1.weights P t, n ≤ reachBytes) → ∃ a, RepL (snap w) (c a) cs ∧ S a
structure OpensT (P : Program) (w : World) (tot : Nat) (fs : List Field) (o : Nat) {α : Type} (c : α → List DV) (S : α → Prop) : Prop where
  op : ∀ {H : Type} (enc : TypeId × Value → H) (base : Nat) (spare : Nat → Bool) (held : Bool) (fuel : Nat) (cs : List Value), cs.length = tot →
    (∀ f ∈ fs, ∃ y, DataW.trod enc P w base spare held fuel f.type ((cs.drop f.offset).take (P.cellsOf f.type)) = some y ∧ ∀ n ∈ y.1.weights P f.type, n ≤ reachBytes) → ∃ a, RepL (snap w) (c a) (cs.drop o) ∧ S a
section
variable {P : Program} {w : World} {t : TypeId}
def I64 (z : Int) : Prop := -9223372036854775808 ≤ z ∧ z ≤ 9223372036854775807
theorem OpensS.int (ht : P.underlying t = some (.int .i64)) : OpensS P w t (fun z : Int => [.int .i64 z]) I64 := by
  constructor
  intro _ enc base sp held fuel cs x h _
  obtain ⟨n, rfl, _, hw⟩ := DataW.trod_int ht h
  refine ⟨n, RepL.one (by simp only [Rep]), ?_⟩
  simp only [Lit.wf, Bool.and_eq_true, decide_eq_true_eq] at hw
  exact hw
theorem OpensS.bool (ht : P.underlying t = some .bool) : OpensS P w t (fun z : Bool => [.bool z]) (fun _ => True) := by
  constructor
  intro _ enc base sp held fuel cs x h _
  obtain ⟨n, rfl, _⟩ := DataW.trod_bool ht h
  exact ⟨n, RepL.one (by simp only [Rep]), trivial⟩
theorem OpensS.str (ht : P.underlying t = some .string) : OpensS P w t (fun z : ByteArray => [.str z]) (fun s => s.size ≤ reachBytes) := by
  constructor
  intro _ enc base sp held fuel cs x h hs
  obtain ⟨n, rfl, rfl, _⟩ := DataW.trod_string ht h
  refine ⟨n, RepL.one (by simp only [Rep]), ?_⟩
  have := hs n.data.toList.length (by simp [DataW.weights])
  simpa using this
theorem OpensS.map {α β : Type} {c : α → List DV} {c' : β → List DV} {S : α → Prop} {S' : β → Prop} (h : OpensS P w t c S) (f : α → β) (e : ∀ a, c' (f a) = c a) (hS : ∀ a, S a → S' (f a)) : OpensS P w t c' S' := by
  constructor
  intro _ enc base sp held fuel cs x hx hs
  obtain ⟨a, ha, h1⟩ := h.op enc base sp held fuel cs x hx hs
  exact ⟨f a, by rw [e]; exact ha, hS a h1⟩
theorem OpensT.nil {tot : Nat} : OpensT P w tot [] tot (fun _ : Unit => []) (fun _ => True) := by
  constructor
  intro _ enc base sp held fuel cs hl h
  exact ⟨(), by rw [List.drop_eq_nil_of_le (by omega)]; exact RepL.nil _, trivial⟩
theorem OpensT.cons {α β : Type} {c0 : α → List DV} {c1 : β → List DV} {S0 : α → Prop} {S1 : β → Prop} {tot o k : Nat} {f : Field} {fs : List Field} (h0 : OpensS P w f.type c0 S0) (ho : f.offset = o) (hk : P.cellsOf f.type = k) (h1 : OpensT P w tot fs (o + k) c1 S1) :
    OpensT P w tot (f :: fs) o (fun p : α × β => c0 p.1 ++ c1 p.2) (fun p => S0 p.1 ∧ S1 p.2) := by
  constructor
  intro _ enc base sp held fuel cs hl h
  obtain ⟨y, hy, hyw⟩ := h f (by simp)
  obtain ⟨a, ha, sa⟩ := h0.op enc base sp held fuel _ _ hy hyw
  obtain ⟨b, hb, sb⟩ := h1.op enc base sp held fuel cs hl fun g hg => h g (by simp [hg])
  rw [ho, hk] at ha
  refine ⟨(a, b), ?_, sa, sb⟩
  have e : cs.drop o = (cs.drop o).take k ++ cs.drop (o + k) := by rw [← List.drop_drop, List.take_append_drop]
  rw [e]
  exact ha.append hb
theorem OpensS.struct {α : Type} {c : α → List DV} {S : α → Prop} {fs : Array Field} {tot : Nat} (ht : P.underlying t = some (.struct fs)) (hc : P.cellsOf t = tot) (h : OpensT P w tot fs.toList 0 c S) : OpensS P w t c S := by
  constructor
  intro _ enc base sp held fuel cs x hx hs
  obtain ⟨xs, n, _, rfl, hl, hlen, hf⟩ := DataW.trod_struct ht hx
  have := h.op enc base sp held n cs (hl.trans hc) fun f hf' => by
    obtain ⟨i, hi, e⟩ := List.getElem_of_mem hf'
    have hi' : i < xs.length := by rw [hlen]; simpa using hi
    have hfi : fs[i]? = some f := by rw [← Array.getElem?_toList, List.getElem?_eq_getElem hi, e]
    refine ⟨xs[i], ?_, fun m hm => hs m ?_⟩
    · rw [hf i f hfi, List.getElem?_eq_getElem hi']
    · simp only [DataW.weights, ht]
      exact DataW.weights_mem_each (j := i) (t := f.type) (d := xs[i].1) (by rw [List.getElem?_map, Array.getElem?_toList, hfi]; rfl) (by simp [hi']) m hm
  simpa using this
theorem weights_all {H : Type} {e : TypeId} {n : Nat} : ∀ {ds : List (DataW H)} {d : DataW H}, d ∈ ds → n ∈ d.weights P e → n ∈ DataW.weightsAll P e ds
  | x :: ds, d, hd, hn => by
    simp only [DataW.weightsAll, List.mem_append]
    rcases List.mem_cons.1 hd with rfl | hd
    · exact .inl hn
    · exact .inr (weights_all hd hn)
theorem OpensS.slice {α : Type} {c : α → List DV} {S : α → Prop} {e : TypeId} {n bytes : Nat} (h : OpensS P w e c S) (ht : P.underlying t = some (.slice e)) (hn : P.cellsOf e = n) (hpos : 0 < n) (hb : P.bytesOf e = bytes) :
    OpensS P w t (fun l : List α => [slD c l]) (fun l => l.length * bytes ≤ reachBytes ∧ ∀ x ∈ l, S x) := by
  constructor
  intro _ enc base sp held fuel cs x hx hs
  rcases open_slice ht hx with ⟨rfl, _⟩ | ⟨a, len, cap, m, k, D, Pl, rfl, _, hl, _, hm, rfl, hel⟩
  · refine ⟨[], RepL.one ?_, by simp, fun _ h => by simp at h⟩
    simp only [slD, Rep, List.flatMap_nil, List.length_nil]
    exact ⟨none, 0, rfl, Nat.le_refl _, fun h => absurd h (by omega)⟩
  · have hlm : len ≤ m := by rw [hm]; split <;> omega
    simp only [DataW.weights, ht, List.mem_cons, List.mem_append] at hs
    have hsz : len * bytes ≤ reachBytes := by
      have := hs _ (.inl rfl)
      simp only [List.length_map, List.length_range, hb] at this
      exact Nat.le_trans (Nat.mul_le_mul_right _ (Nat.le_add_right _ _)) this
    have each : ∀ i, i < len → ∃ y : α, (∃ cs', w.cells? base (a.add (i * n)) n = some cs' ∧ RepL (snap w) (c y) cs') ∧ S y := fun i hi => by
      obtain ⟨cs', h1, h2⟩ := hel i (by omega)
      obtain ⟨y, hy, sy⟩ := h.op enc base sp held k cs' _ h2 fun q hq => hs q (.inr (.inl (weights_all (d := D i) (by simp; exact ⟨i, hi, rfl⟩) hq)))
      rw [hn] at h1
      exact ⟨y, ⟨cs', h1, hy⟩, sy⟩
    have : ∃ l : List α, l.length = len ∧ (∀ i (hi : i < l.length), ∃ cs', w.cells? base (a.add (i * n)) n = some cs' ∧ RepL (snap w) (c l[i]) cs') ∧ ∀ x ∈ l, S x := by
      clear hel hl hlm hm hx hs hsz
      induction len with
      | zero => exact ⟨[], rfl, fun i hi => absurd hi (by simp), fun _ h => by simp at h⟩
      | succ len ih =>
        obtain ⟨l, h1, h2, h3⟩ := ih fun i hi => each i (by omega)
        obtain ⟨y, hy, sy⟩ := each len (by omega)
        refine ⟨l ++ [y], by simp [h1], fun i hi => ?_, fun x hx => ?_⟩
        · by_cases h' : i < l.length
          · simpa [List.getElem_append_left h'] using h2 i h'
          · have : i = len := by simp at hi; omega
            subst this
            simpa [h1] using hy
        · rcases List.mem_append.1 hx with hx | hx
          · exact h3 x hx
          · simp at hx; subst hx; exact sy
    obtain ⟨l, rfl, hlc, hS⟩ := this
    refine ⟨l, RepL.one ?_, hsz, hS⟩
    simp only [slD, Rep]
    refine ⟨some a, cap, rfl, hl, fun h0 => ?_⟩
    obtain ⟨cs', h1, h2⟩ := hlc 0 h0
    obtain ⟨_, hlen, hcell⟩ := World.cells?_some h1
    have h3 := hcell 0 hpos
    have h4 : 0 < cs'.length := by omega
    rw [List.getElem?_eq_getElem h4] at h3
    simp only [Nat.zero_mul] at h3
    obtain ⟨b, o, ty, N, full, e1, e2, _⟩ := snap_cell h3
    have ea : a = ⟨b, o, none⟩ := by simpa [Addr.add] using e1
    subst ea
    refine ⟨b, o, ty, N, full, rfl, e2, ?_⟩
    have := rep_cells (base := base) (n := n) e2 l 0 (by simpa using hlc)
    simpa using this
theorem OpensS.val {α : Type} {d : α → DV} {S : α → Prop} (h : OpensS P w t (fun a => [d a]) S) {v : Value} (hc : v.cells = #[v]) {H : Type} {enc : TypeId × Value → H} {base : Nat} {sp : Nat → Bool} {held : Bool} {x : DataW H} {p : List MemPlace}
    (hx : DataW.Trod enc P w base sp held t v x p) (hs : ∀ n ∈ x.weights P t, n ≤ reachBytes) : ∃ a, Rep (snap w) (d a) v ∧ S a := by
  obtain ⟨fuel, hf⟩ := hx
  obtain ⟨a, ha, sa⟩ := h.op enc base sp held fuel _ _ hf hs
  rw [hc] at ha
  have h1 := ha.1
  simp only [RepP] at h1
  exact ⟨a, h1.1, sa⟩
theorem OpensS.agg {α : Type} {c : α → List DV} {S : α → Prop} (h : OpensS P w t c S) {cs : Array Value} {H : Type} {enc : TypeId × Value → H} {base : Nat} {sp : Nat → Bool} {held : Bool} {x : DataW H} {p : List MemPlace}
    (hx : DataW.Trod enc P w base sp held t (.agg cs) x p) (hs : ∀ n ∈ x.weights P t, n ≤ reachBytes) : ∃ a, Rep (snap w) (.agg (c a)) (.agg cs) ∧ S a := by
  obtain ⟨fuel, hf⟩ := hx
  obtain ⟨a, ha, sa⟩ := h.op enc base sp held fuel _ _ hf hs
  refine ⟨a, ?_, sa⟩
  simp only [Rep]
  exact ⟨cs.toList, by simp, ha.1, ha.2⟩
theorem sized_mem {H : Type} {ts : List TypeId} {ds : List (DataW H)} (h : (DataW.weightsEach P ts ds).all (· ≤ reachBytes) = true) {j : Nat} {d : DataW H} (ht : ts[j]? = some t) (hd : ds[j]? = some d) : ∀ n ∈ d.weights P t, n ≤ reachBytes := fun n hn => by
  have := List.all_eq_true.1 h n (DataW.weights_mem_each ht hd n hn)
  simpa using this
end
end Go.Proofs.YticlgdhhnjpkjaaGreatDoor.Mw
namespace Go.Proofs.YticlgdhhnjpkjaaGreatDoor
open Go Go.RowKit Go.Proofs.YticlgdhhnjpkjaaGreatDoor.Mw Go.Proofs.YticlgdhhnjpkjaaGreatDoor.Pf Go.ChangeShapes Go.WideShapes Go.ChangeAt
set_option linter.unusedVariables false
theorem own : ownKnob Tryz.prog.godebug = none := by kernel_rfl
theorem laid : laidOutB Tryz.prog = true := by kernel_rfl
theorem et : Tryz.prog.globalNamed "errors.errorType" = some 0 := by kernel_rfl
theorem rt : (Tryz.prog.cutTypes.find? (·.1 == "internal/reflectlite.rtype")).map (·.2) = some 228 := by kernel_rfl
theorem oneRow : ((List.range 270).filter fun t => Tryz.prog.rowNamed t [101, 114, 114, 111, 114]) = [162] := by kernel_rfl
theorem sizeT : Tryz.prog.types.size = 270 := by kernel_rfl
abbrev told : List (String × DataW Unit) := [("errors.errorType", Rows.laid_errors_errorType)]
theorem glob_told {W : World} (h : laidMetH Tryz.prog told W) : Glob (snap W) := by
  have h' : laidMet Tryz.prog [] W ∧ handlesMet Tryz.prog told W := h
  obtain ⟨name, u, ty, e1, e2, e3, e4, e5⟩ := h'.2 _ (List.mem_singleton.2 rfl)
  have en : name = [101, 114, 114, 111, 114] := (Option.some.inj e1).symm
  subst en
  obtain rfl := Option.some.inj (rt.symm.trans e2)
  have hm : ty ∈ (List.range 270).filter fun t => Tryz.prog.rowNamed t [101, 114, 114, 111, 114] := List.mem_filter.2 ⟨List.mem_range.2 (by rw [← sizeT]; exact e3), e4⟩
  rw [oneRow] at hm
  obtain rfl := List.mem_singleton.1 hm
  have hh : typeHandle Tryz.prog 162 = .pointer (some ⟨1, 162, none⟩) := by kernel_rfl
  rw [hh] at e5
  intro b v hb
  have hb0 : b = 0 ∧ v = .iface 228 (.agg #[.pointer (some ⟨1, 162, none⟩)]) := by
    unfold globs at hb
    simp only [List.lookup] at hb
    split at hb
    · rename_i hx
      exact ⟨by simpa using hx, (Option.some.inj hb).symm⟩
    · cases hb
  obtain ⟨rfl, rfl⟩ := hb0
  unfold World.var? at e5
  rw [et] at e5
  simp only [Option.bind_some] at e5
  split at e5
  · rename_i c t z hc
    cases e5
    exact ⟨t, by unfold snap; rw [hc] <;> rfl⟩
  · cases e5
noncomputable def toldWorld (os : Os) : World :=
  let w0 := World.holding Tryz.prog os ⟨#[], #[], []⟩
  { w0 with heap := w0.heap.modify 0 fun
      | .cells _ t frozen => .cells #[.iface 228 (.agg #[.pointer (some ⟨1, 162, none⟩)])] t frozen
      | o => o }
theorem toldWorld_met (os : Os) (args : Array Value) : laidMetH Tryz.prog told ((toldWorld os).forCall (fun _ _ => 0) ⟨#[], args, []⟩).memory :=
  laidMetH_of_parts (laidMet_nil _ _) (by kernel_rfl)
theorem cI : Tryz.prog.cellsOf 3 = 1 := by kernel_rfl
theorem opI (w : World) : OpensS Tryz.prog w 3 (fun z : Int => [.int .i64 z]) I64 := OpensS.int Tryz.underlying3
theorem cIns : Tryz.prog.cellsOf 63 = 2 := by kernel_rfl
theorem cInss : Tryz.prog.cellsOf 51 = 1 := by kernel_rfl
theorem cFnc : Tryz.prog.cellsOf 53 = 3 := by kernel_rfl
theorem cFncs : Tryz.prog.cellsOf 22 = 1 := by kernel_rfl
theorem cPrg : Tryz.prog.cellsOf 24 = 1 := by kernel_rfl
set_option maxRecDepth 100000 in
theorem opIns (w : World) : OpensS Tryz.prog w 63 Ins.c (fun x => I64 x.kind ∧ I64 x.a) :=
  (OpensS.struct Tryz.underlying63 cIns (OpensT.cons (opI w) rfl cI (OpensT.cons (opI w) rfl cI OpensT.nil))).map (fun p => ⟨p.1, p.2.1⟩) (fun a => rfl) (fun a h => ⟨h.1, h.2.1⟩)
set_option maxRecDepth 100000 in
theorem opInss (w : World) : OpensS Tryz.prog w 51 (fun l : List Ins => [slD Ins.c l]) (fun l => l.length * 16 ≤ reachBytes ∧ ∀ x ∈ l, I64 x.kind ∧ I64 x.a) :=
  OpensS.slice (opIns w) Tryz.underlying51 cIns (by decide) (by kernel_rfl)
set_option maxRecDepth 100000 in
theorem opFnc (w : World) : OpensS Tryz.prog w 53 Fnc.c (fun f => (I64 f.args ∧ I64 f.locals) ∧ f.code.length * 16 ≤ reachBytes ∧ ∀ x ∈ f.code, I64 x.kind ∧ I64 x.a) :=
  (OpensS.struct Tryz.underlying53 cFnc (OpensT.cons (opI w) rfl cI (OpensT.cons (opI w) rfl cI (OpensT.cons (opInss w) rfl cInss OpensT.nil)))).map (fun p => ⟨p.1, p.2.1, p.2.2.1⟩) (fun a => rfl) (fun a h => ⟨⟨h.1, h.2.1⟩, h.2.2.1⟩)
set_option maxRecDepth 100000 in
theorem opPrg (w : World) : OpensS Tryz.prog w 24 (fun l : List Fnc => [slD Fnc.c l]) (fun l => l.length * 40 ≤ reachBytes ∧ ∀ f ∈ l, (I64 f.args ∧ I64 f.locals) ∧ f.code.length * 16 ≤ reachBytes ∧ ∀ x ∈ f.code, I64 x.kind ∧ I64 x.a) :=
  (OpensS.struct Tryz.underlying24 cPrg (OpensT.cons (OpensS.slice (opFnc w) Tryz.underlying22 cFnc (by decide) (by kernel_rfl)) rfl cFncs OpensT.nil)).map (fun p => p.1) (fun a => rfl) (fun a h => h.1)
theorem cB : Tryz.prog.cellsOf 4 = 1 := by kernel_rfl
theorem cInts : Tryz.prog.cellsOf 48 = 1 := by kernel_rfl
theorem cSrc : Tryz.prog.cellsOf 136 = 2 := by kernel_rfl
theorem cSrcs : Tryz.prog.cellsOf 67 = 1 := by kernel_rfl
theorem cPart : Tryz.prog.cellsOf 69 = 4 := by kernel_rfl
theorem cParts : Tryz.prog.cellsOf 77 = 1 := by kernel_rfl
theorem cMeta : Tryz.prog.cellsOf 79 = 1 := by kernel_rfl
theorem cMetas : Tryz.prog.cellsOf 27 = 1 := by kernel_rfl
theorem cIr : Tryz.prog.cellsOf 50 = 9 := by kernel_rfl
theorem cIrs : Tryz.prog.cellsOf 26 = 1 := by kernel_rfl
theorem cCod : Tryz.prog.cellsOf 29 = 4 := by kernel_rfl
set_option maxRecDepth 100000 in
theorem opSrc (w : World) : OpensS Tryz.prog w 136 Src.c (fun _ => True) :=
  (OpensS.struct Tryz.underlying136 cSrc (OpensT.cons (OpensS.bool Tryz.underlying4) rfl cB (OpensT.cons (opI w) rfl cI OpensT.nil))).map (fun p => ⟨p.1, p.2.1⟩) (fun a => rfl) (fun a h => trivial)
set_option maxRecDepth 100000 in
theorem opSrcs (w : World) : OpensS Tryz.prog w 67 (fun l : List Src => [slD Src.c l]) (fun l => l.length * 16 ≤ reachBytes) :=
  (OpensS.slice (opSrc w) Tryz.underlying67 cSrc (by decide) (by kernel_rfl)).map id (fun a => rfl) (fun a h => h.1)
set_option maxRecDepth 100000 in
theorem opPart (w : World) : OpensS Tryz.prog w 69 Part.c (fun x => x.locals.length * 16 ≤ reachBytes ∧ x.stack.length * 16 ≤ reachBytes) :=
  (OpensS.struct Tryz.underlying69 cPart (OpensT.cons (opI w) rfl cI (OpensT.cons (opI w) rfl cI (OpensT.cons (opSrcs w) rfl cSrcs (OpensT.cons (opSrcs w) rfl cSrcs OpensT.nil))))).map (fun p => ⟨p.1, p.2.1, p.2.2.1, p.2.2.2.1⟩) (fun a => rfl) (fun a h => ⟨h.2.2.1, h.2.2.2.1⟩)
def PartsZ (l : List Part) : Prop := l.length * 64 ≤ reachBytes ∧ ∀ x ∈ l, x.locals.length * 16 ≤ reachBytes ∧ x.stack.length * 16 ≤ reachBytes
set_option maxRecDepth 100000 in
theorem opMeta (w : World) : OpensS Tryz.prog w 79 metaC PartsZ :=
  (OpensS.struct Tryz.underlying79 cMeta (OpensT.cons (OpensS.slice (opPart w) Tryz.underlying77 cPart (by decide) (by kernel_rfl)) rfl cParts OpensT.nil)).map (fun p => p.1) (fun a => rfl) (fun a h => h.1)
set_option maxRecDepth 100000 in
theorem slD_ints (l : List Int) : slD (fun z : Int => [.int .i64 z]) l = slI l := by simp [slD, slI, ← List.map_eq_flatMap]
set_option maxRecDepth 100000 in
theorem opInts (w : World) : OpensS Tryz.prog w 48 (fun l : List Int => [slI l]) (fun l => l.length * 8 ≤ reachBytes ∧ ∀ x ∈ l, I64 x) :=
  (OpensS.slice (opI w) Tryz.underlying48 cI (by decide) (by kernel_rfl)).map id (fun l => by simp only [id, slD_ints]) (fun _ h => h)
def IrcI (x : Irc) : Prop := I64 x.kind ∧ I64 x.r ∧ I64 x.a ∧ I64 x.b ∧ I64 x.k ∧ (x.args.length * 8 ≤ reachBytes ∧ ∀ y ∈ x.args, I64 y) ∧ I64 x.cost ∧ I64 x.mt ∧ I64 x.pc
set_option maxRecDepth 100000 in
theorem opIr (w : World) : OpensS Tryz.prog w 50 Irc.c IrcI :=
  (OpensS.struct Tryz.underlying50 cIr (OpensT.cons (opI w) rfl cI (OpensT.cons (opI w) rfl cI (OpensT.cons (opI w) rfl cI (OpensT.cons (opI w) rfl cI (OpensT.cons (opI w) rfl cI (OpensT.cons (opInts w) rfl cInts (OpensT.cons (opI w) rfl cI (OpensT.cons (opI w) rfl cI (OpensT.cons (opI w) rfl cI OpensT.nil)))))))))).map
    (fun p => ⟨p.1, p.2.1, p.2.2.1, p.2.2.2.1, p.2.2.2.2.1, p.2.2.2.2.2.1, p.2.2.2.2.2.2.1, p.2.2.2.2.2.2.2.1, p.2.2.2.2.2.2.2.2.1⟩) (fun a => rfl) (fun a h => ⟨h.1, h.2.1, h.2.2.1, h.2.2.2.1, h.2.2.2.2.1, h.2.2.2.2.2.1, h.2.2.2.2.2.2.1, h.2.2.2.2.2.2.2.1, h.2.2.2.2.2.2.2.2.1⟩)
def CodI (c : Cod) : Prop := I64 c.fn ∧ I64 c.regs ∧ (c.code.length * 88 ≤ reachBytes ∧ ∀ x ∈ c.code, IrcI x) ∧ (c.metas.length * 24 ≤ reachBytes ∧ ∀ m ∈ c.metas, PartsZ m)
set_option maxRecDepth 100000 in
theorem opCod (w : World) : OpensS Tryz.prog w 29 Cod.c CodI :=
  (OpensS.struct Tryz.underlying29 cCod (OpensT.cons (opI w) rfl cI (OpensT.cons (opI w) rfl cI (OpensT.cons (OpensS.slice (opIr w) Tryz.underlying26 cIr (by decide) (by kernel_rfl)) rfl cIrs (OpensT.cons (OpensS.slice (opMeta w) Tryz.underlying27 cMeta (by decide) (by kernel_rfl)) rfl cMetas OpensT.nil))))).map (fun p => ⟨p.1, p.2.1, p.2.2.1, p.2.2.2.1⟩) (fun a => rfl) (fun a h => ⟨h.1, h.2.1, h.2.2.1, h.2.2.2.1⟩)
theorem CodI.sz {c : Cod} (h : CodI c) : SzC c := by
  obtain ⟨_, _, ⟨h1, h2⟩, h3, h4⟩ := h
  unfold reachBytes at h1 h3
  refine ⟨h1, fun x hx => ?_, h3, fun m hm y hy => ?_⟩
  · have := (h2 x hx).2.2.2.2.2.1.1
    unfold reachBytes at this
    exact this
  · have := (h4 m hm).2 y hy
    unfold reachBytes at this
    omega
theorem CodI.src {c : Cod} (h : CodI c) : ∀ m ∈ c.metas, m.length * 64 ≤ 140737488351232 ∧ ∀ x ∈ m, x.locals.length * 16 ≤ 140737488351232 ∧ x.stack.length * 16 ≤ 140737488351232 := by
  obtain ⟨_, _, _, h3, h4⟩ := h
  intro m hm
  have := h4 m hm
  unfold PartsZ reachBytes at this
  exact this
namespace irs
set_option maxRecDepth 100000 in
theorem lifted (os : Os) (started : os.Started) (H : Type) (enc : TypeId × Value → H) :
    ReturnsInHanded {} Tryz.checked os 4 .any (fun w args => (Rows.irsSpec.pre enc Tryz.prog Tryz.f4 [] false w args ∧ laidMetH Tryz.prog told w) ∧ sizedMet enc Tryz.prog Tryz.f4 (OpenSpec.ofChange Rows.irsSpec) false w args)
      (Rows.irsSpec.post enc Tryz.prog Tryz.f4 false true false false) := by
  refine law_row_laid (C := Tryz.checked) told own started (by kernel_rfl) Tryz.func4 rfl (fun ds h => ?_) rfl Tryz.underlying4 laid (of_decide_eq_true (by kernel_rfl))
    (ChangeSpec.witness_at (enc := enc) (C := Tryz.checked) (os := os) (X := fun w _ => laidMetH Tryz.prog told w) false (toldWorld os) #[.agg #[.slice none 0 0], .agg #[.int .i64 0, .int .i64 0, .slice none 0 0, .slice none 0 0]] 8 rfl (by kernel_rfl) (by kernel_rfl) (by kernel_rfl) (by kernel_rfl) (by kernel_rfl) (toldWorld_met os _)) (fun W base args ds p hA hval hsz hL => ?_)
  · match ds, h with
    | [_, _], _ => rfl
  · rw [show Tryz.f4.params.toList = [24, 29] from rfl] at hA hsz
    obtain ⟨v0, vs0, d0, ds0, p0, q0, rfl, rfl, rfl, h0, r0⟩ := trodAll_cons hA
    obtain ⟨v1, vs1, d1, ds1, p1, q1, rfl, rfl, rfl, h1, r1⟩ := trodAll_cons r0
    obtain ⟨rfl, rfl, rfl⟩ := trodAll_nil r1
    obtain ⟨x0, rfl, z0⟩ := okWide_struct Tryz.underlying24 (hval 0 24 v0 rfl rfl)
    obtain ⟨a0, g0, s0⟩ := OpensS.agg (opPrg W) h0 (sized_mem (t := 24) (j := 0) hsz rfl rfl)
    obtain ⟨x1, rfl, z1⟩ := okWide_struct Tryz.underlying29 (hval 1 29 v1 rfl rfl)
    obtain ⟨a1, g1, s1⟩ := OpensS.agg (opCod W) h1 (sized_mem (t := 29) (j := 1) hsz rfl rfl)
    exact law_mc (Irs_pc a0 a1 s1.sz s1.src) (glob_told hL) (RepL.cons g0 (RepL.cons g1 (RepL.nil _)))
theorem over : Rows.irsRow.holds Tryz.pinned (OpenSpec.ofChange Rows.irsSpec) :=
  OpenClaim.holds_of_wide 4 Tryz.f4 rfl rfl rfl rfl rfl rfl rfl ⟨rfl, rfl, rfl, rfl, rfl⟩ rfl rfl rfl rfl rfl (by kernel_rfl) Tryz.func4 (by kernel_rfl)
    (of_decide_eq_true (by kernel_rfl)) (by unfold Func.isWrapper; first | (rw [if_pos (by decide +kernel)]; kernel_rfl) | (rw [if_neg (by decide +kernel)]; exact ⟨rfl, rfl⟩))
    (fun os started H enc _ => lifted os started H enc)
end irs
theorem irs_card : Rows.IrsCardSaid :=
  Claim7.holds_tied_plain_at .later [] [.handle] true _ true
    irs.over (fun _ h => by cases h) (by kernel_rfl) (fun _ h => by cases h) irs_row_tie rfl ⟨rfl, rfl⟩ (by kernel_rfl) rfl
    (fun f fn hf hfn => by
      obtain rfl : f = 4 := Option.some.inj ((show Tryz.prog.funcNamed "swage/swagelaw10.Irs" = some 4 by kernel_rfl).symm.trans hf) |>.symm
      obtain rfl : fn = Tryz.f4 := (Option.some.inj (Tryz.func4.symm.trans hfn)).symm
      have hall : (Tryz.f4.params.toList.all fun t => !Tryz.prog.wantsStandIn t) = true := by kernel_rfl
      refine ⟨by kernel_rfl, fun j t ht => ?_⟩
      have hm : t ∈ Tryz.f4.params.toList := List.mem_of_getElem? (i := j) (by rw [Array.getElem?_toList]; exact ht)
      exact (show Tryz.prog.wantsStandIn t = false by simpa using List.all_eq_true.1 hall t hm))
    (by kernel_rfl)
end Go.Proofs.YticlgdhhnjpkjaaGreatDoor
