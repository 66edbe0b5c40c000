/- Ve Vf Vg Vh Ds Wa: joined texts of this claim. No condition. -/
import Derived.Test.YtpehdlobicocpaaDoorLwjd
/- Heights of a function whose places are all in range. No condition. -/
namespace Go.Proofs.YtpehdlobicocpaaDoor.Pf
open Go Go.RowKit Go.Proofs Go.Proofs.YtpehdlobicocpaaDoor.Mw Go.Proofs.YtpehdlobicocpaaDoor.Sx
set_option linter.unusedVariables false
set_option linter.unusedSimpArgs false
set_option maxRecDepth 4000
theorem ofV_nilI : ofV .nilIface = .raw .nilIface := rfl
theorem of0_nilI : of0 .nilIface = .raw .nilIface := rfl
theorem cellsIfc (t : TypeId) (d : DV) : cellsD (.ifc t d) = some [.ifc t d] := rfl
theorem fz_ifc (M : DMem) (k : Nat) (t : TypeId) (d : DV) : fz M k (.ifc t d) = .ifc t (fz M k d) := by cases k <;> rfl
theorem fz_raw (M : DMem) (k : Nat) (v : Value) : fz M k (.raw v) = .raw v := (Froz.raw v).fz M k
/-- An error at a place. -/
def faultD (pc e : Int) : DV := .ifc 143 (.ip [.int .i64 pc, .ifc 39 (.int .i64 e)])
def heightsD (r : Except Int (List Int)) : DV := match r with
  | .ok out => .tup [slI out, .raw .nilIface]
  | .error pc => .tup [.isl 0 [], faultD pc 502]
/-- How many have no height. -/
def neg1 (L : List Int) : Nat := L.count (-1)
theorem neg1_set {L : List Int} {i : Nat} {h : Int} (hi : i < L.length) (hf : L[i] = -1) (hh : h ≠ -1) : neg1 (L.set i h) + 1 = neg1 L := by
  unfold neg1
  rw [List.count_set hi, hf]
  have : 0 < L.count (-1) := List.count_pos_iff.2 (by rw [← hf]; exact List.getElem_mem hi)
  simp [hh]; omega
structure HgI (p : List Fnc) (f : Fnc) (b : Nat) (L : List Int) (q : List Int) (M : DMem) (d : DV) : Prop where
  len : L.length = f.code.length
  out : M b = some ⟨3, f.code.length, L.map (.int .i64)⟩
  que : QueD M d q
  ne : blkD d ≠ some b
  inq : ∀ x ∈ q, ∃ i : Nat, x = i ∧ i < f.code.length ∧ Rch (nxF f) i
  low : ∀ x ∈ L, -1 ≤ x ∧ x ≤ 8
  small : neg1 L + q.length ≤ 64
theorem fnB_args {f : Fnc} (h : fnB f = true) : 0 ≤ f.args ∧ f.args ≤ 4 := by
  unfold fnB at h
  simp only [Bool.and_eq_true, decide_eq_true_eq] at h
  exact ⟨h.1.1.1.1, h.1.1.1.2⟩
theorem may_call {x : Ins} (h : mayB x = true) (hk : x.kind = 14) : 0 ≤ x.a := by
  unfold mayB belowF at h
  simp only [hk] at h
  simp at h; omega
theorem argsF_in {p : List Fnc} (hp : ∀ g ∈ p, fnB g = true) (x : Ins) : 0 ≤ argsF p x ∧ argsF p x ≤ 4 := by
  unfold argsF
  split
  · split
    · rename_i g hg; exact fnB_args (hp g (List.mem_of_getElem? hg))
    · omega
  · omega
theorem takesF_in (x : Ins) {a : Int} (h : 0 ≤ a ∧ a ≤ 4) : 0 ≤ takesF x a ∧ takesF x a ≤ 4 := by
  unfold takesF; split
  · omega
  · split
    · omega
    · split <;> omega
theorem putsF_in (x : Ins) : 0 ≤ putsF x ∧ putsF x ≤ 2 := by
  unfold putsF; split
  · omega
  · split <;> omega
theorem outB_call {p : List Fnc} {f : Fnc} {x : Ins} (h : outB p f x = false) (hk : x.kind = 14) : x.a < p.length := by
  unfold outB at h
  rw [if_neg (by omega), if_neg (by omega), if_pos hk] at h
  simpa using h
theorem startH_neg {n : Nat} (h : 1 ≤ n) : neg1 (startH n) = n - 1 := by
  unfold neg1 startH
  rw [List.count_set (by simp; omega)]
  simp
theorem hRun_pop (p : List Fnc) (f : Fnc) (k n : Nat) (L q : List Int) (hn : n < f.code.length) (hL : n < L.length) :
    hRun p f (k + 1) L ((n : Int) :: q) = if L[n] < takesF f.code[n] (argsF p f.code[n]) ∨ 8 < L[n] - takesF f.code[n] (argsF p f.code[n]) + putsF f.code[n] then .error (n : Int)
      else match hOne (L[n] - takesF f.code[n] (argsF p f.code[n]) + putsF f.code[n]) (nextF f n) L q with
        | some (o, q') => hRun p f k o q'
        | none => .error (n : Int) := by
  conv => lhs; unfold hRun
  simp only [Int.toNat_natCast, List.getD_eq_getElem?_getD, List.getElem?_eq_getElem hn, List.getElem?_eq_getElem hL, Option.getD_some]
  rfl
theorem hOne_cons (h to : Int) (r out q : List Int) : hOne h (to :: r) out q = if out[to.toNat]? = some (-1) then hOne h r (out.set to.toNat h) (q ++ [to]) else if out[to.toNat]? = some h then hOne h r out q else none := rfl
theorem heights_pu (p : List Fnc) (f : Fnc) (hp : ∀ g ∈ p, fnB g = true) (hf : fmayB f.code = true) (hr : ∀ i (h : i < f.code.length), Rch (nxF f) i → outB p f f.code[i] = false) :
    Pu Tryd.prog F_verify_heights [.ip [slD Fnc.c p], .ip f.c] (heightsD (heightsE p f)) := by
  obtain ⟨hl1, hl2⟩ := fmay_le hf
  refine Pu.of (pc_verify_heights (by simp) ?_)
  simp only [S_verify_heights, R_verify_heights, MU_verify_heights, isl_one, ofV_nilI, SW, wpD, evDL, evDM, evD, bldLD, List.contains_cons, List.contains_nil, Nat.reduceBEq, beq_self_eq_true, Nat.reduceMul, Nat.reduceSub, wpSp, Option.bind_some, Option.some.injEq, exists_eq_left', exists_eq_left, reduceIte, if_false, if_true, Nat.reduceEqDiff, Nat.reduceAdd, Nat.reduceLeDiff, Int.reduceEq, Int.reduceLT, Int.reduceLE, Int.reduceToNat, decide_true, decide_false, DV.bool.injEq, DV.int.injEq, DV.mp.injEq, DV.msl.injEq, DV.tup.injEq, DV.agg.injEq, DV.fn.injEq, true_implies, forall_const, reduceCtorEq, implies_true, ne_eq, DMem.mt]
  refine Repeat_pc (-1) f.code.length (by omega) fun b M1 _ hM1 => ?_
  rw [← List.map_replicate] at hM1
  simp only [S5_verify_heights, MU_verify_heights, ixM0 (show 0 < f.code.length by omega), SW, wpD, evDL, evDM, evD, bldLD, List.contains_cons, List.contains_nil, Nat.reduceBEq, beq_self_eq_true, Nat.reduceMul, Nat.reduceSub, wpSp, Option.bind_some, Option.some.injEq, exists_eq_left', exists_eq_left, reduceIte, if_false, if_true, Nat.reduceEqDiff, Nat.reduceAdd, Nat.reduceLeDiff, Int.reduceEq, Int.reduceLT, Int.reduceLE, Int.reduceToNat, decide_true, decide_false, DV.bool.injEq, DV.int.injEq, DV.mp.injEq, DV.msl.injEq, DV.tup.injEq, DV.agg.injEq, DV.fn.injEq, true_implies, forall_const, reduceCtorEq, implies_true, ne_eq, DMem.mt]
  refine stI (hM1 ▸ DMem.ins_same _ _ _) (by simp; omega) (by simp) fun M2 hM2 => ?_
  try simp only [SW, wpD, evDL, evDM, evD, bldLD, List.contains_cons, List.contains_nil, Nat.reduceBEq, beq_self_eq_true, Nat.reduceMul, Nat.reduceSub, wpSp, Option.bind_some, Option.some.injEq, exists_eq_left', exists_eq_left, reduceIte, if_false, if_true, Nat.reduceEqDiff, Nat.reduceAdd, Nat.reduceLeDiff, Int.reduceEq, Int.reduceLT, Int.reduceLE, Int.reduceToNat, decide_true, decide_false, DV.bool.injEq, DV.int.injEq, DV.mp.injEq, DV.msl.injEq, DV.tup.injEq, DV.agg.injEq, DV.fn.injEq, true_implies, forall_const, reduceCtorEq, implies_true, ne_eq, DMem.mt]
  refine fun c M3 hc hM3 => ?_
  have hbc : b ≠ c := by rintro rfl; rw [hM2, DMem.ins_same] at hc; cases hc
  refine ⟨fun k δ M => ∃ L q, HgI p f b L q M (δ 7) ∧ neg1 L + q.length ≤ k ∧ hRun p f k L q = heightsE p f ∧ δ 0 = .ip [slD Fnc.c p] ∧ δ 1 = .ip f.c ∧ δ 6 = .msl b 0 f.code.length f.code.length,
    f.code.length, ⟨startH f.code.length, [0], ⟨by simp [startH], by rw [hM3, DMem.ins_ne _ _ hbc, hM2, DMem.ins_same]; rfl, ?_, ?_, ?_, ?_, ?_⟩, ?_, rfl, rfl, rfl, rfl⟩, ?_⟩
  · exact .inr ⟨c, 0, 1, 1, 3, [], rfl, by rw [hM3, DMem.ins_same]; rfl, rfl, by omega, by simp, by omega⟩
  · simp [blkD, DEnv.upd]; exact hbc.symm
  · intro x hx; simp at hx; exact ⟨0, by simp [hx], by omega, .zero⟩
  · intro x hx
    unfold startH at hx
    rcases List.mem_or_eq_of_mem_set hx with hx | hx
    · rw [(List.mem_replicate.1 hx).2]; decide
    · subst hx; decide
  · rw [startH_neg hl1]; simp; omega
  · rw [startH_neg hl1]; simp; omega
  rintro k δ M ⟨L, q, hI, hk, hrun, h0, h1, h6⟩
  simp only [S4_verify_heights, MU_verify_heights, h0, h1, h6, hI.que.len, SW, wpD, evDL, evDM, evD, bldLD, List.contains_cons, List.contains_nil, Nat.reduceBEq, beq_self_eq_true, Nat.reduceMul, Nat.reduceSub, wpSp, Option.bind_some, Option.some.injEq, exists_eq_left', exists_eq_left, reduceIte, if_false, if_true, Nat.reduceEqDiff, Nat.reduceAdd, Nat.reduceLeDiff, Int.reduceEq, Int.reduceLT, Int.reduceLE, Int.reduceToNat, decide_true, decide_false, DV.bool.injEq, DV.int.injEq, DV.mp.injEq, DV.msl.injEq, DV.tup.injEq, DV.agg.injEq, DV.fn.injEq, true_implies, forall_const, reduceCtorEq, implies_true, ne_eq, DMem.mt, decide_eq_true_eq, decide_eq_false_iff_not]
  refine ⟨fun hpos => ?_, fun hend => ?_⟩
  · obtain ⟨x, q, rfl⟩ : ∃ x q', q = x :: q' := by cases q with | nil => simp at hpos | cons x q' => exact ⟨x, q', rfl⟩
    obtain ⟨n, rfl, hnl, hrn⟩ := hI.inq x (by simp)
    have hnL : n < L.length := by rw [hI.len]; exact hnl
    have hmay := fmay_ins hf hnl
    have hout := hr n hnl hrn
    have hargs := argsF_in hp f.code[n]
    have htk := takesF_in f.code[n] hargs
    have hpu := putsF_in f.code[n]
    have hcur := hI.low _ (List.getElem_mem hnL)
    have heff : effR f.code[n] (argsF p f.code[n]) = (takesF f.code[n] (argsF p f.code[n]), putsF f.code[n], 0) := by simp only [effR, if_pos (show mayB f.code[n] = true ∧ 0 ≤ argsF p f.code[n] ∧ argsF p f.code[n] ≤ 4 from ⟨hmay, hargs⟩)]
    have ha14 : f.code[n].kind = 14 → f.code[n].a < p.length := outB_call hout
    have hapf := args_pf p f.code[n] fun h14 => ⟨may_call hmay h14, ha14 h14⟩
    have hepf := Effect_pf f.code[n] (argsF p f.code[n])
    rw [heff] at hepf
    obtain ⟨k', rfl⟩ : ∃ k', k = k' + 1 := ⟨k - 1, by simp only [List.length_cons] at hk; omega⟩
    rw [hRun_pop p f k' n L q hnl hnL] at hrun
    have hgL := get_map (.int .i64) L hnL
    generalize takesF f.code[n] (argsF p f.code[n]) = t at htk hepf hrun
    generalize putsF f.code[n] = u at hpu hepf hrun
    generalize hcu : L[n] = cur at hcur hrun hgL
    have w1 : wr64 (cur - t) = cur - t := w64 (by omega)
    have w2 : wr64 (cur - t + u) = cur - t + u := w64 (by omega)
    simp only [h0, h1, h6, hI.que.head, ix_slD Ins.len hnl, fz_prg, fz_ins, hapf, hepf, ixM hnl, hI.out, hgL, w1, w2, SW, wpD, evDL, evDM, evD, bldLD, List.contains_cons, List.contains_nil, Nat.reduceBEq, beq_self_eq_true, Nat.reduceMul, Nat.reduceSub, wpSp, Option.bind_some, Option.some.injEq, exists_eq_left', exists_eq_left, reduceIte, if_false, if_true, Nat.reduceEqDiff, Nat.reduceAdd, Nat.reduceLeDiff, Int.reduceEq, Int.reduceLT, Int.reduceLE, Int.reduceToNat, decide_true, decide_false, DV.bool.injEq, DV.int.injEq, DV.mp.injEq, DV.msl.injEq, DV.tup.injEq, DV.agg.injEq, DV.fn.injEq, true_implies, forall_const, reduceCtorEq, implies_true, ne_eq, DMem.mt]
    refine ⟨fun hbad => ?_, fun hgood => ?_⟩
    · have hbad' : cur < t ∨ 8 < cur - t + u := by simpa using hbad
      rw [if_pos hbad'] at hrun
      simp only [← hrun, heightsD, faultD, of0_nilI, cellsIfc, fz_ifc, SW, wpD, evDL, evDM, evD, bldLD, List.contains_cons, List.contains_nil, Nat.reduceBEq, beq_self_eq_true, Nat.reduceMul, Nat.reduceSub, wpSp, Option.bind_some, Option.some.injEq, exists_eq_left', exists_eq_left, reduceIte, if_false, if_true, Nat.reduceEqDiff, Nat.reduceAdd, Nat.reduceLeDiff, Int.reduceEq, Int.reduceLT, Int.reduceLE, Int.reduceToNat, decide_true, decide_false, DV.bool.injEq, DV.int.injEq, DV.mp.injEq, DV.msl.injEq, DV.tup.injEq, DV.agg.injEq, DV.fn.injEq, true_implies, forall_const, reduceCtorEq, implies_true, ne_eq, DMem.mt]
    · have hgood' : ¬ (cur < t ∨ 8 < cur - t + u) := by simpa using hgood
      rw [if_neg hgood'] at hrun
      generalize hh : cur - t + u = h at hrun hgood' ⊢
      have hh0 : 0 ≤ h ∧ h ≤ 8 := by omega
      clear w1 w2 hepf hapf hgL htk hpu hcu hcur hh heff
      refine Pu.pc (Next_pu f n) ?_
      rw [nextR_in hf hnl]
      have hnl2 := nextF_len f n
      simp only [S2_verify_heights, MU_verify_heights, h0, h1, h6, SW, wpD, evDL, evDM, evD, bldLD, List.contains_cons, List.contains_nil, Nat.reduceBEq, beq_self_eq_true, Nat.reduceMul, Nat.reduceSub, wpSp, Option.bind_some, Option.some.injEq, exists_eq_left', exists_eq_left, reduceIte, if_false, if_true, Nat.reduceEqDiff, Nat.reduceAdd, Nat.reduceLeDiff, Int.reduceEq, Int.reduceLT, Int.reduceLE, Int.reduceToNat, decide_true, decide_false, DV.bool.injEq, DV.int.injEq, DV.mp.injEq, DV.msl.injEq, DV.tup.injEq, DV.agg.injEq, DV.fn.injEq, true_implies, forall_const, reduceCtorEq, implies_true, ne_eq, DMem.mt]
      refine ⟨fun k δ M => ∃ (j : Nat) (L2 q2 : List Int), j ≤ (nextF f n).length ∧ k = (nextF f n).length - j ∧ HgI p f b L2 ((n : Int) :: q2) M (δ 7) ∧ neg1 L2 + q2.length ≤ k' ∧
          hOne h ((nextF f n).drop j) L2 q2 = hOne h (nextF f n) L q ∧
          δ 0 = .ip [slD Fnc.c p] ∧ δ 1 = .ip f.c ∧ δ 6 = .msl b 0 f.code.length f.code.length ∧ δ 8 = .int .i64 n ∧ δ 12 = .int .i64 h ∧ δ 87 = slI (nextF f n) ∧ δ 88 = .int .i64 (nextF f n).length ∧ δ 89 = .int .i64 j,
        (nextF f n).length, ⟨0, L, q, Nat.zero_le _, rfl, hI, by simp only [List.length_cons] at hk; omega, rfl, h0, h1, h6, rfl, rfl, rfl, rfl, rfl⟩, ?_⟩
      clear hk hI h0 h1 h6 hgood hpos
      rintro k δ M ⟨j, L2, q2, hj, rfl, hI, hk, hone, h0, h1, h6, h8, h12, h87, h88, h89⟩
      simp only [S1_verify_heights, S3_verify_heights, MU_verify_heights, h0, h1, h6, h8, h12, h87, h88, h89, SW, wpD, evDL, evDM, evD, bldLD, List.contains_cons, List.contains_nil, Nat.reduceBEq, beq_self_eq_true, Nat.reduceMul, Nat.reduceSub, wpSp, Option.bind_some, Option.some.injEq, exists_eq_left', exists_eq_left, reduceIte, if_false, if_true, Nat.reduceEqDiff, Nat.reduceAdd, Nat.reduceLeDiff, Int.reduceEq, Int.reduceLT, Int.reduceLE, Int.reduceToNat, decide_true, decide_false, DV.bool.injEq, DV.int.injEq, DV.mp.injEq, DV.msl.injEq, DV.tup.injEq, DV.agg.injEq, DV.fn.injEq, true_implies, forall_const, reduceCtorEq, implies_true, ne_eq, DMem.mt, decide_eq_true_eq, decide_eq_false_iff_not]
      refine ⟨fun hlt => ?_, fun hge => ?_⟩
      · have hlt' : j < (nextF f n).length := by omega
        have hmem : (nextF f n)[j] ∈ nextF f n := List.getElem_mem hlt'
        obtain ⟨hy0, hy1⟩ := nextF_mem hf hmem
        obtain ⟨y, hy⟩ := Int.eq_ofNat_of_zero_le hy0
        rw [hy] at hy1 hmem
        have hyl : y < f.code.length := by omega
        have hyL : y < L2.length := by rw [hI.len]; exact hyl
        have hyn : y ∈ nxF f n := by simp only [nxF, List.mem_map]; exact ⟨_, hmem, by simp⟩
        have hj62 : j < 4611686018427387905 := by omega
        rw [List.drop_eq_getElem_cons hlt', hy] at hone
        rw [hOne_cons, Int.toNat_natCast, List.getElem?_eq_getElem hyL] at hone
        simp only [ix_slI hlt', hy, ixM hyl, hI.out, get_map (.int .i64) L2 hyL, h0, h1, h6, h8, h12, h87, h88, h89, SW, wpD, evDL, evDM, evD, bldLD, List.contains_cons, List.contains_nil, Nat.reduceBEq, beq_self_eq_true, Nat.reduceMul, Nat.reduceSub, wpSp, Option.bind_some, Option.some.injEq, exists_eq_left', exists_eq_left, reduceIte, if_false, if_true, Nat.reduceEqDiff, Nat.reduceAdd, Nat.reduceLeDiff, Int.reduceEq, Int.reduceLT, Int.reduceLE, Int.reduceToNat, decide_true, decide_false, DV.bool.injEq, DV.int.injEq, DV.mp.injEq, DV.msl.injEq, DV.tup.injEq, DV.agg.injEq, DV.fn.injEq, true_implies, forall_const, reduceCtorEq, implies_true, ne_eq, DMem.mt]
        refine ⟨fun hneg => ?_, fun hnn => ?_⟩
        · have hneg' : L2[y] = -1 := by simpa using hneg
          rw [if_pos (by rw [hneg'])] at hone
          refine stI hI.out hyL (by rw [hI.len]; exact Nat.le_refl _) fun M3 hM3 => ?_
          try simp only [h0, h1, h6, h8, h12, h87, h88, h89, isl_one, SW, wpD, evDL, evDM, evD, bldLD, List.contains_cons, List.contains_nil, Nat.reduceBEq, beq_self_eq_true, Nat.reduceMul, Nat.reduceSub, wpSp, Option.bind_some, Option.some.injEq, exists_eq_left', exists_eq_left, reduceIte, if_false, if_true, Nat.reduceEqDiff, Nat.reduceAdd, Nat.reduceLeDiff, Int.reduceEq, Int.reduceLT, Int.reduceLE, Int.reduceToNat, decide_true, decide_false, DV.bool.injEq, DV.int.injEq, DV.mp.injEq, DV.msl.injEq, DV.tup.injEq, DV.agg.injEq, DV.fn.injEq, true_implies, forall_const, reduceCtorEq, implies_true, ne_eq, DMem.mt]
          have hq3 : QueD M3 (δ 7) ((n : Int) :: q2) := by rw [hM3]; exact hI.que.ins hI.ne _
          have hsm := hI.small
          simp only [List.length_cons] at hsm
          refine hq3.app (by simp only [List.length_cons, List.length_nil]; omega) (by simp only [List.length_cons, List.length_nil]; omega) fun d' M4 hq4 hg4 => ?_
          obtain ⟨g1, g2⟩ := hg4.blk (show M3 b = some ⟨3, f.code.length, (L2.set y h).map (.int .i64)⟩ by rw [hM3, DMem.ins_same]) hI.ne
          have hns := neg1_set hyL hneg' (show h ≠ -1 by omega)
          simp only [h0, h1, h6, h8, h12, h87, h88, h89, w64s hj62, SW, wpD, evDL, evDM, evD, bldLD, List.contains_cons, List.contains_nil, Nat.reduceBEq, beq_self_eq_true, Nat.reduceMul, Nat.reduceSub, wpSp, Option.bind_some, Option.some.injEq, exists_eq_left', exists_eq_left, reduceIte, if_false, if_true, Nat.reduceEqDiff, Nat.reduceAdd, Nat.reduceLeDiff, Int.reduceEq, Int.reduceLT, Int.reduceLE, Int.reduceToNat, decide_true, decide_false, DV.bool.injEq, DV.int.injEq, DV.mp.injEq, DV.msl.injEq, DV.tup.injEq, DV.agg.injEq, DV.fn.injEq, true_implies, forall_const, reduceCtorEq, implies_true, ne_eq, DMem.mt]
          refine ⟨(nextF f n).length - (j + 1), M4, by omega, SubD.refl _, j + 1, L2.set y h, q2 ++ [(y : Int)], by omega, rfl,
            ⟨by simp [hI.len], g1, hq4, g2, fun x hx => ?_, fun x hx => ?_, ?_⟩, ?_, hone, rfl⟩
          · rw [← List.cons_append, List.mem_append] at hx
            rcases hx with hx | hx
            · exact hI.inq x hx
            · simp at hx; exact ⟨y, hx, hyl, .step hrn hyn⟩
          · rcases List.mem_or_eq_of_mem_set hx with hx | hx
            · exact hI.low x hx
            · rw [hx]; omega
          · simp only [List.length_append, List.length_cons, List.length_nil]; omega
          · simp only [List.length_append, List.length_cons, List.length_nil]; omega
        · have hnn' : ¬ L2[y] = -1 := by simpa using hnn
          rw [if_neg (by simpa using hnn')] at hone
          refine ⟨fun hsame => ?_, fun hdiff => ?_⟩
          · have hsame' : L2[y] = h := by simpa using hsame
            rw [if_pos (by rw [hsame'])] at hone
            try simp only [h0, h1, h6, h8, h12, h87, h88, h89, w64s hj62, SW, wpD, evDL, evDM, evD, bldLD, List.contains_cons, List.contains_nil, Nat.reduceBEq, beq_self_eq_true, Nat.reduceMul, Nat.reduceSub, wpSp, Option.bind_some, Option.some.injEq, exists_eq_left', exists_eq_left, reduceIte, if_false, if_true, Nat.reduceEqDiff, Nat.reduceAdd, Nat.reduceLeDiff, Int.reduceEq, Int.reduceLT, Int.reduceLE, Int.reduceToNat, decide_true, decide_false, DV.bool.injEq, DV.int.injEq, DV.mp.injEq, DV.msl.injEq, DV.tup.injEq, DV.agg.injEq, DV.fn.injEq, true_implies, forall_const, reduceCtorEq, implies_true, ne_eq, DMem.mt]
            exact ⟨(nextF f n).length - (j + 1), M, by omega, SubD.refl _, j + 1, L2, q2, by omega, rfl, hI, hk, hone, rfl⟩
          · have hdiff' : ¬ L2[y] = h := by simpa using hdiff
            rw [if_neg (by simpa using hdiff')] at hone
            rw [← hone] at hrun
            simp only [← hrun, heightsD, faultD, of0_nilI, cellsIfc, fz_ifc, h0, h1, h6, h8, h12, SW, wpD, evDL, evDM, evD, bldLD, List.contains_cons, List.contains_nil, Nat.reduceBEq, beq_self_eq_true, Nat.reduceMul, Nat.reduceSub, wpSp, Option.bind_some, Option.some.injEq, exists_eq_left', exists_eq_left, reduceIte, if_false, if_true, Nat.reduceEqDiff, Nat.reduceAdd, Nat.reduceLeDiff, Int.reduceEq, Int.reduceLT, Int.reduceLE, Int.reduceToNat, decide_true, decide_false, DV.bool.injEq, DV.int.injEq, DV.mp.injEq, DV.msl.injEq, DV.tup.injEq, DV.agg.injEq, DV.fn.injEq, true_implies, forall_const, reduceCtorEq, implies_true, ne_eq, DMem.mt]
      · have : j = (nextF f n).length := by omega
        subst this
        rw [List.drop_of_length_le (Nat.le_refl _)] at hone
        simp only [hOne] at hone
        rw [← hone] at hrun
        obtain ⟨d', ht, hq', hne⟩ := hI.que.tail .i64
        try simp only [ht, h0, h1, h6, h8, h12, h87, h88, h89, SW, wpD, evDL, evDM, evD, bldLD, List.contains_cons, List.contains_nil, Nat.reduceBEq, beq_self_eq_true, Nat.reduceMul, Nat.reduceSub, wpSp, Option.bind_some, Option.some.injEq, exists_eq_left', exists_eq_left, reduceIte, if_false, if_true, Nat.reduceEqDiff, Nat.reduceAdd, Nat.reduceLeDiff, Int.reduceEq, Int.reduceLT, Int.reduceLE, Int.reduceToNat, decide_true, decide_false, DV.bool.injEq, DV.int.injEq, DV.mp.injEq, DV.msl.injEq, DV.tup.injEq, DV.agg.injEq, DV.fn.injEq, true_implies, forall_const, reduceCtorEq, implies_true, ne_eq, DMem.mt]
        have hsm := hI.small
        simp only [List.length_cons] at hsm
        exact ⟨k', M, by omega, SubD.refl _, L2, q2, ⟨hI.len, hI.out, hq', hne b hI.ne, fun x hx => hI.inq x (List.mem_cons_of_mem _ hx), hI.low, by omega⟩, hk, hrun⟩
  · have hq0 : q = [] := List.eq_nil_of_length_eq_zero (by omega)
    subst hq0
    have hok : heightsE p f = .ok L := by rw [← hrun]; cases k <;> rfl
    simp only [ofV_nilI, fz_raw, h0, h1, h6, fz_msl hI.out, List.map_map, hok, heightsD, SW, wpD, evDL, evDM, evD, bldLD, List.contains_cons, List.contains_nil, Nat.reduceBEq, beq_self_eq_true, Nat.reduceMul, Nat.reduceSub, wpSp, Option.bind_some, Option.some.injEq, exists_eq_left', exists_eq_left, reduceIte, if_false, if_true, Nat.reduceEqDiff, Nat.reduceAdd, Nat.reduceLeDiff, Int.reduceEq, Int.reduceLT, Int.reduceLE, Int.reduceToNat, decide_true, decide_false, DV.bool.injEq, DV.int.injEq, DV.mp.injEq, DV.msl.injEq, DV.tup.injEq, DV.agg.injEq, DV.fn.injEq, true_implies, forall_const, reduceCtorEq, implies_true, ne_eq, DMem.mt]
    simp only [slI, hI.len]
    rfl
end Go.Proofs.YtpehdlobicocpaaDoor.Pf
/- Heights of a function whose places are all in range: the document's walk. No condition. -/
namespace Go.Proofs.YtpehdlobicocpaaDoor.Pf
open Go Go.RowKit Go.Proofs Go.Proofs.YtpehdlobicocpaaDoor.Mw Go.Proofs.YtpehdlobicocpaaDoor.Sx
set_option linter.unusedVariables false
set_option linter.unusedSimpArgs false
set_option maxRecDepth 4000
def walkD (r : Except Int (List Int)) : DV := match r with
  | .ok out => .tup [slI out, .int .i64 0, .int .i64 0]
  | .error pc => .tup [.isl 0 [], .int .i64 pc, .int .i64 502]
def fillH (n i : Nat) : List Int := List.replicate i (-1) ++ List.replicate (n - i) 0
theorem fillH_set {n i : Nat} (h : i < n) : (fillH n i).set i (-1) = fillH n (i + 1) := by
  unfold fillH
  rw [List.set_append_right _ _ (by simp), List.length_replicate, Nat.sub_self, show n - i = (n - (i + 1)) + 1 by omega, List.replicate_succ, List.set_cons_zero, List.replicate_succ', List.append_assoc]
  rfl
theorem fillH_len {n i : Nat} (h : i ≤ n) : (fillH n i).length = n := by simp [fillH]; omega
theorem walk_tail {p : List Fnc} {f : Fnc} (hf : fmayB f.code = true) {b n k' : Nat} {L q : List Int} {h : Int} {M : DMem} {δ : DEnv} (hnl : n < f.code.length) (hrn : Rch (nxF f) n) (hh0 : 0 ≤ h ∧ h ≤ 8)
    (hI : HgI p f b L q M (δ 9)) (hk : neg1 L + q.length ≤ k') (h2 : δ 2 = .ip [slD Fnc.c p]) (h3 : δ 3 = .ip f.c) (h7 : δ 7 = .msl b 0 f.code.length f.code.length) (h10 : δ 10 = .int .i64 n) (h15 : δ 15 = .int .i64 h)
    {KK RR : DEnv → DMem → Prop} {XX : Nat → DEnv → DMem → Prop}
    (hK : ∀ δ' M' L2 q2, HgI p f b L2 q2 M' (δ' 9) → neg1 L2 + q2.length ≤ k' → hOne h (nextF f n) L q = some (L2, q2) → δ' 2 = .ip [slD Fnc.c p] → δ' 3 = .ip f.c → δ' 7 = .msl b 0 f.code.length f.code.length → KK δ' M')
    (hR : ∀ δ' M', hOne h (nextF f n) L q = none → δ' 4 = .zsl → δ' 5 = .int .i64 n → δ' 6 = .int .i64 502 → RR δ' M') :
    PC Tryd.prog F_swageref1_Next [.agg f.c, .int .i64 n] (fun v M' => wpD Tryd.prog MU_swageref1_walk (fun f => roL.contains f) (fun t => G_swageref1_walk.contains t) 136 S3_swageref1_walk KK XX RR (δ.upd 94 v) M') M := by
  refine Pu.pc (NextR_pu f n) ?_
  rw [nextR_in hf hnl]
  have hnl2 := nextF_len f n
  simp only [S3_swageref1_walk, MU_swageref1_walk, h2, h3, h7, h10, h15, SW, wpD, evDL, evDM, evD, bldLD, List.contains_cons, List.contains_nil, Nat.reduceBEq, beq_self_eq_true, Nat.reduceMul, Nat.reduceSub, wpSp, Option.bind_some, Option.some.injEq, exists_eq_left', exists_eq_left, reduceIte, if_false, if_true, Nat.reduceEqDiff, Nat.reduceAdd, Nat.reduceLeDiff, Int.reduceEq, Int.reduceLT, Int.reduceLE, Int.reduceToNat, decide_true, decide_false, DV.bool.injEq, DV.int.injEq, DV.mp.injEq, DV.msl.injEq, DV.tup.injEq, DV.agg.injEq, DV.fn.injEq, true_implies, forall_const, reduceCtorEq, implies_true, ne_eq, DMem.mt]
  refine ⟨fun k δ M => ∃ (j : Nat) (L2 q2 : List Int), j ≤ (nextF f n).length ∧ k = (nextF f n).length - j ∧ HgI p f b L2 q2 M (δ 9) ∧ neg1 L2 + q2.length ≤ k' ∧
      hOne h ((nextF f n).drop j) L2 q2 = hOne h (nextF f n) L q ∧
      δ 2 = .ip [slD Fnc.c p] ∧ δ 3 = .ip f.c ∧ δ 7 = .msl b 0 f.code.length f.code.length ∧ δ 10 = .int .i64 n ∧ δ 15 = .int .i64 h ∧ δ 16 = slI (nextF f n) ∧ δ 18 = .int .i64 j,
    (nextF f n).length, ⟨0, L, q, Nat.zero_le _, rfl, hI, hk, rfl, h2, h3, h7, h10, h15, rfl, rfl⟩, ?_⟩
  clear hk hI h2 h3 h7 h10 h15
  rintro k δ M ⟨j, L2, q2, hj, rfl, hI, hk, hone, h2, h3, h7, h10, h15, h16, h18⟩
  simp only [S2_swageref1_walk, MU_swageref1_walk, h2, h3, h7, h10, h15, h16, h18, SW, wpD, evDL, evDM, evD, bldLD, List.contains_cons, List.contains_nil, Nat.reduceBEq, beq_self_eq_true, Nat.reduceMul, Nat.reduceSub, wpSp, Option.bind_some, Option.some.injEq, exists_eq_left', exists_eq_left, reduceIte, if_false, if_true, Nat.reduceEqDiff, Nat.reduceAdd, Nat.reduceLeDiff, Int.reduceEq, Int.reduceLT, Int.reduceLE, Int.reduceToNat, decide_true, decide_false, DV.bool.injEq, DV.int.injEq, DV.mp.injEq, DV.msl.injEq, DV.tup.injEq, DV.agg.injEq, DV.fn.injEq, true_implies, forall_const, reduceCtorEq, implies_true, ne_eq, DMem.mt, decide_eq_true_eq, decide_eq_false_iff_not]
  refine ⟨fun hlt => ?_, fun hge => ?_⟩
  · have hlt' : j < (nextF f n).length := by omega
    have hmem : (nextF f n)[j] ∈ nextF f n := List.getElem_mem hlt'
    obtain ⟨hy0, hy1⟩ := nextF_mem hf hmem
    obtain ⟨y, hy⟩ := Int.eq_ofNat_of_zero_le hy0
    rw [hy] at hy1 hmem
    have hyl : y < f.code.length := by omega
    have hyL : y < L2.length := by rw [hI.len]; exact hyl
    have hyn : y ∈ nxF f n := by simp only [nxF, List.mem_map]; exact ⟨_, hmem, by simp⟩
    have hj62 : j < 4611686018427387905 := by omega
    have hlow := hI.low _ (List.getElem_mem hyL)
    rw [List.drop_eq_getElem_cons hlt', hy] at hone
    rw [hOne_cons, Int.toNat_natCast, List.getElem?_eq_getElem hyL] at hone
    simp only [ix_slI hlt', hy, ixM hyl, hI.out, get_map (.int .i64) L2 hyL, h2, h3, h7, h10, h15, h16, h18, SW, wpD, evDL, evDM, evD, bldLD, List.contains_cons, List.contains_nil, Nat.reduceBEq, beq_self_eq_true, Nat.reduceMul, Nat.reduceSub, wpSp, Option.bind_some, Option.some.injEq, exists_eq_left', exists_eq_left, reduceIte, if_false, if_true, Nat.reduceEqDiff, Nat.reduceAdd, Nat.reduceLeDiff, Int.reduceEq, Int.reduceLT, Int.reduceLE, Int.reduceToNat, decide_true, decide_false, DV.bool.injEq, DV.int.injEq, DV.mp.injEq, DV.msl.injEq, DV.tup.injEq, DV.agg.injEq, DV.fn.injEq, true_implies, forall_const, reduceCtorEq, implies_true, ne_eq, DMem.mt]
    refine ⟨fun hneg => ?_, fun hnn => ?_⟩
    · have hneg2 : L2[y] < 0 := of_decide_eq_true hneg
      have hneg' : L2[y] = -1 := by omega
      rw [if_pos (by rw [hneg'])] at hone
      refine stI hI.out hyL (by rw [hI.len]; exact Nat.le_refl _) fun M3 hM3 => ?_
      try simp only [ix_slI hlt', hy, h2, h3, h7, h10, h15, h16, h18, isl_one, SW, wpD, evDL, evDM, evD, bldLD, List.contains_cons, List.contains_nil, Nat.reduceBEq, beq_self_eq_true, Nat.reduceMul, Nat.reduceSub, wpSp, Option.bind_some, Option.some.injEq, exists_eq_left', exists_eq_left, reduceIte, if_false, if_true, Nat.reduceEqDiff, Nat.reduceAdd, Nat.reduceLeDiff, Int.reduceEq, Int.reduceLT, Int.reduceLE, Int.reduceToNat, decide_true, decide_false, DV.bool.injEq, DV.int.injEq, DV.mp.injEq, DV.msl.injEq, DV.tup.injEq, DV.agg.injEq, DV.fn.injEq, true_implies, forall_const, reduceCtorEq, implies_true, ne_eq, DMem.mt]
      have hq3 : QueD M3 (δ 9) q2 := by rw [hM3]; exact hI.que.ins hI.ne _
      have hsm := hI.small
      refine hq3.app (by simp only [List.length_cons, List.length_nil]; omega) (by simp only [List.length_cons, List.length_nil]; omega) fun d' M4 hq4 hg4 => ?_
      obtain ⟨g1, g2⟩ := hg4.blk (show M3 b = some ⟨3, f.code.length, (L2.set y h).map (.int .i64)⟩ by rw [hM3, DMem.ins_same]) hI.ne
      have hns := neg1_set hyL hneg' (show h ≠ -1 by omega)
      have hyL' : y < (L2.set y h).length := by simpa using hyL
      have hself : (L2.set y h)[y] = h := by simp
      simp only [ix_slI hlt', hy, ixM hyl, g1, get_map (.int .i64) (L2.set y h) hyL', hself, h2, h3, h7, h10, h15, h16, h18, w64s hj62, SW, wpD, evDL, evDM, evD, bldLD, List.contains_cons, List.contains_nil, Nat.reduceBEq, beq_self_eq_true, Nat.reduceMul, Nat.reduceSub, wpSp, Option.bind_some, Option.some.injEq, exists_eq_left', exists_eq_left, reduceIte, if_false, if_true, Nat.reduceEqDiff, Nat.reduceAdd, Nat.reduceLeDiff, Int.reduceEq, Int.reduceLT, Int.reduceLE, Int.reduceToNat, decide_true, decide_false, DV.bool.injEq, DV.int.injEq, DV.mp.injEq, DV.msl.injEq, DV.tup.injEq, DV.agg.injEq, DV.fn.injEq, true_implies, forall_const, reduceCtorEq, implies_true, ne_eq, DMem.mt]
      refine ⟨(nextF f n).length - (j + 1), M4, by omega, SubD.refl _, j + 1, L2.set y h, q2 ++ [(y : Int)], by omega, rfl,
        ⟨by simp [hI.len], g1, hq4, g2, fun x hx => ?_, fun x hx => ?_, ?_⟩, ?_, hone, rfl⟩
      · rw [List.mem_append] at hx
        rcases hx with hx | hx
        · exact hI.inq x hx
        · simp at hx; exact ⟨y, hx, hyl, .step hrn hyn⟩
      · rcases List.mem_or_eq_of_mem_set hx with hx | hx
        · exact hI.low x hx
        · rw [hx]; omega
      · simp only [List.length_append, List.length_cons, List.length_nil]; omega
      · simp only [List.length_append, List.length_cons, List.length_nil]; omega
    · have hnn2 : ¬ L2[y] < 0 := of_decide_eq_false hnn
      have hnn' : ¬ L2[y] = -1 := by omega
      rw [if_neg (by simpa using hnn')] at hone
      by_cases hsame : L2[y] = h
      · rw [if_pos (by rw [hsame])] at hone
        simp only [ix_slI hlt', hy, ixM hyl, hI.out, get_map (.int .i64) L2 hyL, hsame, h2, h3, h7, h10, h15, h16, h18, w64s hj62, SW, wpD, evDL, evDM, evD, bldLD, List.contains_cons, List.contains_nil, Nat.reduceBEq, beq_self_eq_true, Nat.reduceMul, Nat.reduceSub, wpSp, Option.bind_some, Option.some.injEq, exists_eq_left', exists_eq_left, reduceIte, if_false, if_true, Nat.reduceEqDiff, Nat.reduceAdd, Nat.reduceLeDiff, Int.reduceEq, Int.reduceLT, Int.reduceLE, Int.reduceToNat, decide_true, decide_false, DV.bool.injEq, DV.int.injEq, DV.mp.injEq, DV.msl.injEq, DV.tup.injEq, DV.agg.injEq, DV.fn.injEq, true_implies, forall_const, reduceCtorEq, implies_true, ne_eq, DMem.mt]
        exact ⟨(nextF f n).length - (j + 1), M, by omega, SubD.refl _, j + 1, L2, q2, by omega, rfl, hI, hk, hone, rfl⟩
      · rw [if_neg (by simpa using hsame)] at hone
        simp only [ix_slI hlt', hy, ixM hyl, hI.out, get_map (.int .i64) L2 hyL, hsame, h2, h3, h7, h10, h15, h16, h18, w64s hj62, SW, wpD, evDL, evDM, evD, bldLD, List.contains_cons, List.contains_nil, Nat.reduceBEq, beq_self_eq_true, Nat.reduceMul, Nat.reduceSub, wpSp, Option.bind_some, Option.some.injEq, exists_eq_left', exists_eq_left, reduceIte, if_false, if_true, Nat.reduceEqDiff, Nat.reduceAdd, Nat.reduceLeDiff, Int.reduceEq, Int.reduceLT, Int.reduceLE, Int.reduceToNat, decide_true, decide_false, DV.bool.injEq, DV.int.injEq, DV.mp.injEq, DV.msl.injEq, DV.tup.injEq, DV.agg.injEq, DV.fn.injEq, true_implies, forall_const, reduceCtorEq, implies_true, ne_eq, DMem.mt]
        exact hR _ _ hone.symm rfl rfl rfl
  · have : j = (nextF f n).length := by omega
    subst this
    rw [List.drop_of_length_le (Nat.le_refl _)] at hone
    simp only [hOne] at hone
    try simp only [h2, h3, h7, h10, h15, h16, h18, SW, wpD, evDL, evDM, evD, bldLD, List.contains_cons, List.contains_nil, Nat.reduceBEq, beq_self_eq_true, Nat.reduceMul, Nat.reduceSub, wpSp, Option.bind_some, Option.some.injEq, exists_eq_left', exists_eq_left, reduceIte, if_false, if_true, Nat.reduceEqDiff, Nat.reduceAdd, Nat.reduceLeDiff, Int.reduceEq, Int.reduceLT, Int.reduceLE, Int.reduceToNat, decide_true, decide_false, DV.bool.injEq, DV.int.injEq, DV.mp.injEq, DV.msl.injEq, DV.tup.injEq, DV.agg.injEq, DV.fn.injEq, true_implies, forall_const, reduceCtorEq, implies_true, ne_eq, DMem.mt]
    exact hK _ _ L2 q2 (by simpa [DEnv.upd] using hI) hk hone.symm (by simp [DEnv.upd, h2]) (by simp [DEnv.upd, h3]) (by simp [DEnv.upd, h7])
theorem walk_pu (p : List Fnc) (f : Fnc) (hp : ∀ g ∈ p, fnB g = true) (hf : fmayB f.code = true) (hr : ∀ i (h : i < f.code.length), Rch (nxF f) i → outB p f f.code[i] = false) :
    Pu Tryd.prog F_swageref1_walk [.agg [slD Fnc.c p], .agg f.c] (walkD (heightsE p f)) := by
  obtain ⟨hl1, hl2⟩ := fmay_le hf
  refine Pu.of (pc_swageref1_walk (by simp) ?_)
  simp only [S_swageref1_walk, R_swageref1_walk, MU_swageref1_walk, SW, wpD, evDL, evDM, evD, bldLD, List.contains_cons, List.contains_nil, Nat.reduceBEq, beq_self_eq_true, Nat.reduceMul, Nat.reduceSub, wpSp, Option.bind_some, Option.some.injEq, exists_eq_left', exists_eq_left, reduceIte, if_false, if_true, Nat.reduceEqDiff, Nat.reduceAdd, Nat.reduceLeDiff, Int.reduceEq, Int.reduceLT, Int.reduceLE, Int.reduceToNat, decide_true, decide_false, DV.bool.injEq, DV.int.injEq, DV.mp.injEq, DV.msl.injEq, DV.tup.injEq, DV.agg.injEq, DV.fn.injEq, true_implies, forall_const, reduceCtorEq, implies_true, ne_eq, DMem.mt]
  refine mkI (by omega) fun b M1 _ hM1 => ?_
  try simp only [SW, wpD, evDL, evDM, evD, bldLD, List.contains_cons, List.contains_nil, Nat.reduceBEq, beq_self_eq_true, Nat.reduceMul, Nat.reduceSub, wpSp, Option.bind_some, Option.some.injEq, exists_eq_left', exists_eq_left, reduceIte, if_false, if_true, Nat.reduceEqDiff, Nat.reduceAdd, Nat.reduceLeDiff, Int.reduceEq, Int.reduceLT, Int.reduceLE, Int.reduceToNat, decide_true, decide_false, DV.bool.injEq, DV.int.injEq, DV.mp.injEq, DV.msl.injEq, DV.tup.injEq, DV.agg.injEq, DV.fn.injEq, true_implies, forall_const, reduceCtorEq, implies_true, ne_eq, DMem.mt]
  refine ⟨fun k δ M => ∃ i, i ≤ f.code.length ∧ k = f.code.length - i ∧ M = DMem.mt.ins b ⟨3, f.code.length, (fillH f.code.length i).map (.int .i64)⟩ ∧ δ 2 = .ip [slD Fnc.c p] ∧ δ 3 = .ip f.c ∧ δ 7 = .msl b 0 f.code.length f.code.length ∧ δ 8 = .int .i64 i,
    f.code.length, ⟨0, Nat.zero_le _, rfl, by rw [hM1]; rfl, rfl, rfl, rfl, rfl⟩, ?_⟩
  rintro k δ M ⟨i, hi, rfl, hM, h2, h3, h7, h8⟩
  have hMb : M b = some ⟨3, f.code.length, (fillH f.code.length i).map (.int .i64)⟩ := by rw [hM, DMem.ins_same]
  have hfl := fillH_len hi
  simp only [S1_swageref1_walk, MU_swageref1_walk, h2, h3, h7, h8, SW, wpD, evDL, evDM, evD, bldLD, List.contains_cons, List.contains_nil, Nat.reduceBEq, beq_self_eq_true, Nat.reduceMul, Nat.reduceSub, wpSp, Option.bind_some, Option.some.injEq, exists_eq_left', exists_eq_left, reduceIte, if_false, if_true, Nat.reduceEqDiff, Nat.reduceAdd, Nat.reduceLeDiff, Int.reduceEq, Int.reduceLT, Int.reduceLE, Int.reduceToNat, decide_true, decide_false, DV.bool.injEq, DV.int.injEq, DV.mp.injEq, DV.msl.injEq, DV.tup.injEq, DV.agg.injEq, DV.fn.injEq, true_implies, forall_const, reduceCtorEq, implies_true, ne_eq, DMem.mt, decide_eq_true_eq, decide_eq_false_iff_not]
  refine ⟨fun hlt => ?_, fun hge => ?_⟩
  · have hlt' : i < f.code.length := by omega
    have hi62 : i < 4611686018427387905 := by omega
    simp only [ixM hlt', h2, h3, h7, h8, SW, wpD, evDL, evDM, evD, bldLD, List.contains_cons, List.contains_nil, Nat.reduceBEq, beq_self_eq_true, Nat.reduceMul, Nat.reduceSub, wpSp, Option.bind_some, Option.some.injEq, exists_eq_left', exists_eq_left, reduceIte, if_false, if_true, Nat.reduceEqDiff, Nat.reduceAdd, Nat.reduceLeDiff, Int.reduceEq, Int.reduceLT, Int.reduceLE, Int.reduceToNat, decide_true, decide_false, DV.bool.injEq, DV.int.injEq, DV.mp.injEq, DV.msl.injEq, DV.tup.injEq, DV.agg.injEq, DV.fn.injEq, true_implies, forall_const, reduceCtorEq, implies_true, ne_eq, DMem.mt]
    refine stI hMb (by omega) (by omega) fun M2 hM2 => ?_
    try simp only [h2, h3, h7, h8, w64s hi62, SW, wpD, evDL, evDM, evD, bldLD, List.contains_cons, List.contains_nil, Nat.reduceBEq, beq_self_eq_true, Nat.reduceMul, Nat.reduceSub, wpSp, Option.bind_some, Option.some.injEq, exists_eq_left', exists_eq_left, reduceIte, if_false, if_true, Nat.reduceEqDiff, Nat.reduceAdd, Nat.reduceLeDiff, Int.reduceEq, Int.reduceLT, Int.reduceLE, Int.reduceToNat, decide_true, decide_false, DV.bool.injEq, DV.int.injEq, DV.mp.injEq, DV.msl.injEq, DV.tup.injEq, DV.agg.injEq, DV.fn.injEq, true_implies, forall_const, reduceCtorEq, implies_true, ne_eq, DMem.mt]
    refine ⟨f.code.length - (i + 1), M2, by omega, SubD.refl _, i + 1, by omega, rfl, ?_, rfl⟩
    rw [hM2, hM, fillH_set hlt']
    funext x; simp only [DMem.ins]; split <;> rfl
  have hin : i = f.code.length := by omega
  subst hin
  have hfill : fillH f.code.length f.code.length = List.replicate f.code.length (-1) := by simp [fillH]
  rw [hfill] at hMb
  clear hM hfl hi hge h8 hM1
  simp only [S6_swageref1_walk, MU_swageref1_walk, ixM0 (show 0 < f.code.length by omega), h2, h3, h7, SW, wpD, evDL, evDM, evD, bldLD, List.contains_cons, List.contains_nil, Nat.reduceBEq, beq_self_eq_true, Nat.reduceMul, Nat.reduceSub, wpSp, Option.bind_some, Option.some.injEq, exists_eq_left', exists_eq_left, reduceIte, if_false, if_true, Nat.reduceEqDiff, Nat.reduceAdd, Nat.reduceLeDiff, Int.reduceEq, Int.reduceLT, Int.reduceLE, Int.reduceToNat, decide_true, decide_false, DV.bool.injEq, DV.int.injEq, DV.mp.injEq, DV.msl.injEq, DV.tup.injEq, DV.agg.injEq, DV.fn.injEq, true_implies, forall_const, reduceCtorEq, implies_true, ne_eq, DMem.mt]
  refine stI hMb (by simp; omega) (by simp) fun M2 hM2 => ?_
  try simp only [SW, wpD, evDL, evDM, evD, bldLD, List.contains_cons, List.contains_nil, Nat.reduceBEq, beq_self_eq_true, Nat.reduceMul, Nat.reduceSub, wpSp, Option.bind_some, Option.some.injEq, exists_eq_left', exists_eq_left, reduceIte, if_false, if_true, Nat.reduceEqDiff, Nat.reduceAdd, Nat.reduceLeDiff, Int.reduceEq, Int.reduceLT, Int.reduceLE, Int.reduceToNat, decide_true, decide_false, DV.bool.injEq, DV.int.injEq, DV.mp.injEq, DV.msl.injEq, DV.tup.injEq, DV.agg.injEq, DV.fn.injEq, true_implies, forall_const, reduceCtorEq, implies_true, ne_eq, DMem.mt]
  refine fun c M3 hc hM3 => ?_
  have hbc : b ≠ c := by rintro rfl; rw [hM2, DMem.ins_same] at hc; cases hc
  refine ⟨fun k δ M => ∃ L q, HgI p f b L q M (δ 9) ∧ neg1 L + q.length ≤ k ∧ hRun p f k L q = heightsE p f ∧ δ 2 = .ip [slD Fnc.c p] ∧ δ 3 = .ip f.c ∧ δ 7 = .msl b 0 f.code.length f.code.length,
    f.code.length, ⟨startH f.code.length, [0], ⟨by simp [startH], by rw [hM3, DMem.ins_ne _ _ hbc, hM2, DMem.ins_same]; rfl, ?_, ?_, ?_, ?_, ?_⟩, ?_, rfl, h2, h3, h7⟩, ?_⟩
  · exact .inr ⟨c, 0, 1, 1, 3, [], rfl, by rw [hM3, DMem.ins_same]; rfl, rfl, by omega, by simp, by omega⟩
  · simp [blkD, DEnv.upd]; exact hbc.symm
  · intro x hx; simp at hx; exact ⟨0, by simp [hx], by omega, .zero⟩
  · intro x hx
    unfold startH at hx
    rcases List.mem_or_eq_of_mem_set hx with hx | hx
    · rw [(List.mem_replicate.1 hx).2]; decide
    · subst hx; decide
  · rw [startH_neg hl1]; simp; omega
  · rw [startH_neg hl1]; simp; omega
  clear h2 h3 h7 hMb hM2 hc hM3 hbc
  rintro k δ M ⟨L, q, hI, hk, hrun, h2, h3, h7⟩
  simp only [S4_swageref1_walk, MU_swageref1_walk, h2, h3, h7, hI.que.len, SW, wpD, evDL, evDM, evD, bldLD, List.contains_cons, List.contains_nil, Nat.reduceBEq, beq_self_eq_true, Nat.reduceMul, Nat.reduceSub, wpSp, Option.bind_some, Option.some.injEq, exists_eq_left', exists_eq_left, reduceIte, if_false, if_true, Nat.reduceEqDiff, Nat.reduceAdd, Nat.reduceLeDiff, Int.reduceEq, Int.reduceLT, Int.reduceLE, Int.reduceToNat, decide_true, decide_false, DV.bool.injEq, DV.int.injEq, DV.mp.injEq, DV.msl.injEq, DV.tup.injEq, DV.agg.injEq, DV.fn.injEq, true_implies, forall_const, reduceCtorEq, implies_true, ne_eq, DMem.mt, decide_eq_true_eq, decide_eq_false_iff_not]
  refine ⟨fun hpos => ?_, fun hend => ?_⟩
  · obtain ⟨x, q, rfl⟩ : ∃ x q', q = x :: q' := by cases q with | nil => simp at hpos | cons x q' => exact ⟨x, q', rfl⟩
    obtain ⟨n, rfl, hnl, hrn⟩ := hI.inq x (by simp)
    have hnL : n < L.length := by rw [hI.len]; exact hnl
    have hmay := fmay_ins hf hnl
    have hout := hr n hnl hrn
    have hargs := argsF_in hp f.code[n]
    have htk := takesF_in f.code[n] hargs
    have hpu := putsF_in f.code[n]
    have hcur := hI.low _ (List.getElem_mem hnL)
    have heff : effR f.code[n] (argsF p f.code[n]) = (takesF f.code[n] (argsF p f.code[n]), putsF f.code[n], 0) := by simp only [effR, if_pos (show mayB f.code[n] = true ∧ 0 ≤ argsF p f.code[n] ∧ argsF p f.code[n] ≤ 4 from ⟨hmay, hargs⟩)]
    have hepf := EffectR_pf f.code[n] (argsF p f.code[n])
    rw [heff] at hepf
    obtain ⟨d', ht, hq', hne⟩ := hI.que.tail .i64
    obtain ⟨k', rfl⟩ : ∃ k', k = k' + 1 := ⟨k - 1, by simp only [List.length_cons] at hk; omega⟩
    rw [hRun_pop p f k' n L q hnl hnL] at hrun
    have hgL := get_map (.int .i64) L hnL
    have hI2 : HgI p f b L q M d' := ⟨hI.len, hI.out, hq', hne b hI.ne, fun x hx => hI.inq x (List.mem_cons_of_mem _ hx), hI.low, by have := hI.small; simp only [List.length_cons] at this; omega⟩
    have hk2 : neg1 L + q.length ≤ k' := by simp only [List.length_cons] at hk; omega
    by_cases h14 : f.code[n].kind = 14
    · obtain ⟨a, ha⟩ := Int.eq_ofNat_of_zero_le (may_call hmay h14)
      have hal : a < p.length := by have := outB_call hout h14; omega
      have hA : argsF p f.code[n] = p[a].args := by simp only [argsF, if_pos h14, ha, Int.toNat_natCast, List.getElem?_eq_getElem hal]
      rw [hA] at hepf hrun htk
      generalize takesF f.code[n] p[a].args = t at htk hepf hrun
      generalize putsF f.code[n] = u at hpu hepf hrun
      generalize hcu : L[n] = cur at hcur hrun hgL
      have w1 : wr64 (cur - t) = cur - t := w64 (by omega)
      have w2 : wr64 (cur - t + u) = cur - t + u := w64 (by omega)
      simp only [Ins.c, ha] at hepf
      simp only [h2, h3, h7, hI.que.head, ht, ix_slD Ins.len hnl, decide_eq_true h14, ha, ix_slD Fnc.len hal, fz_prg, fz_ins, hepf, ixM hnl, hI.out, hgL, w1, w2, SW, wpD, evDL, evDM, evD, bldLD, List.contains_cons, List.contains_nil, Nat.reduceBEq, beq_self_eq_true, Nat.reduceMul, Nat.reduceSub, wpSp, Option.bind_some, Option.some.injEq, exists_eq_left', exists_eq_left, reduceIte, if_false, if_true, Nat.reduceEqDiff, Nat.reduceAdd, Nat.reduceLeDiff, Int.reduceEq, Int.reduceLT, Int.reduceLE, Int.reduceToNat, decide_true, decide_false, DV.bool.injEq, DV.int.injEq, DV.mp.injEq, DV.msl.injEq, DV.tup.injEq, DV.agg.injEq, DV.fn.injEq, true_implies, forall_const, reduceCtorEq, implies_true, ne_eq, DMem.mt]
      refine ⟨fun hbad => ?_, fun hgood => ?_⟩
      · have hbad' : cur < t ∨ 8 < cur - t + u := by simpa using hbad
        rw [if_pos hbad'] at hrun
        rw [← hrun]; rfl
      · have hgood' : ¬ (cur < t ∨ 8 < cur - t + u) := by simpa using hgood
        rw [if_neg hgood'] at hrun
        refine walk_tail hf hnl hrn (show 0 ≤ cur - t + u ∧ cur - t + u ≤ 8 by omega) hI2 hk2 (by simp [DEnv.upd, h2]) (by simp [DEnv.upd, h3]) (by simp [DEnv.upd, h7]) rfl rfl (fun δ' M' L2 q2 g1 g2 g3 g4 g5 g6 => ?_) fun δ' M' g1 g2 g3 g4 => ?_
        · rw [g3] at hrun
          exact ⟨k', M', by omega, SubD.refl _, L2, q2, g1, g2, hrun, g4, g5, g6⟩
        · rw [g1] at hrun
          simp only [g2, g3, g4, ← hrun, walkD, SW, wpD, evDL, evDM, evD, bldLD, List.contains_cons, List.contains_nil, Nat.reduceBEq, beq_self_eq_true, Nat.reduceMul, Nat.reduceSub, wpSp, Option.bind_some, Option.some.injEq, exists_eq_left', exists_eq_left, reduceIte, if_false, if_true, Nat.reduceEqDiff, Nat.reduceAdd, Nat.reduceLeDiff, Int.reduceEq, Int.reduceLT, Int.reduceLE, Int.reduceToNat, decide_true, decide_false, DV.bool.injEq, DV.int.injEq, DV.mp.injEq, DV.msl.injEq, DV.tup.injEq, DV.agg.injEq, DV.fn.injEq, true_implies, forall_const, reduceCtorEq, implies_true, ne_eq, DMem.mt]
    · have hA : argsF p f.code[n] = 0 := by simp only [argsF, if_neg h14]
      rw [hA] at hepf hrun htk
      generalize takesF f.code[n] 0 = t at htk hepf hrun
      generalize putsF f.code[n] = u at hpu hepf hrun
      generalize hcu : L[n] = cur at hcur hrun hgL
      have w1 : wr64 (cur - t) = cur - t := w64 (by omega)
      have w2 : wr64 (cur - t + u) = cur - t + u := w64 (by omega)
      simp only [h2, h3, h7, hI.que.head, ht, ix_slD Ins.len hnl, decide_eq_false h14, fz_prg, fz_ins, hepf, ixM hnl, hI.out, hgL, w1, w2, SW, wpD, evDL, evDM, evD, bldLD, List.contains_cons, List.contains_nil, Nat.reduceBEq, beq_self_eq_true, Nat.reduceMul, Nat.reduceSub, wpSp, Option.bind_some, Option.some.injEq, exists_eq_left', exists_eq_left, reduceIte, if_false, if_true, Nat.reduceEqDiff, Nat.reduceAdd, Nat.reduceLeDiff, Int.reduceEq, Int.reduceLT, Int.reduceLE, Int.reduceToNat, decide_true, decide_false, DV.bool.injEq, DV.int.injEq, DV.mp.injEq, DV.msl.injEq, DV.tup.injEq, DV.agg.injEq, DV.fn.injEq, true_implies, forall_const, reduceCtorEq, implies_true, ne_eq, DMem.mt]
      refine ⟨fun hbad => ?_, fun hgood => ?_⟩
      · have hbad' : cur < t ∨ 8 < cur - t + u := by simpa using hbad
        rw [if_pos hbad'] at hrun
        rw [← hrun]; rfl
      · have hgood' : ¬ (cur < t ∨ 8 < cur - t + u) := by simpa using hgood
        rw [if_neg hgood'] at hrun
        refine walk_tail hf hnl hrn (show 0 ≤ cur - t + u ∧ cur - t + u ≤ 8 by omega) hI2 hk2 (by simp [DEnv.upd, h2]) (by simp [DEnv.upd, h3]) (by simp [DEnv.upd, h7]) rfl rfl (fun δ' M' L2 q2 g1 g2 g3 g4 g5 g6 => ?_) fun δ' M' g1 g2 g3 g4 => ?_
        · rw [g3] at hrun
          exact ⟨k', M', by omega, SubD.refl _, L2, q2, g1, g2, hrun, g4, g5, g6⟩
        · rw [g1] at hrun
          simp only [g2, g3, g4, ← hrun, walkD, SW, wpD, evDL, evDM, evD, bldLD, List.contains_cons, List.contains_nil, Nat.reduceBEq, beq_self_eq_true, Nat.reduceMul, Nat.reduceSub, wpSp, Option.bind_some, Option.some.injEq, exists_eq_left', exists_eq_left, reduceIte, if_false, if_true, Nat.reduceEqDiff, Nat.reduceAdd, Nat.reduceLeDiff, Int.reduceEq, Int.reduceLT, Int.reduceLE, Int.reduceToNat, decide_true, decide_false, DV.bool.injEq, DV.int.injEq, DV.mp.injEq, DV.msl.injEq, DV.tup.injEq, DV.agg.injEq, DV.fn.injEq, true_implies, forall_const, reduceCtorEq, implies_true, ne_eq, DMem.mt]
  · have hq0 : q = [] := List.eq_nil_of_length_eq_zero (by omega)
    subst hq0
    have hok : heightsE p f = .ok L := by rw [← hrun]; cases k <;> rfl
    simp only [S5_swageref1_walk, MU_swageref1_walk, h2, h3, h7, fz_msl hI.out, List.map_map, hok, walkD, SW, wpD, evDL, evDM, evD, bldLD, List.contains_cons, List.contains_nil, Nat.reduceBEq, beq_self_eq_true, Nat.reduceMul, Nat.reduceSub, wpSp, Option.bind_some, Option.some.injEq, exists_eq_left', exists_eq_left, reduceIte, if_false, if_true, Nat.reduceEqDiff, Nat.reduceAdd, Nat.reduceLeDiff, Int.reduceEq, Int.reduceLT, Int.reduceLE, Int.reduceToNat, decide_true, decide_false, DV.bool.injEq, DV.int.injEq, DV.mp.injEq, DV.msl.injEq, DV.tup.injEq, DV.agg.injEq, DV.fn.injEq, true_implies, forall_const, reduceCtorEq, implies_true, ne_eq, DMem.mt]
    simp only [slI, hI.len]
    rfl
end Go.Proofs.YtpehdlobicocpaaDoor.Pf
/- Heights, as the document tells them. No condition. -/
namespace Go.Proofs.YtpehdlobicocpaaDoor.Pf
open Go Go.RowKit Go.Proofs Go.Proofs.YtpehdlobicocpaaDoor.Mw Go.Proofs.YtpehdlobicocpaaDoor.Sx
set_option linter.unusedVariables false
set_option linter.unusedSimpArgs false
set_option maxRecDepth 4000
def badP (p : List Fnc) (f : Fnc) (r : List Bool) (i : Nat) : Bool := r.getD i false && outB p f (f.code.getD i ⟨0, 0⟩)
theorem plain_hit {p : List Fnc} {f : Fnc} {r : List Bool} {i : Nat} (hi : i < f.code.length) (h : badP p f r i = true) (hj : ∀ j, j < i → badP p f r j = false) : plainE p f r = some ((i : Int), 501) := by
  have : (List.range f.code.length).find? (fun i => r.getD i false && outB p f (f.code.getD i ⟨0, 0⟩)) = some i := by
    rw [List.find?_range_eq_some]
    exact ⟨h, List.mem_range.2 hi, fun j hji => by have := hj j hji; unfold badP at this; simp only [this]; rfl⟩
  unfold plainE
  rw [this]
theorem plain_miss {p : List Fnc} {f : Fnc} {r : List Bool} (hj : ∀ j, j < f.code.length → badP p f r j = false) :
    plainE p f r = if (r.getD (f.code.length - 1) false && !(decide ((f.code.getD (f.code.length - 1) ⟨0, 0⟩).kind = 12)) && !(decide ((f.code.getD (f.code.length - 1) ⟨0, 0⟩).kind = 16))) = true then some (((f.code.length - 1 : Nat) : Int), 503) else none := by
  have : (List.range f.code.length).find? (fun i => r.getD i false && outB p f (f.code.getD i ⟨0, 0⟩)) = none := by
    rw [List.find?_range_eq_none]
    exact fun j hji => by have := hj j hji; unfold badP at this; simp only [this]; rfl
  unfold plainE
  rw [this]
theorem plain_none {p : List Fnc} {f : Fnc} (hf : fmayB f.code = true) (h : ∀ j, j < f.code.length → badP p f (reachF f) j = false) : ∀ i (hi : i < f.code.length), Rch (nxF f) i → outB p f f.code[i] = false := fun i hi hr => by
  have h1 := h i hi
  have h2 := reach_all hf i hr
  unfold badP at h1
  rw [List.getD_eq_getElem?_getD, h2, List.getD_eq_getElem?_getD, List.getElem?_eq_getElem hi] at h1
  simpa using h1
theorem pack_fn {p : List Fnc} (h : packB p = true) : ∀ g ∈ p, fnB g = true := by
  unfold packB at h
  simp only [Bool.and_eq_true, List.all_eq_true] at h
  exact h.2
theorem fn_may {f : Fnc} (h : fnB f = true) : fmayB f.code = true := by
  unfold fnB at h
  simp only [Bool.and_eq_true] at h
  exact h.2
theorem HeightsR_pu (p : List Fnc) (fn : Int) : Pu Tryd.prog F_swageref1_Heights [.agg [slD Fnc.c p], .int .i64 fn] (.tup [slI (heightsR p fn).1, .int .i64 (heightsR p fn).2.1, .int .i64 (heightsR p fn).2.2]) := by
  refine Pu.of (pc_swageref1_Heights (by simp) ?_)
  simp only [S_swageref1_Heights, R_swageref1_Heights, MU_swageref1_Heights, fz_prg, Packs_pf, ldnI1, SW, wpD, evDL, evDM, evD, bldLD, List.contains_cons, List.contains_nil, Nat.reduceBEq, beq_self_eq_true, Nat.reduceMul, Nat.reduceSub, wpSp, Option.bind_some, Option.some.injEq, exists_eq_left', exists_eq_left, reduceIte, if_false, if_true, Nat.reduceEqDiff, Nat.reduceAdd, Nat.reduceLeDiff, Int.reduceEq, Int.reduceLT, Int.reduceLE, Int.reduceToNat, decide_true, decide_false, DV.bool.injEq, DV.int.injEq, DV.mp.injEq, DV.msl.injEq, DV.tup.injEq, DV.agg.injEq, DV.fn.injEq, true_implies, forall_const, reduceCtorEq, implies_true, ne_eq, DMem.mt]
  refine ⟨fun h => ?_, fun h => ?_⟩
  · have hc : ¬ (packB p = true ∧ 0 ≤ fn ∧ fn < p.length) := by
      simp only [Bool.or_eq_true, Bool.not_eq_true', decide_eq_true_eq] at h
      rcases h with (h | h) | h
      · simp [h]
      · omega
      · omega
    have e : heightsR p fn = ([], 0, 500) := by unfold heightsR; rw [if_neg hc]
    rw [e]
    rfl
  · simp only [Bool.or_eq_false_iff, Bool.not_eq_false', decide_eq_false_iff_not] at h
    obtain ⟨⟨hpk, h0⟩, h1⟩ := h
    obtain ⟨n, rfl⟩ := Int.eq_ofNat_of_zero_le (show 0 ≤ fn by omega)
    have hn : n < p.length := by omega
    have hfn := pack_fn hpk _ (List.getElem_mem hn)
    have hmay := fn_may hfn
    obtain ⟨hl1, hl2⟩ := fmay_le hmay
    have e : heightsR p n = match plainE p p[n] (reachF p[n]) with
      | some (pc, e) => ([], pc, e)
      | none => match heightsE p p[n] with
        | .ok out => (out, 0, 0)
        | .error pc => ([], pc, 502) := by
      unfold heightsR
      rw [if_pos ⟨hpk, by omega, by omega⟩, Int.toNat_natCast, List.getElem?_eq_getElem hn]
      rfl
    rw [e]
    simp only [ix_slD Fnc.len hn, ldnI1, SW, wpD, evDL, evDM, evD, bldLD, List.contains_cons, List.contains_nil, Nat.reduceBEq, beq_self_eq_true, Nat.reduceMul, Nat.reduceSub, wpSp, Option.bind_some, Option.some.injEq, exists_eq_left', exists_eq_left, reduceIte, if_false, if_true, Nat.reduceEqDiff, Nat.reduceAdd, Nat.reduceLeDiff, Int.reduceEq, Int.reduceLT, Int.reduceLE, Int.reduceToNat, decide_true, decide_false, DV.bool.injEq, DV.int.injEq, DV.mp.injEq, DV.msl.injEq, DV.tup.injEq, DV.agg.injEq, DV.fn.injEq, true_implies, forall_const, reduceCtorEq, implies_true, ne_eq, DMem.mt]
    generalize hg : p[n] = f at hfn hmay hl1 hl2 e ⊢
    refine Pu.pc (ReachedR_pu f) ?_
    have er : reachR f = (reachF f, 0) := by simp only [reachR, hmay]; rfl
    rw [er]
    have hrl := reachF_len f
    simp only [S4_swageref1_Heights, MU_swageref1_Heights, ldnI1, SW, wpD, evDL, evDM, evD, bldLD, List.contains_cons, List.contains_nil, Nat.reduceBEq, beq_self_eq_true, Nat.reduceMul, Nat.reduceSub, wpSp, Option.bind_some, Option.some.injEq, exists_eq_left', exists_eq_left, reduceIte, if_false, if_true, Nat.reduceEqDiff, Nat.reduceAdd, Nat.reduceLeDiff, Int.reduceEq, Int.reduceLT, Int.reduceLE, Int.reduceToNat, decide_true, decide_false, DV.bool.injEq, DV.int.injEq, DV.mp.injEq, DV.msl.injEq, DV.tup.injEq, DV.agg.injEq, DV.fn.injEq, true_implies, forall_const, reduceCtorEq, implies_true, ne_eq, DMem.mt]
    refine ⟨fun k δ M => ∃ i, i ≤ f.code.length ∧ k = f.code.length - i ∧ M = DMem.mt ∧ δ 2 = .ip [slD Fnc.c p] ∧ δ 7 = .ip f.c ∧ δ 8 = slB (reachF f) ∧ δ 10 = .int .i64 i ∧ (∀ j, j < i → badP p f (reachF f) j = false),
      f.code.length, ⟨0, Nat.zero_le _, rfl, rfl, rfl, rfl, rfl, rfl, fun j hj => absurd hj (by omega)⟩, ?_⟩
    rintro k δ M ⟨i, hi, rfl, rfl, h2, h7, h8, h10, hj⟩
    simp only [S1_swageref1_Heights, MU_swageref1_Heights, h2, h7, h8, h10, hrl, ldnI1, SW, wpD, evDL, evDM, evD, bldLD, List.contains_cons, List.contains_nil, Nat.reduceBEq, beq_self_eq_true, Nat.reduceMul, Nat.reduceSub, wpSp, Option.bind_some, Option.some.injEq, exists_eq_left', exists_eq_left, reduceIte, if_false, if_true, Nat.reduceEqDiff, Nat.reduceAdd, Nat.reduceLeDiff, Int.reduceEq, Int.reduceLT, Int.reduceLE, Int.reduceToNat, decide_true, decide_false, DV.bool.injEq, DV.int.injEq, DV.mp.injEq, DV.msl.injEq, DV.tup.injEq, DV.agg.injEq, DV.fn.injEq, true_implies, forall_const, reduceCtorEq, implies_true, ne_eq, DMem.mt, decide_eq_true_eq, decide_eq_false_iff_not]
    refine ⟨fun hlt => ?_, fun hge => ?_⟩
    · have hlt' : i < f.code.length := by omega
      have hir : i < (reachF f).length := by omega
      have hi62 : i < 4611686018427387905 := by omega
      have hbad : ((reachF f)[i] && !(!outB p f f.code[i])) = badP p f (reachF f) i := by
        unfold badP
        rw [List.getD_eq_getElem?_getD, List.getElem?_eq_getElem hir, List.getD_eq_getElem?_getD, List.getElem?_eq_getElem hlt', Bool.not_not]
        rfl
      simp only [ix_slB hir, ix_slD Ins.len hlt', fz_prg, fz_ins, ranged_pf, h2, h7, h8, h10, hbad, w64s hi62, ldnI1, SW, wpD, evDL, evDM, evD, bldLD, List.contains_cons, List.contains_nil, Nat.reduceBEq, beq_self_eq_true, Nat.reduceMul, Nat.reduceSub, wpSp, Option.bind_some, Option.some.injEq, exists_eq_left', exists_eq_left, reduceIte, if_false, if_true, Nat.reduceEqDiff, Nat.reduceAdd, Nat.reduceLeDiff, Int.reduceEq, Int.reduceLT, Int.reduceLE, Int.reduceToNat, decide_true, decide_false, DV.bool.injEq, DV.int.injEq, DV.mp.injEq, DV.msl.injEq, DV.tup.injEq, DV.agg.injEq, DV.fn.injEq, true_implies, forall_const, reduceCtorEq, implies_true, ne_eq, DMem.mt]
      refine ⟨fun hb => ?_, fun hb => ⟨f.code.length - (i + 1), DMem.mt, by omega, SubD.refl _, i + 1, by omega, rfl, rfl, rfl, fun j hji => ?_⟩⟩
      · rw [plain_hit hlt' hb hj]
        rfl
      · rcases Nat.lt_or_ge j i with h | h
        · exact hj j h
        · have : j = i := by omega
          subst this; exact hb
    · have : i = f.code.length := by omega
      subst this
      have hlast : f.code.length - 1 < f.code.length := by omega
      have hlr : f.code.length - 1 < (reachF f).length := by omega
      have el : wr64 ((f.code.length : Int) - 1) = ((f.code.length - 1 : Nat) : Int) := by rw [w64 (by omega)]; omega
      have hpm := plain_miss hj
      rw [List.getD_eq_getElem?_getD, List.getElem?_eq_getElem hlr, List.getD_eq_getElem?_getD, List.getElem?_eq_getElem hlast] at hpm
      simp only [Option.getD_some] at hpm
      simp only [S3_swageref1_Heights, MU_swageref1_Heights, ix_slB hlr, ix_slD Ins.len hlast, el, hrl, h2, h7, h8, h10, ldnI1, SW, wpD, evDL, evDM, evD, bldLD, List.contains_cons, List.contains_nil, Nat.reduceBEq, beq_self_eq_true, Nat.reduceMul, Nat.reduceSub, wpSp, Option.bind_some, Option.some.injEq, exists_eq_left', exists_eq_left, reduceIte, if_false, if_true, Nat.reduceEqDiff, Nat.reduceAdd, Nat.reduceLeDiff, Int.reduceEq, Int.reduceLT, Int.reduceLE, Int.reduceToNat, decide_true, decide_false, DV.bool.injEq, DV.int.injEq, DV.mp.injEq, DV.msl.injEq, DV.tup.injEq, DV.agg.injEq, DV.fn.injEq, true_implies, forall_const, reduceCtorEq, implies_true, ne_eq, DMem.mt]
      refine ⟨fun hb => ?_, fun hb => ?_⟩
      · rw [decide_not, decide_not] at hb
        rw [if_pos hb] at hpm
        rw [hpm]
        rfl
      · rw [decide_not, decide_not] at hb
        rw [if_neg (by rw [hb]; simp)] at hpm
        rw [hpm]
        refine Pu.pc (walk_pu p f (pack_fn hpk) hmay (plain_none hmay hj)) ?_
        cases hE : heightsE p f with
        | ok out =>
          simp only [walkD, S2_swageref1_Heights, MU_swageref1_Heights, fz_slI, ldnI1, SW, wpD, evDL, evDM, evD, bldLD, List.contains_cons, List.contains_nil, Nat.reduceBEq, beq_self_eq_true, Nat.reduceMul, Nat.reduceSub, wpSp, Option.bind_some, Option.some.injEq, exists_eq_left', exists_eq_left, reduceIte, if_false, if_true, Nat.reduceEqDiff, Nat.reduceAdd, Nat.reduceLeDiff, Int.reduceEq, Int.reduceLT, Int.reduceLE, Int.reduceToNat, decide_true, decide_false, DV.bool.injEq, DV.int.injEq, DV.mp.injEq, DV.msl.injEq, DV.tup.injEq, DV.agg.injEq, DV.fn.injEq, true_implies, forall_const, reduceCtorEq, implies_true, ne_eq, DMem.mt]
        | error pc =>
          simp only [walkD, S2_swageref1_Heights, MU_swageref1_Heights, ldnI1, SW, wpD, evDL, evDM, evD, bldLD, List.contains_cons, List.contains_nil, Nat.reduceBEq, beq_self_eq_true, Nat.reduceMul, Nat.reduceSub, wpSp, Option.bind_some, Option.some.injEq, exists_eq_left', exists_eq_left, reduceIte, if_false, if_true, Nat.reduceEqDiff, Nat.reduceAdd, Nat.reduceLeDiff, Int.reduceEq, Int.reduceLT, Int.reduceLE, Int.reduceToNat, decide_true, decide_false, DV.bool.injEq, DV.int.injEq, DV.mp.injEq, DV.msl.injEq, DV.tup.injEq, DV.agg.injEq, DV.fn.injEq, true_implies, forall_const, reduceCtorEq, implies_true, ne_eq, DMem.mt]
          rfl
end Go.Proofs.YtpehdlobicocpaaDoor.Pf
/- What the document says of a program as a whole. No condition. -/
namespace Go.Proofs.YtpehdlobicocpaaDoor.Pf
open Go Go.RowKit Go.Proofs Go.Proofs.YtpehdlobicocpaaDoor.Mw Go.Proofs.YtpehdlobicocpaaDoor.Sx
set_option linter.unusedVariables false
set_option linter.unusedSimpArgs false
set_option maxRecDepth 4000
theorem allF_miss (p : List Fnc) : ∀ (l : List Nat) (acc : List (List Int)), (∀ i ∈ l, (heightsR p i).2.2 = 0) → allF p l acc = (acc ++ l.map (fun i : Nat => (heightsR p (i : Int)).1), 0)
  | [], acc, _ => by simp [allF]
  | i :: r, acc, h => by
    unfold allF
    rw [if_pos (h i (by simp)), allF_miss p r _ fun j hj => h j (by simp [hj])]
    simp
theorem allF_hit (p : List Fnc) {i : Nat} (hi : (heightsR p i).2.2 ≠ 0) (b : List Nat) : ∀ (a : List Nat) (acc : List (List Int)), (∀ j ∈ a, (heightsR p j).2.2 = 0) → allF p (a ++ i :: b) acc = ([], (heightsR p i).2.2)
  | [], acc, _ => by
    show allF p (i :: b) acc = _
    unfold allF; rw [if_neg hi]
  | j :: a, acc, h => by
    show allF p (j :: (a ++ i :: b)) acc = _
    unfold allF
    rw [if_pos (h j (by simp))]
    exact allF_hit p hi b a _ fun j hj => h j (by simp [hj])
theorem range_cut {i n : Nat} (h : i < n) : List.range n = List.range i ++ i :: (List.range (n - i - 1)).map (fun x => i + 1 + x) := by
  apply List.ext_getElem
  · simp; omega
  · intro j h1 h2
    simp only [List.getElem_range]
    rcases Nat.lt_trichotomy j i with hj | hj | hj
    · rw [List.getElem_append_left (by simpa using hj)]; simp
    · subst hj; rw [List.getElem_append_right (by simp)]; simp
    · rw [List.getElem_append_right (by simp; omega)]
      simp only [List.length_range]
      obtain ⟨q, hq⟩ : ∃ q, j - i = q + 1 := ⟨j - i - 1, by omega⟩
      simp only [hq, List.getElem_cons_succ, List.getElem_map, List.getElem_range]
      omega
/-- The error of a program as a whole. -/
def verifyE (p : List Fnc) : Int := (allR p).2
theorem verify_hit {p : List Fnc} (hp : packB p = true) {i : Nat} (hi : i < p.length) (he : (heightsR p i).2.2 ≠ 0) (hj : ∀ j, j < i → (heightsR p j).2.2 = 0) : allR p = ([], (heightsR p i).2.2) := by
  unfold allR
  rw [if_pos hp, range_cut hi, allF_hit p he _ _ _ fun j hj' => hj j (List.mem_range.1 hj')]
theorem verify_miss {p : List Fnc} (hp : packB p = true) (hj : ∀ j, j < p.length → (heightsR p j).2.2 = 0) : allR p = ((List.range p.length).map (fun i : Nat => (heightsR p (i : Int)).1), 0) := by
  unfold allR
  rw [if_pos hp, allF_miss p _ _ fun j hj' => hj j (List.mem_range.1 hj')]
  simp
theorem VerifyR_pf (p : List Fnc) : pf Tryd.prog F_swageref1_Verify [.agg [slD Fnc.c p]] = some (.int .i64 (verifyE p)) := by
  refine pf_of (v := .int _ _) (pc_swageref1_Verify (by simp) ?_) (FrozL.nil.cons (Froz.agg (FrozL.nil.cons (Froz.slD Fnc.froz p)))) rfl rfl
  simp only [S_swageref1_Verify, R_swageref1_Verify, MU_swageref1_Verify, fz_prg, Packs_pf, ldnI1, SW, wpD, evDL, evDM, evD, bldLD, List.contains_cons, List.contains_nil, Nat.reduceBEq, beq_self_eq_true, Nat.reduceMul, Nat.reduceSub, wpSp, Option.bind_some, Option.some.injEq, exists_eq_left', exists_eq_left, reduceIte, if_false, if_true, Nat.reduceEqDiff, Nat.reduceAdd, Nat.reduceLeDiff, Int.reduceEq, Int.reduceLT, Int.reduceLE, Int.reduceToNat, decide_true, decide_false, DV.bool.injEq, DV.int.injEq, DV.mp.injEq, DV.msl.injEq, DV.tup.injEq, DV.agg.injEq, DV.fn.injEq, true_implies, forall_const, reduceCtorEq, implies_true, ne_eq, DMem.mt]
  refine ⟨fun h => ?_, fun h => ?_⟩
  · have hc : packB p = false := by simpa using h
    unfold verifyE allR
    rw [if_neg (by rw [hc]; simp)]
  · have hpk : packB p = true := by simpa using h
    have hlen : p.length ≤ 8 := by
      unfold packB at hpk; simp only [Bool.and_eq_true, decide_eq_true_eq] at hpk; exact hpk.1.2
    refine ⟨fun k δ M => ∃ i, i ≤ p.length ∧ k = p.length - i ∧ M = DMem.mt ∧ δ 1 = .ip [slD Fnc.c p] ∧ δ 3 = .int .i64 i ∧ (∀ j, j < i → (heightsR p (j : Int)).2.2 = 0),
      p.length, ⟨0, Nat.zero_le _, rfl, rfl, rfl, rfl, fun j hj => absurd hj (by omega)⟩, ?_⟩
    rintro k δ M ⟨i, hi, rfl, rfl, h1, h3, hj⟩
    simp only [S2_swageref1_Verify, MU_swageref1_Verify, h1, h3, ldnI1, SW, wpD, evDL, evDM, evD, bldLD, List.contains_cons, List.contains_nil, Nat.reduceBEq, beq_self_eq_true, Nat.reduceMul, Nat.reduceSub, wpSp, Option.bind_some, Option.some.injEq, exists_eq_left', exists_eq_left, reduceIte, if_false, if_true, Nat.reduceEqDiff, Nat.reduceAdd, Nat.reduceLeDiff, Int.reduceEq, Int.reduceLT, Int.reduceLE, Int.reduceToNat, decide_true, decide_false, DV.bool.injEq, DV.int.injEq, DV.mp.injEq, DV.msl.injEq, DV.tup.injEq, DV.agg.injEq, DV.fn.injEq, true_implies, forall_const, reduceCtorEq, implies_true, ne_eq, DMem.mt, decide_eq_true_eq, decide_eq_false_iff_not]
    refine ⟨fun hlt => ?_, fun hge => ?_⟩
    · have hlt' : i < p.length := by omega
      have hi62 : i < 4611686018427387905 := by omega
      refine Pu.pc (HeightsR_pu p i) ?_
      simp only [S1_swageref1_Verify, MU_swageref1_Verify, h1, h3, w64s hi62, SW, wpD, evDL, evDM, evD, bldLD, List.contains_cons, List.contains_nil, Nat.reduceBEq, beq_self_eq_true, Nat.reduceMul, Nat.reduceSub, wpSp, Option.bind_some, Option.some.injEq, exists_eq_left', exists_eq_left, reduceIte, if_false, if_true, Nat.reduceEqDiff, Nat.reduceAdd, Nat.reduceLeDiff, Int.reduceEq, Int.reduceLT, Int.reduceLE, Int.reduceToNat, decide_true, decide_false, DV.bool.injEq, DV.int.injEq, DV.mp.injEq, DV.msl.injEq, DV.tup.injEq, DV.agg.injEq, DV.fn.injEq, true_implies, forall_const, reduceCtorEq, implies_true, ne_eq, DMem.mt]
      refine ⟨fun hb => ?_, fun hb => ⟨p.length - (i + 1), DMem.mt, by omega, SubD.refl _, i + 1, by omega, rfl, rfl, rfl, fun j hji => ?_⟩⟩
      · have hb' : (heightsR p i).2.2 ≠ 0 := of_decide_eq_true hb
        unfold verifyE
        rw [verify_hit hpk hlt' hb' hj]
      · rcases Nat.lt_or_ge j i with h | h
        · exact hj j h
        · have : j = i := by omega
          subst this; exact Decidable.not_not.1 (of_decide_eq_false hb)
    · unfold verifyE
      rw [verify_miss hpk fun j hj' => hj j (by omega)]
def heightF (p : List Fnc) (fn pc : Int) : Int := if (heightsR p fn).2.2 = 0 ∧ 0 ≤ pc ∧ pc < (heightsR p fn).1.length then (heightsR p fn).1.getD pc.toNat 0 else -1
theorem HeightR_pf (p : List Fnc) (fn pc : Int) : pf Tryd.prog F_swageref1_Height [.agg [slD Fnc.c p], .int .i64 fn, .int .i64 pc] = some (.int .i64 (heightF p fn pc)) := by
  refine pf_of (v := .int _ _) (pc_swageref1_Height (by simp) ?_) (((FrozL.nil.cons (Froz.int _ _)).cons (Froz.int _ _)).cons (Froz.agg (FrozL.nil.cons (Froz.slD Fnc.froz p)))) rfl rfl
  simp only [S_swageref1_Height, R_swageref1_Height, MU_swageref1_Height, ldnI1, SW, wpD, evDL, evDM, evD, bldLD, List.contains_cons, List.contains_nil, Nat.reduceBEq, beq_self_eq_true, Nat.reduceMul, Nat.reduceSub, wpSp, Option.bind_some, Option.some.injEq, exists_eq_left', exists_eq_left, reduceIte, if_false, if_true, Nat.reduceEqDiff, Nat.reduceAdd, Nat.reduceLeDiff, Int.reduceEq, Int.reduceLT, Int.reduceLE, Int.reduceToNat, decide_true, decide_false, DV.bool.injEq, DV.int.injEq, DV.mp.injEq, DV.msl.injEq, DV.tup.injEq, DV.agg.injEq, DV.fn.injEq, true_implies, forall_const, reduceCtorEq, implies_true, ne_eq, DMem.mt]
  refine Pu.pc (HeightsR_pu p fn) ?_
  unfold heightF
  generalize heightsR p fn = r
  by_cases h : r.2.2 = 0 ∧ 0 ≤ pc ∧ pc < r.1.length
  · obtain ⟨h1, h2, h3⟩ := h
    obtain ⟨n, rfl⟩ := Int.eq_ofNat_of_zero_le h2
    have hn : n < r.1.length := by omega
    have c1 : ¬ ((n : Int) < 0) := by omega
    have c2 : ¬ ((r.1.length : Int) ≤ n) := by omega
    rw [if_pos ⟨h1, h2, h3⟩, Int.toNat_natCast, List.getD_eq_getElem?_getD, List.getElem?_eq_getElem hn, Option.getD_some]
    simp only [S1_swageref1_Height, MU_swageref1_Height, h1, c1, c2, ix_slI hn, SW, wpD, evDL, evDM, evD, bldLD, List.contains_cons, List.contains_nil, Nat.reduceBEq, beq_self_eq_true, Nat.reduceMul, Nat.reduceSub, wpSp, Option.bind_some, Option.some.injEq, exists_eq_left', exists_eq_left, reduceIte, if_false, if_true, Nat.reduceEqDiff, Nat.reduceAdd, Nat.reduceLeDiff, Int.reduceEq, Int.reduceLT, Int.reduceLE, Int.reduceToNat, decide_true, decide_false, DV.bool.injEq, DV.int.injEq, DV.mp.injEq, DV.msl.injEq, DV.tup.injEq, DV.agg.injEq, DV.fn.injEq, true_implies, forall_const, reduceCtorEq, implies_true, ne_eq, DMem.mt]
  · rw [if_neg h]
    have hc : ((decide (¬ r.2.2 = 0) || decide (pc < 0)) || decide ((r.1.length : Int) ≤ pc)) = true := by
      simp only [Bool.or_eq_true, decide_eq_true_eq]
      by_cases a : r.2.2 = 0
      · by_cases b : pc < 0
        · exact .inl (.inr b)
        · exact .inr (by omega)
      · exact .inl (.inl a)
    simp only [S1_swageref1_Height, MU_swageref1_Height, hc, SW, wpD, evDL, evDM, evD, bldLD, List.contains_cons, List.contains_nil, Nat.reduceBEq, beq_self_eq_true, Nat.reduceMul, Nat.reduceSub, wpSp, Option.bind_some, Option.some.injEq, exists_eq_left', exists_eq_left, reduceIte, if_false, if_true, Nat.reduceEqDiff, Nat.reduceAdd, Nat.reduceLeDiff, Int.reduceEq, Int.reduceLT, Int.reduceLE, Int.reduceToNat, decide_true, decide_false, DV.bool.injEq, DV.int.injEq, DV.mp.injEq, DV.msl.injEq, DV.tup.injEq, DV.agg.injEq, DV.fn.injEq, true_implies, forall_const, reduceCtorEq, implies_true, ne_eq, DMem.mt]
end Go.Proofs.YtpehdlobicocpaaDoor.Pf
/- Slices that are owned, with all that lies behind them. No condition. -/
namespace Go.Proofs.YtpehdlobicocpaaDoor.Mw
open Go Go.RowKit
set_option linter.unusedVariables false
set_option linter.unusedSimpArgs false
/-- A kind of things: how many cells, how it reads when nobody writes it, how deep, and when cells are one, by blocks of its own. -/
structure El (α : Type) where
  sz : Nat
  c : α → List DV
  k : Nat
  rep : DMem → α → List DV → List Nat → Prop
structure El.Ok {α : Type} (E : El α) : Prop where
  pos : 0 < E.sz
  len : ∀ {M x cs S}, E.rep M x cs S → cs.length = E.sz
  clen : ∀ x, (E.c x).length = E.sz
  frame : ∀ {M M' x cs S}, E.rep M x cs S → (∀ b ∈ S, M' b = M b) → E.rep M' x cs S
  fz : ∀ {M x cs S k}, E.rep M x cs S → E.k ≤ k → cs.map (fz M k) = E.c x
  plain : ∀ {M x cs S}, E.rep M x cs S → cs.all plainD = true
  here : ∀ {M x cs S}, E.rep M x cs S → ∀ b ∈ S, M b ≠ none
variable {α : Type} {E : El α}
def RowAt (E : El α) (M : DMem) : List α → List DV → List Nat → Prop
  | [], cs, S => cs = [] ∧ S = []
  | x :: xs, cs, S => ∃ c1 c2 S1 S2, cs = c1 ++ c2 ∧ S = S1 ++ S2 ∧ E.rep M x c1 S1 ∧ RowAt E M xs c2 S2
theorem RowAt.len (hE : E.Ok) {M : DMem} : ∀ {xs : List α} {cs : List DV} {S : List Nat}, RowAt E M xs cs S → cs.length = xs.length * E.sz
  | [], cs, S, h => by rw [h.1]; simp
  | x :: xs, cs, S, ⟨c1, c2, S1, S2, e1, e2, h1, h2⟩ => by
    rw [e1, List.length_append, hE.len h1, RowAt.len hE h2, List.length_cons, Nat.add_mul]; omega
theorem RowAt.frame (hE : E.Ok) {M M' : DMem} : ∀ {xs : List α} {cs : List DV} {S : List Nat}, RowAt E M xs cs S → (∀ b ∈ S, M' b = M b) → RowAt E M' xs cs S
  | [], cs, S, h, _ => h
  | x :: xs, cs, S, ⟨c1, c2, S1, S2, e1, e2, h1, h2⟩, hk => ⟨c1, c2, S1, S2, e1, e2, hE.frame h1 fun b hb => hk b (by rw [e2]; exact List.mem_append_left _ hb), RowAt.frame hE h2 fun b hb => hk b (by rw [e2]; exact List.mem_append_right _ hb)⟩
theorem RowAt.fz (hE : E.Ok) {M : DMem} {k : Nat} (hk : E.k ≤ k) : ∀ {xs : List α} {cs : List DV} {S : List Nat}, RowAt E M xs cs S → cs.map (fz M k) = xs.flatMap E.c
  | [], cs, S, h => by rw [h.1]; rfl
  | x :: xs, cs, S, ⟨c1, c2, S1, S2, e1, e2, h1, h2⟩ => by
    rw [e1, List.map_append, hE.fz h1 hk, RowAt.fz hE hk h2]; rfl
theorem RowAt.plain (hE : E.Ok) {M : DMem} : ∀ {xs : List α} {cs : List DV} {S : List Nat}, RowAt E M xs cs S → cs.all plainD = true
  | [], cs, S, h => by rw [h.1]; rfl
  | x :: xs, cs, S, ⟨c1, c2, S1, S2, e1, e2, h1, h2⟩ => by
    rw [e1, List.all_append, hE.plain h1, RowAt.plain hE h2]; rfl
theorem RowAt.here (hE : E.Ok) {M : DMem} : ∀ {xs : List α} {cs : List DV} {S : List Nat}, RowAt E M xs cs S → ∀ b ∈ S, M b ≠ none
  | [], cs, S, h, b, hb => by rw [h.2] at hb; simp at hb
  | x :: xs, cs, S, ⟨c1, c2, S1, S2, e1, e2, h1, h2⟩, b, hb => by
    rw [e2] at hb
    rcases List.mem_append.1 hb with hb | hb
    · exact hE.here h1 b hb
    · exact RowAt.here hE h2 b hb
theorem RowAt.append {M : DMem} : ∀ {xs ys : List α} {cs ds : List DV} {S T : List Nat}, RowAt E M xs cs S → RowAt E M ys ds T → RowAt E M (xs ++ ys) (cs ++ ds) (S ++ T)
  | [], ys, cs, ds, S, T, h, h' => by rw [h.1, h.2]; simpa using h'
  | x :: xs, ys, cs, ds, S, T, ⟨c1, c2, S1, S2, e1, e2, h1, h2⟩, h' =>
    ⟨c1, c2 ++ ds, S1, S2 ++ T, by rw [e1, List.append_assoc], by rw [e2, List.append_assoc], h1, RowAt.append h2 h'⟩
theorem RowAt.nil {M : DMem} : RowAt E M [] [] [] := ⟨rfl, rfl⟩
theorem RowAt.one {M : DMem} {x : α} {cs : List DV} {S : List Nat} (h : E.rep M x cs S) : RowAt E M [x] cs S := ⟨cs, [], S, [], by simp, by simp, h, rfl, rfl⟩
/-- One of them, apart. -/
theorem RowAt.get (hE : E.Ok) {M : DMem} : ∀ {xs : List α} {cs : List DV} {S : List Nat} {i : Nat}, RowAt E M xs cs S → (hi : i < xs.length) →
    ∃ c1 cx c2 S1 Sx S2, cs = c1 ++ cx ++ c2 ∧ S = S1 ++ Sx ++ S2 ∧ c1.length = i * E.sz ∧ E.rep M xs[i] cx Sx ∧ RowAt E M (xs.take i) c1 S1 ∧ RowAt E M (xs.drop (i + 1)) c2 S2
  | [], _, _, _, _, hi => absurd hi (by simp)
  | x :: xs, cs, S, 0, ⟨c1, c2, S1, S2, e1, e2, h1, h2⟩, _ => ⟨[], c1, c2, [], S1, S2, by simpa using e1, by simpa using e2, by simp, h1, RowAt.nil, h2⟩
  | x :: xs, cs, S, i + 1, ⟨c1, c2, S1, S2, e1, e2, h1, h2⟩, hi => by
    obtain ⟨d1, dx, d2, T1, Tx, T2, f1, f2, f3, f4, f5, f6⟩ := RowAt.get hE (i := i) h2 (by simpa using hi)
    exact ⟨c1 ++ d1, dx, d2, S1 ++ T1, Tx, T2, by rw [e1, f1]; simp only [List.append_assoc], by rw [e2, f2]; simp only [List.append_assoc], by rw [List.length_append, f3, hE.len h1, Nat.add_mul]; omega, f4, ⟨c1, d1, S1, T1, rfl, rfl, h1, f5⟩, f6⟩
theorem RowAt.put {M : DMem} {xs : List α} {i : Nat} (hi : i < xs.length) {y : α} {c1 cy c2 : List DV} {S1 Sy S2 : List Nat} (h1 : RowAt E M (xs.take i) c1 S1) (hy : E.rep M y cy Sy) (h2 : RowAt E M (xs.drop (i + 1)) c2 S2) : RowAt E M (xs.set i y) (c1 ++ cy ++ c2) (S1 ++ Sy ++ S2) := by
  have e : xs.set i y = xs.take i ++ [y] ++ xs.drop (i + 1) := by rw [List.set_eq_take_append_cons_drop, if_pos hi]; simp
  rw [e]
  exact (h1.append (RowAt.one hy)).append h2
/-- A slice of them that has grown by append alone. -/
def SlAt (E : El α) (M : DMem) (d : DV) (xs : List α) (S : List Nat) : Prop :=
  (d = .zsl ∧ xs = [] ∧ S = []) ∨ ∃ b c ty cs S', d = .msl b 0 xs.length c ∧ M b = some ⟨ty, c * E.sz, cs⟩ ∧ RowAt E M xs cs S' ∧ S = b :: S' ∧ xs.length ≤ c ∧ 0 < c
theorem SlAt.nil {M : DMem} : SlAt E M .zsl [] [] := .inl ⟨rfl, rfl, rfl⟩
theorem SlAt.lenD {M : DMem} {d : DV} {xs : List α} {S : List Nat} (h : SlAt E M d xs S) : Mw.lenD d = some (.int .i64 xs.length) := by
  obtain ⟨rfl, rfl, _⟩ | ⟨b, c, ty, cs, S', rfl, _⟩ := h <;> rfl
theorem SlAt.lenN {M : DMem} {d : DV} {xs : List α} {S : List Nat} (h : SlAt E M d xs S) : Mw.lenN d = some xs.length := by
  obtain ⟨rfl, rfl, _⟩ | ⟨b, c, ty, cs, S', rfl, _⟩ := h <;> rfl
theorem SlAt.cell {M : DMem} {d : DV} {xs : List α} {S : List Nat} (h : SlAt E M d xs S) : cellsD d = some [d] := by
  obtain ⟨rfl, rfl, _⟩ | ⟨b, c, ty, cs, S', rfl, _⟩ := h <;> rfl
theorem SlAt.plain {M : DMem} {d : DV} {xs : List α} {S : List Nat} (h : SlAt E M d xs S) : plainD d = true := by
  obtain ⟨rfl, rfl, _⟩ | ⟨b, c, ty, cs, S', rfl, _⟩ := h <;> rfl
theorem SlAt.frame (hE : E.Ok) {M M' : DMem} {d : DV} {xs : List α} {S : List Nat} (h : SlAt E M d xs S) (hk : ∀ b ∈ S, M' b = M b) : SlAt E M' d xs S := by
  obtain ⟨h1, h2, h3⟩ | ⟨b, c, ty, cs, S', h1, h2, h3, h4, h5, h6⟩ := h
  · exact .inl ⟨h1, h2, h3⟩
  · refine .inr ⟨b, c, ty, cs, S', h1, by rw [hk b (by simp [h4])]; exact h2, h3.frame hE fun x hx => hk x (by simp [h4, hx]), h4, h5, h6⟩
theorem SlAt.fz (hE : E.Ok) {M : DMem} {d : DV} {xs : List α} {S : List Nat} (h : SlAt E M d xs S) {k : Nat} (hk : E.k ≤ k) : Mw.fz M (k + 1) d = slD E.c xs := by
  obtain ⟨rfl, rfl, _⟩ | ⟨b, c, ty, cs, S', rfl, h2, h3, h4, h5, h6⟩ := h
  · exact fz_zsl _ _
  · rw [fz_msl h2 k 0 _ _ h5, List.drop_zero, h3.fz hE hk]; rfl
theorem SlAt.here (hE : E.Ok) {M : DMem} {d : DV} {xs : List α} {S : List Nat} (h : SlAt E M d xs S) : ∀ b ∈ S, M b ≠ none := by
  obtain ⟨_, _, rfl⟩ | ⟨b, c, ty, cs, S', rfl, h2, h3, rfl, h5, h6⟩ := h
  · intro b hb; simp at hb
  · intro x hx
    rcases List.mem_cons.1 hx with rfl | hx
    · rw [h2]; simp
    · exact h3.here hE x hx
/-- Its cells. -/
theorem SlAt.at {M : DMem} {d : DV} {xs : List α} {S : List Nat} (h : SlAt E M d xs S) (h0 : 0 < xs.length) : ∃ b c ty cs S', d = .msl b 0 xs.length c ∧ M b = some ⟨ty, c * E.sz, cs⟩ ∧ RowAt E M xs cs S' ∧ S = b :: S' ∧ xs.length ≤ c := by
  obtain ⟨_, rfl, _⟩ | ⟨b, c, ty, cs, S', h1, h2, h3, h4, h5, h6⟩ := h
  · simp at h0
  · exact ⟨b, c, ty, cs, S', h1, h2, h3, h4, h5⟩
/-- As OwnD. -/
theorem SlAt.own (hE : E.Ok) {M : DMem} {d : DV} {xs : List α} {S : List Nat} (h : SlAt E M d xs S) : ∃ cs S', OwnD M E.sz d xs.length cs ∧ RowAt E M xs cs S' ∧ ((blkD d = none ∧ S = S') ∨ ∃ b, blkD d = some b ∧ S = b :: S') := by
  obtain ⟨rfl, rfl, rfl⟩ | ⟨b, c, ty, cs, S', rfl, h2, h3, h4, h5, h6⟩ := h
  · exact ⟨[], [], OwnD.zsl _ _, RowAt.nil, .inl ⟨rfl, rfl⟩⟩
  · exact ⟨cs, S', ⟨h3.len hE, .inr ⟨b, c, ty, rfl, h2, h5, h6⟩⟩, h3, .inr ⟨b, by simp only [blkD]; rw [if_neg (by omega)], h4⟩⟩
/-- Some more, behind. What was known of other blocks stays. -/
theorem SlAt.app (hE : E.Ok) {M : DMem} {d : DV} {xs ys : List α} {S T : List Nat} {e : TypeId} {bytes k : Nat} {ds : List DV} {Post : DV → DMem → Prop} (h : SlAt E M d xs S) (hS : S.Nodup)
    (hy : RowAt E M ys ds T) (hT : ∀ b ∈ T, b ∉ S) (hk : ys.length = k) (hb : (xs.length + k) * bytes ≤ 140737488355328) (hn : xs.length + k ≤ 9223372036854775807)
    (hP : ∀ d' M' S', SlAt E M' d' (xs ++ ys) S' → (∀ b B, M b = some B → b ∉ S → M' b = some B) → (∀ b ∈ S', b ∈ S ∨ b ∈ T ∨ M b = none) → (T.Nodup → S'.Nodup) → Post d' M') :
    ∃ k' news, RowD M E.sz (.isl k ds) k' news ∧ news.all plainD = true ∧ ∃ n', (n' + k') * bytes ≤ 140737488355328 ∧ n' + k' ≤ 9223372036854775807 ∧ AppD M e E.sz d n' k' news Post := by
  obtain ⟨cs, S0, ho, hr, hbl⟩ := h.own hE
  have hyl := hy.len hE
  rw [hk] at hyl
  refine app_isl ho hE.pos hyl (hy.plain hE) hb hn fun d' M' ho' hg => ?_
  have hS0 : ∀ b ∈ S0, b ∈ S ∧ blkD d ≠ some b := by
    rcases hbl with ⟨e1, e2⟩ | ⟨b0, e1, e2⟩
    · intro b hb; exact ⟨by rw [e2]; exact hb, by rw [e1]; simp⟩
    · intro b hb
      refine ⟨by rw [e2]; exact List.mem_cons_of_mem _ hb, fun hh => ?_⟩
      rw [e1] at hh; cases hh
      rw [e2] at hS
      exact (List.nodup_cons.1 hS).1 hb
  have hTb : ∀ b ∈ T, blkD d ≠ some b := fun b hb hh => by
    rcases hbl with ⟨e1, e2⟩ | ⟨b0, e1, e2⟩
    · rw [e1] at hh; cases hh
    · rw [e1] at hh; cases hh
      exact hT b hb (by rw [e2]; simp)
  have keepS : ∀ b ∈ S0, M' b = M b := fun b hb => by
    obtain ⟨B, hB⟩ := Option.ne_none_iff_exists'.1 (hr.here hE b hb)
    rw [hB]; exact hg.keep b B hB (hS0 b hb).2
  have keepT : ∀ b ∈ T, M' b = M b := fun b hb => by
    obtain ⟨B, hB⟩ := Option.ne_none_iff_exists'.1 (hy.here hE b hb)
    rw [hB]; exact hg.keep b B hB (hTb b hb)
  have hrow := (hr.frame hE keepS).append (hy.frame hE keepT)
  have hkeep : ∀ b B, M b = some B → b ∉ S → M' b = some B := fun b B hB hb => hg.keep b B hB fun hh => by
    rcases hbl with ⟨e1, e2⟩ | ⟨b0, e1, e2⟩
    · rw [e1] at hh; cases hh
    · rw [e1] at hh; cases hh
      exact hb (by rw [e2]; simp)
  have hndS0 : S0.Nodup := by
    rcases hbl with ⟨_, e2⟩ | ⟨b0, _, e2⟩
    · rw [e2] at hS; exact hS
    · rw [e2] at hS; exact (List.nodup_cons.1 hS).2
  have hnd : T.Nodup → (S0 ++ T).Nodup := fun ht => List.nodup_append.2 ⟨hndS0, ht, fun a ha b hb => by
    rintro rfl; exact hT a hb (hS0 a ha).1⟩
  obtain ⟨hcl, ⟨rfl, hz⟩ | ⟨b', c', ty', rfl, hM', hle, hpos⟩⟩ := ho'
  · have h0 : xs.length = 0 ∧ k = 0 := by omega
    have ex : xs = [] := List.eq_nil_of_length_eq_zero h0.1
    have ey : ys = [] := List.eq_nil_of_length_eq_zero (by omega)
    subst ex; subst ey
    exact hP _ _ [] (.inl ⟨rfl, rfl, rfl⟩) hkeep (fun b hb => by simp at hb) (fun _ => List.nodup_nil)
  · have hbk : blkD (.msl b' 0 (xs.length + k) c') = some b' := by simp only [blkD]; rw [if_neg (by omega)]
    have hb' : b' ∉ S0 ++ T ∧ (b' ∈ S ∨ M b' = none) := by
      rcases hg.here with e | ⟨q, e, hq⟩
      · rw [hbk] at e
        refine ⟨fun hh => ?_, .inl ?_⟩
        · rcases List.mem_append.1 hh with hh | hh
          · exact (hS0 b' hh).2 e.symm
          · exact hTb b' hh e.symm
        · rcases hbl with ⟨e1, _⟩ | ⟨b0, e1, e2⟩
          · rw [e1] at e; cases e
          · rw [e1] at e; cases e; rw [e2]; simp
      · rw [hbk] at e; cases e
        refine ⟨fun hh => ?_, .inr hq⟩
        rcases List.mem_append.1 hh with hh | hh
        · exact hr.here hE b' hh hq
        · exact hy.here hE b' hh hq
    refine hP _ _ (b' :: (S0 ++ T)) (.inr ⟨b', c', ty', cs ++ ds, S0 ++ T, by rw [List.length_append, hk], hM', hrow, rfl, by rw [List.length_append, hk]; exact hle, hpos⟩) hkeep (fun b hb => ?_) (fun ht => List.nodup_cons.2 ⟨hb'.1, hnd ht⟩)
    rcases List.mem_cons.1 hb with rfl | hb
    · rcases hb'.2 with h | h
      · exact .inl h
      · exact .inr (.inr h)
    · rcases List.mem_append.1 hb with hb | hb
      · exact .inl (hS0 b hb).1
      · exact .inr (.inl hb)
/-! ### Kinds -/
def intE : El Int := ⟨1, fun x => [.int .i64 x], 0, fun _ x cs S => cs = [.int .i64 x] ∧ S = []⟩
theorem intE_ok : intE.Ok where
  pos := by decide
  len := by rintro M x cs S ⟨rfl, rfl⟩; rfl
  clen := fun x => rfl
  frame := fun h _ => h
  fz := by rintro M x cs S k ⟨rfl, rfl⟩ _; simp only [List.map_cons, List.map_nil, fz_int]; rfl
  plain := by rintro M x cs S ⟨rfl, rfl⟩; rfl
  here := by rintro M x cs S ⟨rfl, rfl⟩ b hb; simp at hb
/-- Flat structs. -/
def flatE (c : α → List DV) (sz : Nat) : El α := ⟨sz, c, 0, fun _ x cs S => cs = c x ∧ S = []⟩
theorem flatE_ok {c : α → List DV} {sz : Nat} (h0 : 0 < sz) (hl : ∀ x, (c x).length = sz) (hf : ∀ x, FrozL (c x)) (hp : ∀ x, (c x).all plainD = true) : (flatE c sz).Ok where
  pos := h0
  len := by rintro M x cs S ⟨rfl, rfl⟩; exact hl x
  clen := hl
  frame := fun h _ => h
  fz := by rintro M x cs S k ⟨rfl, rfl⟩ _; exact fzmap_froz (hf x) M k
  plain := by rintro M x cs S ⟨rfl, rfl⟩; exact hp x
  here := by rintro M x cs S ⟨rfl, rfl⟩ b hb; simp at hb
theorem RowAt.flat {c : α → List DV} {sz : Nat} {M : DMem} : ∀ {xs : List α}, RowAt (flatE c sz) M xs (xs.flatMap c) []
  | [] => ⟨rfl, rfl⟩
  | x :: xs => ⟨c x, xs.flatMap c, [], [], rfl, rfl, ⟨rfl, rfl⟩, RowAt.flat⟩
theorem RowAt.ints {M : DMem} {xs : List Int} : RowAt intE M xs (xs.map (.int .i64)) [] := by
  induction xs with
  | nil => exact ⟨rfl, rfl⟩
  | cons x xs ih => exact ⟨[.int .i64 x], xs.map (.int .i64), [], [], rfl, rfl, ⟨rfl, rfl⟩, ih⟩
theorem RowAt.ints_eq {M : DMem} : ∀ {xs : List Int} {cs : List DV} {S : List Nat}, RowAt intE M xs cs S → cs = xs.map (.int .i64) ∧ S = []
  | [], cs, S, h => h
  | x :: xs, cs, S, ⟨c1, c2, S1, S2, e1, e2, ⟨h1, h2⟩, h3⟩ => by
    obtain ⟨g1, g2⟩ := RowAt.ints_eq h3
    subst h1; subst h2; subst g1; subst g2
    exact ⟨e1, by simpa using e2⟩
theorem RowAt.flat_eq {c : α → List DV} {sz : Nat} {M : DMem} : ∀ {xs : List α} {cs : List DV} {S : List Nat}, RowAt (flatE c sz) M xs cs S → cs = xs.flatMap c ∧ S = []
  | [], cs, S, h => h
  | x :: xs, cs, S, ⟨c1, c2, S1, S2, e1, e2, ⟨h1, h2⟩, h3⟩ => by
    obtain ⟨g1, g2⟩ := RowAt.flat_eq h3
    subst h1; subst h2; subst g1; subst g2
    exact ⟨e1, by simpa using e2⟩
/-! ### One of them, in its place -/
theorem splD_one {l : List DV} {i : Nat} {v : DV} (h : i < l.length) : splD l i [v] = l.set i v := by
  unfold splD
  rw [List.set_eq_take_append_cons_drop, if_pos h]
  simp
theorem splD_field {c1 cx c2 : List DV} {o off : Nat} {v : DV} (h : c1.length = o) (hf : off < cx.length) : splD (c1 ++ cx ++ c2) (o + off) [v] = c1 ++ cx.set off v ++ c2 := by
  subst h
  rw [splD_one (by simp only [List.length_append]; omega), List.append_assoc, List.set_append_right _ _ (by omega), Nat.add_sub_cancel_left, List.set_append_left _ _ hf, List.append_assoc]
theorem get_field {c1 cx c2 : List DV} {o off : Nat} (h : c1.length = o) (hf : off < cx.length) : (c1 ++ cx ++ c2)[o + off]? = cx[off]? := by
  subst h
  rw [List.append_assoc, List.getElem?_append_right (by omega), Nat.add_sub_cancel_left, List.getElem?_append_left hf]
theorem take_field {c1 cx c2 : List DV} {o sz : Nat} (h : c1.length = o) (hs : cx.length = sz) : ((c1 ++ cx ++ c2).drop o).take sz = cx := by
  subst h; subst hs
  rw [List.append_assoc, List.drop_left, List.take_left]
theorem SlAt.inner (hE : E.Ok) {M : DMem} {d : DV} {xs : List α} {S : List Nat} (h : SlAt E M d xs S) (hS : S.Nodup) {i : Nat} (hi : i < xs.length) :
    ∃ b c ty c1 cx c2 S1 Sx S2, d = .msl b 0 xs.length c ∧ M b = some ⟨ty, c * E.sz, c1 ++ cx ++ c2⟩ ∧ c1.length = i * E.sz ∧ cx.length = E.sz ∧ E.rep M xs[i] cx Sx ∧ S = b :: (S1 ++ Sx ++ S2) ∧ xs.length ≤ c ∧
      (∀ M' y, E.rep M' y cx Sx → (∀ x ∈ S, x ∉ Sx → M' x = M x) → SlAt E M' d (xs.set i y) S) ∧
      (∀ M' y cy, E.rep M y cy Sx → M' = M.ins b ⟨ty, c * E.sz, c1 ++ cy ++ c2⟩ → SlAt E M' d (xs.set i y) S) := by
  obtain ⟨b, c, ty, cs, S', rfl, hM, hr, rfl, hc⟩ := h.at (by omega)
  obtain ⟨c1, cx, c2, S1, Sx, S2, rfl, rfl, hl, hx, h1, h2⟩ := hr.get hE hi
  obtain ⟨hb, hnd⟩ := List.nodup_cons.1 hS
  obtain ⟨hnd1, hnd2, hdis⟩ := List.nodup_append.1 hnd
  obtain ⟨hnd3, hnd4, hdis2⟩ := List.nodup_append.1 hnd1
  have d1 : ∀ x ∈ S1, x ∉ Sx := fun x hx hh => hdis2 x hx x hh rfl
  have d2 : ∀ x ∈ S2, x ∉ Sx := fun x hx hh => hdis x (List.mem_append_right _ hh) x hx rfl
  have hbx : b ∉ Sx := fun hh => hb (List.mem_append_left _ (List.mem_append_right _ hh))
  refine ⟨b, c, ty, c1, cx, c2, S1, Sx, S2, rfl, hM, hl, hE.len hx, hx, rfl, hc, fun M' y hy hk => ?_, fun M' y cy hy hM' => ?_⟩
  · have k1 : RowAt E M' (xs.take i) c1 S1 := h1.frame hE fun x hx => hk x (by simp [hx]) (d1 x hx)
    have k2 : RowAt E M' (xs.drop (i + 1)) c2 S2 := h2.frame hE fun x hx => hk x (by simp [hx]) (d2 x hx)
    exact .inr ⟨b, c, ty, _, _, by rw [List.length_set], by rw [hk b (by simp) hbx]; exact hM, RowAt.put hi k1 hy k2, rfl, by rw [List.length_set]; exact hc, by omega⟩
  · have ne : ∀ x ∈ S1 ++ Sx ++ S2, M' x = M x := fun x hx => by rw [hM', DMem.ins_ne _ _ (by rintro rfl; exact hb hx)]
    have k1 : RowAt E M' (xs.take i) c1 S1 := h1.frame hE fun x hx => ne x (List.mem_append_left _ (List.mem_append_left _ hx))
    have k2 : RowAt E M' (xs.drop (i + 1)) c2 S2 := h2.frame hE fun x hx => ne x (List.mem_append_right _ hx)
    have ky : E.rep M' y cy Sx := hE.frame hy fun x hx => ne x (List.mem_append_left _ (List.mem_append_right _ hx))
    exact .inr ⟨b, c, ty, _, _, by rw [List.length_set], by rw [hM', DMem.ins_same], RowAt.put hi k1 ky k2, rfl, by rw [List.length_set]; exact hc, by omega⟩
/-- What is new, where there was something already. -/
theorem SlAt.or (hE : E.Ok) {M M2 : DMem} {d : DV} {xs : List α} {S : List Nat} (h : SlAt E M2 d xs S) (hd : ∀ b, M b ≠ none → M2 b = none) : SlAt E (M.or M2) d xs S ∧ ∀ b ∈ S, M b = none := by
  have hn : ∀ b ∈ S, M b = none := fun b hb => by
    cases hM : M b with
    | none => rfl
    | some C => exact absurd (hd b (by rw [hM]; simp)) (h.here hE b hb)
  exact ⟨h.frame hE fun b hb => DMem.or_right (hn b hb), hn⟩
theorem SlAt.sub (hE : E.Ok) {M M' : DMem} {d : DV} {xs : List α} {S : List Nat} (h : SlAt E M d xs S) (hs : SubD M M') : SlAt E M' d xs S :=
  h.frame hE fun b hb => by
    obtain ⟨B, hB⟩ := Option.ne_none_iff_exists'.1 (h.here hE b hb)
    rw [hs b B hB, hB]
end Go.Proofs.YtpehdlobicocpaaDoor.Mw
/- Register code: what is computed, with no program in sight. No condition. -/
namespace Go.Proofs.YtpehdlobicocpaaDoor.Pf
open Go Go.RowKit Go.Proofs Go.Proofs.YtpehdlobicocpaaDoor.Mw Go.Proofs.YtpehdlobicocpaaDoor.Sx
set_option linter.unusedVariables false
set_option linter.unusedSimpArgs false
structure Src where
  const : Bool
  v : Int
deriving DecidableEq
structure Part where
  fn : Int
  pc : Int
  locals : List Src
  stack : List Src
deriving DecidableEq
structure Irc where
  kind : Int
  r : Int
  a : Int
  b : Int
  k : Int
  args : List Int
  cost : Int
  mt : Int
  pc : Int
deriving DecidableEq
structure Cod where
  fn : Int
  regs : Int
  code : List Irc
  metas : List (List Part)
deriving DecidableEq
abbrev Src.c (x : Src) : List DV := [.bool x.const, .int .i64 x.v]
abbrev Part.c (x : Part) : List DV := [.int .i64 x.fn, .int .i64 x.pc, slD Src.c x.locals, slD Src.c x.stack]
abbrev metaC (m : List Part) : List DV := [slD Part.c m]
abbrev Irc.c (x : Irc) : List DV := [.int .i64 x.kind, .int .i64 x.r, .int .i64 x.a, .int .i64 x.b, .int .i64 x.k, slI x.args, .int .i64 x.cost, .int .i64 x.mt, .int .i64 x.pc]
abbrev Cod.c (x : Cod) : List DV := [.int .i64 x.fn, .int .i64 x.regs, slD Irc.c x.code, slD metaC x.metas]
theorem Src.len (x : Src) : x.c.length = 2 := rfl
theorem Part.len (x : Part) : x.c.length = 4 := rfl
theorem metaC_len (x : List Part) : (metaC x).length = 1 := rfl
theorem Irc.len (x : Irc) : x.c.length = 9 := rfl
theorem Src.froz (x : Src) : FrozL x.c := (FrozL.nil.cons (Froz.int _ _)).cons (Froz.bool _)
theorem Part.froz (x : Part) : FrozL x.c := (((FrozL.nil.cons (Froz.slD Src.froz _)).cons (Froz.slD Src.froz _)).cons (Froz.int _ _)).cons (Froz.int _ _)
theorem metaC_froz (x : List Part) : FrozL (metaC x) := FrozL.nil.cons (Froz.slD Part.froz _)
theorem Irc.froz (x : Irc) : FrozL x.c := ((((((((FrozL.nil.cons (Froz.int _ _)).cons (Froz.int _ _)).cons (Froz.int _ _)).cons (Froz.slI _)).cons (Froz.int _ _)).cons (Froz.int _ _)).cons (Froz.int _ _)).cons (Froz.int _ _)).cons (Froz.int _ _)
theorem Cod.froz (x : Cod) : FrozL x.c := (((FrozL.nil.cons (Froz.slD metaC_froz _)).cons (Froz.slD Irc.froz _)).cons (Froz.int _ _)).cons (Froz.int _ _)
/-! ### Lowered -/
def rowS (from' : Int) (k : Nat) : List Src := (List.range k).map fun i : Nat => ⟨false, from' + (i : Int)⟩
def plainP (f : Fnc) (fn pc h base : Int) : Part := ⟨fn, pc, rowS base f.locals.toNat, rowS (base + f.locals) h.toNat⟩
def argsOf (p : List Fnc) (fn : Int) : Int := match p[fn.toNat]? with | some f => f.args | none => 0
def irL (p : List Fnc) (x : Ins) (pc top : Int) : Irc :=
  if x.kind = 0 then ⟨1, top, 0, 0, x.a, [], 1, 0, pc⟩
  else if x.kind = 1 then ⟨2, top, x.a, 0, 0, [], 1, 0, pc⟩
  else if x.kind = 2 then ⟨2, x.a, top - 1, 0, 0, [], 1, 0, pc⟩
  else if x.kind = 10 then ⟨2, top, top - 1, 0, 0, [], 1, 0, pc⟩
  else if x.kind = 11 then ⟨0, 0, 0, 0, 0, [], 1, 0, pc⟩
  else if x.kind = 12 then ⟨4, 0, 0, 0, x.a, [], 1, 0, pc⟩
  else if x.kind = 13 then ⟨5, 0, top - 1, 0, x.a, [], 1, 0, pc⟩
  else if x.kind = 14 then ⟨6, top - argsOf p x.a, 0, 0, x.a, (List.range (argsOf p x.a).toNat).map (fun i : Nat => top - argsOf p x.a + (i : Int)), 1, 0, pc⟩
  else if x.kind = 15 then ⟨7, 0, top - 1, 0, 0, [], 1, 0, pc⟩
  else if x.kind = 16 then ⟨8, 0, top - 1, 0, 0, [], 1, 0, pc⟩
  else ⟨3, top - 2, top - 2, top - 1, x.kind, [], 1, 0, pc⟩
def backB (x : Ins) (pc : Int) : Bool := (decide (x.kind = 12) || decide (x.kind = 13)) && decide (x.a ≤ pc)
/-- What is written: code, metas, where each place begins. -/
structure Low where
  code : List Irc
  metas : List (List Part)
  starts : List Int
/-- One place more: its height is h. -/
def lowStep (p : List Fnc) (f : Fnc) (fn : Int) (h : Int) (pc : Nat) (w : Low) : Low :=
  let x := f.code.getD pc ⟨0, 0⟩
  if h = -1 then ⟨w.code, w.metas, w.starts ++ [0]⟩
  else if backB x pc then ⟨w.code ++ [⟨10, 0, 0, 0, 0, [], 0, w.metas.length, pc⟩, irL p x pc (f.locals + h)], w.metas ++ [[plainP f fn pc h 0]], w.starts ++ [(w.code.length : Int)]⟩
  else ⟨w.code ++ [irL p x pc (f.locals + h)], w.metas, w.starts ++ [(w.code.length : Int)]⟩
def lowS (p : List Fnc) (f : Fnc) (fn : Int) (hs : List Int) : Nat → Low
  | 0 => ⟨[], [], []⟩
  | n + 1 => lowStep p f fn (hs.getD n (-1)) n (lowS p f fn hs n)
def goesB (k : Int) : Bool := decide (k = 4) || decide (k = 5)
def placed (starts : List Int) (x : Irc) : Irc := if goesB x.kind then { x with k := starts.getD x.k.toNat 0 } else x
def lowF (p : List Fnc) (f : Fnc) (fn : Int) : Cod :=
  let w := lowS p f fn (heightsR p fn).1 f.code.length
  ⟨fn, f.locals + 8, w.code.map (placed w.starts), w.metas⟩
def cod0 : Cod := ⟨0, 0, [], []⟩
def lowerR (p : List Fnc) (fn : Int) : Cod × Int :=
  if verifyE p = 0 ∧ 0 ≤ fn ∧ fn < p.length then
    match p[fn.toNat]? with
    | some f => (lowF p f fn, 0)
    | none => (cod0, 1100)
  else (cod0, 1100)
end Go.Proofs.YtpehdlobicocpaaDoor.Pf
