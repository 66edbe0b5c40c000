/- A program out of bytes: the program's. No condition. -/
import Derived.Test.YtaifmmeghninhaaKg
namespace Go.Proofs.Ytaifmmeghninhaa.Pf
open Go Go.RowKit Go.Proofs Go.Proofs.Ytaifmmeghninhaa.Mw Go.Proofs.Ytaifmmeghninhaa.Sx
set_option linter.unusedVariables false
set_option linter.unusedSimpArgs false
set_option maxRecDepth 4000
def hasP (l : List UInt8) : Bool := decide (l.take 3 = [84, 105, 107])
def cutP (l : List UInt8) : List UInt8 × Bool := if hasP l then (l.drop 3, true) else (l, false)
theorem tik : (⟨#[84, 105, 107]⟩ : ByteArray) = bstr [84, 105, 107] := rfl
theorem slen3 : slenD (.str (bstr [84, 105, 107])) = some (.int .i64 3) := bstr_slen _
theorem HasPrefix_pf (l : List UInt8) : pf Try.prog F_internal_stringslite_HasPrefix [.str (bstr l), .str (bstr [84, 105, 107])] = some (.bool (hasP l)) := by
  refine pf_of (v := .bool _) (pc_internal_stringslite_HasPrefix (by simp) ?_) ((FrozL.nil.cons (Froz.str _)).cons (Froz.str _)) rfl rfl
  have hl := bstr_slen l
  by_cases h : 3 ≤ l.length
  · have hi : sslcD (.str (bstr l)) (.tup []) (.tup [.int .i64 3]) = some (.str (bstr (l.take 3))) := bstr_hi (k := .i64) (i := 3) h
    have hc : (3 : Int) ≤ l.length := by omega
    simp only [S_internal_stringslite_HasPrefix, R_internal_stringslite_HasPrefix, MU_internal_stringslite_HasPrefix, MU_internal_stringslite_HasPrefix, slen3, hl, hc, hi, bstr_list, beq_dec, SW, wpD, evDL, evDM, evD, bldLD, List.contains_cons, List.contains_nil, Nat.reduceBEq, beq_self_eq_true, Nat.reduceMul, Nat.reduceSub, wpSp, Option.bind_some, Option.some.injEq, exists_eq_left', exists_eq_left, reduceIte, if_false, if_true, Nat.reduceEqDiff, Nat.reduceAdd, Nat.reduceLeDiff, Int.reduceEq, Int.reduceLT, Int.reduceLE, Int.reduceToNat, decide_true, decide_false, DV.bool.injEq, DV.int.injEq, DV.mp.injEq, DV.msl.injEq, DV.tup.injEq, DV.agg.injEq, DV.fn.injEq, true_implies, forall_const, reduceCtorEq, implies_true, ne_eq, DMem.mt, hasP]
  · have hc : ¬ (3 : Int) ≤ l.length := by omega
    simp only [S_internal_stringslite_HasPrefix, R_internal_stringslite_HasPrefix, MU_internal_stringslite_HasPrefix, MU_internal_stringslite_HasPrefix, slen3, hl, hc, bstr_list, beq_dec, SW, wpD, evDL, evDM, evD, bldLD, List.contains_cons, List.contains_nil, Nat.reduceBEq, beq_self_eq_true, Nat.reduceMul, Nat.reduceSub, wpSp, Option.bind_some, Option.some.injEq, exists_eq_left', exists_eq_left, reduceIte, if_false, if_true, Nat.reduceEqDiff, Nat.reduceAdd, Nat.reduceLeDiff, Int.reduceEq, Int.reduceLT, Int.reduceLE, Int.reduceToNat, decide_true, decide_false, DV.bool.injEq, DV.int.injEq, DV.mp.injEq, DV.msl.injEq, DV.tup.injEq, DV.agg.injEq, DV.fn.injEq, true_implies, forall_const, reduceCtorEq, implies_true, ne_eq, DMem.mt]
    unfold hasP
    rw [decide_eq_false fun e => by have := congrArg List.length e; simp at this; omega]
theorem CutPrefix0_pf (l : List UInt8) : pf Try.prog F_internal_stringslite_CutPrefix [.str (bstr l), .str (bstr [84, 105, 107])] = some (.tup [.str (bstr (cutP l).1), .bool (cutP l).2]) := by
  refine pf_of (v := .tuple #[.string _, .bool _]) (pc_internal_stringslite_CutPrefix (by simp) ?_) ((FrozL.nil.cons (Froz.str _)).cons (Froz.str _)) rfl rfl
  simp only [S_internal_stringslite_CutPrefix, R_internal_stringslite_CutPrefix, MU_internal_stringslite_CutPrefix, MU_internal_stringslite_CutPrefix, HasPrefix_pf, slen3, SW, wpD, evDL, evDM, evD, bldLD, List.contains_cons, List.contains_nil, Nat.reduceBEq, beq_self_eq_true, Nat.reduceMul, Nat.reduceSub, wpSp, Option.bind_some, Option.some.injEq, exists_eq_left', exists_eq_left, reduceIte, if_false, if_true, Nat.reduceEqDiff, Nat.reduceAdd, Nat.reduceLeDiff, Int.reduceEq, Int.reduceLT, Int.reduceLE, Int.reduceToNat, decide_true, decide_false, DV.bool.injEq, DV.int.injEq, DV.mp.injEq, DV.msl.injEq, DV.tup.injEq, DV.agg.injEq, DV.fn.injEq, true_implies, forall_const, reduceCtorEq, implies_true, ne_eq, DMem.mt]
  cases h : hasP l with
  | false =>
    simp only [cutP, h, SW, wpD, evDL, evDM, evD, bldLD, List.contains_cons, List.contains_nil, Nat.reduceBEq, beq_self_eq_true, Nat.reduceMul, Nat.reduceSub, wpSp, Option.bind_some, Option.some.injEq, exists_eq_left', exists_eq_left, reduceIte, if_false, if_true, Nat.reduceEqDiff, Nat.reduceAdd, Nat.reduceLeDiff, Int.reduceEq, Int.reduceLT, Int.reduceLE, Int.reduceToNat, decide_true, decide_false, DV.bool.injEq, DV.int.injEq, DV.mp.injEq, DV.msl.injEq, DV.tup.injEq, DV.agg.injEq, DV.fn.injEq, true_implies, forall_const, reduceCtorEq, implies_true, ne_eq, DMem.mt]
  | true =>
    have h3 : 3 ≤ l.length := by
      unfold hasP at h
      have := congrArg List.length (of_decide_eq_true h)
      simp at this; omega
    have hi : sslcD (.str (bstr l)) (.tup [.int .i64 3]) (.tup []) = some (.str (bstr (l.drop 3))) := bstr_lo (k := .i64) (i := 3) h3
    simp only [cutP, h, hi, SW, wpD, evDL, evDM, evD, bldLD, List.contains_cons, List.contains_nil, Nat.reduceBEq, beq_self_eq_true, Nat.reduceMul, Nat.reduceSub, wpSp, Option.bind_some, Option.some.injEq, exists_eq_left', exists_eq_left, reduceIte, if_false, if_true, Nat.reduceEqDiff, Nat.reduceAdd, Nat.reduceLeDiff, Int.reduceEq, Int.reduceLT, Int.reduceLE, Int.reduceToNat, decide_true, decide_false, DV.bool.injEq, DV.int.injEq, DV.mp.injEq, DV.msl.injEq, DV.tup.injEq, DV.agg.injEq, DV.fn.injEq, true_implies, forall_const, reduceCtorEq, implies_true, ne_eq, DMem.mt]
theorem CutPrefix_pf (l : List UInt8) : pf Try.prog F_strings_CutPrefix [.str (bstr l), .str (bstr [84, 105, 107])] = some (.tup [.str (bstr (cutP l).1), .bool (cutP l).2]) := by
  refine pf_of (v := .tuple #[.string _, .bool _]) (pc_strings_CutPrefix (by simp) ?_) ((FrozL.nil.cons (Froz.str _)).cons (Froz.str _)) rfl rfl
  simp only [S_strings_CutPrefix, R_strings_CutPrefix, MU_strings_CutPrefix, MU_strings_CutPrefix, CutPrefix0_pf, SW, wpD, evDL, evDM, evD, bldLD, List.contains_cons, List.contains_nil, Nat.reduceBEq, beq_self_eq_true, Nat.reduceMul, Nat.reduceSub, wpSp, Option.bind_some, Option.some.injEq, exists_eq_left', exists_eq_left, reduceIte, if_false, if_true, Nat.reduceEqDiff, Nat.reduceAdd, Nat.reduceLeDiff, Int.reduceEq, Int.reduceLT, Int.reduceLE, Int.reduceToNat, decide_true, decide_false, DV.bool.injEq, DV.int.injEq, DV.mp.injEq, DV.msl.injEq, DV.tup.injEq, DV.agg.injEq, DV.fn.injEq, true_implies, forall_const, reduceCtorEq, implies_true, ne_eq, DMem.mt]
theorem getR_bad {l : List UInt8} (h : hasP l = false) : getR l = ([], 300) := by
  unfold getR
  rw [if_neg]
  rintro ⟨_, _, h3⟩
  have : l.take 3 = [84, 105, 107] := by rw [← h3]; rfl
  unfold hasP at h
  rw [this] at h
  simp at h
theorem putR_ok {p : List Fnc} : ((putR p).2 = 0 ↔ packB p = true) ∧ ((putR p).2 = 0 → (putR p).1 = putB p) := by
  unfold putR
  cases packB p <;> simp
theorem getR_is {l : List UInt8} {acc : List Fnc} {t : Tk} (h : prgP (l.drop 3) = (acc, t)) :
    ((t.2 || decide (¬ (putR acc).2 = 0)) || !decide ((putR acc).1 = l)) = true ∧ getR l = ([], 300) ∨ ((t.2 || decide (¬ (putR acc).2 = 0)) || !decide ((putR acc).1 = l)) = false ∧ getR l = (acc, 0) := by
  obtain ⟨h1, h2⟩ := @putR_ok acc
  unfold getR
  rw [h]
  simp only
  by_cases hc : t.2 = false ∧ packB acc = true ∧ putB acc = l
  · right
    obtain ⟨c1, c2, c3⟩ := hc
    rw [if_pos ⟨c1, c2, c3⟩]
    have c4 := h1.2 c2
    refine ⟨?_, rfl⟩
    rw [c1, c4, h2 c4, c3]; simp
  · left
    rw [if_neg hc]
    refine ⟨?_, rfl⟩
    simp only [Bool.or_eq_true, Bool.not_eq_true', decide_eq_false_iff_not]
    cases ht : t.2 with
    | true => simp
    | false =>
      by_cases c4 : (putR acc).2 = 0
      · right
        intro c5
        exact hc ⟨ht, h1.1 c4, by rw [← h2 c4]; exact c5⟩
      · exact .inl (.inr (decide_eq_true c4))
set_option maxHeartbeats 4000000 in
theorem Get_pc {M : DMem} (l : List UInt8) {R : DV → DMem → Prop}
    (hR : ∀ d M' S, SlAt fncE M' d (getR l).1 S → S.Nodup → (∀ x ∈ S, M x = none) → SubD M M' → R (.tup [.agg [d], .int .i64 (getR l).2]) M') :
    PC Try.prog F_pack_Get [.str (bstr l)] R M := by
  refine pc_pack_Get (by simp) ?_
  simp only [S_pack_Get, R_pack_Get, MU_pack_Get, tik, CutPrefix_pf, SW, wpD, evDL, evDM, evD, bldLD, List.contains_cons, List.contains_nil, Nat.reduceBEq, beq_self_eq_true, Nat.reduceMul, Nat.reduceSub, wpSp, Option.bind_some, Option.some.injEq, exists_eq_left', exists_eq_left, reduceIte, if_false, if_true, Nat.reduceEqDiff, Nat.reduceAdd, Nat.reduceLeDiff, Int.reduceEq, Int.reduceLT, Int.reduceLE, Int.reduceToNat, decide_true, decide_false, DV.bool.injEq, DV.int.injEq, DV.mp.injEq, DV.msl.injEq, DV.tup.injEq, DV.agg.injEq, DV.fn.injEq, true_implies, forall_const, reduceCtorEq, implies_true, ne_eq, DMem.mt]
  intro r M1 hr hM1
  have hr1 : M1 r = some ⟨24, 1, [.zsl]⟩ := by rw [hM1, DMem.ins_same]
  have hk1 : ∀ x B, M x = some B → M1 x = some B ∧ x ≠ r := fun x B hB => by
    have e1 : x ≠ r := by rintro rfl; rw [hr] at hB; cases hB
    exact ⟨by rw [hM1, DMem.ins_ne _ _ e1]; exact hB, e1⟩
  clear hM1
  intro b M2 hb hM2
  have hbr : b ≠ r := by rintro rfl; rw [hr1] at hb; cases hb
  have hr2 : M2 r = some ⟨24, 1, [.zsl]⟩ := by rw [hM2, DMem.ins_ne _ _ (Ne.symm hbr)]; exact hr1
  have hb2 : TkAt M2 b ((cutP l).1, false) := ⟨[], by rw [hM2, DMem.ins_same]; rfl, rfl⟩
  have hk2 : ∀ x B, M x = some B → M2 x = some B ∧ x ≠ r ∧ x ≠ b := fun x B hB => by
    obtain ⟨f1, f2⟩ := hk1 x B hB
    have e1 : x ≠ b := by rintro rfl; rw [hb] at f1; cases f1
    exact ⟨by rw [hM2, DMem.ins_ne _ _ e1]; exact f1, f2, e1⟩
  have hMb : M b = none := by
    cases e : M b with
    | none => rfl
    | some B => have := (hk1 b B e).1; rw [hb] at this; cases this
  clear hM2 hb hr1 hk1
  try simp only [SW, wpD, evDL, evDM, evD, bldLD, List.contains_cons, List.contains_nil, Nat.reduceBEq, beq_self_eq_true, Nat.reduceMul, Nat.reduceSub, wpSp, Option.bind_some, Option.some.injEq, exists_eq_left', exists_eq_left, reduceIte, if_false, if_true, Nat.reduceEqDiff, Nat.reduceAdd, Nat.reduceLeDiff, Int.reduceEq, Int.reduceLT, Int.reduceLE, Int.reduceToNat, decide_true, decide_false, DV.bool.injEq, DV.int.injEq, DV.mp.injEq, DV.msl.injEq, DV.tup.injEq, DV.agg.injEq, DV.fn.injEq, true_implies, forall_const, reduceCtorEq, implies_true, ne_eq, DMem.mt]
  intro p M3 hp hM3
  have hpr : p ≠ r := by rintro rfl; rw [hr2] at hp; cases hp
  have hpb : p ≠ b := by rintro rfl; obtain ⟨_, g, _⟩ := hb2; rw [hp] at g; cases g
  have hr3 : M3 r = some ⟨24, 1, [.zsl]⟩ := by rw [hM3, DMem.ins_ne _ _ (Ne.symm hpr)]; exact hr2
  have hp3 : M3 p = some ⟨24, 1, [.zsl]⟩ := by rw [hM3, DMem.ins_same]
  have hb3 : TkAt M3 b ((cutP l).1, false) := hb2.other fun B hB => by rw [hM3, DMem.ins_ne _ _ (Ne.symm hpb)]; exact hB
  have hk3 : ∀ x B, M x = some B → M3 x = some B ∧ x ≠ r ∧ x ≠ b ∧ x ≠ p := fun x B hB => by
    obtain ⟨f1, f2, f3⟩ := hk2 x B hB
    have e1 : x ≠ p := by rintro rfl; rw [hp] at f1; cases f1
    exact ⟨by rw [hM3, DMem.ins_ne _ _ e1]; exact f1, f2, f3, e1⟩
  have hMp : M p = none := by
    cases e : M p with
    | none => rfl
    | some B => have := (hk2 p B e).1; rw [hp] at this; cases this
  clear hM3 hp hr2 hb2 hk2
  try simp only [SW, wpD, evDL, evDM, evD, bldLD, List.contains_cons, List.contains_nil, Nat.reduceBEq, beq_self_eq_true, Nat.reduceMul, Nat.reduceSub, wpSp, Option.bind_some, Option.some.injEq, exists_eq_left', exists_eq_left, reduceIte, if_false, if_true, Nat.reduceEqDiff, Nat.reduceAdd, Nat.reduceLeDiff, Int.reduceEq, Int.reduceLT, Int.reduceLE, Int.reduceToNat, decide_true, decide_false, DV.bool.injEq, DV.int.injEq, DV.mp.injEq, DV.msl.injEq, DV.tup.injEq, DV.agg.injEq, DV.fn.injEq, true_implies, forall_const, reduceCtorEq, implies_true, ne_eq, DMem.mt]
  refine next_pc hb3 _ fun M4 hb4 hk4 => ?_
  have hr4 : M4 r = some ⟨24, 1, [.zsl]⟩ := by rw [hk4 r (Ne.symm hbr)]; exact hr3
  have hp4 : M4 p = some ⟨24, 1, [.zsl]⟩ := by rw [hk4 p hpb]; exact hp3
  have hk5 : ∀ x B, M x = some B → M4 x = some B := fun x B hB => by
    obtain ⟨f1, f2, f3, f4⟩ := hk3 x B hB
    rw [hk4 x f3]; exact f1
  clear hk4 hr3 hp3 hb3 hk3
  simp only [S5_pack_Get, MU_pack_Get, SW, wpD, evDL, evDM, evD, bldLD, List.contains_cons, List.contains_nil, Nat.reduceBEq, beq_self_eq_true, Nat.reduceMul, Nat.reduceSub, wpSp, Option.bind_some, Option.some.injEq, exists_eq_left', exists_eq_left, reduceIte, if_false, if_true, Nat.reduceEqDiff, Nat.reduceAdd, Nat.reduceLeDiff, Int.reduceEq, Int.reduceLT, Int.reduceLE, Int.reduceToNat, decide_true, decide_false, DV.bool.injEq, DV.int.injEq, DV.mp.injEq, DV.msl.injEq, DV.tup.injEq, DV.agg.injEq, DV.fn.injEq, true_implies, forall_const, reduceCtorEq, implies_true, ne_eq, DMem.mt]
  have hnin := nextP_in ((cutP l).1, false)
  have hprg : prgP (cutP l).1 = fncsP (nextP ((cutP l).1, false)).1.toNat (nextP ((cutP l).1, false)).2 := rfl
  generalize hn : nextP ((cutP l).1, false) = nt at hb4 hnin hprg ⊢
  obtain ⟨n, t0⟩ := nt
  obtain ⟨m, rfl⟩ := Int.eq_ofNat_of_zero_le hnin.1
  simp only [Int.toNat_natCast] at hprg
  have hm : m < 256 := by have := hnin.2; omega
  refine ⟨fun k δ M' => ∃ (acc : List Fnc) (t' : Tk) (d : DV) (S : List Nat), fncsP m t0 = (acc ++ (fncsP k t').1, (fncsP k t').2) ∧ acc.length + k ≤ 256 ∧ k ≤ 255 ∧ δ 0 = .str (bstr l) ∧ δ 5 = .bool (cutP l).2 ∧ δ 2 = .mp r 0 ∧ δ 6 = .mp b 0 ∧ δ 7 = .mp p 0 ∧ δ 8 = .int .i64 k ∧
      M' r = some ⟨24, 1, [.zsl]⟩ ∧ M' p = some ⟨24, 1, [d]⟩ ∧ TkAt M' b t' ∧ SlAt fncE M' d acc S ∧ S.Nodup ∧ p ∉ S ∧ b ∉ S ∧ (∀ x ∈ S, M x = none ∧ x ≠ r) ∧ ∀ x B, M x = some B → M' x = some B, m,
    ⟨[], t0, .zsl, [], by simp, by simp; omega, by omega, rfl, rfl, rfl, rfl, rfl, rfl, hr4, hp4, hb4, SlAt.nil, List.nodup_nil, by simp, by simp, fun x hx => by simp at hx, hk5⟩, ?_⟩
  clear hr4 hp4 hb4 hk5
  rintro k δ M' ⟨acc, t', d, S, hc, hlen, hk255, h0, h5, h2, h6, h7, h8, hMr, hMp', ht, hsl, hnd, hpS, hbS, hS, hkeep⟩
  have fin : ∀ (δ : DEnv) (XX : Nat → DEnv → DMem → Prop) (KK : DEnv → DMem → Prop), fncsP m t0 = (acc, t') → δ 0 = .str (bstr l) → δ 5 = .bool (cutP l).2 → δ 2 = .mp r 0 → δ 6 = .mp b 0 → δ 7 = .mp p 0 →
      wpD Try.prog MU_pack_Get (fun f => roL.contains f) (fun t => G_pack_Get.contains t) 65 S4_pack_Get KK XX (fun δ M' => ∃ d, ((ldnD M' 1 (δ 2)).bind fun x => some (DV.tup [x, δ 3])) = some d ∧ R d M') δ M' := by
    intro δ XX KK hend h0 h5 h2 h6 h7
    rw [hend] at hprg
    obtain ⟨errs, hMb', hE⟩ := ht
    have hfz : fz M' 4 (.agg [d]) = .agg [slD Fnc.c acc] := by
      rw [fz_agg]; simp only [List.map_cons, List.map_nil]; rw [hsl.fz fncE_ok (k := 3) (by decide)]; rfl
    simp only [S4_pack_Get, MU_pack_Get, h0, h5, h2, h6, h7, ldnM, hMp', SW, wpD, evDL, evDM, evD, bldLD, List.contains_cons, List.contains_nil, Nat.reduceBEq, beq_self_eq_true, Nat.reduceMul, Nat.reduceSub, wpSp, Option.bind_some, Option.some.injEq, exists_eq_left', exists_eq_left, reduceIte, if_false, if_true, Nat.reduceEqDiff, Nat.reduceAdd, Nat.reduceLeDiff, Int.reduceEq, Int.reduceLT, Int.reduceLE, Int.reduceToNat, decide_true, decide_false, DV.bool.injEq, DV.int.injEq, DV.mp.injEq, DV.msl.injEq, DV.tup.injEq, DV.agg.injEq, DV.fn.injEq, true_implies, forall_const, reduceCtorEq, implies_true, ne_eq, DMem.mt]
    refine PC.of_pf (by simp only [List.map_cons, List.map_nil, hfz]; exact Put_pf acc) ?_
    have fin0 : ∀ M2, M2 = M'.ins r ⟨24, 1, splD [.zsl] 0 [.zsl]⟩ → getR l = ([], 300) → R (.tup [.agg [.zsl], .int .i64 300]) M2 ∧ M2 r = some ⟨24, 1, [.zsl]⟩ := by
      intro M2 hM2 hg
      have := hR .zsl M2 [] (by rw [hg]; exact SlAt.nil) List.nodup_nil (by simp) fun x B hB => by
        have e1 : x ≠ r := by rintro rfl; rw [hr] at hB; cases hB
        rw [hM2, DMem.ins_ne _ _ e1]; exact hkeep x B hB
      rw [hg] at this
      exact ⟨this, by rw [hM2, DMem.ins_same]; rfl⟩
    cases hP : hasP l with
    | false =>
      have hcut : cutP l = (l, false) := by unfold cutP; rw [hP]; rfl
      rw [hcut] at h5
      simp only [S3_pack_Get, S2_pack_Get, MU_pack_Get, h0, h5, h2, h6, h7, SW, wpD, evDL, evDM, evD, bldLD, List.contains_cons, List.contains_nil, Nat.reduceBEq, beq_self_eq_true, Nat.reduceMul, Nat.reduceSub, wpSp, Option.bind_some, Option.some.injEq, exists_eq_left', exists_eq_left, reduceIte, if_false, if_true, Nat.reduceEqDiff, Nat.reduceAdd, Nat.reduceLeDiff, Int.reduceEq, Int.reduceLT, Int.reduceLE, Int.reduceToNat, decide_true, decide_false, DV.bool.injEq, DV.int.injEq, DV.mp.injEq, DV.msl.injEq, DV.tup.injEq, DV.agg.injEq, DV.fn.injEq, true_implies, forall_const, reduceCtorEq, implies_true, ne_eq, DMem.mt]
      refine stD hMr rfl rfl (by simp) (by simp) rfl fun M2 hM2 => ?_
      obtain ⟨f1, f2⟩ := fin0 M2 hM2 (getR_bad hP)
      simp only [h0, h5, h2, h6, h7, ldnM, f2, SW, wpD, evDL, evDM, evD, bldLD, List.contains_cons, List.contains_nil, Nat.reduceBEq, beq_self_eq_true, Nat.reduceMul, Nat.reduceSub, wpSp, Option.bind_some, Option.some.injEq, exists_eq_left', exists_eq_left, reduceIte, if_false, if_true, Nat.reduceEqDiff, Nat.reduceAdd, Nat.reduceLeDiff, Int.reduceEq, Int.reduceLT, Int.reduceLE, Int.reduceToNat, decide_true, decide_false, DV.bool.injEq, DV.int.injEq, DV.mp.injEq, DV.msl.injEq, DV.tup.injEq, DV.agg.injEq, DV.fn.injEq, true_implies, forall_const, reduceCtorEq, implies_true, ne_eq, DMem.mt]
      exact f1
    | true =>
      have hcut : cutP l = (l.drop 3, true) := by unfold cutP; rw [hP]; rfl
      rw [hcut] at h5 hprg
      simp only at hprg
      simp only [S3_pack_Get, MU_pack_Get, h0, h5, h2, h6, h7, hMb', SW, wpD, evDL, evDM, evD, bldLD, List.contains_cons, List.contains_nil, Nat.reduceBEq, beq_self_eq_true, Nat.reduceMul, Nat.reduceSub, wpSp, Option.bind_some, Option.some.injEq, exists_eq_left', exists_eq_left, reduceIte, if_false, if_true, Nat.reduceEqDiff, Nat.reduceAdd, Nat.reduceLeDiff, Int.reduceEq, Int.reduceLT, Int.reduceLE, Int.reduceToNat, decide_true, decide_false, DV.bool.injEq, DV.int.injEq, DV.mp.injEq, DV.msl.injEq, DV.tup.injEq, DV.agg.injEq, DV.fn.injEq, true_implies, forall_const, reduceCtorEq, implies_true, ne_eq, DMem.mt]
      refine Is_pc errs ?_
      rw [hE]
      simp only [S2_pack_Get, MU_pack_Get, h0, h5, h2, h6, h7, bstr_list, beq_dec, SW, wpD, evDL, evDM, evD, bldLD, List.contains_cons, List.contains_nil, Nat.reduceBEq, beq_self_eq_true, Nat.reduceMul, Nat.reduceSub, wpSp, Option.bind_some, Option.some.injEq, exists_eq_left', exists_eq_left, reduceIte, if_false, if_true, Nat.reduceEqDiff, Nat.reduceAdd, Nat.reduceLeDiff, Int.reduceEq, Int.reduceLT, Int.reduceLE, Int.reduceToNat, decide_true, decide_false, DV.bool.injEq, DV.int.injEq, DV.mp.injEq, DV.msl.injEq, DV.tup.injEq, DV.agg.injEq, DV.fn.injEq, true_implies, forall_const, reduceCtorEq, implies_true, ne_eq, DMem.mt]
      have hpr' : M' p = some ⟨24, 1, [d]⟩ := hMp'
      refine ⟨fun hcnd => ?_, fun hcnd => ?_⟩
      · obtain ⟨c1, c2⟩ | ⟨c1, c2⟩ := getR_is (acc := acc) (t := t') hprg
        · refine stD hMr rfl rfl (by simp) (by simp) rfl fun M2 hM2 => ?_
          obtain ⟨f1, f2⟩ := fin0 M2 hM2 c2
          refine ⟨_, by rw [f2]; rfl, f1⟩
        · rw [hcnd] at c1; cases c1
      · obtain ⟨c1, c2⟩ | ⟨c1, c2⟩ := getR_is (acc := acc) (t := t') hprg
        · rw [hcnd] at c1; cases c1
        · simp only [h0, h5, h2, h6, h7, hMp', SW, wpD, evDL, evDM, evD, bldLD, List.contains_cons, List.contains_nil, Nat.reduceBEq, beq_self_eq_true, Nat.reduceMul, Nat.reduceSub, wpSp, Option.bind_some, Option.some.injEq, exists_eq_left', exists_eq_left, reduceIte, if_false, if_true, Nat.reduceEqDiff, Nat.reduceAdd, Nat.reduceLeDiff, Int.reduceEq, Int.reduceLT, Int.reduceLE, Int.reduceToNat, decide_true, decide_false, DV.bool.injEq, DV.int.injEq, DV.mp.injEq, DV.msl.injEq, DV.tup.injEq, DV.agg.injEq, DV.fn.injEq, true_implies, forall_const, reduceCtorEq, implies_true, ne_eq, DMem.mt]
          refine stD hMr rfl rfl (by simp) (by simp) (by simp only [List.all_cons, List.all_nil, hsl.plain]; rfl) fun M2 hM2 => ?_
          have f2 : M2 r = some ⟨24, 1, [d]⟩ := by rw [hM2, DMem.ins_same]; rfl
          refine ⟨_, by rw [f2]; rfl, ?_⟩
          have := hR d M2 S (by rw [c2]; exact hsl.frame fncE_ok fun x hx => by rw [hM2, DMem.ins_ne _ _ (hS x hx).2]) hnd (fun x hx => (hS x hx).1) fun x B hB => by
            have e1 : x ≠ r := by rintro rfl; rw [hr] at hB; cases hB
            rw [hM2, DMem.ins_ne _ _ e1]; exact hkeep x B hB
          rw [c2] at this
          exact this
  have hrS : r ∉ S := fun hh => (hS r hh).2 rfl
  cases k with
  | zero =>
    replace h8 : δ 8 = .int .i64 0 := h8
    simp only [S1_pack_Get, MU_pack_Get, h0, h2, h5, h6, h7, h8, SW, wpD, evDL, evDM, evD, bldLD, List.contains_cons, List.contains_nil, Nat.reduceBEq, beq_self_eq_true, Nat.reduceMul, Nat.reduceSub, wpSp, Option.bind_some, Option.some.injEq, exists_eq_left', exists_eq_left, reduceIte, if_false, if_true, Nat.reduceEqDiff, Nat.reduceAdd, Nat.reduceLeDiff, Int.reduceEq, Int.reduceLT, Int.reduceLE, Int.reduceToNat, decide_true, decide_false, DV.bool.injEq, DV.int.injEq, DV.mp.injEq, DV.msl.injEq, DV.tup.injEq, DV.agg.injEq, DV.fn.injEq, true_implies, forall_const, reduceCtorEq, implies_true, ne_eq, DMem.mt]
    exact fin _ _ _ (by rw [hc]; simp [fncsP]) h0 h5 h2 h6 h7
  | succ k =>
    have hpos : (0 : Int) < ((k + 1 : Nat) : Int) := by omega
    obtain ⟨errs, hMb', hE⟩ := ht
    simp only [S1_pack_Get, MU_pack_Get, h0, h2, h5, h6, h7, h8, hMb', hpos, SW, wpD, evDL, evDM, evD, bldLD, List.contains_cons, List.contains_nil, Nat.reduceBEq, beq_self_eq_true, Nat.reduceMul, Nat.reduceSub, wpSp, Option.bind_some, Option.some.injEq, exists_eq_left', exists_eq_left, reduceIte, if_false, if_true, Nat.reduceEqDiff, Nat.reduceAdd, Nat.reduceLeDiff, Int.reduceEq, Int.reduceLT, Int.reduceLE, Int.reduceToNat, decide_true, decide_false, DV.bool.injEq, DV.int.injEq, DV.mp.injEq, DV.msl.injEq, DV.tup.injEq, DV.agg.injEq, DV.fn.injEq, true_implies, forall_const, reduceCtorEq, implies_true, ne_eq, DMem.mt]
    cases errs with
    | cons s er =>
      refine effEqNil rfl u61 (b := false) (.inr ⟨rfl, _, _, by simp only [SW, wpD, evDL, evDM, evD, bldLD, List.contains_cons, List.contains_nil, Nat.reduceBEq, beq_self_eq_true, Nat.reduceMul, Nat.reduceSub, wpSp, Option.bind_some, Option.some.injEq, exists_eq_left', exists_eq_left, reduceIte, if_false, if_true, Nat.reduceEqDiff, Nat.reduceAdd, Nat.reduceLeDiff, Int.reduceEq, Int.reduceLT, Int.reduceLE, Int.reduceToNat, decide_true, decide_false, DV.bool.injEq, DV.int.injEq, DV.mp.injEq, DV.msl.injEq, DV.tup.injEq, DV.agg.injEq, DV.fn.injEq, true_implies, forall_const, reduceCtorEq, implies_true, ne_eq, DMem.mt]; rfl⟩) ?_
      simp only [h0, h2, h5, h6, h7, h8, hpos, SW, wpD, evDL, evDM, evD, bldLD, List.contains_cons, List.contains_nil, Nat.reduceBEq, beq_self_eq_true, Nat.reduceMul, Nat.reduceSub, wpSp, Option.bind_some, Option.some.injEq, exists_eq_left', exists_eq_left, reduceIte, if_false, if_true, Nat.reduceEqDiff, Nat.reduceAdd, Nat.reduceLeDiff, Int.reduceEq, Int.reduceLT, Int.reduceLE, Int.reduceToNat, decide_true, decide_false, DV.bool.injEq, DV.int.injEq, DV.mp.injEq, DV.msl.injEq, DV.tup.injEq, DV.agg.injEq, DV.fn.injEq, true_implies, forall_const, reduceCtorEq, implies_true, ne_eq, DMem.mt]
      have e : t'.2 = true := by rw [← hE]; rfl
      exact fin _ _ _ (by rw [hc]; simp [fncsP, e]) h0 h5 h2 h6 h7
    | nil =>
      refine effEqNil rfl u61 (b := true) (.inl ⟨rfl, by simp only [SW, wpD, evDL, evDM, evD, bldLD, List.contains_cons, List.contains_nil, Nat.reduceBEq, beq_self_eq_true, Nat.reduceMul, Nat.reduceSub, wpSp, Option.bind_some, Option.some.injEq, exists_eq_left', exists_eq_left, reduceIte, if_false, if_true, Nat.reduceEqDiff, Nat.reduceAdd, Nat.reduceLeDiff, Int.reduceEq, Int.reduceLT, Int.reduceLE, Int.reduceToNat, decide_true, decide_false, DV.bool.injEq, DV.int.injEq, DV.mp.injEq, DV.msl.injEq, DV.tup.injEq, DV.agg.injEq, DV.fn.injEq, true_implies, forall_const, reduceCtorEq, implies_true, ne_eq, DMem.mt]; rfl⟩) ?_
      have e : t'.2 = false := by rw [← hE]; rfl
      have hTk : TkAt M' b t' := ⟨[], hMb', hE⟩
      simp only [raw0_pack_Get, P0_pack_Get, MU_pack_Get, h0, h2, h5, h6, h7, h8, hMp', hpos, ldnM, SW, wpD, evDL, evDM, evD, bldLD, List.contains_cons, List.contains_nil, Nat.reduceBEq, beq_self_eq_true, Nat.reduceMul, Nat.reduceSub, wpSp, Option.bind_some, Option.some.injEq, exists_eq_left', exists_eq_left, reduceIte, if_false, if_true, Nat.reduceEqDiff, Nat.reduceAdd, Nat.reduceLeDiff, Int.reduceEq, Int.reduceLT, Int.reduceLE, Int.reduceToNat, decide_true, decide_false, DV.bool.injEq, DV.int.injEq, DV.mp.injEq, DV.msl.injEq, DV.tup.injEq, DV.agg.injEq, DV.fn.injEq, true_implies, forall_const, reduceCtorEq, implies_true, ne_eq, DMem.mt]
      refine fn_pc hTk fun M7 d1 T h7t hsl1 hnd1 hT hk7 => ?_
      have hMp7 := hk7 p _ hpb hMp'
      have hMr7 := hk7 r _ (Ne.symm hbr) hMr
      have hne : ∀ x ∈ S, M' x ≠ none := fun x hx => hsl.here fncE_ok x hx
      have hsl7 : SlAt fncE M7 d acc S := hsl.frame fncE_ok fun x hx => by
        obtain ⟨B, hB⟩ := Option.ne_none_iff_exists'.1 (hne x hx)
        rw [hB, hk7 x B (by rintro rfl; exact hbS hx) hB]
      simp only [freshI, List.map_cons, List.map_nil, hMp7, SW, wpD, evDL, evDM, evD, bldLD, List.contains_cons, List.contains_nil, Nat.reduceBEq, beq_self_eq_true, Nat.reduceMul, Nat.reduceSub, wpSp, Option.bind_some, Option.some.injEq, exists_eq_left', exists_eq_left, reduceIte, if_false, if_true, Nat.reduceEqDiff, Nat.reduceAdd, Nat.reduceLeDiff, Int.reduceEq, Int.reduceLT, Int.reduceLE, Int.reduceToNat, decide_true, decide_false, DV.bool.injEq, DV.int.injEq, DV.mp.injEq, DV.msl.injEq, DV.tup.injEq, DV.agg.injEq, DV.fn.injEq, true_implies, forall_const, reduceCtorEq, implies_true, ne_eq, DMem.mt]
      refine hsl7.app fncE_ok hnd (ys := [(fncP t').1]) (ds := [.int .i64 (fncP t').1.args, .int .i64 (fncP t').1.locals, d1]) (T := T) (RowAt.one ⟨d1, rfl, hsl1⟩) (fun x hx hh => hne x hh (hT x hx)) rfl (by omega) (by omega) fun d' M9 S' hsl9 hk9 hS9 hnd9 => ?_
      have hMp9 := hk9 p _ hMp7 hpS
      refine stD hMp9 (hsl9.cell) rfl (by simp) (by simp) (by simp only [List.all_cons, List.all_nil, hsl9.plain]; rfl) fun M10 hM10 => ?_
      have hpT : p ∉ T := fun hh => by have := hT p hh; rw [hMp'] at this; cases this
      have hbT : b ∉ T := fun hh => by have := hT b hh; rw [hMb'] at this; cases this
      have hrT : r ∉ T := fun hh => by have := hT r hh; rw [hMr] at this; cases this
      have hb7 : M7 b ≠ none := by obtain ⟨_, g, _⟩ := h7t; rw [g]; simp
      have hpS9 : p ∉ S' := fun hh => by
        rcases hS9 p hh with h' | h' | h'
        · exact hpS h'
        · exact hpT h'
        · rw [hMp7] at h'; cases h'
      have hbS9 : b ∉ S' := fun hh => by
        rcases hS9 b hh with h' | h' | h'
        · exact hbS h'
        · exact hbT h'
        · exact hb7 h'
      have hcode : fncsP (k + 1) t' = ((fncP t').1 :: (fncsP k (fncP t').2).1, (fncsP k (fncP t').2).2) := by simp only [fncsP, e]; rfl
      have hkd : wr64 (((k + 1 : Nat) : Int) - 1) = (k : Int) := by rw [w64 (by omega)]; omega
      try simp only [h0, h2, h5, h6, h7, h8, hkd, SW, wpD, evDL, evDM, evD, bldLD, List.contains_cons, List.contains_nil, Nat.reduceBEq, beq_self_eq_true, Nat.reduceMul, Nat.reduceSub, wpSp, Option.bind_some, Option.some.injEq, exists_eq_left', exists_eq_left, reduceIte, if_false, if_true, Nat.reduceEqDiff, Nat.reduceAdd, Nat.reduceLeDiff, Int.reduceEq, Int.reduceLT, Int.reduceLE, Int.reduceToNat, decide_true, decide_false, DV.bool.injEq, DV.int.injEq, DV.mp.injEq, DV.msl.injEq, DV.tup.injEq, DV.agg.injEq, DV.fn.injEq, true_implies, forall_const, reduceCtorEq, implies_true, ne_eq, DMem.mt]
      refine ⟨k, M10, by omega, SubD.refl _, acc ++ [(fncP t').1], (fncP t').2, d', S', ?_, by simp; omega, by omega, rfl, ?_, by rw [hM10, DMem.ins_same]; rfl, ?_, ?_, hnd9 hnd1, hpS9, hbS9, fun x hx => ?_, fun x B hB => ?_⟩
      · rw [hc, hcode]; simp
      · rw [hM10, DMem.ins_ne _ _ (Ne.symm hpr)]; exact hk9 r _ hMr7 hrS
      · exact h7t.other fun B hB => by rw [hM10, DMem.ins_ne _ _ (Ne.symm hpb)]; exact hk9 b B hB hbS
      · exact hsl9.frame fncE_ok fun x hx => by rw [hM10, DMem.ins_ne _ _ (by rintro rfl; exact hpS9 hx)]
      · have hold : M' x = none → M x = none := fun h' => by
          cases e1 : M x with
          | none => rfl
          | some B => have := hkeep x B e1; rw [h'] at this; cases this
        rcases hS9 x hx with h' | h' | h'
        · exact hS x h'
        · exact ⟨hold (hT x h'), by rintro rfl; exact hrT h'⟩
        · have hxb : x ≠ b := fun e' => hb7 (by rw [← e']; exact h')
          refine ⟨hold ?_, fun e' => by rw [e', hMr7] at h'; cases h'⟩
          cases e1 : M' x with
          | none => rfl
          | some B => have := hk7 x B hxb e1; rw [h'] at this; cases this
      · have e1 : x ≠ p := by rintro rfl; rw [hMp] at hB; cases hB
        have e2 : x ∉ S := fun hh => by rw [(hS x hh).1] at hB; cases hB
        have e3 : x ≠ b := by rintro rfl; rw [hMb] at hB; cases hB
        rw [hM10, DMem.ins_ne _ _ e1]
        exact hk9 x B (hk7 x B e3 (hkeep x B hB)) e2
end Go.Proofs.Ytaifmmeghninhaa.Pf
