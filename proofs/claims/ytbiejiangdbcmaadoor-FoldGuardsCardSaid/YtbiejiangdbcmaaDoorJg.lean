/- Ub Uc Ug Uh Mr Mt Do Dp Lc: joined texts of this claim. No condition. -/
import Derived.Test.YtbiejiangdbcmaaDoorJgjc
import Derived.Test.YtbiejiangdbcmaaDoorJgjb
import Derived.Test.YtbiejiangdbcmaaDoorJgje
import Derived.Test.YtbiejiangdbcmaaDoorJgjd
import Derived.WalkKit
import Derived.ProofKit
import Derived.OpenShut
import Derived.ShutString
import Derived.ChangeOld
import Derived.Below
import Derived.Carry
import Derived.SizedLaws
import Derived.ChangeSame
import Derived.ChangeVars
import Derived.JoinedOf
import Derived.LaidLaws
import Derived.LaidHandle
import Derived.Handed
import Derived.Stop.Joined
import Derived.Deep.Slices
import Derived.Test.YtbiejiangdbcmaaDoorRows
import Derived.Test.YtbiejiangdbcmaaDoorTie
import Derived.Test.YtbiejiangdbcmaaDoorCards
import Derived.Lib.SmallJoins
import Derived.SevenTiedAt
namespace Go.Proofs.YtbiejiangdbcmaaDoor.Pf
open Go Go.RowKit Go.Proofs Go.Proofs.YtbiejiangdbcmaaDoor.Mw Go.Proofs.YtbiejiangdbcmaaDoor.Sx
set_option linter.unusedVariables false
set_option linter.unusedSimpArgs false
set_option maxRecDepth 8000
def forget (f : Int → Option Int) (r : Int) : Int → Option Int := fun k => (f k).bind fun v => if (decide (k = r) || decide (v = r)) = true then none else some v
theorem mem_filter1 {α : Type} {p : α → Bool} {l : List α} {x : α} (h : x ∈ l.filter p) : x ∈ l := (List.mem_filter.1 h).1
theorem sets1_pf (k v r : Int) : pf Tryd.prog F_copies_stands_sets_1 [.int .i64 k, .int .i64 v, .ip [.int .i64 r]] = some (.bool (decide (k = r) || decide (v = r))) := by
  refine pf_of (v := .bool _) (pc_copies_stands_sets_1 (by simp) ?_) (((FrozL.nil.cons (Froz.ip (FrozL.nil.cons (Froz.int _ _)))).cons (Froz.int _ _)).cons (Froz.int _ _)) rfl rfl
  simp only [S_copies_stands_sets_1, R_copies_stands_sets_1, MU_copies_stands_sets_1, SW, SV, wpD, evDL, evDM, evD, bldLD, wpSp, DMem.mt, beq_self_eq_true, seval]
def keptL (p : Int → Int → Bool) (seen : List Nat) (l : List Ent) : List Ent := l.filter fun e => !(seen.contains e.2.2 && p e.1 e.2.1)
theorem keptL_ok {p : Int → Int → Bool} {seen : List Nat} {l : List Ent} {ck : Nat} (h : MapOk l ck) : MapOk (keptL p seen l) ck :=
  ⟨h.keys.sublist (List.filter_sublist.map _), h.born.sublist (List.filter_sublist.map _), fun e he => h.old e (mem_filter1 he)⟩
theorem keptL_look (p : Int → Int → Bool) {l : List Ent} (hn : (l.map (·.1)).Nodup) {seen : List Nat} (hall : ∀ e ∈ keptL p seen l, e.2.2 ∈ seen) (k : Int) : lookL (keptL p seen l) k = (lookL l k).bind fun v => if p k v = true then none else some v := by
  induction l with
  | nil => rfl
  | cons e r ih =>
    simp only [List.map_cons, List.nodup_cons] at hn
    have hr : ∀ e ∈ keptL p seen r, e.2.2 ∈ seen := fun x hx => hall x (by unfold keptL at hx ⊢; rw [List.filter_cons]; split; exact List.mem_cons_of_mem _ hx; exact hx)
    have ih := ih hn.2 hr
    have hse : e.2.2 ∈ seen := by
      refine Decidable.byContradiction fun hns => ?_
      have : e ∈ keptL p seen (e :: r) := by
        unfold keptL
        rw [List.filter_cons, if_pos (by simp [hns])]
        exact List.mem_cons_self
      exact hns (hall e this)
    have e1 : keptL p seen (e :: r) = if p e.1 e.2.1 = true then keptL p seen r else e :: keptL p seen r := by
      unfold keptL
      rw [List.filter_cons]
      have hc : seen.contains e.2.2 = true := by simpa using hse
      simp only [hc, Bool.true_and, Bool.not_eq_true']
      cases p e.1 e.2.1 <;> rfl
    rw [e1, lookL_cons]
    by_cases hk : e.1 = k
    · rw [if_pos hk]
      subst hk
      simp only [Option.bind_some]
      by_cases hp : p e.1 e.2.1 = true
      · rw [if_pos hp, if_pos hp]
        refine lookL_none fun hh => hn.1 ?_
        obtain ⟨x, hx, hxe⟩ := List.mem_map.1 hh
        exact List.mem_map.2 ⟨x, mem_filter1 hx, hxe⟩
      · rw [if_neg hp, if_neg hp, lookL_cons, if_pos rfl]
    · rw [if_neg hk, ← ih]
      split
      · rfl
      · rw [lookL_cons, if_neg hk]
theorem nd_inj {α β : Type} {f : α → β} : ∀ {l : List α}, (l.map f).Nodup → ∀ {x y : α}, x ∈ l → y ∈ l → f x = f y → x = y
  | [], _, x, y, hx, _, _ => by simp at hx
  | a :: l, h, x, y, hx, hy, e => by
    obtain ⟨h1, h2⟩ := List.nodup_cons.1 h
    rcases List.mem_cons.1 hx with hx1 | hx1
    · rcases List.mem_cons.1 hy with hy1 | hy1
      · rw [hx1, hy1]
      · exact absurd (by rw [← hx1, e]; exact List.mem_map_of_mem hy1) h1
    · rcases List.mem_cons.1 hy with hy1 | hy1
      · exact absurd (by rw [← hy1, ← e]; exact List.mem_map_of_mem hx1) h1
      · exact nd_inj h2 hx1 hy1 e
theorem len_sub : ∀ (s t : List Nat), s.Nodup → (∀ x ∈ s, x ∈ t) → s.length ≤ t.length
  | [], t, _, _ => Nat.zero_le _
  | a :: s, t, h, hs => by
    obtain ⟨h1, h2⟩ := List.nodup_cons.1 h
    have ha := hs a List.mem_cons_self
    have := len_sub s (t.erase a) h2 fun x hx => (List.mem_erase_of_ne (by rintro rfl; exact h1 hx)).2 (hs x (List.mem_cons_of_mem _ hx))
    rw [List.length_erase_of_mem ha] at this
    have h0 : 0 < t.length := List.length_pos_of_mem ha
    rw [List.length_cons]; omega
theorem delL_filter {l : List Ent} (h : (l.map (·.1)).Nodup) (k : Int) : delL l k = l.filter fun x => !decide (x.1 = k) := by
  induction l with
  | nil => rfl
  | cons e r ih =>
    obtain ⟨h1, h2⟩ := List.nodup_cons.1 h
    rw [List.filter_cons]
    simp only [delL]
    by_cases hk : e.1 = k
    · rw [if_pos hk, decide_eq_true hk]
      simp only [Bool.not_true, Bool.false_eq_true, if_false]
      symm
      rw [List.filter_eq_self]
      intro x hx
      have : x.1 ≠ k := fun hh => h1 (by show e.1 ∈ _; rw [hk, ← hh]; exact List.mem_map_of_mem (f := (·.1)) hx)
      simp [this]
    · rw [if_neg hk, decide_eq_false hk, ih h2]; rfl
theorem keptL_skip {p : Int → Int → Bool} {seen : List Nat} {l : List Ent} {e : Ent} (hb : (l.map (·.2.2)).Nodup) (he : e ∈ l) (hp : p e.1 e.2.1 = false) : keptL p (seen ++ [e.2.2]) l = keptL p seen l := by
  unfold keptL
  refine List.filter_congr fun x hx => ?_
  by_cases hxe : x.2.2 = e.2.2
  · have : x = e := nd_inj hb hx he hxe
    subst this
    rw [hp]; simp
  · have : (seen ++ [e.2.2]).contains x.2.2 = seen.contains x.2.2 := by simp [hxe]
    rw [this]
theorem keptL_del {p : Int → Int → Bool} {seen : List Nat} {l : List Ent} {e : Ent} (hk : (l.map (·.1)).Nodup) (hb : (l.map (·.2.2)).Nodup) (he : e ∈ l) (hp : p e.1 e.2.1 = true) : keptL p (seen ++ [e.2.2]) l = delL (keptL p seen l) e.1 := by
  unfold keptL
  rw [delL_filter (hk.sublist (List.filter_sublist.map _))]
  rw [List.filter_filter]
  refine List.filter_congr fun x hx => ?_
  by_cases hxe : x = e
  · subst hxe
    simp [hp]
  · have h1 : x.2.2 ≠ e.2.2 := fun hh => hxe (nd_inj hb hx he hh)
    have h2 : x.1 ≠ e.1 := fun hh => hxe (nd_inj hk hx he hh)
    have : (seen ++ [e.2.2]).contains x.2.2 = seen.contains x.2.2 := by simp [h1]
    rw [this, decide_eq_false h2]; simp
theorem effDelete0 {P : Program} {o : Oper} {K : DV → DMem → Prop} {δ : DEnv} {M : DMem} {mt kt et kt' : TypeId} {x i : Nat} {b : Nat} {l : List Ent} {ck : Nat} {k : Int} (ho : o.op = .call ⟨.builtin .delete, #[.tmp x, .tmp i], #[mt, kt']⟩) (hm : P.underlying mt = some (.map kt et)) (hk : P.underlying kt = some (.int .i64))
    (hd : δ x = .raw (.map (some b))) (hM : M b = some ⟨mapT (.mp l ck), 0, []⟩) (hi : δ i = .int .i64 k) (hK : ∀ M', M' = M.ins b ⟨mapT (.mp (delL l k) ck), 0, []⟩ → K (.tup []) M') : EffD P o K δ M := by
  intro F m0 ρ m hI
  have r1 := hI.env x
  have r2 := hI.env i
  rw [hd] at r1
  rw [hi] at r2
  simp only [Rep] at r1 r2
  obtain ⟨g1, hst⟩ := StepD.mapSet hI hM (q' := .mp (delL l k) ck) (v := .tuple #[]) (d := .tup []) (fun m' _ => by simp only [Rep]; exact ⟨[], rfl, by simp only [RepP], rfl⟩)
  refine EffM.of fun w0 w a hs ha => ⟨.tuple #[], _, _, ?_, hs.mapSet g1 (.mp (delL l k) ck) rfl, _, _, hst, hK _ rfl⟩
  have h1 : a.eval (.tmp x) = ρ x := ha _ (by simp [ho, Op.operands, Call.operands])
  have h2 : a.eval (.tmp i) = ρ i := ha _ (by simp [ho, Op.operands, Call.operands])
  have hr := run_delete_ints (P := P) (w := w) hm hk (hs.map g1).1 kt' o.type k
  simp only [execOp, ho, resolve, Sem.run_bind, Sem.run_pure, Result.andThen_ok, Go.invoke, Go.builtin, List.map_toArray, List.map_cons, List.map_nil, h1, h2, r1, r2, hr]
set_option maxHeartbeats 1000000 in
theorem DeleteFunc_pc {M : DMem} {d : DV} {b : Nat} {f : Int → Option Int} (hm : MapAt M d b f) {g : Nat} {caps : List DV} (hcf : FrozL caps) {p : Int → Int → Bool} (hp : ∀ k v, pf Tryd.prog g (.int .i64 k :: .int .i64 v :: caps) = some (.bool (p k v))) {R : DV → DMem → Prop}
    (hR : ∀ M', MapAt M' d b (fun k => (f k).bind fun v => if p k v = true then none else some v) → (∀ y B, y ≠ b → M y = some B → M' y = some B) → R (.tup []) M') : PC Tryd.prog F_maps_DeleteFunc_copies_stands_int_int [d, .fn (.func g) [] caps] R M := by
  obtain ⟨hd, l, ck, hM, hok, hf⟩ := hm
  refine pc_maps_DeleteFunc_copies_stands_int_int (by simp) ?_
  simp only [S_maps_DeleteFunc_copies_stands_int_int, R_maps_DeleteFunc_copies_stands_int_int, MU_maps_DeleteFunc_copies_stands_int_int, SW, SV, wpD, evDL, evDM, evD, bldLD, wpSp, DMem.mt, beq_self_eq_true, seval]
  refine effRange (mt := 69) (kt := 3) (et := 3) (x := 6) rfl (by kernel_rfl) hd hM fun it M1 hit hM1 => ?_
  have hib : it ≠ b := by rintro rfl; rw [hM] at hit; cases hit
  try simp only [SW, SV, wpD, evDL, evDM, evD, bldLD, wpSp, DMem.mt, beq_self_eq_true, seval]
  refine ⟨fun n δ M' => ∃ (seen : List Nat), n = l.length - seen.length ∧ seen.Nodup ∧ (∀ x ∈ seen, x ∈ l.map (·.2.2)) ∧ δ 0 = d ∧ δ 1 = .fn (.func g) [] caps ∧ δ 7 = .mp it 0 ∧ M' b = some ⟨mapT (.mp (keptL p seen l) ck), 0, []⟩ ∧ M' it = some ⟨mapT (.it b ck seen ck), 0, []⟩ ∧ (∀ y, y ≠ b → y ≠ it → M' y = M y), l.length,
    ⟨[], rfl, List.nodup_nil, by simp, rfl, rfl, rfl, ?_, ?_, fun y hy hyi => by rw [hM1, DMem.ins_ne _ _ hyi]⟩, ?_⟩
  · rw [hM1, DMem.ins_ne _ _ (Ne.symm hib), hM]
    congr 4
    unfold keptL
    rw [List.filter_eq_self.2]; simp
  · rw [hM1, DMem.ins_same]
  rintro n δ M' ⟨seen, rfl, hsn, hsub, h0, h1, h7, hMb, hMi, hk⟩
  have hok' := keptL_ok (p := p) (seen := seen) hok
  simp only [S2_maps_DeleteFunc_copies_stands_int_int, MU_maps_DeleteFunc_copies_stands_int_int, h0, h1, h7, SW, SV, wpD, evDL, evDM, evD, bldLD, wpSp, DMem.mt, beq_self_eq_true, seval]
  refine effNext (x := 7) rfl h7 hMi hMb (fun e he => hok'.old e he) (Nat.le_refl _) (fun hall => ?_) fun e he hes M2 hM2 => ?_
  · simp only [SW, SV, wpD, evDL, evDM, evD, bldLD, wpSp, DMem.mt, beq_self_eq_true, seval]
    refine hR M' ⟨hd, _, ck, hMb, hok', fun k => by rw [keptL_look p hok.keys hall, hf]⟩ fun y B hy hB => ?_
    rw [hk y hy (by rintro rfl; rw [hit] at hB; cases hB)]; exact hB
  · have hel : e ∈ l := mem_filter1 he
    have hMb2 : M2 b = some ⟨mapT (.mp (keptL p seen l) ck), 0, []⟩ := by rw [hM2, DMem.ins_ne _ _ (Ne.symm hib)]; exact hMb
    have hMi2 : M2 it = some ⟨mapT (.it b ck (seen ++ [e.2.2]) ck), 0, []⟩ := by rw [hM2, DMem.ins_same]
    have hk2 : ∀ y, y ≠ b → y ≠ it → M2 y = M y := fun y hy hyi => by rw [hM2, DMem.ins_ne _ _ hyi]; exact hk y hy hyi
    simp only [h0, h1, h7, SW, SV, wpD, evDL, evDM, evD, bldLD, wpSp, DMem.mt, beq_self_eq_true, seval]
    refine effEntry (x := 7) (e := e) rfl h7 hMi2 hMb2 he hok'.born ?_
    simp only [h0, h1, h7, SW, SV, wpD, evDL, evDM, evD, bldLD, wpSp, DMem.mt, beq_self_eq_true, seval]
    refine ⟨g, [], caps, rfl, rfl, rfl, ?_⟩
    have hcz : caps.map (fz M2 4) = caps := fzmap_froz hcf M2 4
    refine PC.of_pf (d := .bool (p e.1 e.2.1)) (by simp only [List.nil_append, List.cons_append, List.map_cons, fz_int, hcz]; exact hp _ _) ?_
    have hnd : (seen ++ [e.2.2]).Nodup := List.nodup_append.2 ⟨hsn, List.nodup_cons.2 ⟨List.not_mem_nil, List.nodup_nil⟩, fun a ha c hc => by simp at hc; subst hc; rintro rfl; exact hes ha⟩
    have hsu : ∀ x ∈ seen ++ [e.2.2], x ∈ l.map (·.2.2) := fun x hx => by
      rcases List.mem_append.1 hx with hx | hx
      · exact hsub x hx
      · simp at hx; subst hx; exact List.mem_map_of_mem hel
    have hlen := len_sub _ _ hnd hsu
    rw [List.length_append, List.length_singleton, List.length_map] at hlen
    have hl1 : (seen ++ [e.2.2]).length = seen.length + 1 := by simp
    simp only [S1_maps_DeleteFunc_copies_stands_int_int, MU_maps_DeleteFunc_copies_stands_int_int, h0, h1, h7, SW, SV, wpD, evDL, evDM, evD, bldLD, wpSp, DMem.mt, beq_self_eq_true, seval]
    refine ⟨fun hpt => ?_, fun hpf => ?_⟩
    · refine effDelete0 (mt := 69) (kt := 3) (et := 3) rfl (by kernel_rfl) (by kernel_rfl) hd hMb2 rfl fun M3 hM3 => ?_
      try simp only [h0, h1, h7, SW, SV, wpD, evDL, evDM, evD, bldLD, wpSp, DMem.mt, beq_self_eq_true, seval]
      refine ⟨l.length - (seen.length + 1), M3, by omega, SubD.refl _, seen ++ [e.2.2], by rw [hl1], hnd, hsu, ?_, ?_, fun y hy hyi => ?_⟩
      · rw [keptL_del hok.keys hok.born hel hpt, hM3, DMem.ins_same]
      · rw [hM3, DMem.ins_ne _ _ hib]; exact hMi2
      · rw [hM3, DMem.ins_ne _ _ hy]; exact hk2 y hy hyi
    · try simp only [h0, h1, h7, SW, SV, wpD, evDL, evDM, evD, bldLD, wpSp, DMem.mt, beq_self_eq_true, seval]
      refine ⟨l.length - (seen.length + 1), M2, by omega, SubD.refl _, seen ++ [e.2.2], by rw [hl1], hnd, hsu, ?_, hMi2, hk2⟩
      rw [keptL_skip hok.born hel hpf]; exact hMb2
theorem sets_pc {M : DMem} {d : DV} {b : Nat} {f : Int → Option Int} (hm : MapAt M d b f) (r : Int) {R : DV → DMem → Prop}
    (hR : ∀ M', MapAt M' d b (forget f r) → (∀ y B, y ≠ b → M y = some B → M' y = some B) → R (.tup []) M') : PC Tryd.prog F_copies_stands_sets [d, .int .i64 r] R M := by
  refine pc_copies_stands_sets (by simp) ?_
  simp only [S_copies_stands_sets, R_copies_stands_sets, MU_copies_stands_sets, SW, SV, wpD, evDL, evDM, evD, bldLD, wpSp, DMem.mt, beq_self_eq_true, seval]
  refine DeleteFunc_pc (caps := [.ip [.int .i64 r]]) (p := fun k v => decide (k = r) || decide (v = r)) hm (FrozL.nil.cons (Froz.ip (FrozL.nil.cons (Froz.int _ _)))) (fun k v => sets1_pf k v r) fun M' h1 h2 => ?_
  try simp only [SW, SV, wpD, evDL, evDM, evD, bldLD, wpSp, DMem.mt, beq_self_eq_true, seval]
  exact hR M' h1 h2
end Go.Proofs.YtbiejiangdbcmaaDoor.Pf
namespace Go.Proofs.YtbiejiangdbcmaaDoor.Pf
open Go Go.RowKit Go.Proofs Go.Proofs.YtbiejiangdbcmaaDoor.Mw Go.Proofs.YtbiejiangdbcmaaDoor.Sx
set_option linter.unusedVariables false
set_option linter.unusedSimpArgs false
def litX : SX → Option Int
  | .n x => some x
  | _ => none
def gone (a : List (Int × SX)) (r k : Int) : Bool := eqI k r || (match asGet a k with | some v => (match litX v with | some v => eqI v r | none => false) | none => false)
theorem filt_get (p : Int → Bool) (a : List (Int × SX)) (k : Int) : asGet (a.filter fun q => !p q.1) k = if p k = true then none else asGet a k := by
  induction a with
  | nil => simp [asGet]
  | cons e r ih =>
    obtain ⟨x, v⟩ := e
    by_cases hx : x = k
    · subst hx
      cases hp : p x with
      | true => simp only [List.filter, hp, Bool.not_true, if_true]; rw [ih, hp]; rfl
      | false => simp [List.filter, hp, asGet, eqI_eq]
    · have hk : (x == k) = false := by simpa using hx
      cases hp : p x with
      | true => simp only [List.filter, hp, Bool.not_true]; rw [ih]; simp only [asGet, eqI_eq, hk, cond]
      | false => simp only [List.filter, hp, Bool.not_false, asGet, eqI_eq, hk, cond]; rw [ih]
theorem lit_get {a : List (Int × SX)} (h : (a.all fun q => (litX q.2).isSome) = true) {k : Int} {u : SX} (hu : asGet a k = some u) : ∃ x, u = .n x := by
  induction a with
  | nil => simp [asGet] at hu
  | cons e r ih =>
    obtain ⟨x, v⟩ := e
    simp only [List.all_cons, Bool.and_eq_true] at h
    simp only [asGet, eqI_eq] at hu
    cases hx : (x == k) <;> rw [hx] at hu <;> simp only [cond] at hu
    · exact ih h.2 hu
    · cases hu
      cases u <;> simp [litX] at h
      exact ⟨_, rfl⟩
def setsP (args : List EV) (T : TM) (nx : Nat) : RC := match args with
  | [.mpp i, .int .i64 (.n r)] => match T.get i with
    | some B => match B.mp with
      | some a => cond (a.all fun q => (litX q.2).isSome) (setB T nx i { B with mp := some (a.filter fun q => !gone a r q.1) } (.tup [])) (.no [76])
      | none => .no [78]
    | none => .no [79]
  | _ => .no [80]
theorem setsP_ok : PrimOk Tryd.prog 25 setsP := by
  intro c n n' args T T' ds M v Post h hr hM hP
  unfold setsP at h
  split at h
  rotate_left
  · cases h
  rename_i i r
  split at h
  rotate_left
  · cases h
  rename_i B hB
  split at h
  rotate_left
  · cases h
  rename_i a ha
  cases hl : (a.all fun q => (litX q.2).isSome) <;> rw [hl] at h <;> simp only [cond, reduceCtorEq] at h
  obtain ⟨rfl, rfl, hp⟩ := setB_ok h
  simp only [RL, RV, SX.den] at hr
  obtain ⟨d, t, rfl, ⟨hi, rfl⟩, d2, t2, rfl, rfl, rfl⟩ := hr
  have hm := (hM.map hB ha).2
  refine sets_pc hm r fun M' h1 h2 => ?_
  refine hP c _ M' (Nat.le_refl _) (Cx.Ext.refl _ _) (by simp only [RV]; exact ⟨_, rfl, RL.nil⟩) (hM.setMap hB (by rw [ha]; rfl) hp (h1.congr fun j => ?_) h2)
  unfold asDen
  rw [filt_get]
  unfold forget gone
  simp only [eqI_eq]
  cases hj : asGet a j with
  | none => simp
  | some w =>
    obtain ⟨x, rfl⟩ := lit_get hl hj
    by_cases h0 : ((j == r) || (x == r)) = true
    · simp only [litX, h0, if_true, Option.map_some, Option.map_none, Option.bind_some, SX.den]
      have : (decide (j = r) || decide (x = r)) = true := h0
      rw [if_pos this]
    · simp only [litX, h0, Bool.false_eq_true, if_false, Option.map_some, Option.bind_some, SX.den]
      have : ¬ (decide (j = r) || decide (x = r)) = true := h0
      rw [if_neg this]
end Go.Proofs.YtbiejiangdbcmaaDoor.Pf
namespace Go.Proofs.YtbiejiangdbcmaaDoor.Pf
open Go Go.RowKit Go.Proofs Go.Proofs.YtbiejiangdbcmaaDoor.Mw Go.Proofs.YtbiejiangdbcmaaDoor.Tx
set_option linter.unusedVariables false
set_option maxRecDepth 20000
theorem z35 : ∀ a q, isZ (codeR (cfgOf Tryd.prog [] ⟨[], [], []⟩) (run (cfgOf Tryd.prog [] ⟨[], [], []⟩) 30) X35 35 [.raw (.slice a 0 q)] mem0 0) = true := by
  rintro (_ | a) q <;> kernel_rfl
theorem z36 : ∀ a q, isZ (codeR (cfgOf Tryd.prog [] ⟨[], [], []⟩) (run (cfgOf Tryd.prog [] ⟨[], [], []⟩) 30) X36 36 [.raw (.slice a 0 q)] mem0 0) = true := by
  rintro (_ | a) q <;> kernel_rfl
theorem z37 : ∀ a q, isZ (codeR (cfgOf Tryd.prog [] ⟨[], [], []⟩) (run (cfgOf Tryd.prog [] ⟨[], [], []⟩) 30) X37 37 [.raw (.slice a 0 q)] mem0 0) = true := by
  rintro (_ | a) q <;> kernel_rfl
theorem z51 : ∀ a q, isZ (codeR (cfgOf Tryd.prog [] ⟨[], [], []⟩) (run (cfgOf Tryd.prog [] ⟨[], [], []⟩) 30) X51 51 [.raw (.slice a 0 q)] mem0 0) = true := by
  rintro (_ | a) q <;> kernel_rfl
theorem z52 : ∀ a q, isZ (codeR (cfgOf Tryd.prog [] ⟨[], [], []⟩) (run (cfgOf Tryd.prog [] ⟨[], [], []⟩) 30) X52 52 [.raw (.slice a 0 q)] mem0 0) = true := by
  rintro (_ | a) q <;> kernel_rfl
noncomputable def fnsU : List (Nat × Fe) := [(4, .code noPre X4), (6, .code noPre X6), (7, .code noPre X7), (8, .code noPre X8), (9, .code noPre X9), (10, .code noPre X10), (11, .code noPre X11), (12, .code noPre X12), (15, .code noPre X15), (16, .code noPre X16), (17, .code noPre X17), (18, .code noPre X18), (19, .code noPre X19), (20, .code noPre X20), (21, .code noPre X21), (22, .code noPre X22), (23, .code noPre X23), (24, .code noPre X24), (26, .code noPre X26), (27, .code noPre X27), (28, .code noPre X28), (29, .code noPre X29), (30, .code noPre X30), (32, .code noPre X32), (33, .code noPre X33), (34, .code noPre X34), (38, .code noPre X38), (39, .code noPre X39), (42, .code noPre X42), (43, .code noPre X43), (44, .code noPre X44), (45, .code noPre X45), (46, .code noPre X46), (47, .code noPre X47), (48, .code noPre X48), (49, .code noPre X49), (50, .code noPre X50), (53, .code noPre X53), (54, .code noPre X54), (55, .code noPre X55), (56, .code noPre X56), (57, .code noPre X57), (58, .code noPre X58), (59, .code noPre X59), (60, .code noPre X60), (61, .code noPre X61), (62, .code noPre X62), (63, .code noPre X63), (64, .code noPre X64), (65, .code noPre X65), (66, .code noPre X66), (67, .code noPre X67), (68, .code noPre X68), (69, .code noPre X69), (70, .code noPre X70), (71, .code noPre X71), (72, .code noPre X72), (73, .code noPre X73), (74, .code noPre X74), (76, .code noPre X76), (77, .code noPre X77), (78, .code noPre X78), (79, .code noPre X79), (80, .code noPre X80), (81, .code noPre X81), (82, .code noPre X82), (83, .code noPre X83), (84, .code noPre X84), (85, .code noPre X85), (90, .code noPre X90), (91, .code noPre X91), (92, .code noPre X92), (35, .code zPre X35), (36, .code zPre X36), (37, .code zPre X37), (51, .code zPre X51), (52, .code zPre X52), (75, .prim asP), (25, .prim setsP)]
theorem fnsU_ok : ∀ q ∈ fnsU, FeOk Tryd.prog q.1 q.2 :=
  List.forall_mem_cons.2 ⟨⟨fiOf_ok x4, noPre_ok _ _⟩,
  List.forall_mem_cons.2 ⟨⟨fiOf_ok x6, noPre_ok _ _⟩,
  List.forall_mem_cons.2 ⟨⟨fiOf_ok x7, noPre_ok _ _⟩,
  List.forall_mem_cons.2 ⟨⟨fiOf_ok x8, noPre_ok _ _⟩,
  List.forall_mem_cons.2 ⟨⟨fiOf_ok x9, noPre_ok _ _⟩,
  List.forall_mem_cons.2 ⟨⟨fiOf_ok x10, noPre_ok _ _⟩,
  List.forall_mem_cons.2 ⟨⟨fiOf_ok x11, noPre_ok _ _⟩,
  List.forall_mem_cons.2 ⟨⟨fiOf_ok x12, noPre_ok _ _⟩,
  List.forall_mem_cons.2 ⟨⟨fiOf_ok x15, noPre_ok _ _⟩,
  List.forall_mem_cons.2 ⟨⟨fiOf_ok x16, noPre_ok _ _⟩,
  List.forall_mem_cons.2 ⟨⟨fiOf_ok x17, noPre_ok _ _⟩,
  List.forall_mem_cons.2 ⟨⟨fiOf_ok x18, noPre_ok _ _⟩,
  List.forall_mem_cons.2 ⟨⟨fiOf_ok x19, noPre_ok _ _⟩,
  List.forall_mem_cons.2 ⟨⟨fiOf_ok x20, noPre_ok _ _⟩,
  List.forall_mem_cons.2 ⟨⟨fiOf_ok x21, noPre_ok _ _⟩,
  List.forall_mem_cons.2 ⟨⟨fiOf_ok x22, noPre_ok _ _⟩,
  List.forall_mem_cons.2 ⟨⟨fiOf_ok x23, noPre_ok _ _⟩,
  List.forall_mem_cons.2 ⟨⟨fiOf_ok x24, noPre_ok _ _⟩,
  List.forall_mem_cons.2 ⟨⟨fiOf_ok x26, noPre_ok _ _⟩,
  List.forall_mem_cons.2 ⟨⟨fiOf_ok x27, noPre_ok _ _⟩,
  List.forall_mem_cons.2 ⟨⟨fiOf_ok x28, noPre_ok _ _⟩,
  List.forall_mem_cons.2 ⟨⟨fiOf_ok x29, noPre_ok _ _⟩,
  List.forall_mem_cons.2 ⟨⟨fiOf_ok x30, noPre_ok _ _⟩,
  List.forall_mem_cons.2 ⟨⟨fiOf_ok x32, noPre_ok _ _⟩,
  List.forall_mem_cons.2 ⟨⟨fiOf_ok x33, noPre_ok _ _⟩,
  List.forall_mem_cons.2 ⟨⟨fiOf_ok x34, noPre_ok _ _⟩,
  List.forall_mem_cons.2 ⟨⟨fiOf_ok x38, noPre_ok _ _⟩,
  List.forall_mem_cons.2 ⟨⟨fiOf_ok x39, noPre_ok _ _⟩,
  List.forall_mem_cons.2 ⟨⟨fiOf_ok x42, noPre_ok _ _⟩,
  List.forall_mem_cons.2 ⟨⟨fiOf_ok x43, noPre_ok _ _⟩,
  List.forall_mem_cons.2 ⟨⟨fiOf_ok x44, noPre_ok _ _⟩,
  List.forall_mem_cons.2 ⟨⟨fiOf_ok x45, noPre_ok _ _⟩,
  List.forall_mem_cons.2 ⟨⟨fiOf_ok x46, noPre_ok _ _⟩,
  List.forall_mem_cons.2 ⟨⟨fiOf_ok x47, noPre_ok _ _⟩,
  List.forall_mem_cons.2 ⟨⟨fiOf_ok x48, noPre_ok _ _⟩,
  List.forall_mem_cons.2 ⟨⟨fiOf_ok x49, noPre_ok _ _⟩,
  List.forall_mem_cons.2 ⟨⟨fiOf_ok x50, noPre_ok _ _⟩,
  List.forall_mem_cons.2 ⟨⟨fiOf_ok x53, noPre_ok _ _⟩,
  List.forall_mem_cons.2 ⟨⟨fiOf_ok x54, noPre_ok _ _⟩,
  List.forall_mem_cons.2 ⟨⟨fiOf_ok x55, noPre_ok _ _⟩,
  List.forall_mem_cons.2 ⟨⟨fiOf_ok x56, noPre_ok _ _⟩,
  List.forall_mem_cons.2 ⟨⟨fiOf_ok x57, noPre_ok _ _⟩,
  List.forall_mem_cons.2 ⟨⟨fiOf_ok x58, noPre_ok _ _⟩,
  List.forall_mem_cons.2 ⟨⟨fiOf_ok x59, noPre_ok _ _⟩,
  List.forall_mem_cons.2 ⟨⟨fiOf_ok x60, noPre_ok _ _⟩,
  List.forall_mem_cons.2 ⟨⟨fiOf_ok x61, noPre_ok _ _⟩,
  List.forall_mem_cons.2 ⟨⟨fiOf_ok x62, noPre_ok _ _⟩,
  List.forall_mem_cons.2 ⟨⟨fiOf_ok x63, noPre_ok _ _⟩,
  List.forall_mem_cons.2 ⟨⟨fiOf_ok x64, noPre_ok _ _⟩,
  List.forall_mem_cons.2 ⟨⟨fiOf_ok x65, noPre_ok _ _⟩,
  List.forall_mem_cons.2 ⟨⟨fiOf_ok x66, noPre_ok _ _⟩,
  List.forall_mem_cons.2 ⟨⟨fiOf_ok x67, noPre_ok _ _⟩,
  List.forall_mem_cons.2 ⟨⟨fiOf_ok x68, noPre_ok _ _⟩,
  List.forall_mem_cons.2 ⟨⟨fiOf_ok x69, noPre_ok _ _⟩,
  List.forall_mem_cons.2 ⟨⟨fiOf_ok x70, noPre_ok _ _⟩,
  List.forall_mem_cons.2 ⟨⟨fiOf_ok x71, noPre_ok _ _⟩,
  List.forall_mem_cons.2 ⟨⟨fiOf_ok x72, noPre_ok _ _⟩,
  List.forall_mem_cons.2 ⟨⟨fiOf_ok x73, noPre_ok _ _⟩,
  List.forall_mem_cons.2 ⟨⟨fiOf_ok x74, noPre_ok _ _⟩,
  List.forall_mem_cons.2 ⟨⟨fiOf_ok x76, noPre_ok _ _⟩,
  List.forall_mem_cons.2 ⟨⟨fiOf_ok x77, noPre_ok _ _⟩,
  List.forall_mem_cons.2 ⟨⟨fiOf_ok x78, noPre_ok _ _⟩,
  List.forall_mem_cons.2 ⟨⟨fiOf_ok x79, noPre_ok _ _⟩,
  List.forall_mem_cons.2 ⟨⟨fiOf_ok x80, noPre_ok _ _⟩,
  List.forall_mem_cons.2 ⟨⟨fiOf_ok x81, noPre_ok _ _⟩,
  List.forall_mem_cons.2 ⟨⟨fiOf_ok x82, noPre_ok _ _⟩,
  List.forall_mem_cons.2 ⟨⟨fiOf_ok x83, noPre_ok _ _⟩,
  List.forall_mem_cons.2 ⟨⟨fiOf_ok x84, noPre_ok _ _⟩,
  List.forall_mem_cons.2 ⟨⟨fiOf_ok x85, noPre_ok _ _⟩,
  List.forall_mem_cons.2 ⟨⟨fiOf_ok x90, noPre_ok _ _⟩,
  List.forall_mem_cons.2 ⟨⟨fiOf_ok x91, noPre_ok _ _⟩,
  List.forall_mem_cons.2 ⟨⟨fiOf_ok x92, noPre_ok _ _⟩,
  List.forall_mem_cons.2 ⟨⟨fiOf_ok x35, zPre_ok (fiOf_ok x35) z35⟩,
  List.forall_mem_cons.2 ⟨⟨fiOf_ok x36, zPre_ok (fiOf_ok x36) z36⟩,
  List.forall_mem_cons.2 ⟨⟨fiOf_ok x37, zPre_ok (fiOf_ok x37) z37⟩,
  List.forall_mem_cons.2 ⟨⟨fiOf_ok x51, zPre_ok (fiOf_ok x51) z51⟩,
  List.forall_mem_cons.2 ⟨⟨fiOf_ok x52, zPre_ok (fiOf_ok x52) z52⟩,
  List.forall_mem_cons.2 ⟨asP_ok,
  List.forall_mem_cons.2 ⟨setsP_ok,
   fun _ h => by cases h⟩⟩⟩⟩⟩⟩⟩⟩⟩⟩⟩⟩⟩⟩⟩⟩⟩⟩⟩⟩⟩⟩⟩⟩⟩⟩⟩⟩⟩⟩⟩⟩⟩⟩⟩⟩⟩⟩⟩⟩⟩⟩⟩⟩⟩⟩⟩⟩⟩⟩⟩⟩⟩⟩⟩⟩⟩⟩⟩⟩⟩⟩⟩⟩⟩⟩⟩⟩⟩⟩⟩⟩⟩⟩⟩⟩⟩⟩⟩
theorem awakeU : isT (callF (cfgOf Tryd.prog fnsU ⟨[], [], []⟩) (runF (cfgOf Tryd.prog fnsU ⟨[], [], []⟩) 3000) 12 [] mem0 0) = true := by kernel_rfl
def awPre : List EV → Option EV
  | [] => some (.bool true)
  | _ => none
theorem awPre_ok : PureOk Tryd.prog 12 awPre := by
  intro c n args ds M v Post h hr hP
  unfold awPre at h
  split at h
  rotate_left
  · cases h
  cases h
  have h0 := run_law (σ := fun _ => 0) (ds := []) (cfgOf_ok fnsU_ok ⟨[], [], []⟩) ⟨(fun q hq => by cases hq), (fun q hq => by cases hq), fun q hq => by cases hq⟩ ((congrArg isT (callF_run _ _ _ _ _ _)).symm.trans awakeU) RL.nil
  have hd : ds = [] := by simpa only [RL] using hr
  subst hd
  exact PC.only h0 (hP _ (by simp only [RV]))
noncomputable def fnsV : List (Nat × Fe) := fnsU ++ [(12, .code awPre X12)]
theorem fnsV_ok : ∀ q ∈ fnsV, FeOk Tryd.prog q.1 q.2 := by
  intro q hq
  rcases List.mem_append.1 hq with h | h
  · exact fnsU_ok q h
  · rw [List.mem_singleton.1 h]; exact ⟨fiOf_ok x12, awPre_ok⟩
theorem law_run {O : Orc} {f : FuncId} {args : List EV} {ds : List DV} {σ : Nat → Int} {k : Nat} (hO : O.Ok σ) (h : isT (callF (cfgOf Tryd.prog fnsV O) (runF (cfgOf Tryd.prog fnsV O) k) f args mem0 0) = true)
    (hr : RL ⟨σ, fun _ => 0, fun _ => 0, fun _ => 0⟩ 0 args ds) : PC Tryd.prog f ds (fun d' M' => d' = .bool true) DMem.mt :=
  run_law (cfgOf_ok fnsV_ok O) hO ((congrArg isT (callF_run _ _ _ _ _ _)).symm.trans h) hr
end Go.Proofs.YtbiejiangdbcmaaDoor.Pf
namespace Go.Proofs.YtbiejiangdbcmaaDoor.Pf
open Go Go.RowKit Go.Proofs Go.Proofs.YtbiejiangdbcmaaDoor.Mw Go.Proofs.YtbiejiangdbcmaaDoor.Tx
set_option linter.unusedVariables false
set_option linter.unusedSimpArgs false
set_option linter.constructorNameAsVariable false
set_option maxRecDepth 20000
def fgV : SX := .c .i64 (.c .i32 (.c .u32 (.c .u64 (.v 0))))
def fgI : SX := .b .sub .i64 (.b .add .i64 fgV (.n 1)) (.b .mul .i64 (.n 2) (.b .and .i64 fgV (.n 1)))
def fgR : List (SX × Int × Int) := [(fgV, -2147483648, 2147483647), (.b .and .i64 (.v 1) (.n 7), 0, 7)]
def fgO : Orc := ⟨[(.eql, .c .i64 (.c .i32 fgV), fgV, true), (.eql, .c .i64 (.c .i32 fgI), fgI, true), (.eql, fgV, fgI, false), (.eql, .n 0, fgV, false), (.eql, .n 1, fgV, false)], [], fgR⟩
def fgZ (z : Int) : Orc := ⟨[], [(fgV, z)], fgR⟩
noncomputable def fgB (O : Orc) (b : Bool) : Bool := isT (callF (cfgOf Tryd.prog fnsV O) (runF (cfgOf Tryd.prog fnsV O) 3000) 6 [.int .i64 (.v 0), .int .i64 (.v 1), .bool b] mem0 0)
theorem fg0t : fgB (fgZ 0) true = true := by kernel_rfl
theorem fg0f : fgB (fgZ 0) false = true := by kernel_rfl
theorem fg1t : fgB (fgZ 1) true = true := by kernel_rfl
theorem fg1f : fgB (fgZ 1) false = true := by kernel_rfl
theorem fg2t : fgB fgO true = true := by kernel_rfl
theorem fg2f : fgB fgO false = true := by kernel_rfl
theorem w32_in (x : Int) : -2147483648 ≤ IntKind.i32.wrap x ∧ IntKind.i32.wrap x ≤ 2147483647 := by rw [IntKind.wrap_i32]; omega
theorem w32_id {x : Int} (h1 : -2147483648 ≤ x) (h2 : x ≤ 2147483647) : IntKind.i32.wrap x = x := by rw [IntKind.wrap_i32]; omega
theorem w64_id {x : Int} (h1 : -9223372036854775808 ≤ x) (h2 : x ≤ 9223372036854775807) : IntKind.i64.wrap x = x := by rw [IntKind.wrap_i64]; omega
theorem FoldGuards_pc (x y : Int) (b : Bool) : PC Tryd.prog 6 [.int .i64 x, .int .i64 y, .bool b] (fun d _ => d = .bool true) DMem.mt := by
  have hv := w32_in (IntKind.u32.wrap (IntKind.u64.wrap x))
  have eV : fgV.den (fun i => if i = 0 then x else y) = IntKind.i32.wrap (IntKind.u32.wrap (IntKind.u64.wrap x)) := by
    simp only [fgV, SX.den, if_true]
    exact w64_id (by omega) (by omega)
  revert eV
  generalize IntKind.i32.wrap (IntKind.u32.wrap (IntKind.u64.wrap x)) = V at hv ⊢
  intro eV
  have hw := and_bnd y 3 (by decide)
  rw [show bits .and .i64 y ((2 ^ 3 - 1 : Nat) : Int) = bits .and .i64 y 7 from rfl] at hw
  have ew : (SX.b .and .i64 (.v 1) (.n 7)).den (fun i => if i = 0 then x else y) = bits .and .i64 y 7 := by simp only [SX.den, arI, Option.getD_some]; rfl
  have hrg : ∀ q ∈ fgR, q.2.1 ≤ q.1.den (fun i => if i = 0 then x else y) ∧ q.1.den (fun i => if i = 0 then x else y) ≤ q.2.2 := by
    intro q hq
    simp only [fgR, List.mem_cons, List.not_mem_nil, or_false] at hq
    rcases hq with rfl | rfl
    · rw [eV]; exact hv
    · rw [ew]; exact ⟨hw.1, (by have := hw.2; show bits .and .i64 y 7 ≤ 7; omega)⟩
  have hr : RL ⟨fun i => if i = 0 then x else y, fun _ => 0, fun _ => 0, fun _ => 0⟩ 0 [.int .i64 (.v 0), .int .i64 (.v 1), .bool b] [.int .i64 x, .int .i64 y, .bool b] :=
    RL.cons (by simp only [RV, SX.den]; rfl) (RL.cons (by simp only [RV, SX.den]; rfl) (RL.cons (by simp only [RV]) RL.nil))
  have hz : ∀ z, V = z → fgB (fgZ z) b = true → PC Tryd.prog 6 [.int .i64 x, .int .i64 y, .bool b] (fun d _ => d = .bool true) DMem.mt := by
    rintro z rfl h
    exact law_run (O := fgZ V) ⟨(fun q hq => by cases hq), (fun q hq => by rw [List.mem_singleton.1 hq]; exact eV), hrg⟩ h hr
  by_cases h0 : V = 0
  · exact hz 0 h0 (by cases b; exact fg0f; exact fg0t)
  by_cases h1 : V = 1
  · exact hz 1 h1 (by cases b; exact fg1f; exact fg1t)
  have hb := and_bnd V 1 (by decide)
  rw [show bits .and .i64 V ((2 ^ 1 - 1 : Nat) : Int) = bits .and .i64 V 1 from rfl] at hb
  have hlo : V = -2147483648 → bits .and .i64 V 1 = 0 := by rintro rfl; decide +kernel
  have hhi : V = 2147483647 → bits .and .i64 V 1 = 1 := by rintro rfl; decide +kernel
  have eI : fgI.den (fun i => if i = 0 then x else y) = V + 1 - 2 * bits .and .i64 V 1 := by
    unfold fgI
    simp only [SX.den, arI, Option.getD_some, eV]
    rw [w64_id (x := V + 1) (by omega) (by omega), w64_id (x := 2 * _) (by omega) (by omega), w64_id (by omega) (by omega)]
  generalize bits .and .i64 V 1 = t at hb hlo hhi eI
  have ht : t = 0 ∨ t = 1 := by omega
  have hI : -2147483648 ≤ V + 1 - 2 * t ∧ V + 1 - 2 * t ≤ 2147483647 := by
    rcases ht with rfl | rfl
    · constructor <;> try omega
    · constructor <;> try omega
  refine law_run (O := fgO) ⟨fun q hq => ?_, (fun q hq => by cases hq), hrg⟩ (show fgB fgO b = true by cases b; exact fg2f; exact fg2t) hr
  simp only [fgO, List.mem_cons, List.not_mem_nil, or_false] at hq
  have hc : ∀ a b : Int, cmpV .eql a b = some (.bool (decide (a = b))) := fun a b => rfl
  rcases hq with rfl | rfl | rfl | rfl | rfl
  · simp only [SX.den, eV]; rw [w32_id hv.1 hv.2, w64_id (by omega) (by omega), hc]; simp
  · simp only [SX.den, eI]; rw [w32_id hI.1 hI.2, w64_id (by omega) (by omega), hc]; simp
  · simp only [eV, eI]; rw [hc]; simp; omega
  · simp only [SX.den, eV]; rw [hc]; simp; omega
  · simp only [SX.den, eV]; rw [hc]; simp; omega
end Go.Proofs.YtbiejiangdbcmaaDoor.Pf
namespace Go.Proofs.YtbiejiangdbcmaaDoor.Mw
open Go Go.RowKit Go.ChangeShapes Go.WideShapes Go.ChangeAt
set_option linter.unusedVariables false
theorem walk_of {P : Program} {f : FuncId} {args : List Value} {w : World} (h : MC P f args (fun v _ => v = .bool true) (snap w)) :
    Calls P f args.toArray w fun e w' => e = .returned (.bool true) ∧ Below w.heap.size w w' :=
  (h.2 w w (snap_sat w)).mono fun e w' ⟨v, m', he, hs, hv⟩ => ⟨by rw [he, hv], hs.below⟩
theorem args_stay {H : Type} {enc : TypeId × Value → H} {P : Program} (hl : laidOutB P = true) {W W' : World} (hb : Below W.heap.size W W') : ∀ (ts : List TypeId) (vs : List Value) (ds : List (DataW H)) (ps : List MemPlace),
    (∀ t ∈ ts, P.readableRec t = true ∧ t < P.types.size) → DataW.TrodAll enc P W 0 (fun _ => true) true ts vs ds ps → DataW.TrodAll enc P W' 0 (fun b => decide (b < W.heap.size)) true ts vs ds ps
  | [], [], [], ps, _, h => h
  | t :: ts, v :: vs, d :: ds, ps, ht, h => by
    have hlt := DataW.TrodAll.lt h
    obtain ⟨p, q, h1, h2, rfl⟩ := h
    exact ⟨p, q, Below.trod hl (ht t (by simp)).1 (ht t (by simp)).2 h1 hb (fun x hx => hlt x (by simp [hx])), args_stay hl hb ts vs ds q (fun t' h' => ht t' (by simp [h'])) h2, rfl⟩
  | [], [], _ :: _, _, _, h => h.elim
  | [], _ :: _, _, _, _, h => by cases h
  | _ :: _, [], _, _, _, h => by cases h
  | _ :: _, _ :: _, [], _, _, h => by cases h
end Go.Proofs.YtbiejiangdbcmaaDoor.Mw
namespace Go.Proofs.YtbiejiangdbcmaaDoor.Mw
open Go Go.RowKit Go.ChangeShapes Go.WideShapes Go.ChangeAt
set_option linter.unusedVariables false
theorem law_row_laid {C : Checked} {os : Os} {H : Type} {enc : TypeId × Value → H} (laid : List (String × DataW Unit)) (own : ownKnob C.prog.godebug = none) (started : os.Started) {f : FuncId} {fn : Func} {s : ChangeSpec}
    (noInit : C.prog.inits.idxOf? f = none) (hfn : C.prog.funcs[f]? = some fn) (hvars : s.vars = [])
    (hspec : ∀ ds : List (DataW H), ds.length = fn.params.toList.length → s.fn H ds = { results := [.lit (.bool true)], args := ds })
    {tb : TypeId} (hres : fn.resultTypes = #[tb]) (htb : C.prog.underlying tb = some .bool)
    (hl : laidOutB C.prog = true) (hread : ∀ t ∈ fn.params.toList, C.prog.readableRec t = true ∧ t < C.prog.types.size) {apart : Bool}
    (witness : ∃ (w : World) (tape : Tape) (i : Input), w.os = os ∧ (w.forCall tape i).Shaped C.prog ∧ i.vars = [] ∧ Input.okWide C.prog (w.forCall tape i) .any w.heap.size f i ∧
      ((s.pre enc C.prog fn [] apart (w.forCall tape i).memory i.args ∧ laidMetH C.prog laid (w.forCall tape i).memory) ∧ sizedMet enc C.prog fn (OpenSpec.ofChange s) apart (w.forCall tape i).memory i.args) ∧ ({} : Assume).holds C.prog (lone (Frame.enter C.prog f i.args .normal) [] (w.forCall tape i)))
    (hmc : ∀ (W : World) (base : Nat) (args : List Value) (ds : List (DataW H)) (p : List MemPlace), DataW.TrodAll enc C.prog W 0 (fun _ => true) true fn.params.toList args ds p →
      (∀ (j : Nat) t v, fn.params[j]? = some t → args[j]? = some v → Value.okWide C.prog W .any base t v) →
      (DataW.weightsEach C.prog fn.params.toList ds).all (· ≤ reachBytes) = true → laidMetH C.prog laid W → MC C.prog f args (fun v _ => v = .bool true) (snap W)) :
    ReturnsInHanded {} C os f .any (fun w args => (s.pre enc C.prog fn [] apart w args ∧ laidMetH C.prog laid w) ∧ sizedMet enc C.prog fn (OpenSpec.ofChange s) apart w args) (s.post enc C.prog fn apart true false false) := by
  refine returnsInHanded_of_change_and (X := fun w _ => laidMetH C.prog laid w) (fun _ _ _ hh h => h.of_heap hh) own started noInit hfn witness ?_
  intro W base args ds gs before hval hW _ hsz hL _
  have hW' := hW
  obtain ⟨p, q, hA, hV, rfl, hfz, hnd⟩ := hW
  have hg : gs = [] := by
    rw [hvars] at hV
    cases gs with
    | nil => rfl
    | cons a b => exact hV.elim
  subst hg
  have hlen : ds.length = fn.params.toList.length := by
    have : ∀ (ts : List TypeId) (vs : List Value) (ds : List (DataW H)) (ps : List MemPlace), DataW.TrodAll enc C.prog W 0 (fun _ => true) true ts vs ds ps → ds.length = ts.length := by
      intro ts
      induction ts with
      | nil => intro vs ds ps h; cases vs <;> cases ds <;> first | rfl | exact h.elim | cases h
      | cons t ts ih =>
        intro vs ds ps h
        cases vs with
        | nil => cases h
        | cons v vs =>
          cases ds with
          | nil => cases h
          | cons d ds => obtain ⟨p, q, _, h2, _⟩ := h; simp [ih _ _ _ h2]
    exact this _ _ _ _ hA
  have hv0 : s.plain.varTypes C.prog = [] := by
    have : s.plain.vars = [] := hvars
    simp [DataSpec.varTypes, this]
  have hmc' := hmc W base args.toList ds p hA (fun j t v ht hv => hval j t v ht (by simpa using hv)) (by rw [hv0] at hsz; simpa using hsz) hL
  have hw := walk_of hmc'
  rw [Array.toArray_toList] at hw
  refine hw.mono fun e W' ⟨he, bel⟩ => ?_
  have hsp := hspec ds hlen
  refine ⟨_, he, ds, [], _, [], p, [], hW', ?_, ?_, ?_, bel.frame _, fun h => by cases h⟩
  · rw [List.append_nil, hsp, hres]
    exact trodAll_mk1 (shut_bool htb _)
  · rw [List.append_nil, hsp]
    exact args_stay hl bel _ _ _ _ hread hA
  · rw [List.append_nil, hsp, hvars]
    rfl
end Go.Proofs.YtbiejiangdbcmaaDoor.Mw
namespace Go.Proofs.YtbiejiangdbcmaaDoor.Mw
open Go Go.RowKit Go.ChangeShapes Go.WideShapes Go.ChangeAt Go.Deep
set_option linter.unusedVariables false
structure Opens (P : Program) (w : World) (t : TypeId) {α : Type} (c : α → List DV) : Prop where
  op : ∀ {H : Type} (enc : TypeId × Value → H) (base : Nat) (spare : Nat → Bool) (held : Bool) (fuel : Nat) (cs : List Value) (x : DataW H × List MemPlace),
    DataW.trod enc P w base spare held fuel t cs = some x → ∃ a, RepL (snap w) (c a) cs
structure OpensF (P : Program) (w : World) (tot : Nat) (fs : List Field) (o : Nat) {α : Type} (c : α → List DV) : Prop where
  op : ∀ {H : Type} (enc : TypeId × Value → H) (base : Nat) (spare : Nat → Bool) (held : Bool) (fuel : Nat) (cs : List Value), cs.length = tot →
    (∀ f ∈ fs, ∃ y, DataW.trod enc P w base spare held fuel f.type ((cs.drop f.offset).take (P.cellsOf f.type)) = some y) → ∃ a, RepL (snap w) (c a) (cs.drop o)
section
variable {P : Program} {w : World} {t : TypeId}
theorem RepL.one {m : Mem} {d : DV} {v : Value} (h : Rep m d v) : RepL m [d] [v] := RepL.cons h (RepL.nil m)
theorem Opens.int {k : IntKind} (ht : P.underlying t = some (.int k)) : Opens P w t (fun z : Int => [.int k z]) := by
  constructor
  intro _ enc base sp held fuel cs x h
  obtain ⟨n, rfl, _, _⟩ := DataW.trod_int ht h
  exact ⟨n, RepL.one (by simp only [Rep])⟩
theorem Opens.bool (ht : P.underlying t = some .bool) : Opens P w t (fun z : Bool => [.bool z]) := by
  constructor
  intro _ enc base sp held fuel cs x h
  obtain ⟨n, rfl, _⟩ := DataW.trod_bool ht h
  exact ⟨n, RepL.one (by simp only [Rep])⟩
theorem Opens.str (ht : P.underlying t = some .string) : Opens P w t (fun z : ByteArray => [.str z]) := by
  constructor
  intro _ enc base sp held fuel cs x h
  obtain ⟨n, rfl, _⟩ := DataW.trod_string ht h
  exact ⟨n, RepL.one (by simp only [Rep])⟩
theorem Opens.map {α β : Type} {c : α → List DV} {c' : β → List DV} (h : Opens P w t c) (f : α → β) (e : ∀ a, c' (f a) = c a) : Opens P w t c' := by
  constructor
  intro _ enc base sp held fuel cs x hx
  obtain ⟨a, ha⟩ := h.op enc base sp held fuel cs x hx
  exact ⟨f a, by rw [e]; exact ha⟩
theorem OpensF.nil {tot : Nat} : OpensF P w tot [] tot (fun _ : Unit => []) := by
  constructor
  intro _ enc base sp held fuel cs hl h
  exact ⟨(), by rw [List.drop_eq_nil_of_le (by omega)]; exact RepL.nil _⟩
theorem OpensF.cons {α β : Type} {c0 : α → List DV} {c1 : β → List DV} {tot o k : Nat} {f : Field} {fs : List Field} (h0 : Opens P w f.type c0) (ho : f.offset = o) (hk : P.cellsOf f.type = k) (h1 : OpensF P w tot fs (o + k) c1) :
    OpensF P w tot (f :: fs) o (fun p : α × β => c0 p.1 ++ c1 p.2) := by
  constructor
  intro _ enc base sp held fuel cs hl h
  obtain ⟨y, hy⟩ := h f (by simp)
  obtain ⟨a, ha⟩ := h0.op enc base sp held fuel _ _ hy
  obtain ⟨b, hb⟩ := h1.op enc base sp held fuel cs hl fun g hg => h g (by simp [hg])
  rw [ho, hk] at ha
  refine ⟨(a, b), ?_⟩
  have e : cs.drop o = (cs.drop o).take k ++ cs.drop (o + k) := by rw [← List.drop_drop, List.take_append_drop]
  rw [e]
  exact ha.append hb
theorem Opens.struct {α : Type} {c : α → List DV} {fs : Array Field} {tot : Nat} (ht : P.underlying t = some (.struct fs)) (hc : P.cellsOf t = tot) (h : OpensF P w tot fs.toList 0 c) : Opens P w t c := by
  constructor
  intro _ enc base sp held fuel cs x hx
  obtain ⟨xs, n, _, _, hl, hlen, hf⟩ := DataW.trod_struct ht hx
  have := h.op enc base sp held n cs (hl.trans hc) fun f hf' => by
    obtain ⟨i, hi, e⟩ := List.getElem_of_mem hf'
    have hi' : i < xs.length := by rw [hlen]; simpa using hi
    refine ⟨xs[i], ?_⟩
    rw [hf i f (by rw [← Array.getElem?_toList, List.getElem?_eq_getElem hi, e]), List.getElem?_eq_getElem hi']
  simpa using this
theorem snap_cell {a : Addr} {v : Value} (h : w.cell? a = some v) : ∃ b o ty N full, a = ⟨b, o, none⟩ ∧ snap w b = some (.cells ty N true full) ∧ full[o]? = some v := by
  obtain ⟨b, o, sp⟩ := a
  have hs := World.cell?_spot h
  simp only at hs; subst hs
  unfold World.cell? at h
  split at h
  · rename_i c ty fz hb
    simp only [Option.isSome_none, Bool.false_eq_true, if_false] at h
    refine ⟨b, o, ty, c.size, c.toList, rfl, ?_, by simpa using h⟩
    simp only at hb
    simp only [snap, hb]
    rw [if_neg]
    rintro ⟨h0, _⟩
    have : c = #[] := Array.eq_empty_of_size_eq_zero h0
    subst this
    simp at h
  · cases h
theorem rep_cells {α : Type} {c : α → List DV} {n : Nat} {base b o : Nat} {ty : TypeId} {N : Nat} {full : List Value} (hm : snap w b = some (.cells ty N true full)) :
    ∀ (l : List α) (k : Nat), (∀ i (hi : i < l.length), ∃ cs', w.cells? base ((⟨b, o, none⟩ : Addr).add ((k + i) * n)) n = some cs' ∧ RepL (snap w) (c l[i]) cs') → RepP (snap w) (l.flatMap c) (full.drop (o + k * n))
  | [], k, h => by simp [RepP]
  | x :: l, k, h => by
    obtain ⟨cs', h1, h2⟩ := h 0 (by simp)
    obtain ⟨_, hlen, hcell⟩ := World.cells?_some h1
    have ih := rep_cells (base := base) hm l (k + 1) fun i hi => by
      have := h (i + 1) (by simpa using hi)
      simpa [Nat.add_assoc, Nat.add_comm 1 i] using this
    have e : cs' = (full.drop (o + k * n)).take n := by
      apply List.ext_getElem?
      intro i
      by_cases hi : i < n
      · rw [List.getElem?_take_of_lt hi, List.getElem?_drop, ← hcell i hi]
        simp only [Nat.add_zero, add_plain]
        unfold World.cell?
        unfold snap at hm
        split at hm
        · rename_i c' ty' fz hb
          split at hm
          · cases hm
          cases hm
          simp only [hb]
          simp [Nat.add_assoc]
        · cases hm
      · rw [List.getElem?_eq_none (by omega), List.getElem?_eq_none (by simp; omega)]
    have e2 : full.drop (o + k * n) = cs' ++ full.drop (o + (k + 1) * n) := by
      rw [e, show o + (k + 1) * n = o + k * n + n by rw [Nat.add_mul]; omega, ← List.drop_drop (i := n), List.take_append_drop]
    rw [List.flatMap_cons, e2]
    exact h2.1.append h2.2 ih
theorem Opens.slice {α : Type} {c : α → List DV} {e : TypeId} {n : Nat} (h : Opens P w e c) (ht : P.underlying t = some (.slice e)) (hn : P.cellsOf e = n) (hpos : 0 < n) : Opens P w t (fun l : List α => [slD c l]) := by
  constructor
  intro _ enc base sp held fuel cs x hx
  rcases open_slice ht hx with ⟨rfl, _⟩ | ⟨a, len, cap, m, k, D, Pl, rfl, _, hl, _, hm, _, hel⟩
  · refine ⟨[], RepL.one ?_⟩
    simp only [slD, Rep, List.flatMap_nil, List.length_nil]
    exact ⟨none, 0, rfl, Nat.le_refl _, fun h => absurd h (by omega)⟩
  · have hlm : len ≤ m := by rw [hm]; split <;> omega
    have each : ∀ i, i < len → ∃ y : α, ∃ cs', w.cells? base (a.add (i * n)) n = some cs' ∧ RepL (snap w) (c y) cs' := fun i hi => by
      obtain ⟨cs', h1, h2⟩ := hel i (by omega)
      obtain ⟨y, hy⟩ := h.op enc base sp held k cs' _ h2
      rw [hn] at h1
      exact ⟨y, cs', h1, hy⟩
    have : ∃ l : List α, l.length = len ∧ ∀ i (hi : i < l.length), ∃ cs', w.cells? base (a.add (i * n)) n = some cs' ∧ RepL (snap w) (c l[i]) cs' := by
      clear hel hl hlm hm hx
      rename_i hxx
      clear hxx
      induction len with
      | zero => exact ⟨[], rfl, fun i hi => absurd hi (by simp)⟩
      | succ len ih =>
        obtain ⟨l, h1, h2⟩ := ih fun i hi => each i (by omega)
        obtain ⟨y, hy⟩ := each len (by omega)
        refine ⟨l ++ [y], by simp [h1], fun i hi => ?_⟩
        by_cases h' : i < l.length
        · simpa [List.getElem_append_left h'] using h2 i h'
        · have : i = len := by simp at hi; omega
          subst this
          simpa [h1] using hy
    obtain ⟨l, rfl, hlc⟩ := this
    refine ⟨l, RepL.one ?_⟩
    simp only [slD, Rep]
    refine ⟨some a, cap, rfl, hl, fun h0 => ?_⟩
    obtain ⟨cs', h1, h2⟩ := hlc 0 h0
    obtain ⟨_, hlen, hcell⟩ := World.cells?_some h1
    have h3 := hcell 0 hpos
    have h4 : 0 < cs'.length := by omega
    rw [List.getElem?_eq_getElem h4] at h3
    simp only [Nat.zero_mul] at h3
    obtain ⟨b, o, ty, N, full, e1, e2, _⟩ := snap_cell h3
    have ea : a = ⟨b, o, none⟩ := by simpa [Addr.add] using e1
    subst ea
    refine ⟨b, o, ty, N, full, rfl, e2, ?_⟩
    have := rep_cells (base := base) (n := n) e2 l 0 (by simpa using hlc)
    simpa using this
theorem Opens.val {α : Type} {d : α → DV} (h : Opens P w t (fun a => [d a])) {v : Value} (hc : v.cells = #[v]) {H : Type} {enc : TypeId × Value → H} {base : Nat} {sp : Nat → Bool} {held : Bool} {x : DataW H} {p : List MemPlace}
    (hx : DataW.Trod enc P w base sp held t v x p) : ∃ a, Rep (snap w) (d a) v := by
  obtain ⟨fuel, hf⟩ := hx
  obtain ⟨a, ha⟩ := h.op enc base sp held fuel _ _ hf
  rw [hc] at ha
  have h1 := ha.1
  simp only [RepP] at h1
  exact ⟨a, h1.1⟩
end
end Go.Proofs.YtbiejiangdbcmaaDoor.Mw
namespace Go.Proofs.YtbiejiangdbcmaaDoor.Mw
open Go Go.RowKit Go.ChangeShapes Go.WideShapes Go.ChangeAt Go.Deep
set_option linter.unusedVariables false
structure OpensS (P : Program) (w : World) (t : TypeId) {α : Type} (c : α → List DV) (S : α → Prop) : Prop where
  op : ∀ {H : Type} (enc : TypeId × Value → H) (base : Nat) (spare : Nat → Bool) (held : Bool) (fuel : Nat) (cs : List Value) (x : DataW H × List MemPlace),
    DataW.trod enc P w base spare held fuel t cs = some x → (∀ n ∈ x.1.weights P t, n ≤ reachBytes) → ∃ a, RepL (snap w) (c a) cs ∧ S a
structure OpensT (P : Program) (w : World) (tot : Nat) (fs : List Field) (o : Nat) {α : Type} (c : α → List DV) (S : α → Prop) : Prop where
  op : ∀ {H : Type} (enc : TypeId × Value → H) (base : Nat) (spare : Nat → Bool) (held : Bool) (fuel : Nat) (cs : List Value), cs.length = tot →
    (∀ f ∈ fs, ∃ y, DataW.trod enc P w base spare held fuel f.type ((cs.drop f.offset).take (P.cellsOf f.type)) = some y ∧ ∀ n ∈ y.1.weights P f.type, n ≤ reachBytes) → ∃ a, RepL (snap w) (c a) (cs.drop o) ∧ S a
section
variable {P : Program} {w : World} {t : TypeId}
def I64 (z : Int) : Prop := -9223372036854775808 ≤ z ∧ z ≤ 9223372036854775807
theorem OpensS.int (ht : P.underlying t = some (.int .i64)) : OpensS P w t (fun z : Int => [.int .i64 z]) I64 := by
  constructor
  intro _ enc base sp held fuel cs x h _
  obtain ⟨n, rfl, _, hw⟩ := DataW.trod_int ht h
  refine ⟨n, RepL.one (by simp only [Rep]), ?_⟩
  simp only [Lit.wf, Bool.and_eq_true, decide_eq_true_eq] at hw
  exact hw
theorem OpensS.bool (ht : P.underlying t = some .bool) : OpensS P w t (fun z : Bool => [.bool z]) (fun _ => True) := by
  constructor
  intro _ enc base sp held fuel cs x h _
  obtain ⟨n, rfl, _⟩ := DataW.trod_bool ht h
  exact ⟨n, RepL.one (by simp only [Rep]), trivial⟩
theorem OpensS.str (ht : P.underlying t = some .string) : OpensS P w t (fun z : ByteArray => [.str z]) (fun s => s.size ≤ reachBytes) := by
  constructor
  intro _ enc base sp held fuel cs x h hs
  obtain ⟨n, rfl, rfl, _⟩ := DataW.trod_string ht h
  refine ⟨n, RepL.one (by simp only [Rep]), ?_⟩
  have := hs n.data.toList.length (by simp [DataW.weights])
  simpa using this
theorem OpensS.map {α β : Type} {c : α → List DV} {c' : β → List DV} {S : α → Prop} {S' : β → Prop} (h : OpensS P w t c S) (f : α → β) (e : ∀ a, c' (f a) = c a) (hS : ∀ a, S a → S' (f a)) : OpensS P w t c' S' := by
  constructor
  intro _ enc base sp held fuel cs x hx hs
  obtain ⟨a, ha, h1⟩ := h.op enc base sp held fuel cs x hx hs
  exact ⟨f a, by rw [e]; exact ha, hS a h1⟩
theorem OpensT.nil {tot : Nat} : OpensT P w tot [] tot (fun _ : Unit => []) (fun _ => True) := by
  constructor
  intro _ enc base sp held fuel cs hl h
  exact ⟨(), by rw [List.drop_eq_nil_of_le (by omega)]; exact RepL.nil _, trivial⟩
theorem OpensT.cons {α β : Type} {c0 : α → List DV} {c1 : β → List DV} {S0 : α → Prop} {S1 : β → Prop} {tot o k : Nat} {f : Field} {fs : List Field} (h0 : OpensS P w f.type c0 S0) (ho : f.offset = o) (hk : P.cellsOf f.type = k) (h1 : OpensT P w tot fs (o + k) c1 S1) :
    OpensT P w tot (f :: fs) o (fun p : α × β => c0 p.1 ++ c1 p.2) (fun p => S0 p.1 ∧ S1 p.2) := by
  constructor
  intro _ enc base sp held fuel cs hl h
  obtain ⟨y, hy, hyw⟩ := h f (by simp)
  obtain ⟨a, ha, sa⟩ := h0.op enc base sp held fuel _ _ hy hyw
  obtain ⟨b, hb, sb⟩ := h1.op enc base sp held fuel cs hl fun g hg => h g (by simp [hg])
  rw [ho, hk] at ha
  refine ⟨(a, b), ?_, sa, sb⟩
  have e : cs.drop o = (cs.drop o).take k ++ cs.drop (o + k) := by rw [← List.drop_drop, List.take_append_drop]
  rw [e]
  exact ha.append hb
theorem OpensS.struct {α : Type} {c : α → List DV} {S : α → Prop} {fs : Array Field} {tot : Nat} (ht : P.underlying t = some (.struct fs)) (hc : P.cellsOf t = tot) (h : OpensT P w tot fs.toList 0 c S) : OpensS P w t c S := by
  constructor
  intro _ enc base sp held fuel cs x hx hs
  obtain ⟨xs, n, _, rfl, hl, hlen, hf⟩ := DataW.trod_struct ht hx
  have := h.op enc base sp held n cs (hl.trans hc) fun f hf' => by
    obtain ⟨i, hi, e⟩ := List.getElem_of_mem hf'
    have hi' : i < xs.length := by rw [hlen]; simpa using hi
    have hfi : fs[i]? = some f := by rw [← Array.getElem?_toList, List.getElem?_eq_getElem hi, e]
    refine ⟨xs[i], ?_, fun m hm => hs m ?_⟩
    · rw [hf i f hfi, List.getElem?_eq_getElem hi']
    · simp only [DataW.weights, ht]
      exact DataW.weights_mem_each (j := i) (t := f.type) (d := xs[i].1) (by rw [List.getElem?_map, Array.getElem?_toList, hfi]; rfl) (by simp [hi']) m hm
  simpa using this
theorem weights_all {H : Type} {e : TypeId} {n : Nat} : ∀ {ds : List (DataW H)} {d : DataW H}, d ∈ ds → n ∈ d.weights P e → n ∈ DataW.weightsAll P e ds
  | x :: ds, d, hd, hn => by
    simp only [DataW.weightsAll, List.mem_append]
    rcases List.mem_cons.1 hd with rfl | hd
    · exact .inl hn
    · exact .inr (weights_all hd hn)
theorem OpensS.slice {α : Type} {c : α → List DV} {S : α → Prop} {e : TypeId} {n bytes : Nat} (h : OpensS P w e c S) (ht : P.underlying t = some (.slice e)) (hn : P.cellsOf e = n) (hpos : 0 < n) (hb : P.bytesOf e = bytes) :
    OpensS P w t (fun l : List α => [slD c l]) (fun l => l.length * bytes ≤ reachBytes ∧ ∀ x ∈ l, S x) := by
  constructor
  intro _ enc base sp held fuel cs x hx hs
  rcases open_slice ht hx with ⟨rfl, _⟩ | ⟨a, len, cap, m, k, D, Pl, rfl, _, hl, _, hm, rfl, hel⟩
  · refine ⟨[], RepL.one ?_, by simp, fun _ h => by simp at h⟩
    simp only [slD, Rep, List.flatMap_nil, List.length_nil]
    exact ⟨none, 0, rfl, Nat.le_refl _, fun h => absurd h (by omega)⟩
  · have hlm : len ≤ m := by rw [hm]; split <;> omega
    simp only [DataW.weights, ht, List.mem_cons, List.mem_append] at hs
    have hsz : len * bytes ≤ reachBytes := by
      have := hs _ (.inl rfl)
      simp only [List.length_map, List.length_range, hb] at this
      exact Nat.le_trans (Nat.mul_le_mul_right _ (Nat.le_add_right _ _)) this
    have each : ∀ i, i < len → ∃ y : α, (∃ cs', w.cells? base (a.add (i * n)) n = some cs' ∧ RepL (snap w) (c y) cs') ∧ S y := fun i hi => by
      obtain ⟨cs', h1, h2⟩ := hel i (by omega)
      obtain ⟨y, hy, sy⟩ := h.op enc base sp held k cs' _ h2 fun q hq => hs q (.inr (.inl (weights_all (d := D i) (by simp; exact ⟨i, hi, rfl⟩) hq)))
      rw [hn] at h1
      exact ⟨y, ⟨cs', h1, hy⟩, sy⟩
    have : ∃ l : List α, l.length = len ∧ (∀ i (hi : i < l.length), ∃ cs', w.cells? base (a.add (i * n)) n = some cs' ∧ RepL (snap w) (c l[i]) cs') ∧ ∀ x ∈ l, S x := by
      clear hel hl hlm hm hx hs hsz
      induction len with
      | zero => exact ⟨[], rfl, fun i hi => absurd hi (by simp), fun _ h => by simp at h⟩
      | succ len ih =>
        obtain ⟨l, h1, h2, h3⟩ := ih fun i hi => each i (by omega)
        obtain ⟨y, hy, sy⟩ := each len (by omega)
        refine ⟨l ++ [y], by simp [h1], fun i hi => ?_, fun x hx => ?_⟩
        · by_cases h' : i < l.length
          · simpa [List.getElem_append_left h'] using h2 i h'
          · have : i = len := by simp at hi; omega
            subst this
            simpa [h1] using hy
        · rcases List.mem_append.1 hx with hx | hx
          · exact h3 x hx
          · simp at hx; subst hx; exact sy
    obtain ⟨l, rfl, hlc, hS⟩ := this
    refine ⟨l, RepL.one ?_, hsz, hS⟩
    simp only [slD, Rep]
    refine ⟨some a, cap, rfl, hl, fun h0 => ?_⟩
    obtain ⟨cs', h1, h2⟩ := hlc 0 h0
    obtain ⟨_, hlen, hcell⟩ := World.cells?_some h1
    have h3 := hcell 0 hpos
    have h4 : 0 < cs'.length := by omega
    rw [List.getElem?_eq_getElem h4] at h3
    simp only [Nat.zero_mul] at h3
    obtain ⟨b, o, ty, N, full, e1, e2, _⟩ := snap_cell h3
    have ea : a = ⟨b, o, none⟩ := by simpa [Addr.add] using e1
    subst ea
    refine ⟨b, o, ty, N, full, rfl, e2, ?_⟩
    have := rep_cells (base := base) (n := n) e2 l 0 (by simpa using hlc)
    simpa using this
theorem OpensS.val {α : Type} {d : α → DV} {S : α → Prop} (h : OpensS P w t (fun a => [d a]) S) {v : Value} (hc : v.cells = #[v]) {H : Type} {enc : TypeId × Value → H} {base : Nat} {sp : Nat → Bool} {held : Bool} {x : DataW H} {p : List MemPlace}
    (hx : DataW.Trod enc P w base sp held t v x p) (hs : ∀ n ∈ x.weights P t, n ≤ reachBytes) : ∃ a, Rep (snap w) (d a) v ∧ S a := by
  obtain ⟨fuel, hf⟩ := hx
  obtain ⟨a, ha, sa⟩ := h.op enc base sp held fuel _ _ hf hs
  rw [hc] at ha
  have h1 := ha.1
  simp only [RepP] at h1
  exact ⟨a, h1.1, sa⟩
theorem OpensS.agg {α : Type} {c : α → List DV} {S : α → Prop} (h : OpensS P w t c S) {cs : Array Value} {H : Type} {enc : TypeId × Value → H} {base : Nat} {sp : Nat → Bool} {held : Bool} {x : DataW H} {p : List MemPlace}
    (hx : DataW.Trod enc P w base sp held t (.agg cs) x p) (hs : ∀ n ∈ x.weights P t, n ≤ reachBytes) : ∃ a, Rep (snap w) (.agg (c a)) (.agg cs) ∧ S a := by
  obtain ⟨fuel, hf⟩ := hx
  obtain ⟨a, ha, sa⟩ := h.op enc base sp held fuel _ _ hf hs
  refine ⟨a, ?_, sa⟩
  simp only [Rep]
  exact ⟨cs.toList, by simp, ha.1, ha.2⟩
theorem sized_mem {H : Type} {ts : List TypeId} {ds : List (DataW H)} (h : (DataW.weightsEach P ts ds).all (· ≤ reachBytes) = true) {j : Nat} {d : DataW H} (ht : ts[j]? = some t) (hd : ds[j]? = some d) : ∀ n ∈ d.weights P t, n ≤ reachBytes := fun n hn => by
  have := List.all_eq_true.1 h n (DataW.weights_mem_each ht hd n hn)
  simpa using this
end
end Go.Proofs.YtbiejiangdbcmaaDoor.Mw
namespace Go.Proofs.YtbiejiangdbcmaaDoor
open Go Go.RowKit Go.Proofs.YtbiejiangdbcmaaDoor.Mw Go.Proofs.YtbiejiangdbcmaaDoor.Pf Go.ChangeShapes Go.WideShapes Go.ChangeAt
set_option linter.unusedVariables false
theorem own : ownKnob Tryd.prog.godebug = none := by kernel_rfl
theorem laid : laidOutB Tryd.prog = true := by kernel_rfl
theorem et : Tryd.prog.globalNamed "errors.errorType" = some 0 := by kernel_rfl
theorem rt : (Tryd.prog.cutTypes.find? (·.1 == "internal/reflectlite.rtype")).map (·.2) = some 172 := by kernel_rfl
theorem oneRow : ((List.range 214).filter fun t => Tryd.prog.rowNamed t [101, 114, 114, 111, 114]) = [120] := by kernel_rfl
theorem sizeT : Tryd.prog.types.size = 214 := by kernel_rfl
abbrev told : List (String × DataW Unit) := [("errors.errorType", Rows.laid_errors_errorType)]
theorem glob_told {W : World} (h : laidMetH Tryd.prog told W) : Glob (snap W) := by
  have h' : laidMet Tryd.prog [] W ∧ handlesMet Tryd.prog told W := h
  obtain ⟨name, u, ty, e1, e2, e3, e4, e5⟩ := h'.2 _ (List.mem_singleton.2 rfl)
  have en : name = [101, 114, 114, 111, 114] := (Option.some.inj e1).symm
  subst en
  obtain rfl := Option.some.inj (rt.symm.trans e2)
  have hm : ty ∈ (List.range 214).filter fun t => Tryd.prog.rowNamed t [101, 114, 114, 111, 114] := List.mem_filter.2 ⟨List.mem_range.2 (by rw [← sizeT]; exact e3), e4⟩
  rw [oneRow] at hm
  obtain rfl := List.mem_singleton.1 hm
  have hh : typeHandle Tryd.prog 120 = .pointer (some ⟨1, 120, none⟩) := by kernel_rfl
  rw [hh] at e5
  intro b v hb
  have hb0 : b = 0 ∧ v = .iface 172 (.agg #[.pointer (some ⟨1, 120, none⟩)]) := by
    unfold globs at hb
    simp only [List.lookup] at hb
    split at hb
    · rename_i hx
      exact ⟨by simpa using hx, (Option.some.inj hb).symm⟩
    · cases hb
  obtain ⟨rfl, rfl⟩ := hb0
  unfold World.var? at e5
  rw [et] at e5
  simp only [Option.bind_some] at e5
  split at e5
  · rename_i c t z hc
    cases e5
    exact ⟨t, by unfold snap; rw [hc] <;> rfl⟩
  · cases e5
noncomputable def toldWorld (os : Os) : World :=
  let w0 := World.holding Tryd.prog os ⟨#[], #[], []⟩
  { w0 with heap := w0.heap.modify 0 fun
      | .cells _ t frozen => .cells #[.iface 172 (.agg #[.pointer (some ⟨1, 120, none⟩)])] t frozen
      | o => o }
theorem toldWorld_met (os : Os) (args : Array Value) : laidMetH Tryd.prog told ((toldWorld os).forCall (fun _ _ => 0) ⟨#[], args, []⟩).memory :=
  laidMetH_of_parts (laidMet_nil _ _) (by kernel_rfl)
theorem cI : Tryd.prog.cellsOf 3 = 1 := by kernel_rfl
theorem opI (w : World) : OpensS Tryd.prog w 3 (fun z : Int => [.int .i64 z]) I64 := OpensS.int Tryd.underlying3
namespace foldGuards
set_option maxRecDepth 100000 in
theorem lifted (os : Os) (started : os.Started) (H : Type) (enc : TypeId × Value → H) :
    ReturnsInHanded {} Tryd.checked os 6 .any (fun w args => (Rows.foldGuardsSpec.pre enc Tryd.prog Tryd.f6 [] false w args ∧ laidMetH Tryd.prog told w) ∧ sizedMet enc Tryd.prog Tryd.f6 (OpenSpec.ofChange Rows.foldGuardsSpec) false w args)
      (Rows.foldGuardsSpec.post enc Tryd.prog Tryd.f6 false true false false) := by
  refine law_row_laid (C := Tryd.checked) told own started (by kernel_rfl) Tryd.func6 rfl (fun ds h => ?_) rfl Tryd.underlying4 laid (of_decide_eq_true (by kernel_rfl))
    (ChangeSpec.witness_at (enc := enc) (C := Tryd.checked) (os := os) (X := fun w _ => laidMetH Tryd.prog told w) false (toldWorld os) #[.int .i64 0, .int .i64 0, .bool false] 8 rfl (by kernel_rfl) (by kernel_rfl) (by kernel_rfl) (by kernel_rfl) (by kernel_rfl) (toldWorld_met os _)) (fun W base args ds p hA hval hsz hL => ?_)
  · match ds, h with
    | [_, _, _], _ => rfl
  · rw [show Tryd.f6.params.toList = [3, 3, 4] from rfl] at hA hsz
    obtain ⟨v0, vs0, d0, ds0, p0, q0, rfl, rfl, rfl, h0, r0⟩ := trodAll_cons hA
    obtain ⟨v1, vs1, d1, ds1, p1, q1, rfl, rfl, rfl, h1, r1⟩ := trodAll_cons r0
    obtain ⟨v2, vs2, d2, ds2, p2, q2, rfl, rfl, rfl, h2, r2⟩ := trodAll_cons r1
    obtain ⟨rfl, rfl, rfl⟩ := trodAll_nil r2
    obtain ⟨x0, rfl⟩ := okWide_int Tryd.underlying3 (hval 0 3 v0 rfl rfl)
    obtain ⟨a0, g0, s0⟩ := OpensS.val (d := fun z : Int => .int .i64 z) (OpensS.int Tryd.underlying3) rfl h0 (sized_mem (t := 3) (j := 0) hsz rfl rfl)
    obtain ⟨x1, rfl⟩ := okWide_int Tryd.underlying3 (hval 1 3 v1 rfl rfl)
    obtain ⟨a1, g1, s1⟩ := OpensS.val (d := fun z : Int => .int .i64 z) (OpensS.int Tryd.underlying3) rfl h1 (sized_mem (t := 3) (j := 1) hsz rfl rfl)
    obtain ⟨x2, rfl⟩ := okWide_bool Tryd.underlying4 (hval 2 4 v2 rfl rfl)
    obtain ⟨a2, g2, s2⟩ := OpensS.val (d := fun z : Bool => .bool z) (OpensS.bool Tryd.underlying4) rfl h2 (sized_mem (t := 4) (j := 2) hsz rfl rfl)
    exact law_mc (FoldGuards_pc a0 a1 a2) (glob_told hL) (RepL.cons g0 (RepL.cons g1 (RepL.cons g2 (RepL.nil _))))
theorem over : Rows.foldGuardsRow.holds Tryd.pinned (OpenSpec.ofChange Rows.foldGuardsSpec) :=
  OpenClaim.holds_of_wide 6 Tryd.f6 rfl rfl rfl rfl rfl rfl rfl ⟨rfl, rfl, rfl, rfl, rfl⟩ rfl rfl rfl rfl rfl (by kernel_rfl) Tryd.func6 (by kernel_rfl)
    (of_decide_eq_true (by kernel_rfl)) (by unfold Func.isWrapper; first | (rw [if_pos (by decide +kernel)]; kernel_rfl) | (rw [if_neg (by decide +kernel)]; exact ⟨rfl, rfl⟩))
    (fun os started H enc _ => lifted os started H enc)
end foldGuards
theorem foldGuards_card : Rows.FoldGuardsCardSaid :=
  Claim7.holds_tied_plain_at .later [] [.handle] true _ true
    foldGuards.over (fun _ h => by cases h) (by kernel_rfl) (fun _ h => by cases h) foldGuards_row_tie rfl ⟨rfl, rfl⟩ (by kernel_rfl) rfl
    (fun f fn hf hfn => by
      obtain rfl : f = 6 := Option.some.inj ((show Tryd.prog.funcNamed "swage/swagelaw15.FoldGuards" = some 6 by kernel_rfl).symm.trans hf) |>.symm
      obtain rfl : fn = Tryd.f6 := (Option.some.inj (Tryd.func6.symm.trans hfn)).symm
      have hall : (Tryd.f6.params.toList.all fun t => !Tryd.prog.wantsStandIn t) = true := by kernel_rfl
      refine ⟨by kernel_rfl, fun j t ht => ?_⟩
      have hm : t ∈ Tryd.f6.params.toList := List.mem_of_getElem? (i := j) (by rw [Array.getElem?_toList]; exact ht)
      exact (show Tryd.prog.wantsStandIn t = false by simpa using List.all_eq_true.1 hall t hm))
    (by kernel_rfl)
end Go.Proofs.YtbiejiangdbcmaaDoor
