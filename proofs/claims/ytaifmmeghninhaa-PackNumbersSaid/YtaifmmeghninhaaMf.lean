/- The step from an operation to its expression, for all operations that are told so. No condition. -/
import Derived.Test.YtaifmmeghninhaaMe
namespace Go.Proofs.Ytaifmmeghninhaa.Mw
open Go Go.RowKit
set_option linter.unusedVariables false
set_option linter.unusedSimpArgs false
theorem foldl_put (off : Nat) : ∀ (l : List Value) (k : Nat) (cells : Array Value), off + k + l.length ≤ cells.size →
    ((l.zipIdx k).foldl (fun cs (x : Value × Nat) => cs.setIfInBounds (off + x.2) x.1) cells).toList = cells.toList.take (off + k) ++ l ++ cells.toList.drop (off + k + l.length) := by
  intro l
  induction l with
  | nil => intro k cells h; simp
  | cons v l ih =>
    intro k cells h
    simp only [List.zipIdx_cons, List.foldl_cons]
    simp only [List.length_cons] at h
    rw [ih (k + 1) _ (by simp; omega)]
    simp only [Array.toList_setIfInBounds]
    have hk : off + k < cells.toList.length := by simp; omega
    rw [List.take_set, List.drop_set]
    rw [if_pos (by omega)]
    have e1 : off + (k + 1) + l.length = off + k + (v :: l).length := by simp; omega
    rw [e1]
    have e2 : ((cells.toList.take (off + (k + 1))).set (off + k) v) = cells.toList.take (off + k) ++ [v] := by
      rw [show off + (k + 1) = off + k + 1 from rfl, List.take_succ_eq_append_getElem hk]
      rw [List.set_append_right _ _ (by simp; omega)]
      have e3 : min (off + k) cells.size = off + k := Nat.min_eq_left (by omega)
      simp [e3]
    rw [e2]; simp
theorem fill_eq (place : Nat → Option (Nat × Nat)) : ∀ (parts : List (Nat × Value)) (pl : List (Nat × Nat)) (cells : Array Value) (l : List Value),
    parts.map (fun p => place p.1) = pl.map some → bldL cells.toList pl (parts.map (·.2)) = some l → Instr.fill place cells parts = some l.toArray := by
  intro parts
  induction parts with
  | nil =>
    intro pl cells l hp h
    cases pl with
    | nil => simp [bldL] at h; subst h; simp [Instr.fill]
    | cons => simp at hp
  | cons p parts ih =>
    intro pl cells l hp h
    obtain ⟨i, v⟩ := p
    cases pl with
    | nil => simp at hp
    | cons q pl =>
      obtain ⟨off, n⟩ := q
      simp only [List.map_cons, List.cons.injEq] at hp
      obtain ⟨h1, h2⟩ := hp
      simp only [List.map_cons, bldL] at h
      split at h
      · rename_i hc
        obtain ⟨hn, hle⟩ := hc
        simp only [Instr.fill, h1]
        have hle' : off + v.cells.size ≤ cells.size := by simpa [hn] using hle
        rw [if_neg (by simp [hn]; rw [hn] at hle'; omega)]
        apply ih pl _ l h2
        have := foldl_put off v.cells.toList 0 cells (by simpa using hle')
        simp only [Nat.add_zero, Array.length_toList, hn] at this
        rw [← h]
        have e : (Array.foldl (fun cs (x : Value × Nat) => cs.setIfInBounds (off + x.2) x.1) cells v.cells.zipIdx).toList = cells.toList.take off ++ v.cells.toList ++ cells.toList.drop (off + n) := by
          rw [← this, ← Array.foldl_toList]; simp
        exact congrArg (fun z => bldL z pl (List.map (fun x => x.snd) parts)) e
      · cases h

section
variable {P : Program} {w0 w : World} {m : Mem} {sp : Spec} {ro : FuncId → Bool} {g : Operand → Ex} {ρ : Env} {a : Act}

theorem ev_tup : ∀ (l : List Operand) (v : Value), ev sp m ρ (tupE g l) = some v → ∃ vs : List Value, v = .tuple vs.toArray ∧ vs.length = l.length ∧ ∀ (i : Nat) (x : Operand), l[i]? = some x → ∃ u, vs[i]? = some u ∧ ev sp m ρ (g x) = some u := by
  intro l
  induction l with
  | nil => intro v h; simp [tupE, ev] at h; exact ⟨[], by simp [h], rfl, fun i x h => by simp at h⟩
  | cons x l ih =>
    intro v h
    simp only [tupE, ev, Option.bind_eq_some_iff] at h
    obtain ⟨u, hu, t, ht, hc⟩ := h
    obtain ⟨vs, rfl, hl, hv⟩ := ih t ht
    simp only [csV, Option.some.injEq] at hc
    refine ⟨u :: vs, by rw [← hc]; simp, by simp [hl], ?_⟩
    intro i y hy
    cases i with
    | zero => simp at hy; subst hy; exact ⟨u, by simp, hu⟩
    | succ i => simp at hy; obtain ⟨q, hq, hq'⟩ := hv i y hy; exact ⟨q, by simpa using hq, hq'⟩
/-- The operands' values, in a row. -/
theorem ev_tup_map {l : List Operand} {v : Value} (h : ev sp m ρ (tupE g l) = some v) (H : ∀ x ∈ l, ∀ u, ev sp m ρ (g x) = some u → a.eval x = u) : v = .tuple (l.map a.eval).toArray := by
  obtain ⟨vs, rfl, hl, hv⟩ := ev_tup l v h
  congr 2
  apply List.ext_getElem? 
  intro i
  rw [List.getElem?_map]
  cases hx : l[i]? with
  | none =>
    have := List.getElem?_eq_none_iff.1 hx
    simp; omega
  | some x =>
    obtain ⟨u, hu, he⟩ := hv i x hx
    rw [hu]; simp [H x (List.mem_of_getElem? hx) u he]
theorem ev_opt {o : Option Operand} {v : Value} (h : ev sp m ρ (lowOpt g o) = some v) (H : ∀ x, o = some x → ∀ u, ev sp m ρ (g x) = some u → a.eval x = u) : Bnd v (o.map a.eval) := by
  cases o with
  | none => simp [lowOpt, ev] at h; exact .inl ⟨h.symm, rfl⟩
  | some x =>
    simp only [lowOpt, ev, Option.bind_eq_some_iff] at h
    obtain ⟨u, hu, t, ht, hc⟩ := h
    cases ht
    simp [csV] at hc
    exact .inr ⟨u, hc.symm, by simp [H x rfl u hu]⟩
theorem bind1 {e : Ex} {f : Value → Option Value} {v : Value} (h : (ev sp m ρ e).bind f = some v) : ∃ x, ev sp m ρ e = some x ∧ f x = some v := Option.bind_eq_some_iff.1 h
theorem bind2 {e e' : Ex} {f : Value → Value → Option Value} {v : Value} (h : ((ev sp m ρ e).bind fun x => (ev sp m ρ e').bind fun y => f x y) = some v) :
    ∃ x y, ev sp m ρ e = some x ∧ ev sp m ρ e' = some y ∧ f x y = some v := by
  obtain ⟨x, hx, h⟩ := bind1 h
  obtain ⟨y, hy, h⟩ := bind1 h
  exact ⟨x, y, hx, hy, h⟩

theorem low_bin {op : BinOp} {t yt : TypeId} {x y : Operand} {e : Ex} {v : Value} (hl : lowBin P g op t x y = some e) (he : ev sp m ρ e = some v)
    (hx : ∀ u, ev sp m ρ (g x) = some u → a.eval x = u) (hy : ∀ u, ev sp m ρ (g y) = some u → a.eval y = u) :
    (do eqGuard op t x y (a.eval x) (a.eval y); Go.binOp op t (a.eval x) (a.eval y) : Sem Value).run P w = .ok v w := by
  have key : ∀ u1 u2, a.eval x = u1 → a.eval y = u2 → (eqGuard op t x y u1 u2).run P w = .ok () w → (Go.binOp op t u1 u2).run P w = .ok v w →
      (do eqGuard op t x y (a.eval x) (a.eval y); Go.binOp op t (a.eval x) (a.eval y) : Sem Value).run P w = .ok v w := by
    intro u1 u2 h1 h2 hg hb
    rw [h1, h2]
    simp only [Sem.run_bind, hg, Result.andThen_ok, hb]
  have plain : e = .bin op (g x) (g y) → (do eqGuard op t x y (a.eval x) (a.eval y); Go.binOp op t (a.eval x) (a.eval y) : Sem Value).run P w = .ok v w := by
    rintro rfl
    obtain ⟨u1, u2, h1, h2, hv⟩ := bind2 he
    refine key u1 u2 (hx _ h1) (hy _ h2) ?_ ?_
    · apply eqGuard_run
      · rintro cs rfl; simp [binV] at hv
      · rintro rfl; simp [binV] at hv
    · unfold binV at hv
      split at hv
      · split at hv
        · split at hv
          · cases hv
          · rename_i hn; cases hv; exact run_shl _ _ _ _ _ hn
        · split at hv
          · cases hv
          · rename_i hn; cases hv; exact run_shr _ _ _ _ _ hn
        · split at hv
          · rename_i h3 h4 hk; subst hk
            exact run_int _ _ _ _ _ _ hv (by intro q; exact h3 q) (by intro q; exact h4 q)
          · cases hv
      · rename_i s1 s2
        exact run_str op t s1 s2 v (by unfold binV; exact hv)
      · cases hv
  have gs : ∀ (ne : Bool) n, op = (if ne then .neq else .eql) → intStruct P t = some n → e = .eqs ne n (g x) (g y) → (do eqGuard op t x y (a.eval x) (a.eval y); Go.binOp op t (a.eval x) (a.eval y) : Sem Value).run P w = .ok v w := by
    rintro ne n hop hu rfl
    obtain ⟨u1, u2, h1, h2, hv⟩ := bind2 he
    have hr := run_eqs (P := P) (w := w) ne t n hu u1 u2 v hv
    rw [← hop] at hr
    refine key u1 u2 (hx _ h1) (hy _ h2) ?_ hr
    unfold eqsV at hv
    split at hv
    · rename_i xs ys
      have hg : P.eqGuardType P.depth t = false := by
        unfold intStruct at hu
        split at hu
        · split at hu
          · rename_i hc; simp only [Bool.and_eq_true, Bool.not_eq_true'] at hc; exact hc.2
          · cases hu
        · cases hu
      unfold eqGuard
      split <;> simp [hg]
    · cases hv
  unfold lowBin at hl
  split at hl
  · split at hl <;> try (cases hl)
    · exact plain rfl
    · exact plain rfl
    · rename_i hu
      obtain ⟨u1, u2, h1, h2, hv⟩ := bind2 he
      exact key u1 u2 (hx _ h1) (hy _ h2) (eqGuard_run _ _ _ _ _ _ (by rintro cs rfl; simp [eqbV] at hv) (by rintro rfl; simp [eqbV] at hv)) (run_eqb false t hu _ _ _ hv)
    · rename_i q hu
      obtain ⟨u1, u2, h1, h2, hv⟩ := bind2 he
      exact key u1 u2 (hx _ h1) (hy _ h2) (eqGuard_run _ _ _ _ _ _ (by rintro cs rfl; simp [eqnV] at hv) (by rintro rfl; simp [eqnV] at hv)) (run_eqn false t q hu _ _ _ hv)
    · rename_i q hu
      obtain ⟨u1, u2, h1, h2, hv⟩ := bind2 he
      exact key u1 u2 (hx _ h1) (hy _ h2) (eqGuard_run _ _ _ _ _ _ (by rintro cs rfl; simp [eqzV] at hv) (by rintro rfl; simp [eqzV] at hv)) (run_eqz false t q hu _ _ _ hv)
    · simp only [Option.map_eq_some_iff] at hl
      obtain ⟨n, hn, rfl⟩ := hl
      exact gs false n rfl hn rfl
  · split at hl <;> try (cases hl)
    · exact plain rfl
    · exact plain rfl
    · rename_i hu
      obtain ⟨u1, u2, h1, h2, hv⟩ := bind2 he
      exact key u1 u2 (hx _ h1) (hy _ h2) (eqGuard_run _ _ _ _ _ _ (by rintro cs rfl; simp [eqbV] at hv) (by rintro rfl; simp [eqbV] at hv)) (run_eqb true t hu _ _ _ hv)
    · rename_i q hu
      obtain ⟨u1, u2, h1, h2, hv⟩ := bind2 he
      exact key u1 u2 (hx _ h1) (hy _ h2) (eqGuard_run _ _ _ _ _ _ (by rintro cs rfl; simp [eqnV] at hv) (by rintro rfl; simp [eqnV] at hv)) (run_eqn true t q hu _ _ _ hv)
    · rename_i q hu
      obtain ⟨u1, u2, h1, h2, hv⟩ := bind2 he
      exact key u1 u2 (hx _ h1) (hy _ h2) (eqGuard_run _ _ _ _ _ _ (by rintro cs rfl; simp [eqzV] at hv) (by rintro rfl; simp [eqzV] at hv)) (run_eqz true t q hu _ _ _ hv)
    · simp only [Option.map_eq_some_iff] at hl
      obtain ⟨n, hn, rfl⟩ := hl
      exact gs true n rfl hn rfl
  · cases hl; exact plain rfl

theorem mapM_info : ∀ (fs : List Field), (fs.all fun f => (P.info? f.type).isSome) = true →
    (fs.mapM fun f => do pure (f.offset, ← Go.sizeOf f.type) : Sem (List (Nat × Nat))).run P w = .ok (fs.map fun f => (f.offset, ((P.info? f.type).map (·.size)).getD 0)) w := by
  intro fs
  induction fs with
  | nil => intro _; rfl
  | cons f fs ih =>
    intro h
    simp only [List.all_cons, Bool.and_eq_true] at h
    obtain ⟨i, hi⟩ := Option.isSome_iff_exists.1 h.1
    have hs : (Go.sizeOf f.type).run P w = .ok i.size w := by simp [Go.sizeOf, typeInfo, hi]
    simp only [List.mapM_cons, Sem.run_bind, hs, ih h.2, Result.andThen_ok, Sem.run_pure]
    simp [hi]
theorem run_build {t : TypeId} {fs : Array Field} {z : Value} {parts : List (Nat × Value)} {pl : List (Nat × Nat)} {l : List Value} (hu : P.underlying t = some (.struct fs)) (hz : (P.info? t).bind (·.zero) = some z)
    (hfs : (fs.toList.all fun f => (P.info? f.type).isSome) = true) (hpl : parts.mapM (fun p => (fs[p.1]?).bind fun f => (P.info? f.type).map fun i => (f.offset, i.size)) = some pl)
    (hl : bldL z.cells.toList pl (parts.map (·.2)) = some l) : (Instr.build t parts.toArray).run P w = .ok (.agg l.toArray) w := by
  obtain ⟨inf, hi, hz'⟩ := Option.bind_eq_some_iff.1 hz
  have hzv : (zeroValue t).run P w = .ok z w := by simp [zeroValue, typeInfo, hi, hz']
  have hm : (fs.mapM fun f => do pure (f.offset, ← Go.sizeOf f.type) : Sem (Array (Nat × Nat))).run P w = .ok (fs.map fun f => (f.offset, ((P.info? f.type).map (·.size)).getD 0)) w := by
    rw [Array.mapM_eq_mapM_toList]
    have := mapM_info (P := P) (w := w) fs.toList hfs
    rw [map_eq_pure_bind, Sem.run_bind, this]
    cases fs; simp
  have hf := fill_eq (fun i => (fs.map fun f => (f.offset, ((P.info? f.type).map (·.size)).getD 0))[i]?) parts pl z.cells l ?_ hl
  · unfold Instr.build
    simp only [Sem.run_bind, hzv, Result.andThen_ok, run_underlying hu, hm, hf]
    simp
  · clear hl hm
    induction parts generalizing pl with
    | nil => simp at hpl; subst hpl; rfl
    | cons p parts ih =>
      simp only [List.mapM_cons, Option.bind_eq_bind, Option.bind_eq_some_iff, Option.pure_def, Option.some.injEq] at hpl
      obtain ⟨q, ⟨f, hf, hq⟩, r, hr, rfl⟩ := hpl
      simp only [Option.map_eq_some_iff] at hq
      obtain ⟨i, hi, rfl⟩ := hq
      simp only [List.map_cons, ih hr]
      simp [hf, hi]
theorem run_ofVal {s : Sem Value} {v : Value} (h : s.run P w = .ok v w) : (do pure (Next.value (← s)) : Sem Next).run P w = .ok (.value v) w := by
  simp only [Sem.run_bind, h, Result.andThen_ok, Sem.run_pure]

/-- THE STEP. -/
theorem low_wp (hsp : sp.Sound P) {o : Oper} {next : Act → World → Prop} {Q : Exit → Act → World → Prop} {e : Ex} {v : Value}
    (hl : low P ro g o.op = some e) (he : ev sp m ρ e = some v) (H : ∀ x ∈ o.op.operands, ∀ u, ev sp m ρ (g x) = some u → a.eval x = u)
    (hs : Sat w0 w m) (hn : ∀ w', Sat w0 w' m → next (a.put o.dst v) w') : o.wp P a w next Q := by
  obtain ⟨dst, op, ty, pos, after, guard⟩ := o
  simp only at hl H hn
  have fin : (execOp a.eval ⟨dst, op, ty, pos, after, guard⟩).run P w = .ok (.value v) w → (⟨dst, op, ty, pos, after, guard⟩ : Oper).wp P a w next Q :=
    fun h => wp_of_run h (hn w hs)
  cases op with
  | move x =>
    cases hl
    apply fin; have := H x (by simp [Op.operands]) v he
    simp [execOp, this]
  | assign x =>
    cases hl
    apply fin; have := H x (by simp [Op.operands]) v he
    simp [execOp, this]
  | pick c x y =>
    cases hl
    obtain ⟨t, u1, u2, hc, h1, h2, rfl⟩ := Ex.mkPick_ev he
    have e1 := H c (by simp [Op.operands]) _ hc
    have e2 := H x (by simp [Op.operands]) _ h1
    have e3 := H y (by simp [Op.operands]) _ h2
    apply fin; cases t <;> simp [execOp, e1, e2, e3, asBool]
  | load t x =>
    simp only [low, Option.map_eq_some_iff] at hl
    obtain ⟨k, hk, hl⟩ := hl
    cases k with
    | none =>
      subst hl
      obtain ⟨u, hu, hv⟩ := bind1 he
      apply fin; simp only [execOp]; rw [H x (by simp [Op.operands]) u hu]; exact run_ofVal (run_ld hs hk hv)
    | some n =>
      subst hl
      obtain ⟨u, hu, hv⟩ := bind1 he
      apply fin; simp only [execOp]; rw [H x (by simp [Op.operands]) u hu]; exact run_ofVal (run_ldn hs hk hv)
  | fieldAddr s x f =>
    simp only [low, Option.map_eq_some_iff] at hl
    obtain ⟨p, hp, rfl⟩ := hl
    obtain ⟨u, hu, hv⟩ := bind1 he
    apply fin; simp only [execOp]; rw [H x (by simp [Op.operands]) u hu]; exact run_ofVal (run_fa hp hv)
  | field s x f =>
    simp only [low, Option.bind_eq_some_iff, Option.map_eq_some_iff] at hl
    obtain ⟨p, hp, k, hk, hl⟩ := hl
    cases k with
    | none =>
      subst hl
      obtain ⟨u, hu, hv⟩ := bind1 he
      apply fin; simp only [execOp]; rw [H x (by simp [Op.operands]) u hu]; exact run_ofVal (run_fld hp hk hv)
    | some n =>
      subst hl
      obtain ⟨u, hu, hv⟩ := bind1 he
      apply fin; simp only [execOp]; rw [H x (by simp [Op.operands]) u hu]; exact run_ofVal (run_fldn hp hk hv)
  | nilCheck x =>
    cases hl
    obtain ⟨u, hu, hv⟩ := bind1 he
    apply fin; simp only [execOp]; rw [H x (by simp [Op.operands]) u hu]
    unfold nckV at hv
    split at hv <;> cases hv <;> rfl
  | binOp op t x y yt =>
    apply fin; simp only [execOp]
    exact run_ofVal (low_bin (yt := yt) hl he (H x (by simp [Op.operands])) (H y (by simp [Op.operands])))
  | unOp op t x =>
    cases hl
    obtain ⟨u, hu, hv⟩ := bind1 he
    apply fin; simp only [execOp]; rw [H x (by simp [Op.operands]) u hu]; exact run_ofVal (run_un hv)
  | convert src dst' x =>
    simp only [low] at hl
    split at hl
    · rename_i k k' h1 h2
      cases hl
      obtain ⟨u, hu, hv⟩ := bind1 he
      apply fin; simp only [execOp]; rw [H x (by simp [Op.operands]) u hu]; exact run_ofVal (run_cvt h1 h2 hv)
    · cases hl
  | indexAddr t x i =>
    simp only [low] at hl
    split at hl
    · rename_i el hu
      simp only [Option.map_eq_some_iff] at hl
      obtain ⟨inf, hi, rfl⟩ := hl
      obtain ⟨u1, u2, h1, h2, hv⟩ := bind2 he
      apply fin; simp only [execOp]; rw [H x (by simp [Op.operands]) u1 h1, H i (by simp [Op.operands]) u2 h2]; exact run_ofVal (run_ix hu hi hv)
    · cases hl
  | index t x i =>
    simp only [low] at hl
    split at hl
    · rename_i hu
      cases hl
      obtain ⟨u1, u2, h1, h2, hv⟩ := bind2 he
      apply fin; simp only [execOp]; rw [H x (by simp [Op.operands]) u1 h1, H i (by simp [Op.operands]) u2 h2]; exact run_ofVal (run_sidx hu hv)
    · cases hl
  | extract x n =>
    cases hl
    obtain ⟨u, hu, hv⟩ := bind1 he
    apply fin; simp only [execOp]; rw [H x (by simp [Op.operands]) u hu]; exact run_ofVal (run_ext hv)
  | slice t x lo hi mx =>
    simp only [low] at hl
    split at hl
    · rename_i hu
      split at hl
      · cases hl
      · rename_i hm
        cases hl
        have hm' : mx = none := by cases mx <;> simp_all
        subst hm'
        obtain ⟨u, h1, he⟩ := bind1 he
        obtain ⟨l, h, h2, h3, hv⟩ := bind2 he
        apply fin; simp only [execOp]; rw [H x (by simp [Op.operands]) u h1]
        exact run_ofVal (run_sslc hu (ev_opt h2 (fun z hz => H z (by simp [Op.operands, hz]))) (ev_opt h3 (fun z hz => H z (by simp [Op.operands, hz]))) hv)
    · rename_i el hu
      simp only [Option.map_eq_some_iff] at hl
      obtain ⟨inf, hi', rfl⟩ := hl
      obtain ⟨u, h1, he⟩ := bind1 he
      obtain ⟨l, h2, he⟩ := bind1 he
      obtain ⟨h, q, h3, h4, hv⟩ := bind2 he
      apply fin; simp only [execOp]; rw [H x (by simp [Op.operands]) u h1]
      exact run_ofVal (run_slc hu hi' (ev_opt h2 (fun z hz => H z (by simp [Op.operands, hz]))) (ev_opt h3 (fun z hz => H z (by simp [Op.operands, hz]))) (ev_opt h4 (fun z hz => H z (by simp [Op.operands, hz]))) hv)
    · cases hl
  | makeInterface t x =>
    simp only [low] at hl
    split at hl
    · cases hl
    · rename_i d hni hu
      cases hl
      obtain ⟨u, h1, hv⟩ := bind1 he
      cases hv
      apply fin; simp only [execOp]; rw [H x (by simp [Op.operands]) u h1]
      exact run_ofVal (run_ifc hu hni u)
    · cases hl
  | build t parts =>
    simp only [low] at hl
    split at hl
    · rename_i fs z hu hz
      split at hl
      · rename_i hfs
        simp only [Option.map_eq_some_iff] at hl
        obtain ⟨pl, hpl, rfl⟩ := hl
        obtain ⟨u, h1, hv⟩ := bind1 he
        have e1 := ev_tup_map h1 (a := a) (fun y hy => H y (by simp [Op.operands]; simpa using hy))
        subst e1
        simp only [bldV, Option.map_eq_some_iff] at hv
        obtain ⟨l, hl, rfl⟩ := hv
        apply fin; simp only [execOp]
        refine run_ofVal ?_
        have := run_build (P := P) (w := w) (parts := parts.toList.map fun p => (p.1, a.eval p.2)) hu hz hfs (by rw [← hpl, List.mapM_map]; rfl) (by rw [← hl]; simp only [List.map_map]; rfl)
        have e : (parts.toList.map fun p => (p.1, a.eval p.2)).toArray = parts.map fun x => (x.1, a.eval x.2) := by cases parts; simp
        rw [e] at this
        exact this
      · cases hl
    · cases hl
  | makeFunc fn first caps =>
    cases hl
    obtain ⟨u1, u2, h1, h2, hv⟩ := bind2 he
    have e1 := ev_tup_map h1 (a := a) (fun z hz => H z (by simp [Op.operands]; exact .inl (by simpa using hz)))
    have e2 := ev_tup_map h2 (a := a) (fun z hz => H z (by simp [Op.operands]; exact .inr (by simpa using hz)))
    subst e1; subst e2
    simp only [mkfV, Option.some.injEq] at hv
    subst hv
    apply fin; simp only [execOp, Instr.makeFunc]
    refine run_ofVal ?_
    cases first; cases caps; simp
  | call c =>
    obtain ⟨callee, args, argTypes⟩ := c
    cases callee with
    | builtin b =>
      cases b with
      | len =>
        simp only [low] at hl
        split at hl
        · rename_i x t ha ht
          have ha' : args = #[x] := by cases args; simp_all
          have ht' : argTypes = #[t] := by cases argTypes; simp_all
          subst ha'; subst ht'
          split at hl
          · rename_i hu
            cases hl
            obtain ⟨u, h1, hv⟩ := bind1 he
            apply fin
            have hx := H x (by simp [Op.operands, Call.operands]) u h1
            simp only [execOp, resolve, Sem.run_bind, Sem.run_pure, Result.andThen_ok, Go.invoke, Go.builtin]
            simp only [List.map_toArray, List.map_cons, List.map_nil, hx]
            rw [run_slen hu hv]; rfl
          · rename_i el hu
            cases hl
            obtain ⟨u, h1, hv⟩ := bind1 he
            apply fin
            have hx := H x (by simp [Op.operands, Call.operands]) u h1
            simp only [execOp, resolve, Sem.run_bind, Sem.run_pure, Result.andThen_ok, Go.invoke, Go.builtin]
            simp only [List.map_toArray, List.map_cons, List.map_nil, hx]
            rw [run_len hu hv]; rfl
          · cases hl
        · cases hl
      | _ => simp [low] at hl
    | value fv =>
      cases fv with
      | func f =>
        simp only [low] at hl
        split at hl
        · rename_i hro
          cases hl
          obtain ⟨u, h1, hv⟩ := bind1 he
          have e1 := ev_tup_map h1 (a := a) (fun z hz => H z (by simp [Op.operands, Call.operands]; exact .inr (by simpa using hz)))
          subst e1
          have hC := hsp f _ m v hv
          obtain ⟨⟨fn, hf, hb, hnm, _⟩, hC⟩ := hC
          have hC := hC w0 w hs
          unfold Oper.wp
          have hrun : (execOp a.eval ⟨dst, .call ⟨.value (.func f), args, argTypes⟩, ty, pos, after, guard⟩).run P w = .ok (.enter f (args.toList.map a.eval).toArray) w := by
            simp only [execOp, resolve, Act.eval, Deferred.ofValue, Sem.run_bind, Sem.run_pure, Result.andThen_ok, Go.invoke, callFunc, run_program, hf, hnm, hb]
            simp
            cases args; simp
          rw [hrun]
          refine hC.mono ?_
          rintro e w' ⟨v', m', rfl, hs', rfl, rfl⟩
          exact hn w' hs'
        · cases hl
      | _ => simp [low] at hl
    | invoke r n => simp [low] at hl
  | _ => simp [low] at hl
/-! ### What an operation's expression comes to, its operands' do -/
theorem tup_strict : ∀ (l : List Operand), (ev sp m ρ (tupE g l)).isSome = true → ∀ x ∈ l, (ev sp m ρ (g x)).isSome = true := by
  intro l
  induction l with
  | nil => intro _ x hx; cases hx
  | cons y l ih =>
    intro h x hx
    obtain ⟨v, hv⟩ := Option.isSome_iff_exists.1 h
    obtain ⟨a, b, h1, h2, _⟩ := bind2 hv
    rcases List.mem_cons.1 hx with rfl | hx
    · simp [h1]
    · exact ih (by simp [h2]) x hx
theorem opt_strict {o : Option Operand} (h : (ev sp m ρ (lowOpt g o)).isSome = true) : ∀ x, o = some x → (ev sp m ρ (g x)).isSome = true := by
  rintro x rfl
  obtain ⟨v, hv⟩ := Option.isSome_iff_exists.1 h
  obtain ⟨a, b, h1, h2, _⟩ := bind2 hv
  simp [h1]
theorem low_strict {op : Op} {e : Ex} (hl : low P ro g op = some e) (h : (ev sp m ρ e).isSome = true) : ∀ x ∈ op.operands, (∀ f, x ≠ .func f) → (ev sp m ρ (g x)).isSome = true := by
  obtain ⟨v, he⟩ := Option.isSome_iff_exists.1 h
  have b2 : ∀ {x y : Operand} {f : Value → Value → Option Value}, ((ev sp m ρ (g x)).bind fun a => (ev sp m ρ (g y)).bind fun b => f a b) = some v → ∀ z, z = x ∨ z = y → (ev sp m ρ (g z)).isSome = true := by
    intro x y f hf z hz
    obtain ⟨u1, u2, h1, h2, _⟩ := bind2 hf
    rcases hz with rfl | rfl
    · simp [h1]
    · simp [h2]
  have b1 : ∀ {x : Operand} {f : Value → Option Value}, (ev sp m ρ (g x)).bind f = some v → ∀ z, z = x → (ev sp m ρ (g z)).isSome = true := by
    rintro x f hf z rfl
    obtain ⟨u1, h1, _⟩ := bind1 hf
    simp [h1]
  cases op with
  | move x => cases hl; intro z hz _; simp [Op.operands] at hz; subst hz; exact h
  | assign x => cases hl; intro z hz _; simp [Op.operands] at hz; subst hz; exact h
  | pick c x y =>
    cases hl
    obtain ⟨t, u1, u2, hc, h1, h2, _⟩ := Ex.mkPick_ev he
    intro z hz _; simp [Op.operands] at hz
    rcases hz with rfl | rfl | rfl
    · simp [hc]
    · simp [h1]
    · simp [h2]
  | load t x =>
    simp only [low, Option.map_eq_some_iff] at hl
    obtain ⟨k, hk, hl⟩ := hl
    intro z hz _; simp [Op.operands] at hz
    cases k <;> (simp only at hl; subst hl; exact b1 he z hz)
  | fieldAddr s x f =>
    simp only [low, Option.map_eq_some_iff] at hl
    obtain ⟨p, hp, rfl⟩ := hl
    intro z hz _; simp [Op.operands] at hz; exact b1 he z hz
  | field s x f =>
    simp only [low, Option.bind_eq_some_iff, Option.map_eq_some_iff] at hl
    obtain ⟨p, hp, k, hk, hl⟩ := hl
    intro z hz _; simp [Op.operands] at hz
    cases k <;> (simp only at hl; subst hl; exact b1 he z hz)
  | nilCheck x => cases hl; intro z hz _; simp [Op.operands] at hz; exact b1 he z hz
  | binOp op t x y yt =>
    intro z hz _; simp [Op.operands] at hz
    simp only [low] at hl
    unfold lowBin at hl
    split at hl
    · split at hl <;> try (cases hl)
      all_goals first
        | exact b2 he z hz
        | (simp only [Option.map_eq_some_iff] at hl; obtain ⟨n, _, rfl⟩ := hl; exact b2 he z hz)
    · split at hl <;> try (cases hl)
      all_goals first
        | exact b2 he z hz
        | (simp only [Option.map_eq_some_iff] at hl; obtain ⟨n, _, rfl⟩ := hl; exact b2 he z hz)
    · cases hl; exact b2 he z hz
  | unOp op t x => cases hl; intro z hz _; simp [Op.operands] at hz; exact b1 he z hz
  | convert src dst' x =>
    simp only [low] at hl
    split at hl
    · cases hl; intro z hz _; simp [Op.operands] at hz; exact b1 he z hz
    · cases hl
  | indexAddr t x i =>
    simp only [low] at hl
    split at hl
    · simp only [Option.map_eq_some_iff] at hl
      obtain ⟨inf, hi, rfl⟩ := hl
      intro z hz _; simp [Op.operands] at hz; exact b2 he z hz
    · cases hl
  | index t x i =>
    simp only [low] at hl
    split at hl
    · cases hl; intro z hz _; simp [Op.operands] at hz; exact b2 he z hz
    · cases hl
  | extract x n => cases hl; intro z hz _; simp [Op.operands] at hz; exact b1 he z hz
  | slice t x lo hi mx =>
    simp only [low] at hl
    split at hl
    · split at hl
      · cases hl
      · rename_i hm
        cases hl
        have hm' : mx = none := by cases mx <;> simp_all
        subst hm'
        obtain ⟨u, h1, he⟩ := bind1 he
        obtain ⟨l, q, h2, h3, hv⟩ := bind2 he
        intro z hz _; simp [Op.operands] at hz
        rcases hz with rfl | hz | hz
        · simp [h1]
        · exact opt_strict (by simp [h2]) z hz
        · exact opt_strict (by simp [h3]) z hz
    · simp only [Option.map_eq_some_iff] at hl
      obtain ⟨inf, hi', rfl⟩ := hl
      obtain ⟨u, h1, he⟩ := bind1 he
      obtain ⟨l, h2, he⟩ := bind1 he
      obtain ⟨r, q, h3, h4, hv⟩ := bind2 he
      intro z hz _; simp [Op.operands] at hz
      rcases hz with rfl | hz | hz | hz
      · simp [h1]
      · exact opt_strict (by simp [h2]) z hz
      · exact opt_strict (by simp [h3]) z hz
      · exact opt_strict (by simp [h4]) z hz
    · cases hl
  | makeInterface t x =>
    simp only [low] at hl
    split at hl
    · cases hl
    · cases hl; intro z hz _; simp [Op.operands] at hz; exact b1 he z hz
    · cases hl
  | build t parts =>
    simp only [low] at hl
    split at hl
    · split at hl
      · simp only [Option.map_eq_some_iff] at hl
        obtain ⟨pl, hpl, rfl⟩ := hl
        obtain ⟨u, h1, hv⟩ := bind1 he
        intro z hz _
        simp [Op.operands] at hz
        obtain ⟨a, ha⟩ := hz
        exact tup_strict (parts.toList.map (·.2)) (by simp [h1]) z (List.mem_map.2 ⟨(a, z), by simpa using ha, rfl⟩)
      · cases hl
    · cases hl
  | makeFunc fn first caps =>
    cases hl
    obtain ⟨u1, u2, h1, h2, hv⟩ := bind2 he
    intro z hz _
    simp [Op.operands] at hz
    rcases hz with hz | hz
    · exact tup_strict first.toList (by simp [h1]) z (by simpa using hz)
    · exact tup_strict caps.toList (by simp [h2]) z (by simpa using hz)
  | call c =>
    obtain ⟨callee, args, argTypes⟩ := c
    cases callee with
    | builtin b =>
      cases b with
      | len =>
        simp only [low] at hl
        split at hl
        · rename_i x t ha ht
          have ha' : args = #[x] := by cases args; simp_all
          subst ha'
          split at hl <;> try (cases hl)
          all_goals (intro z hz _; simp [Op.operands, Call.operands] at hz; exact b1 he z hz)
        · cases hl
      | _ => simp [low] at hl
    | value fv =>
      cases fv with
      | func f =>
        simp only [low] at hl
        split at hl
        · cases hl
          obtain ⟨u, h1, hv⟩ := bind1 he
          intro z hz hnf
          simp [Op.operands, Call.operands] at hz
          rcases hz with rfl | hz
          · exact absurd rfl (hnf f)
          · exact tup_strict args.toList (by simp [h1]) z (by simpa using hz)
        · cases hl
      | _ => simp [low] at hl
    | invoke r n => simp [low] at hl
  | _ => simp [low] at hl
end
end Go.Proofs.Ytaifmmeghninhaa.Mw
