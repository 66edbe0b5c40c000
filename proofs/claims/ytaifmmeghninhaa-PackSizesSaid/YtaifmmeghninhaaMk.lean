/- What the operations do that make or write memory, or call. No condition. -/
import Derived.Test.YtaifmmeghninhaaMf
import Derived.Laws.Append
import Derived.Laws.AppendOwn
import Derived.Laws.MakeOwn
namespace Go.Proofs.Ytaifmmeghninhaa.Mw
open Go Go.RowKit
set_option linter.unusedVariables false
set_option linter.unusedSimpArgs false
theorem plainV_eq (v : Value) : plainV v = v.oneCell' := by cases v <;> rfl
section
variable {P : Program} {w0 w : World} {m : Mem}
theorem Sat.setRow (h : Sat w0 w m) {b n i : Nat} {ty : TypeId} {cs vs : List Value} {arr : Array Value} (hb : m b = some (.cells ty n false cs)) (harr : w.heap[b]? = some (.cells arr ty (0, 0)))
    (hi : i ≤ cs.length) (hl : i + vs.length ≤ n) : Sat w0 (w.setRow b (arr.toList.take i ++ vs ++ arr.toList.drop (i + vs.length)).toArray) (m.ins b (.cells ty n false (spl cs i vs))) := by
  obtain ⟨arr', fz, he, hn, hle, hc, hf⟩ := h.blk _ _ hb
  rw [harr] at he; cases he
  obtain ⟨_, hlo⟩ := hf rfl
  have hcs : ∀ (j : Nat) (v : Value), cs[j]? = some v → arr.toList[j]? = some v := fun j v hj => by simpa using hc j v hj
  have hal : arr.toList.length = n := by simpa using hn
  refine ⟨⟨h.below.os, h.below.tape, h.below.output, ?_, ?_⟩, fun x C hx => ?_⟩
  · simp only [World.setRow, Array.size_modify]; exact h.below.size
  · intro k hk
    simp only [World.setRow, Array.getElem?_modify]
    rw [if_neg (by omega)]
    exact h.below.block k hk
  · by_cases e : x = b
    · subst e
      rw [Mem.ins_same] at hx; cases hx
      refine ⟨_, (0, 0), setRow_heap w x arr _ ty (0, 0) harr, ?_, ?_, ?_, fun _ => ⟨rfl, hlo⟩⟩
      · simp only [List.size_toArray, List.length_append, List.length_take, List.length_drop, hal]; omega
      · simp only [spl, List.length_append, List.length_take, List.length_drop]; omega
      · intro j v hj
        simp only [spl] at hj
        rw [List.getElem?_toArray]
        rw [List.getElem?_append] at hj ⊢
        simp only [List.length_append, List.length_take, hal] at hj ⊢
        rw [Nat.min_eq_left hi] at hj
        rw [Nat.min_eq_left (by omega)]
        split at hj
        · rename_i hlt
          rw [if_pos hlt]
          rw [List.getElem?_append] at hj ⊢
          simp only [List.length_take, hal] at hj ⊢
          rw [Nat.min_eq_left hi] at hj
          rw [Nat.min_eq_left (by omega)]
          split at hj
          · rename_i hji
            rw [if_pos hji]
            rw [List.getElem?_take_of_lt hji] at hj ⊢
            exact hcs _ _ hj
          · rename_i hji
            rw [if_neg hji]; exact hj
        · rename_i hge
          rw [if_neg hge]
          rw [List.getElem?_drop] at hj ⊢
          exact hcs _ _ hj
    · rw [Mem.ins_ne _ _ e] at hx
      have : (w.setRow b (arr.toList.take i ++ vs ++ arr.toList.drop (i + vs.length)).toArray).heap[x]? = w.heap[x]? := by
        simp only [World.setRow, Array.getElem?_modify]
        rw [if_neg (by omega)]
      rw [this]
      exact h.blk x C hx

theorem run_storeM (h : Sat w0 w m) {b n i : Nat} {ty : TypeId} {cs vs : List Value} (hb : m b = some (.cells ty n false cs)) (hi : i ≤ cs.length) (hl : i + vs.length ≤ n) (hv : vs.all plainV = true) :
    ∃ w', (storeCells ⟨b, i, none⟩ vs).run P w = .ok () w' ∧ Sat w0 w' (m.ins b (.cells ty n false (spl cs i vs))) := by
  obtain ⟨arr, fz, he, hn, hle, hc, hf⟩ := h.blk _ _ hb
  obtain ⟨rfl, hlo⟩ := hf rfl
  have := run_storeCells_at P b i ty vs 0 arr w he (by omega) (fun v hvm => by rw [← plainV_eq]; exact List.all_eq_true.1 hv v hvm)
  simp only [Nat.add_zero] at this
  exact ⟨_, this, h.setRow hb he hi hl⟩
end

theorem add_lit0 (b j : Nat) : (⟨b, 0, none⟩ : Addr).add j = ⟨b, j, none⟩ := by unfold Addr.add; split <;> simp_all
section eff
variable {P : Program} {ρ : Env} {Post : Value → Mem → Prop} {m : Mem}
theorem EffM.of {o : Oper} (h : ∀ (w0 w : World) (a : Act), Sat w0 w m → (∀ x ∈ o.op.operands, a.eval x = ρ.of x) → ∃ v w' m', (execOp a.eval o).run P w = .ok (.value v) w' ∧ Sat w0 w' m' ∧ Post v m') : EffM P o ρ Post m := by
  intro w0 w a hs hx
  obtain ⟨v, w', m', hr, hs', hp⟩ := h w0 w a hs hx
  exact wp_of_run hr ⟨v, m', rfl, hs', hp⟩
theorem EffM.of_skip {o : Oper} (h : ∀ (w0 w : World) (a : Act), Sat w0 w m → (∀ x ∈ o.op.operands, a.eval x = ρ.of x) → ∃ w' m', (execOp a.eval o).run P w = .ok .skip w' ∧ Sat w0 w' m' ∧ Post undef m') : EffM P o ρ Post m := by
  intro w0 w a hs hx
  obtain ⟨w', m', hr, hs', hp⟩ := h w0 w a hs hx
  unfold Go.Oper.wp
  rw [hr]
  exact ⟨undef, m', rfl, hs', hp⟩
theorem Sat.new {w0 w : World} (hs : Sat w0 w m) (ty : TypeId) (cells : Array Value) (fin : Bool) : Sat w0 (w.alloc (.cells cells ty)) (m.ins w.heap.size (.cells ty cells.size fin cells.toList)) :=
  hs.alloc _ _ ⟨cells, (0, 0), rfl, rfl, by simp, fun i v hi => by simpa using hi, fun _ => ⟨rfl, hs.le⟩⟩
/-- A new variable with a value. -/
theorem eff_box {d : Option Nat} {ty t : TypeId} {x : Operand} {v : Value} {fin : Bool} (hx : ρ.of x = v)
    (h : ∀ b, m b = none → Post (.pointer (some ⟨b, 0, none⟩)) (m.ins b (.cells ty v.cells.size fin v.cells.toList))) : EffM P ⟨d, .box ty x, t, "", #[], none⟩ ρ Post m := by
  refine EffM.of fun w0 w a hs ha => ⟨_, w.alloc (.cells v.cells ty), _, ?_, hs.new ty v.cells fin, h _ hs.fresh⟩
  have := ha x (by simp [Op.operands])
  simp only [execOp, this, hx, Instr.box, newVar, newRow, newObj]
  rfl
/-- A new variable with its zero value. -/
theorem eff_alloc {d : Option Nat} {ty t : TypeId} {v : Value} (hz : (P.info? ty).bind (·.zero) = some v)
    (h : ∀ b, m b = none → Post (.pointer (some ⟨b, 0, none⟩)) (m.ins b (.cells ty v.cells.size false v.cells.toList))) : EffM P ⟨d, .alloc ty, t, "", #[], none⟩ ρ Post m := by
  refine EffM.of fun w0 w a hs ha => ⟨_, w.alloc (.cells v.cells ty), _, ?_, hs.new ty v.cells false, h _ hs.fresh⟩
  obtain ⟨inf, hi, hz'⟩ := Option.bind_eq_some_iff.1 hz
  have hzv : (zeroValue ty).run P w = .ok v w := by simp [zeroValue, typeInfo, hi, hz']
  simp only [execOp, Instr.alloc, Sem.run_bind, hzv, Result.andThen_ok, newVar, newRow, newObj]
  rfl
theorem eff_store {d : Option Nat} {ty t : TypeId} {x y : Operand} {b i n : Nat} {ty' : TypeId} {cs : List Value} {v : Value} (hx : ρ.of x = .pointer (some ⟨b, i, none⟩)) (hy : ρ.of y = v)
    (hb : m b = some (.cells ty' n false cs)) (hsz : (P.info? ty).map (·.size) = some v.cells.size) (hi : i ≤ cs.length) (hl : i + v.cells.size ≤ n) (hp : v.cells.toList.all plainV = true)
    (h : Post undef (m.ins b (.cells ty' n false (spl cs i v.cells.toList)))) : EffM P ⟨d, .store ty x y, t, "", #[], none⟩ ρ Post m := by
  refine EffM.of_skip fun w0 w a hs ha => ?_
  obtain ⟨w', hr, hs'⟩ := run_storeM (P := P) hs hb hi (by simpa using hl) hp
  refine ⟨w', _, ?_, hs', h⟩
  have h1 := ha x (by simp [Op.operands])
  have h2 := ha y (by simp [Op.operands])
  obtain ⟨inf, hinf, hsz'⟩ := Option.map_eq_some_iff.1 hsz
  have hz : (Go.sizeOf ty).run P w = .ok v.cells.size w := by simp [Go.sizeOf, typeInfo, hinf, hsz']
  simp only [execOp, h1, h2, hx, hy, Instr.storeAt, Instr.sureAddr, storeVar, Sem.run_bind, Sem.run_pure, Result.andThen_ok, hz]
  simp only [ne_eq, not_true_eq_false, if_false, hr, Result.andThen_ok]
/-- A call of a function that is named. -/
theorem eff_call {d : Option Nat} {f : FuncId} {args : Array Operand} {ats : Array TypeId} {t : TypeId} (h : MC P f (args.toList.map ρ.of) Post m) :
    EffM P ⟨d, .call ⟨.value (.func f), args, ats⟩, t, "", #[], none⟩ ρ Post m := by
  intro w0 w a hs ha
  obtain ⟨⟨fn, hf, hb, hnm, _⟩, hC⟩ := h
  have e1 : args.toList.map a.eval = args.toList.map ρ.of := List.map_congr_left fun x hx => ha x (by simp [Op.operands, Call.operands]; exact .inr (by simpa using hx))
  have hrun : (execOp a.eval ⟨d, .call ⟨.value (.func f), args, ats⟩, t, "", #[], none⟩).run P w = .ok (.enter f (args.toList.map ρ.of).toArray) w := by
    rw [← e1]
    simp only [execOp, resolve, Act.eval, Deferred.ofValue, Sem.run_bind, Sem.run_pure, Result.andThen_ok, Go.invoke, callFunc, run_program, hf, hnm, hb]
    simp
    cases args; simp
  unfold Go.Oper.wp
  rw [hrun]
  refine (hC w0 w hs).mono ?_
  rintro e w' ⟨v, m', rfl, hs', hp⟩
  exact ⟨v, m', rfl, hs', hp⟩
/-- A call of a function value. -/
theorem eff_callv {d : Option Nat} {q : Nat} {f : FuncId} {first caps : Array Value} {args : Array Operand} {ats : Array TypeId} {t : TypeId} (hq : ρ q = .func (.func f) first caps)
    (h : MC P f (first.toList ++ args.toList.map ρ.of ++ caps.toList) Post m) : EffM P ⟨d, .call ⟨.value (.tmp q), args, ats⟩, t, "", #[], none⟩ ρ Post m := by
  intro w0 w a hs ha
  obtain ⟨⟨fn, hf, hb, hnm, _⟩, hC⟩ := h
  have e1 : args.toList.map a.eval = args.toList.map ρ.of := List.map_congr_left fun x hx => ha x (by simp [Op.operands, Call.operands]; exact .inr (by simpa using hx))
  have e0 : a.eval (.tmp q) = .func (.func f) first caps := by rw [ha (.tmp q) (by simp [Op.operands, Call.operands])]; exact hq
  have hrun : (execOp a.eval ⟨d, .call ⟨.value (.tmp q), args, ats⟩, t, "", #[], none⟩).run P w = .ok (.enter f (first.toList ++ args.toList.map ρ.of ++ caps.toList).toArray) w := by
    rw [← e1]
    simp only [execOp, resolve, e0, Deferred.ofValue, Sem.run_bind, Sem.run_pure, Result.andThen_ok, Go.invoke, callFunc, run_program, hf, hnm, hb]
    simp
  unfold Go.Oper.wp
  rw [hrun]
  refine (hC w0 w hs).mono ?_
  rintro e w' ⟨v, m', rfl, hs', hp⟩
  exact ⟨v, m', rfl, hs', hp⟩
/-- A slice of parts. -/
theorem eff_bslice {d : Option Nat} {ty t e : TypeId} {inf : TypeInfo} {z : Value} {len : Nat} {parts : Array (Nat × Operand)} {l : List Value} (hu : P.underlying ty = some (.slice e)) (hi : P.info? e = some inf)
    (hz : inf.zero = some z) (hn : len * inf.size ≤ 16777216)
    (hl : bldL (if len * inf.size = 0 then [] else (madeCells z.cells (len * inf.size)).toList) (parts.toList.map fun p => (p.1 * inf.size, inf.size)) (parts.toList.map fun p => ρ.of p.2) = some l)
    {fin : Bool} (h : ∀ b, m b = none → Post (.slice (some ⟨b, 0, none⟩) len len) (m.ins b (.cells e (len * inf.size) fin l))) : EffM P ⟨d, .buildSlice ty len parts, t, "", #[], none⟩ ρ Post m := by
  have hlen : ∀ (pl : List (Nat × Nat)) (z vs l : List Value), bldL z pl vs = some l → l.length = z.length := by
    intro pl
    induction pl with
    | nil => intro z vs l h; cases vs <;> simp [bldL] at h; rw [h]
    | cons p pl ih =>
      intro z vs l h
      obtain ⟨o, n⟩ := p
      cases vs with
      | nil => simp [bldL] at h
      | cons v vs =>
        simp only [bldL] at h
        split at h
        · rename_i hc
          have := ih _ _ _ h
          simp only [List.length_append, List.length_take, List.length_drop, Array.length_toList] at this
          omega
        · cases h
  have hll : l.length = len * inf.size := by
    rw [hlen _ _ _ _ hl]
    split
    · rename_i h0; rw [h0]; rfl
    · simp [size_madeCells]
  refine EffM.of fun w0 w a hs ha => ⟨_, w.alloc (.cells l.toArray e), m.ins w.heap.size (.cells e (len * inf.size) fin l), ?_, ?_, h _ hs.fresh⟩
  · have hzv : (zeroValue e).run P w = .ok z w := by simp [zeroValue, typeInfo, hi, hz]
    have hsz : (Go.sizeOf e).run P w = .ok inf.size w := by simp [Go.sizeOf, typeInfo, hi]
    have hps : (parts.map fun x => (x.1, a.eval x.2)).toList = parts.toList.map fun x => (x.1, ρ.of x.2) := by
      rw [Array.toList_map]
      exact List.map_congr_left fun x hx => by rw [ha x.2 (by simp [Op.operands]; exact ⟨x.1, by simpa using hx⟩)]
    have hf := fill_eq (fun i => some (i * inf.size, inf.size)) (parts.toList.map fun x => (x.1, ρ.of x.2)) (parts.toList.map fun p => (p.1 * inf.size, inf.size))
      (if len * inf.size = 0 then #[] else madeCells z.cells (len * inf.size)) l (by simp [List.map_map, Function.comp_def]) (by
        rw [← hl]
        split <;> simp [List.map_map, Function.comp_def])
    have hn' : ¬ (len * inf.size > 2 ^ 24) := by omega
    simp only [execOp, Instr.buildSlice, Sem.run_bind, run_underlying hu, Result.andThen_ok, hsz, hn', if_false, hps]
    by_cases h0 : len * inf.size = 0
    · simp only [h0, if_true] at hf ⊢
      simp only [Sem.run_pure, Result.andThen_ok]
      have : ∀ q : Array Value, Array.map (fun x => q[x % q.size]!) (Array.range 0) = #[] := fun q => by simp
      simp only [Sem.run_pure, Result.andThen_ok, this, hf, newRow, newObj, Sem.run_bind]
      rfl
    · simp only [h0, if_false] at hf ⊢
      simp only [Sem.run_bind, hzv, Result.andThen_ok, Sem.run_pure]
      have : (Array.map (fun x => z.cells[x % z.cells.size]!) (Array.range (len * inf.size))) = madeCells z.cells (len * inf.size) := rfl
      simp only [this, hf, newRow, newObj, Sem.run_bind]
      rfl
  · have := hs.new e l.toArray fin
    simpa [hll] using this
/-- A slice by make. -/
theorem eff_make {d : Option Nat} {ty t e : TypeId} {inf : TypeInfo} {z : Value} {x y : Operand} {kl kc : IntKind} {l c : Int} (hx : ρ.of x = .int kl l) (hy : ρ.of y = .int kc c)
    (hu : P.underlying ty = some (.slice e)) (hi : P.info? e = some inf) (hz : inf.zero = some z) (h0 : 0 ≤ l) (hlc : l ≤ c) (hb : (inf.bytes : Int) * c ≤ 281474976710656) (h63 : c ≤ 9223372036854775807)
    (h : ∀ b, m b = none → Post (.slice (some ⟨b, 0, none⟩) l.toNat c.toNat) (m.ins b (.cells e (c.toNat * inf.size) false ((madeCells z.cells (c.toNat * inf.size)).toList.take (l.toNat * inf.size))))) :
    EffM P ⟨d, .makeSlice ty x y, t, "", #[], none⟩ ρ Post m := by
  refine EffM.of fun w0 w a hs ha => ⟨_, _, _, ?_, hs.alloc (.cells (madeCells z.cells (c.toNat * inf.size)) e) (.cells e (c.toNat * inf.size) false ((madeCells z.cells (c.toNat * inf.size)).toList.take (l.toNat * inf.size))) ?_, h _ hs.fresh⟩
  · have h1 := ha x (by simp [Op.operands])
    have h2 := ha y (by simp [Op.operands])
    simp only [execOp, h1, h2, hx, hy]
    simp only [Sem.run_bind, run_make w ty e inf z hu hi hz kl kc l c h0 hlc hb h63, Result.andThen_ok, Sem.run_pure]
  · refine ⟨_, (0, 0), rfl, by simp [size_madeCells], ?_, ?_, fun _ => ⟨rfl, hs.le⟩⟩
    · simp only [List.length_take, Array.length_toList, size_madeCells]; omega
    · intro i v hv
      rw [List.getElem?_take] at hv
      split at hv
      · simpa using hv
      · cases hv

theorem nextcap_le (n c : Nat) (h : c < n) : Builtin.nextslicecap n c ≤ 2 * n := by
  unfold Builtin.nextslicecap
  split
  · omega
  · split
    · omega
    · have key : ∀ r q, q ≤ 2 * n → c ≤ q → (q < n → q + (q + 768) / 4 ≤ 2 * n) → Builtin.growBy n r q ≤ 2 * n := by
        intro r
        induction r with
        | zero => intro q h1 _ _; exact h1
        | succ r ih =>
          intro q h1 h2 h3
          unfold Builtin.growBy
          split
          · exact h1
          · rename_i hq
            have hq' : q < n := by omega
            refine ih _ (h3 hq') (by omega) ?_
            intro hlt
            omega
      refine key _ _ (by omega) (Nat.le_refl _) ?_
      intro _; omega
theorem run_roomT {w : World} (t ty e e' : TypeId) (i : TypeInfo) (ht : P.underlying t = some (.slice e)) (hi : P.info? e = some i)
    (g o sLen sCap : Nat) (cur : Array Value) (hg : w.heap[g]? = some (.cells cur e' (0, 0)))
    (a : Addr) (m c : Nat) (news : List Value) (hl : news.length = m * i.size) (hnews : ∀ (j : Nat) u, news[j]? = some u → w.cell? (a.add j) = some u) (h1 : ∀ u ∈ news, u.oneCell' = true)
    (hroom : sLen + m ≤ sCap) (hfit : o + sLen * i.size + news.length ≤ cur.size) :
    (Builtin.append_ #[t, t] ty #[.slice (some ⟨g, o, none⟩) sLen sCap, .slice (some a) m c]).run P w =
      .ok (.slice (some ⟨g, o, none⟩) (sLen + m) sCap) (w.setRow g (cur.toList.take (o + sLen * i.size) ++ news ++ cur.toList.drop (o + sLen * i.size + news.length)).toArray) := by
  have hf := run_firstCells_some (P := P) w i.size m a m c news hl hnews
  have hst := run_storeCells_at P g (o + sLen * i.size) e' news 0 cur w hg (by simpa using hfit) h1
  simp only [Nat.add_zero] at hst
  have ha : (⟨g, o, none⟩ : Addr).add (sLen * i.size) = ⟨g, o + sLen * i.size, none⟩ := by unfold Addr.add; split <;> simp_all
  simp [Builtin.append_, run_underlying ht, sizeOf, typeInfo, hi, Builtin.lenOf, hroom, hf, ha, hst]
theorem eff_append {d : Option Nat} {ty t e : TypeId} {inf : TypeInfo} {z : Value} {x y : Operand} {v u : Value} {n k : Nat} {news : List Value} (hx : ρ.of x = v) (hy : ρ.of y = u)
    (hu : P.underlying ty = some (.slice e)) (hi : P.info? e = some inf) (hz : inf.zero = some z) (hzs : z.cells.size = inf.size) (hsz : 0 < inf.size)
    (hrow : RowS m inf.size u k news) (hp : news.all plainV = true) (hbytes : (n + k) * inf.bytes ≤ 140737488355328) (h63 : n + k ≤ 9223372036854775807)
    (h : AppS m e inf.size v n k news Post) :
    EffM P ⟨d, .call ⟨.builtin .append, #[x, y], #[ty, ty]⟩, t, "", #[], none⟩ ρ Post m := by
  have run : ∀ {w0 w : World} {a : Act}, Sat w0 w m → (∀ x' ∈ (Op.call ⟨.builtin .append, #[x, y], #[ty, ty]⟩).operands, a.eval x' = ρ.of x') → ∀ {v' w'}, (Builtin.append_ #[ty, ty] t #[v, u]).run P w = .ok v' w' →
      (execOp a.eval ⟨d, .call ⟨.builtin .append, #[x, y], #[ty, ty]⟩, t, "", #[], none⟩).run P w = .ok (.value v') w' := by
    intro w0 w a hs ha v' w' hr
    have h1 := ha x (by simp [Op.operands, Call.operands])
    have h2 := ha y (by simp [Op.operands, Call.operands])
    simp only [execOp, resolve, Sem.run_bind, Sem.run_pure, Result.andThen_ok, Go.invoke, Go.builtin]
    simp only [List.map_toArray, List.map_cons, List.map_nil, h1, h2, hx, hy, hr, Result.andThen_ok]
  obtain ⟨ua, c, rfl, hnl, hrow⟩ := hrow
  have hp' : ∀ u ∈ news, u.oneCell' = true := fun u hu => by rw [← plainV_eq]; exact List.all_eq_true.1 hp u hu
  refine EffM.of fun w0 w a hs ha => ?_
  rcases Nat.eq_zero_or_pos k with rfl | hk
  · have hnews : news = [] := by cases news with | nil => rfl | cons => simp at hnl
    subst hnews
    have hsz' : (Go.sizeOf e).run P w = .ok inf.size w := by simp [Go.sizeOf, typeInfo, hi]
    rcases h with ⟨rfl, ⟨va, rfl⟩, h3, _⟩ | ⟨b, o, cap, e', N, full, rfl, hb, hfl, hN, hle, h6, _⟩ | ⟨_, _, _, _, _, _, _, _, hk0, _⟩
    · refine ⟨_, w, m, run hs ha (v' := .slice va 0 0) ?_, hs, h3 rfl⟩
      cases ua <;> cases va <;> simp [Builtin.append_, run_underlying hu, hsz', Builtin.lenOf, Builtin.firstCells, loadCells, loadCellsFrom, storeCells]
    · refine ⟨_, w, _, run hs ha (v' := .slice (some ⟨b, o, none⟩) n cap) ?_, ?_, h6 (by omega) _ rfl⟩
      · cases ua <;> simp [Builtin.append_, run_underlying hu, hsz', Builtin.lenOf, Builtin.firstCells, loadCells, loadCellsFrom, storeCells, hle]
      · have : spl full (o + n * inf.size) [] = full := by simp [spl]
        rw [this]
        exact hs.sub fun b' B hB => by
          by_cases e : b' = b
          · subst e; rw [Mem.ins_same] at hB; cases hB; exact hb
          · rw [Mem.ins_ne _ _ e] at hB; exact hB
    · exact absurd hk0 (by omega)
  obtain ⟨ad, rfl, hrw⟩ := hrow hk
  obtain ⟨hnl, hnc⟩ := hs.row_cells hrw
  rcases h with ⟨rfl, ⟨va, rfl⟩, _, h4⟩ | ⟨b, o, cap, e', N, full, rfl, hb, hfl, hN, hle, h6, h7⟩ | ⟨b, o, e', N, fin, full, rfl, hb, _, hfl, h7⟩
  · have hge : k ≤ grownCap w k 0 e := by unfold grownCap; simp only [Question.cut]; omega
    have hr : (Builtin.append_ #[ty, ty] t #[.slice va 0 0, .slice (some ad) k c]).run P w = .ok (.slice (some ⟨w.heap.size, 0, none⟩) k (grownCap w k 0 e)) (w.drew.alloc (.cells (news.toArray ++ Builtin.zeroCells z.cells (grownCap w k 0 e - k)) e)) := by
      cases va with
      | none => exact run_append_nil (P := P) w ty t e inf z hu hi hz ad k c news hnl hnc (by omega) (by omega) (by rw [Nat.zero_add] at hbytes; omega)
      | some va =>
        have hnx := nextcap_le k 0 hk
        have hfit' : Builtin.nextslicecap (0 + k) 0 * inf.bytes ≤ 281474976710656 := by
          have := Nat.mul_le_mul_right inf.bytes hnx
          rw [Nat.mul_assoc] at this; rw [Nat.zero_add] at hbytes ⊢; omega
        have := run_append_grow (P := P) w ty t e inf z hu hi hz va 0 0 [] (by simp) (fun j v hj => by simp at hj) ad k c news hnl hnc (by omega) (by omega) hfit'
        simpa using this
    refine ⟨_, _, m.ins w.heap.size (.cells e (grownCap w k 0 e * inf.size) false news), run hs ha hr, ?_, h4 hk _ _ _ hs.fresh hge rfl⟩
    refine Sat.alloc (w := w.drew) hs.drew _ _ ⟨_, (0, 0), rfl, ?_, ?_, ?_, fun _ => ⟨rfl, hs.le⟩⟩
    · simp only [Array.size_append, List.size_toArray, hnl, size_zeroCells, hzs]
      rw [← Nat.add_mul]; congr 1; omega
    · rw [hnl]
      exact Nat.mul_le_mul_right _ hge
    · intro i u hu
      have hlt := (List.getElem?_eq_some_iff.1 hu).1
      rw [Array.getElem?_append]
      simp only [List.size_toArray, hlt, if_true, List.getElem?_toArray]
      exact hu
  · by_cases hfit : n + k ≤ cap
    · obtain ⟨arr, fz, he, hn, hlen, hc, hf⟩ := hs.blk _ _ hb
      obtain ⟨rfl, hlo⟩ := hf rfl
      have hmul : n * inf.size + k * inf.size ≤ cap * inf.size := by rw [← Nat.add_mul]; exact Nat.mul_le_mul_right _ hfit
      have hr := run_roomT (P := P) (w := w) ty t e e' inf hu hi b o n cap arr he ad k c news hnl hnc hp' hfit (by rw [hnl, hn]; omega)
      exact ⟨_, _, _, run hs ha hr, hs.setRow (i := o + n * inf.size) (vs := news) hb he hfl (by rw [hnl]; omega), h6 hfit _ rfl⟩
    · have hcap : cap < n + k := by omega
      have hcl : ((full.drop o).take (n * inf.size)).length = n * inf.size := by simp; omega
      have hold : ∀ (j : Nat) (v : Value), ((full.drop o).take (n * inf.size))[j]? = some v → w.cell? ((⟨b, o, none⟩ : Addr).add j) = some v := by
        intro j v hj
        have ha : (⟨b, o, none⟩ : Addr).add j = ⟨b, o + j, none⟩ := by unfold Addr.add; split <;> simp_all
        apply hs.get
        rw [ha]
        unfold Mem.get
        simp only [hb]
        have hlt : j < n * inf.size := by have := (List.getElem?_eq_some_iff.1 hj).1; omega
        rw [List.getElem?_take_of_lt hlt, List.getElem?_drop] at hj
        exact hj
      have hnx := nextcap_le (n + k) cap hcap
      have hfit' : Builtin.nextslicecap (n + k) cap * inf.bytes ≤ 281474976710656 := by
        have := Nat.mul_le_mul_right inf.bytes hnx
        rw [Nat.mul_assoc] at this; omega
      have hr := run_append_grow (P := P) w ty t e inf z hu hi hz ⟨b, o, none⟩ n cap _ hcl hold ad k c news hnl hnc hcap (by omega) hfit'
      have hge : n + k ≤ grownCap w (n + k) cap e := by unfold grownCap; simp only [Question.cut]; omega
      refine ⟨_, _, m.ins w.heap.size (.cells e (grownCap w (n + k) cap e * inf.size) false ((full.drop o).take (n * inf.size) ++ news)), run hs ha hr, ?_, h7 hcap _ _ _ hs.fresh hge rfl⟩
      generalize (full.drop o).take (n * inf.size) = cs at hcl
      refine Sat.alloc (w := w.drew) hs.drew _ _ ⟨_, (0, 0), rfl, ?_, ?_, ?_, fun _ => ⟨rfl, hs.le⟩⟩
      · simp only [Array.size_append, List.size_toArray, hcl, hnl, size_zeroCells, hzs]
        rw [← Nat.add_mul, ← Nat.add_mul]; congr 1; omega
      · rw [List.length_append, hcl, hnl, ← Nat.add_mul]
        exact Nat.mul_le_mul_right _ hge
      · intro i u hu
        have hlt := (List.getElem?_eq_some_iff.1 hu).1
        have e1 : (cs.toArray ++ news.toArray) = (cs ++ news).toArray := by simp
        rw [e1, Array.getElem?_append]
        rw [List.size_toArray, if_pos hlt, List.getElem?_toArray]
        exact hu
  · have hcap : n < n + k := by omega
    have hcl : ((full.drop o).take (n * inf.size)).length = n * inf.size := by
      simp only [List.length_take, List.length_drop]
      split at hfl <;> omega
    have hold : ∀ (j : Nat) (v : Value), ((full.drop o).take (n * inf.size))[j]? = some v → w.cell? ((⟨b, o, none⟩ : Addr).add j) = some v := by
      intro j v hj
      have ha : (⟨b, o, none⟩ : Addr).add j = ⟨b, o + j, none⟩ := by unfold Addr.add; split <;> simp_all
      apply hs.get
      rw [ha]
      unfold Mem.get
      simp only [hb]
      have hlt : j < n * inf.size := by have := (List.getElem?_eq_some_iff.1 hj).1; omega
      rw [List.getElem?_take_of_lt hlt, List.getElem?_drop] at hj
      exact hj
    have hnx := nextcap_le (n + k) n hcap
    have hfit' : Builtin.nextslicecap (n + k) n * inf.bytes ≤ 281474976710656 := by
      have := Nat.mul_le_mul_right inf.bytes hnx
      rw [Nat.mul_assoc] at this; omega
    have hr := run_append_grow (P := P) w ty t e inf z hu hi hz ⟨b, o, none⟩ n n _ hcl hold ad k c news hnl hnc hcap (by omega) hfit'
    have hge : n + k ≤ grownCap w (n + k) n e := by unfold grownCap; simp only [Question.cut]; omega
    refine ⟨_, _, m.ins w.heap.size (.cells e (grownCap w (n + k) n e * inf.size) false ((full.drop o).take (n * inf.size) ++ news)), run hs ha hr, ?_, h7 _ _ _ hs.fresh hge rfl⟩
    generalize (full.drop o).take (n * inf.size) = cs at hcl
    refine Sat.alloc (w := w.drew) hs.drew _ _ ⟨_, (0, 0), rfl, ?_, ?_, ?_, fun _ => ⟨rfl, hs.le⟩⟩
    · simp only [Array.size_append, List.size_toArray, hcl, hnl, size_zeroCells, hzs]
      rw [← Nat.add_mul, ← Nat.add_mul]; congr 1; omega
    · rw [List.length_append, hcl, hnl, ← Nat.add_mul]
      exact Nat.mul_le_mul_right _ hge
    · intro i u hu
      have hlt := (List.getElem?_eq_some_iff.1 hu).1
      have e1 : (cs.toArray ++ news.toArray) = (cs ++ news).toArray := by simp
      rw [e1, Array.getElem?_append]
      rw [List.size_toArray, if_pos hlt, List.getElem?_toArray]
      exact hu
theorem zeros_eq (z : Array Value) (n : Nat) : zeros z.toList n = (madeCells z n).toList := by
  simp only [zeros, madeCells, Array.toList_map, Array.toList_range, Array.length_toList]
  apply List.map_congr_left
  intro i _
  rw [getElem!_def, List.getD_eq_getElem?_getD, Array.getElem?_toList]
  cases z[i % z.size]? <;> rfl
theorem eff_clr {d : Option Nat} {ty t e : TypeId} {inf : TypeInfo} {z : Value} {x : Operand} {a : Option Addr} {n c : Nat} (hx : ρ.of x = .slice a n c)
    (hu : P.underlying ty = some (.slice e)) (hi : P.info? e = some inf) (hz : inf.zero = some z) (hzs : z.cells.size = inf.size)
    (h : (n = 0 ∧ Post (.tuple #[]) m) ∨ ∃ b i N ty cs, a = some ⟨b, i, none⟩ ∧ m b = some (.cells ty N false cs) ∧ i ≤ cs.length ∧ i + n * inf.size ≤ N ∧ (zeros z.cells.toList (n * inf.size)).all plainV = true ∧
        ∀ m', m' = m.ins b (.cells ty N false (spl cs i (zeros z.cells.toList (n * inf.size)))) → Post (.tuple #[]) m') :
    EffM P ⟨d, .call ⟨.builtin .clear, #[x], #[ty]⟩, t, "", #[], none⟩ ρ Post m := by
  have run : ∀ {w : World} {act : Act}, (∀ x' ∈ (Op.call ⟨.builtin .clear, #[x], #[ty]⟩).operands, act.eval x' = ρ.of x') → ∀ {v' w'}, (Builtin.clear_ #[ty] t #[.slice a n c]).run P w = .ok v' w' →
      (execOp act.eval ⟨d, .call ⟨.builtin .clear, #[x], #[ty]⟩, t, "", #[], none⟩).run P w = .ok (.value v') w' := by
    intro w act ha v' w' hr
    have h1 := ha x (by simp [Op.operands, Call.operands])
    simp only [execOp, resolve, Sem.run_bind, Sem.run_pure, Result.andThen_ok, Go.invoke, Go.builtin]
    simp only [List.map_toArray, List.map_cons, List.map_nil, h1, hx, hr, Result.andThen_ok]
  have hzv : ∀ w, (zeroValue e).run P w = .ok z w := fun w => by simp [zeroValue, typeInfo, hi, hz]
  refine EffM.of fun w0 w act hs ha => ?_
  rcases Nat.eq_zero_or_pos n with rfl | hn
  · rcases h with ⟨_, h⟩ | ⟨b, i, N, ty', cs, rfl, hb, hic, hN, hp, h⟩
    · refine ⟨_, w, m, run ha (v' := .tuple #[]) (w' := w) ?_, hs, h⟩
      cases a <;> simp [Builtin.clear_, run_underlying hu]
    · refine ⟨_, w, _, run ha (v' := .tuple #[]) (w' := w) ?_, ?_, h _ rfl⟩
      · simp [Builtin.clear_, run_underlying hu]
      · have : spl cs i (zeros z.cells.toList (0 * inf.size)) = cs := by simp [spl, zeros]
        rw [this]
        exact hs.sub fun b' B hB => by
          by_cases e : b' = b
          · subst e; rw [Mem.ins_same] at hB; cases hB; exact hb
          · rw [Mem.ins_ne _ _ e] at hB; exact hB
  · rcases h with ⟨rfl, _⟩ | ⟨b, i, N, ty', cs, rfl, hb, hic, hN, hp, h⟩
    · omega
    · have hl : (zeros z.cells.toList (n * inf.size)).length = n * inf.size := by simp [zeros]
      obtain ⟨w', hr, hs'⟩ := run_storeM (P := P) hs hb hic (by rw [hl]; exact hN) hp
      refine ⟨_, w', _, run ha (v' := .tuple #[]) (w' := w') ?_, hs', h _ rfl⟩
      obtain ⟨k, rfl⟩ : ∃ k, n = k + 1 := ⟨n - 1, by omega⟩
      have e1 : (Builtin.zeroCells z.cells (k + 1)).toList = zeros z.cells.toList ((k + 1) * inf.size) := by
        rw [zeros_eq]; simp only [Builtin.zeroCells, madeCells, hzs]
      simp [Builtin.clear_, run_underlying hu, hzv, e1, hr]
theorem eff_cpy {d : Option Nat} {ty t e : TypeId} {inf : TypeInfo} {x y : Operand} {a a' : Option Addr} {n c n' c' : Nat} (hx : ρ.of x = .slice a n c) (hy : ρ.of y = .slice a' n' c')
    (hu : P.underlying ty = some (.slice e)) (hi : P.info? e = some inf)
    (h : (min n' n = 0 ∧ Post (.int .i64 0) m) ∨ ∃ b i N ty cs ad news, a = some ⟨b, i, none⟩ ∧ m b = some (.cells ty N false cs) ∧ i ≤ cs.length ∧ i + min n' n * inf.size ≤ N ∧ a' = some ad ∧ m.row ad (min n' n * inf.size) = some news ∧
        news.all plainV = true ∧ ∀ m', m' = m.ins b (.cells ty N false (spl cs i news)) → Post (.int .i64 (min n' n : Nat)) m') :
    EffM P ⟨d, .call ⟨.builtin .copy, #[x, y], #[ty, ty]⟩, t, "", #[], none⟩ ρ Post m := by
  have run : ∀ {w : World} {act : Act}, (∀ x' ∈ (Op.call ⟨.builtin .copy, #[x, y], #[ty, ty]⟩).operands, act.eval x' = ρ.of x') → ∀ {v' w'}, (Builtin.copy_ #[ty, ty] t #[.slice a n c, .slice a' n' c']).run P w = .ok v' w' →
      (execOp act.eval ⟨d, .call ⟨.builtin .copy, #[x, y], #[ty, ty]⟩, t, "", #[], none⟩).run P w = .ok (.value v') w' := by
    intro w act ha v' w' hr
    have h1 := ha x (by simp [Op.operands, Call.operands])
    have h2 := ha y (by simp [Op.operands, Call.operands])
    simp only [execOp, resolve, Sem.run_bind, Sem.run_pure, Result.andThen_ok, Go.invoke, Go.builtin]
    simp only [List.map_toArray, List.map_cons, List.map_nil, h1, h2, hx, hy, hr, Result.andThen_ok]
  have hsz : ∀ w, (Go.sizeOf e).run P w = .ok inf.size w := fun w => by simp [Go.sizeOf, typeInfo, hi]
  refine EffM.of fun w0 w act hs ha => ?_
  rcases h with ⟨h0, h⟩ | ⟨b, i, N, ty', cs, ad, news, rfl, hb, hic, hN, rfl, hrow, hp, h⟩
  · refine ⟨_, w, m, run ha (v' := .int .i64 0) (w' := w) ?_, hs, h⟩
    have h0' : Nat.min n' n = 0 := h0
    cases a <;> cases a' <;> simp [Builtin.copy_, run_underlying hu, hsz, Builtin.lenOf, h0', Builtin.firstCells, loadCells, loadCellsFrom, storeCells, goInt]
  · obtain ⟨hnl, hnc⟩ := hs.row_cells hrow
    obtain ⟨w', hr, hs'⟩ := run_storeM (P := P) hs hb hic (by rw [hnl]; exact hN) hp
    refine ⟨_, w', _, run ha (v' := .int .i64 (min n' n : Nat)) (w' := w') ?_, hs', h _ rfl⟩
    have hf := run_firstCells_some (P := P) w inf.size (Nat.min n' n) ad n' c' news hnl hnc
    simp [Builtin.copy_, run_underlying hu, hsz, Builtin.lenOf, hf, hr, goInt]
/-! ### The same, with the types' facts looked up -/
def effOf (P : Program) (o : Oper) : Option Eff :=
  match o.op with
  | .box ty x => some (.box ty x)
  | .alloc ty => ((P.info? ty).bind (·.zero)).map (.alloc ty)
  | .store ty x y => (P.info? ty).map fun i => .store i.size x y
  | .buildSlice ty len parts => match P.underlying ty with
    | some (.slice e) => (P.info? e).bind fun inf => inf.zero.bind fun z => if len * inf.size ≤ 16777216 ∧ z.cells.size = inf.size then some (.bslice e inf.size (zeros z.cells.toList (len * inf.size)) len parts.toList) else none
    | _ => none
  | .makeSlice ty x y => match P.underlying ty with
    | some (.slice e) => (P.info? e).bind fun inf => inf.zero.bind fun z => if z.cells.size = inf.size then some (.make e inf.size inf.bytes z x y) else none
    | _ => none
  | .call { callee := .builtin .append, args, argTypes } => match args.toList, argTypes.toList with
    | [x, y], [ty, ty'] => if ty = ty' then match P.underlying ty with
      | some (.slice e) => (P.info? e).bind fun inf => inf.zero.bind fun z => if z.cells.size = inf.size ∧ 0 < inf.size then some (.app e inf.size inf.bytes x y) else none
      | _ => none
      else none
    | _, _ => none
  | .call { callee := .builtin .clear, args, argTypes } => match args.toList, argTypes.toList with
    | [x], [ty] => match P.underlying ty with
      | some (.slice e) => (P.info? e).bind fun inf => inf.zero.bind fun z => if z.cells.size = inf.size then some (.clr inf.size z x) else none
      | _ => none
    | _, _ => none
  | .call { callee := .builtin .copy, args, argTypes } => match args.toList, argTypes.toList with
    | [x, y], [ty, ty'] => if ty = ty' then match P.underlying ty with
      | some (.slice e) => (P.info? e).bind fun inf => some (.cpy inf.size x y)
      | _ => none
      else none
    | _, _ => none
  | .call { callee := .value (.func f), args, .. } => some (.call f args.toList)
  | .call { callee := .value (.tmp q), args, .. } => some (.callv q args.toList)
  | _ => none
theorem zeros_take (z : List Value) (n k : Nat) (h : k ≤ n) : (zeros z n).take k = zeros z k := by
  simp only [zeros]
  rw [← List.map_take, List.take_range, Nat.min_eq_left h]
theorem effOf_sound {o : Oper} {e : Eff} (h : effOf P o = some e) (hw : wpE P e ρ Post m) : EffM P ⟨o.dst, o.op, o.type, "", #[], none⟩ ρ Post m := by
  obtain ⟨d, op, t, pos, after, guard⟩ := o
  simp only at *
  cases op with
  | box ty x => cases h; obtain ⟨fin, hw⟩ := hw; exact eff_box rfl fun b hb => hw b _ hb rfl
  | alloc ty =>
    simp only [effOf, Option.map_eq_some_iff] at h
    obtain ⟨z, hz, rfl⟩ := h
    exact eff_alloc hz fun b hb => hw b _ hb rfl
  | store ty x y =>
    simp only [effOf, Option.map_eq_some_iff] at h
    obtain ⟨i, hi, rfl⟩ := h
    obtain ⟨b, o, n, ty', cs, h1, h2, h3, h4, h5, h6, h7⟩ := hw
    exact eff_store h1 rfl h2 (by rw [hi]; simp [h3]) h4 (by omega) h6 (h7 _ rfl)
  | buildSlice ty len parts =>
    simp only [effOf] at h
    split at h
    · rename_i e' hu
      simp only [Option.bind_eq_some_iff] at h
      obtain ⟨inf, hi, z, hz, h⟩ := h
      split at h
      · rename_i hc
        cases h
        obtain ⟨l, hl, fin, hp⟩ := hw
        refine eff_bslice hu hi hz hc.1 (l := l) ?_ (fun b hb => hp b _ hb rfl)
        rw [← hl, zeros_eq]
        congr 1
        split
        · rename_i h0; rw [h0]; simp [madeCells]
        · rfl
      · cases h
    · cases h
  | makeSlice ty x y =>
    simp only [effOf] at h
    split at h
    · rename_i e' hu
      simp only [Option.bind_eq_some_iff] at h
      obtain ⟨inf, hi, z, hz, h⟩ := h
      split at h
      · cases h
        obtain ⟨kl, kc, l, c, h1, h2, h3, h4, h5, h6, h7⟩ := hw
        refine eff_make h1 h2 hu hi hz h3 h4 h5 h6 ?_
        intro b hb
        have := h7 b _ hb rfl
        rw [← zeros_take _ (c.toNat * inf.size) (l.toNat * inf.size) (Nat.mul_le_mul_right _ (by omega)), zeros_eq] at this
        exact this
      · cases h
    · cases h
  | call c =>
    obtain ⟨callee, args, argTypes⟩ := c
    cases callee with
    | builtin b =>
      cases b with
      | append =>
        simp only [effOf] at h
        split at h
        · rename_i x y ty ty' ha ht
          have ha' : args = #[x, y] := by cases args; simp_all
          have ht' : argTypes = #[ty, ty'] := by cases argTypes; simp_all
          subst ha'; subst ht'
          split at h
          · rename_i heq; subst heq
            split at h
            · rename_i e' hu
              simp only [Option.bind_eq_some_iff] at h
              obtain ⟨inf, hi, z, hz, h⟩ := h
              split at h
              · rename_i hc
                cases h
                obtain ⟨n, k, news, h1, h2, h4, h5, h6⟩ := hw
                exact eff_append rfl rfl hu hi hz hc.1 hc.2 h1 h2 h4 h5 h6
              · cases h
            · cases h
          · cases h
        · cases h
      | clear =>
        simp only [effOf] at h
        split at h
        · rename_i x ty ha ht
          have ha' : args = #[x] := by cases args; simp_all
          have ht' : argTypes = #[ty] := by cases argTypes; simp_all
          subst ha'; subst ht'
          split at h
          · rename_i e' hu
            simp only [Option.bind_eq_some_iff] at h
            obtain ⟨inf, hi, z, hz, h⟩ := h
            split at h
            · rename_i hc
              cases h
              obtain ⟨a, n, c, h1, h2⟩ := hw
              exact eff_clr h1 hu hi hz hc h2
            · cases h
          · cases h
        · cases h
      | copy =>
        simp only [effOf] at h
        split at h
        · rename_i x y ty ty' ha ht
          have ha' : args = #[x, y] := by cases args; simp_all
          have ht' : argTypes = #[ty, ty'] := by cases argTypes; simp_all
          subst ha'; subst ht'
          split at h
          · rename_i heq; subst heq
            split at h
            · rename_i e' hu
              simp only [Option.bind_eq_some_iff, Option.some.injEq] at h
              obtain ⟨inf, hi, rfl⟩ := h
              obtain ⟨a, n, c, a', n', c', h1, h1', h2⟩ := hw
              exact eff_cpy h1 h1' hu hi h2
            · cases h
          · cases h
        · cases h
      | _ => simp [effOf] at h
    | value f =>
      cases f with
      | func f => cases h; exact eff_call hw
      | tmp q =>
        cases h
        obtain ⟨f, first, caps, h1, h2⟩ := hw
        exact eff_callv h1 h2
      | _ => simp [effOf] at h
    | invoke r n => simp [effOf] at h
  | _ => simp [effOf] at h
end eff
end Go.Proofs.Ytaifmmeghninhaa.Mw
