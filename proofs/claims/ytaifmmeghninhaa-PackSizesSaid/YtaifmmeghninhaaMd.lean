/- What the expression of an operation comes to, the operation comes to. No condition. -/
import Derived.Test.YtaifmmeghninhaaMc
import Derived.Laws.StructEq
namespace Go.Proofs.Ytaifmmeghninhaa.Mw
open Go Go.RowKit
set_option linter.unusedVariables false
set_option linter.unusedSimpArgs false
section runs
variable {P : Program} {w : World}
theorem wp_of_run {o : Oper} {a : Act} {next : Act → World → Prop} {Q : Exit → Act → World → Prop} {v : Value} {w' : World} (hr : (execOp a.eval o).run P w = .ok (.value v) w') (hn : next (a.put o.dst v) w') : o.wp P a w next Q := by
  unfold Oper.wp; rw [hr]; exact hn
theorem run_val {s : Sem Value} {v : Value} (h : s.run P w = .ok v w) : (do pure (Next.value (← s)) : Sem Next).run P w = .ok (.value v) w := by
  simp [go_sem, h]

theorem run_int (op : BinOp) (k : IntKind) (t : TypeId) (x y : Int) (v : Value) (h : intV op k x y = some v) (h1 : op ≠ .shl) (h2 : op ≠ .shr) : (Go.binOp op t (.int k x) (.int k y)).run P w = .ok v w := by
  cases op <;> simp_all [intV, cmpV, go_sem]
theorem run_shl (k yk : IntKind) (t : TypeId) (x y : Int) (h : ¬ y < 0) : (Go.binOp .shl t (.int k x) (.int yk y)).run P w = .ok (.int k (k.wrap (x * 2 ^ (min y.toNat k.bits)))) w := by
  simp [Go.binOp, Op.shift, h, go_sem]
theorem run_shr (k yk : IntKind) (t : TypeId) (x y : Int) (h : ¬ y < 0) : (Go.binOp .shr t (.int k x) (.int yk y)).run P w = .ok (.int k (x.fdiv (2 ^ (min y.toNat k.bits)))) w := by
  simp [Go.binOp, Op.shift, h, go_sem]
theorem run_eql_of {t : TypeId} {x y : Value} {b : Bool} (hx : (Op.equal t x y).run P w = .ok b w) : (do pure (Value.bool (← Op.equal t x y)) : Sem Value).run P w = .ok (.bool b) w := by
  simp [go_sem, hx]
theorem run_neq_of {t : TypeId} {x y : Value} {b : Bool} (hx : (Op.equal t x y).run P w = .ok b w) : (do pure (Value.bool (!(← Op.equal t x y))) : Sem Value).run P w = .ok (.bool (!b)) w := by
  simp [go_sem, hx]
theorem run_equalIn_bool (d : Nat) (t : TypeId) (ht : P.underlying t = some .bool) (x y : Bool) : (Op.equalIn (d + 1) t (.bool x) (.bool y)).run P w = .ok (x == y) w := by
  simp [Op.equalIn, run_underlying ht, go_sem]
theorem run_boolEq (t : TypeId) (ht : P.underlying t = some .bool) (x y : Bool) : (Go.binOp .eql t (.bool x) (.bool y)).run P w = .ok (.bool (x == y)) w := by
  simp only [Go.binOp]
  exact run_eql_of (run_equalIn_bool 9999 t ht x y)
theorem run_boolNe (t : TypeId) (ht : P.underlying t = some .bool) (x y : Bool) : (Go.binOp .neq t (.bool x) (.bool y)).run P w = .ok (.bool (!(x == y))) w := by
  simp only [Go.binOp]
  exact run_neq_of (run_equalIn_bool 9999 t ht x y)
theorem run_str (op : BinOp) (t : TypeId) (x y : ByteArray) (v : Value) (h : binV op (.string x) (.string y) = some v) : (Go.binOp op t (.string x) (.string y)).run P w = .ok v w := by
  cases op <;> simp_all [binV, Go.binOp, Op.stringOp, go_sem]
theorem run_equalIn_ptr (d : Nat) (t e : TypeId) (ht : P.underlying t = some (.pointer e)) (x : Option Addr) : (Op.equalIn (d + 1) t (.pointer x) (.pointer none)).run P w = .ok x.isNone w := by
  cases x <;> simp [Op.equalIn, run_underlying ht, go_sem]
theorem run_equalIn_slc (d : Nat) (t e : TypeId) (ht : P.underlying t = some (.slice e)) (x : Option Addr) (n c n' c' : Nat) : (Op.equalIn (d + 1) t (.slice x n c) (.slice none n' c')).run P w = .ok x.isNone w := by
  cases x <;> simp [Op.equalIn, run_underlying ht, go_sem]
theorem run_eqn (ne : Bool) (t e : TypeId) (ht : P.underlying t = some (.pointer e)) (x y v : Value) (h : eqnV ne x y = some v) :
    (Go.binOp (if ne then .neq else .eql) t x y).run P w = .ok v w := by
  unfold eqnV at h
  split at h
  · rename_i a; cases h
    cases ne
    · simp only [Bool.false_eq_true, if_false, Go.binOp]
      exact run_eql_of (run_equalIn_ptr 9999 t e ht a)
    · simp only [if_true, Go.binOp]
      have := run_neq_of (run_equalIn_ptr (P := P) (w := w) 9999 t e ht a)
      rw [show (!a.isNone) = a.isSome from by cases a <;> rfl] at this
      exact this
  · cases h
theorem run_eqz (ne : Bool) (t e : TypeId) (ht : P.underlying t = some (.slice e)) (x y v : Value) (h : eqzV ne x y = some v) :
    (Go.binOp (if ne then .neq else .eql) t x y).run P w = .ok v w := by
  unfold eqzV at h
  split at h
  · rename_i a n c n' c'; cases h
    cases ne
    · simp only [Bool.false_eq_true, if_false, Go.binOp]
      exact run_eql_of (run_equalIn_slc 9999 t e ht a _ _ _ _)
    · simp only [if_true, Go.binOp]
      have := run_neq_of (run_equalIn_slc (P := P) (w := w) 9999 t e ht a n c n' c')
      rw [show (!a.isNone) = a.isSome from by cases a <;> rfl] at this
      exact this
  · cases h
theorem run_eqb (ne : Bool) (t : TypeId) (ht : P.underlying t = some .bool) (x y v : Value) (h : eqbV ne x y = some v) :
    (Go.binOp (if ne then .neq else .eql) t x y).run P w = .ok v w := by
  unfold eqbV at h
  split at h
  · cases h
    cases ne
    · simp only [Bool.false_eq_true, if_false]; exact run_boolEq t ht _ _
    · simp only [if_true]; exact run_boolNe t ht _ _
  · cases h
theorem eqGuard_run (op : BinOp) (t : TypeId) (x y : Operand) (a b : Value) (h : ∀ cs, a ≠ .agg cs) (h' : a ≠ .nilIface) : (eqGuard op t x y a b).run P w = .ok () w := by
  unfold eqGuard
  cases a with
  | nilIface => exact absurd rfl h'
  | agg cs => exact absurd rfl (h cs)
  | _ => split <;> rfl
theorem run_isAgg_of {t : TypeId} {d : TypeDesc} (h : P.underlying t = some d) : (isAgg t).run P w = .ok (match d with | .struct _ => true | .array _ _ => true | _ => false) w := by
  unfold isAgg
  simp only [Sem.run_bind, run_underlying h, Result.andThen_ok]
  cases d <;> rfl
theorem run_part_int {t : TypeId} {k : IntKind} (h : P.underlying t = some (.int k)) {cs : Array Value} {i : Nat} {v : Value} (hc : cs[i]? = some v) : (part t cs i).run P w = .ok v w := by
  unfold part
  simp only [Sem.run_bind, run_isAgg_of h, Result.andThen_ok]
  simp [hc, go_sem]
theorem run_equalIn_int (d : Nat) (t : TypeId) {k : IntKind} (ht : P.underlying t = some (.int k)) (q : IntKind) (x y : Int) : (Op.equalIn (d + 1) t (.int q x) (.int q y)).run P w = .ok (x == y) w := by
  simp [Op.equalIn, run_underlying ht, go_sem]
theorem run_eqFields (d : Nat) (xs ys : Array Value) : ∀ (fs : List Field) (i : Nat) (b : Bool), intFrom P i fs = true → xs.size = i + fs.length → ys.size = i + fs.length →
    eqRows (xs.toList.drop i) (ys.toList.drop i) = some b → (Op.eqFields (d + 1) xs ys fs).run P w = .ok b w := by
  intro fs
  induction fs with
  | nil =>
    intro i b _ hx hy h
    rw [List.drop_eq_nil_of_le (by simp_all), List.drop_eq_nil_of_le (by simp_all)] at h
    cases h
    rfl
  | cons f r ih =>
    intro i b hf hx hy h
    have hx' : xs.size = i + (r.length + 1) := hx
    have hy' : ys.size = i + (r.length + 1) := hy
    simp only [intFrom, Bool.and_eq_true, beq_iff_eq, bne_iff_ne, ne_eq] at hf
    obtain ⟨⟨⟨ho, hn⟩, hk⟩, hr⟩ := hf
    have lx : i < xs.size := by omega
    have ly : i < ys.size := by omega
    have dx : xs.toList.drop i = xs[i] :: xs.toList.drop (i + 1) := by
      rw [List.drop_eq_getElem_cons (by simpa using lx)]; simp
    have dy : ys.toList.drop i = ys[i] :: ys.toList.drop (i + 1) := by
      rw [List.drop_eq_getElem_cons (by simpa using ly)]; simp
    rw [dx, dy] at h
    have ex : xs[i]? = some xs[i] := Array.getElem?_eq_getElem (by omega)
    have ey : ys[i]? = some ys[i] := Array.getElem?_eq_getElem (by omega)
    clear dx dy
    generalize xs[i] = u at *
    generalize ys[i] = v at *
    cases u <;> cases v <;> try (simp [eqRows] at h; done)
    rename_i q x q' y
    unfold eqRows at h
    split at h
    · rename_i hq
      subst hq
      simp only [Option.map_eq_some_iff] at h
      obtain ⟨b', hb', rfl⟩ := h
      split at hk
      · rename_i k hu
        unfold Op.eqFields
        rw [if_pos hn, ho]
        simp only [Sem.run_bind, run_part_int hu ex, run_part_int hu ey, Result.andThen_ok, run_equalIn_int d _ hu]
        by_cases e : x = y
        · subst e
          have := ih (i + 1) b' hr (by omega) (by omega) hb'
          simp [this]
        · have e' : (x == y) = false := by simp [e]
          simp [e', go_sem]
      · cases hk
    · cases h
theorem run_eqs (ne : Bool) (t : TypeId) (n : Nat) (ht : intStruct P t = some n) (x y v : Value) (h : eqsV ne n x y = some v) :
    (Go.binOp (if ne then .neq else .eql) t x y).run P w = .ok v w := by
  unfold intStruct at ht
  split at ht
  · rename_i fs hu
    split at ht
    · rename_i hc
      simp only [Bool.and_eq_true, Bool.not_eq_true'] at hc
      obtain ⟨⟨hi, hs⟩, hg⟩ := hc
      cases ht
      unfold eqsV at h
      split at h
      · rename_i xs ys
        split at h
        · rename_i hsz
          simp only [Option.map_eq_some_iff] at h
          obtain ⟨b, hb, rfl⟩ := h
          have hfo : P.fieldsOf t = fs := by unfold Program.fieldsOf; rw [hu]
          have he : (Op.equal t (.agg xs) (.agg ys)).run P w = .ok b w := by
            have h2 := run_equalIn_struct (P := P) w 9999 t xs ys (by rw [hfo]; exact hu) hs
            rw [hfo] at h2
            have h3 := run_eqFields (P := P) (w := w) 9998 xs ys fs.toList 0 b hi (by simp [hsz.1]) (by simp [hsz.2]) (by simpa using hb)
            exact h2.trans h3
          cases ne
          · simp only [Bool.false_eq_true, if_false, Go.binOp]; exact run_eql_of he
          · simp only [if_true, Go.binOp]; exact run_neq_of he
        · cases h
      · cases h
    · cases ht
  · cases ht
end runs
end Go.Proofs.Ytaifmmeghninhaa.Mw
