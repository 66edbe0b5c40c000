/- An operation that is told as an expression does what the expression comes to. No condition. -/
import Derived.Test.YtaifmmeghninhaaMd
namespace Go.Proofs.Ytaifmmeghninhaa.Mw
open Go Go.RowKit
set_option linter.unusedVariables false
set_option linter.unusedSimpArgs false
section
variable {P : Program} {w0 w : World} {m : Mem}

theorem aggSize_one {t : TypeId} (h : aggSize P t = some none) : ∀ w, (isAgg t).run P w = .ok false w := by
  intro w
  unfold aggSize at h
  split at h <;> try cases h
  rename_i d i hs ha hd hi
  rw [run_isAgg_of hd]
  cases d <;> first | rfl | exact absurd rfl (hs _) | exact absurd rfl (ha _ _)
theorem aggSize_many {t : TypeId} {n : Nat} (h : aggSize P t = some (some n)) : (∀ w, (isAgg t).run P w = .ok true w) ∧ ∀ w, (Go.sizeOf t).run P w = .ok n w := by
  unfold aggSize at h
  split at h
  · rename_i fs i hu hi; cases h
    exact ⟨fun w => run_isAgg_of hu, fun w => by simp [Go.sizeOf, typeInfo, hi, go_sem]⟩
  · rename_i fs q i hu hi; cases h
    exact ⟨fun w => run_isAgg_of hu, fun w => by simp [Go.sizeOf, typeInfo, hi, go_sem]⟩
  · cases h
  · cases h
theorem Sat.row_cells (h : Sat w0 w m) {a : Addr} {n : Nat} {l : List Value} (hr : m.row a n = some l) : l.length = n ∧ ∀ (j : Nat) (v : Value), l[j]? = some v → w.cell? (a.add j) = some v := by
  unfold Mem.row at hr
  split at hr
  · rename_i ty k fin cs hs hb
    split at hr
    · rename_i hle
      cases hr
      refine ⟨by simp; omega, fun j v hj => ?_⟩
      have hj' : j < n := by
        have := (List.getElem?_eq_some_iff.1 hj).1
        simp at this; omega
      rw [List.getElem?_take_of_lt hj', List.getElem?_drop] at hj
      apply h.get
      have e1 : (a.add j).spot = none := by unfold Addr.add; split <;> simp_all
      have e2 : (a.add j).block = a.block := by unfold Addr.add; split <;> simp_all
      have e3 : (a.add j).off = a.off + j := by unfold Addr.add; split <;> simp_all
      unfold Mem.get
      rw [e1, e2, hb, e3]; exact hj
    · cases hr
  · cases hr
theorem run_ld (h : Sat w0 w m) {t : TypeId} (ht : aggSize P t = some none) {x v : Value} (hx : ldV m x = some v) : (Instr.loadAt t x).run P w = .ok v w := by
  unfold ldV at hx
  split at hx
  · rename_i a
    simp only [Instr.loadAt, Instr.sureAddr, loadVar, Sem.run_bind, Sem.run_pure, Result.andThen_ok, aggSize_one ht, Bool.false_eq_true, if_false]
    simp [Go.load, Sem.run, h.get hx]
  · cases hx
theorem run_ldn (h : Sat w0 w m) {t : TypeId} {n : Nat} (ht : aggSize P t = some (some n)) {x v : Value} (hx : ldnV m n x = some v) : (Instr.loadAt t x).run P w = .ok v w := by
  unfold ldnV at hx
  split at hx
  · rename_i a
    simp only [Option.map_eq_some_iff] at hx
    obtain ⟨l, hl, rfl⟩ := hx
    obtain ⟨hn, hc⟩ := h.row_cells hl
    obtain ⟨ha, hz⟩ := aggSize_many ht
    have := run_loadCells_list (P := P) w a l hc
    simp only [Instr.loadAt, Instr.sureAddr, loadVar, Sem.run_bind, Sem.run_pure, Result.andThen_ok, ha, hz, if_true]
    rw [← hn, this]; rfl
  · cases hx
theorem run_fa {s f : Nat} {p : Nat × TypeId} (hp : fieldAt P s f = some p) {x v : Value} (hx : faV p.1 x = some v) : (Instr.fieldAt s x f).run P w = .ok v w := by
  unfold faV at hx
  split at hx
  · rename_i a; cases hx
    unfold fieldAt at hp
    split at hp
    · rename_i fs hu
      simp only [Option.bind_eq_some_iff] at hp
      obtain ⟨fd, hfd, i, hi, hp⟩ := hp
      split at hp
      · cases hp
      · rename_i hz; cases hp
        simp [Instr.fieldAt, Instr.sureAddr, fieldPlace, Go.sizeOf, typeInfo, run_underlying hu, hfd, hi, hz]
    · cases hp
  · cases hx
theorem run_fld {s f : Nat} {p : Nat × TypeId} (hp : fieldAt P s f = some p) (ha : aggSize P p.2 = some none) {x v : Value} (hx : fldV p.1 x = some v) : (Instr.field s x f).run P w = .ok v w := by
  unfold fldV at hx
  split at hx
  · rename_i cs
    unfold fieldAt at hp
    split at hp
    · rename_i fs hu
      simp only [Option.bind_eq_some_iff] at hp
      obtain ⟨fd, hfd, i, hi, hp⟩ := hp
      split at hp
      · cases hp
      · cases hp
        simp only [Instr.field, Sem.run_bind, run_underlying hu, Result.andThen_ok, hfd, asAgg, Sem.run_pure, part, aggSize_one ha]
        simp [hx]
    · cases hp
  · cases hx
theorem run_fldn {s f n : Nat} {p : Nat × TypeId} (hp : fieldAt P s f = some p) (ha : aggSize P p.2 = some (some n)) {x v : Value} (hx : fldnV p.1 n x = some v) : (Instr.field s x f).run P w = .ok v w := by
  unfold fldnV at hx
  split at hx
  · rename_i cs; cases hx
    obtain ⟨h1, h2⟩ := aggSize_many ha
    unfold fieldAt at hp
    split at hp
    · rename_i fs hu
      simp only [Option.bind_eq_some_iff] at hp
      obtain ⟨fd, hfd, i, hi, hp⟩ := hp
      split at hp
      · cases hp
      · cases hp
        simp only [Instr.field, Sem.run_bind, run_underlying hu, Result.andThen_ok, hfd, asAgg, Sem.run_pure, part, h1, h2, if_true]
    · cases hp
  · cases hx
theorem run_ix {t e : TypeId} {inf : TypeInfo} (ht : P.underlying t = some (.slice e)) (hi : P.info? e = some inf) {x y v : Value} (hx : ixV inf.size x y = some v) : (Instr.indexAt t x y).run P w = .ok v w := by
  unfold ixV at hx
  split at hx
  · split at hx
    · rename_i hb; cases hx
      simp [Instr.indexAt, asIntOf, Go.sizeOf, typeInfo, run_underlying ht, hi, hb.1, hb.2]
    · cases hx
  · cases hx
theorem run_sidx {t : TypeId} (ht : P.underlying t = some .string) {x y v : Value} (hx : sidxV x y = some v) : (Instr.index t x y).run P w = .ok v w := by
  unfold sidxV at hx
  split at hx
  · split at hx
    · rename_i hb
      simp only [Option.map_eq_some_iff] at hx
      obtain ⟨b, hb', rfl⟩ := hx
      simp [Instr.index, asIntOf, run_underlying ht, hb, hb']
    · cases hx
  · cases hx
theorem run_ext {n : Nat} {x v : Value} (hx : extV n x = some v) : (Instr.extract x n).run P w = .ok v w := by
  unfold extV at hx
  split at hx
  · simp [Instr.extract, hx]
  · cases hx
theorem run_un {op : UnOp} {x v : Value} (hx : unV op x = some v) : (Op.unary op x).run P w = .ok v w := by
  unfold unV at hx
  split at hx <;> cases hx <;> simp [Op.unary, Op.intArith]
theorem run_cvt {src dst : TypeId} {k k' : IntKind} (hs : P.underlying src = some (.int k')) (hd : P.underlying dst = some (.int k)) {x v : Value} (hx : cvtV k x = some v) : (Go.convert src dst x).run P w = .ok v w := by
  unfold cvtV at hx
  split at hx
  · cases hx; simp [Go.convert, run_underlying hs, run_underlying hd, Conv.intToInt]
  · cases hx
theorem run_ifc {t : TypeId} {d : TypeDesc} (ht : P.underlying t = some d) (hd : ∀ ms, d ≠ .interface ms) (x : Value) : (Instr.makeInterface t x).run P w = .ok (.iface t x) w := by
  simp only [Instr.makeInterface, Sem.run_bind, run_underlying ht, Result.andThen_ok]
  cases d <;> first | rfl | exact absurd rfl (hd _)
theorem run_len {t e : TypeId} (ht : P.underlying t = some (.slice e)) {ty : TypeId} {x v : Value} (hx : lenV x = some v) :
    (Builtin.len_ #[t] ty #[x]).run P w = .ok v w := by
  unfold lenV at hx
  split at hx
  · cases hx; simp [Builtin.len_, run_underlying ht, goInt]
  · cases hx
theorem run_slen {t : TypeId} (ht : P.underlying t = some .string) {ty : TypeId} {x v : Value} (hx : slenV x = some v) :
    (Builtin.len_ #[t] ty #[x]).run P w = .ok v w := by
  unfold slenV at hx
  split at hx
  · cases hx; simp [Builtin.len_, run_underlying ht, goInt]
  · cases hx
/-- What stands in an expression for a bound that is there, or not. -/
def Bnd (v : Value) (o : Option Value) : Prop := (v = .tuple #[] ∧ o = none) ∨ ∃ u, v = .tuple #[u] ∧ o = some u
theorem Bnd.spec {v : Value} {o : Option Value} {b : Option Int} (h : Bnd v o) (hb : bound? v = some b) : (o = none ∧ b = none) ∨ ∃ k i, o = some (.int k i) ∧ b = some i := by
  rcases h with ⟨rfl, rfl⟩ | ⟨u, rfl, rfl⟩
  · simp [bound?] at hb; exact .inl ⟨rfl, hb.symm⟩
  · cases u <;> simp [bound?] at hb
    exact .inr ⟨_, _, rfl, hb.symm⟩
theorem run_sliceBound {k : IntKind} {i : Int} {y : Nat} (h : 0 ≤ i ∧ i ≤ y) (c : BoundsCode) : (Instr.sliceBound (.int k i) y c).run P w = .ok i.toNat w := by
  simp [Instr.sliceBound, asIntOf, h]
theorem run_sliceBounds {isS : Bool} {len cap : Nat} {lo hi mx : Option Value} {l h q : Option Int}
    (hl : (lo = none ∧ l = none) ∨ ∃ k i, lo = some (.int k i) ∧ l = some i) (hh : (hi = none ∧ h = none) ∨ ∃ k i, hi = some (.int k i) ∧ h = some i)
    (hq : (mx = none ∧ q = none) ∨ ∃ k i, mx = some (.int k i) ∧ q = some i) {r : Nat × Nat × Nat} (hr : slcB len cap l h q = some r) :
    (Instr.sliceBounds isS len cap lo hi mx).run P w = .ok r w := by
  unfold slcB at hr
  simp only [Option.bind_eq_some_iff, Option.map_eq_some_iff] at hr
  obtain ⟨m', hm, h', hh', l', hl', rfl⟩ := hr
  rcases hq with ⟨rfl, rfl⟩ | ⟨k, i, rfl, rfl⟩
  · cases hm
    rcases hh with ⟨rfl, rfl⟩ | ⟨k2, i2, rfl, rfl⟩
    · cases hh'
      rcases hl with ⟨rfl, rfl⟩ | ⟨k3, i3, rfl, rfl⟩
      · cases hl'; simp [Instr.sliceBounds]
      · dsimp only at hl'; split at hl'
        · rename_i hc; cases hl'; simp [Instr.sliceBounds, run_sliceBound hc]
        · cases hl'
    · simp only [Option.isSome_none, Option.isSome_some, Bool.false_eq_true, if_false, if_true] at hh'; split at hh'
      · rename_i hc2; cases hh'
        rcases hl with ⟨rfl, rfl⟩ | ⟨k3, i3, rfl, rfl⟩
        · cases hl'; simp [Instr.sliceBounds, run_sliceBound hc2]
        · dsimp only at hl'; split at hl'
          · rename_i hc; cases hl'; simp [Instr.sliceBounds, run_sliceBound hc2, run_sliceBound hc]
          · cases hl'
      · cases hh'
  · dsimp only at hm; split at hm
    · rename_i hc1; cases hm
      rcases hh with ⟨rfl, rfl⟩ | ⟨k2, i2, rfl, rfl⟩
      · simp at hh'
      · simp only [Option.isSome_none, Option.isSome_some, Bool.false_eq_true, if_false, if_true] at hh'; split at hh'
        · rename_i hc2; cases hh'
          rcases hl with ⟨rfl, rfl⟩ | ⟨k3, i3, rfl, rfl⟩
          · cases hl'; simp [Instr.sliceBounds, run_sliceBound hc1, run_sliceBound hc2]
          · dsimp only at hl'; split at hl'
            · rename_i hc; cases hl'; simp [Instr.sliceBounds, run_sliceBound hc1, run_sliceBound hc2, run_sliceBound hc]
            · cases hl'
        · cases hh'
    · cases hm
theorem run_slc {t e : TypeId} {inf : TypeInfo} (ht : P.underlying t = some (.slice e)) (hi : P.info? e = some inf) {x vl vh vq v : Value} {lo hi' mx : Option Value}
    (hl : Bnd vl lo) (hh : Bnd vh hi') (hq : Bnd vq mx) (hx : slcV inf.size x vl vh vq = some v) : (Instr.sliceAt t x lo hi' mx).run P w = .ok v w := by
  unfold slcV at hx
  simp only [Option.bind_eq_some_iff] at hx
  obtain ⟨l, hl', h, hh', q, hq', hx⟩ := hx
  split at hx
  · rename_i a len cap
    simp only [Option.map_eq_some_iff] at hx
    obtain ⟨⟨l1, h1, m1⟩, hr, rfl⟩ := hx
    have := run_sliceBounds (P := P) (w := w) (isS := true) (hl.spec hl') (hh.spec hh') (hq.spec hq') hr
    simp [Instr.sliceAt, Instr.slice, run_underlying ht, this, Go.sizeOf, typeInfo, hi]
  · cases hx
theorem run_sslc {t : TypeId} (ht : P.underlying t = some .string) {x vl vh v : Value} {lo hi' : Option Value}
    (hl : Bnd vl lo) (hh : Bnd vh hi') (hx : sslcV x vl vh = some v) : (Instr.sliceAt t x lo hi' none).run P w = .ok v w := by
  unfold sslcV at hx
  simp only [Option.bind_eq_some_iff] at hx
  obtain ⟨l, hl', h, hh', hx⟩ := hx
  split at hx
  · rename_i s
    simp only [Option.map_eq_some_iff] at hx
    obtain ⟨⟨l1, h1, m1⟩, hr, rfl⟩ := hx
    have := run_sliceBounds (P := P) (w := w) (isS := false) (hl.spec hl') (hh.spec hh') (.inl ⟨rfl, rfl⟩) hr
    simp [Instr.sliceAt, Instr.slice, run_underlying ht, this]
  · cases hx
end
end Go.Proofs.Ytaifmmeghninhaa.Mw
