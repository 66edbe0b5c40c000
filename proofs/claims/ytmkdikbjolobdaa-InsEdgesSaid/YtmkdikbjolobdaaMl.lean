/- Words for proofs over the statements: environments, memory that is read, data in memory. No condition. -/
import Derived.Test.YtmkdikbjolobdaaMn
namespace Go.Proofs.Ytmkdikbjolobdaa.Mw
open Go Go.RowKit
set_option linter.unusedVariables false
set_option linter.unusedSimpArgs false
theorem updO_some (ρ : Env) (i : Nat) (v : Value) : ρ.updO (some i) v = ρ.upd i v := rfl
theorem updO_none (ρ : Env) (v : Value) : ρ.updO none v = ρ := rfl
theorem upds_nil (ρ : Env) : ρ.upds [] = ρ := rfl
theorem upds_cons (ρ : Env) (i : Nat) (v : Value) (l : List (Nat × Value)) : ρ.upds ((i, v) :: l) = (ρ.upd i v).upds l := rfl
theorem argEnv_0 (a : Value) (l : List Value) : argEnv (a :: l) 0 = a := rfl
theorem argEnv_1 (a b : Value) (l : List Value) : argEnv (a :: b :: l) 1 = b := rfl
theorem argEnv_2 (a b c : Value) (l : List Value) : argEnv (a :: b :: c :: l) 2 = c := rfl
theorem argEnv_3 (a b c d : Value) (l : List Value) : argEnv (a :: b :: c :: d :: l) 3 = d := rfl
theorem argEnv_4 (a b c d e : Value) (l : List Value) : argEnv (a :: b :: c :: d :: e :: l) 4 = e := rfl
theorem argEnv_5 (a b c d e f : Value) (l : List Value) : argEnv (a :: b :: c :: d :: e :: f :: l) 5 = f := rfl
theorem of_tmp (ρ : Env) (t : Nat) : ρ.of (.tmp t) = ρ t := rfl
theorem of_const (ρ : Env) (v : Value) : ρ.of (.const v) = v := rfl
theorem addA (b o n : Nat) : (⟨b, o, none⟩ : Addr).add n = ⟨b, o + n, none⟩ := by unfold Addr.add; split <;> simp_all

/-! ### Values -/
theorem add_i64 (x y : Int) : binV .add (.int .i64 x) (.int .i64 y) = some (.int .i64 (wrap64 (x + y))) := by simp [binV, intV, IntKind.wrap_i64, wrap64]
theorem sub_i64 (x y : Int) : binV .sub (.int .i64 x) (.int .i64 y) = some (.int .i64 (wrap64 (x - y))) := by simp [binV, intV, IntKind.wrap_i64, wrap64]
theorem mul_i64 (x y : Int) : binV .mul (.int .i64 x) (.int .i64 y) = some (.int .i64 (wrap64 (x * y))) := by simp [binV, intV, IntKind.wrap_i64, wrap64]
theorem rem_g (k : IntKind) (x y : Int) : binV .rem (.int k x) (.int k y) = if y = 0 then none else some (.int k (x.tmod y)) := by simp [binV, intV]
theorem quo_i64 (x y : Int) : binV .quo (.int .i64 x) (.int .i64 y) = if y = 0 then none else some (.int .i64 (wrap64 (x.tdiv y))) := by simp [binV, intV, IntKind.wrap_i64, wrap64]
theorem add_u64 (x y : Int) : binV .add (.int .u64 x) (.int .u64 y) = some (.int .u64 ((x + y) % 18446744073709551616)) := by simp [binV, intV, IntKind.wrap_u64]
theorem mul_u64 (x y : Int) : binV .mul (.int .u64 x) (.int .u64 y) = some (.int .u64 ((x * y) % 18446744073709551616)) := by simp [binV, intV, IntKind.wrap_u64]
theorem cvt_i64 (k' : IntKind) (x : Int) : cvtV .i64 (.int k' x) = some (.int .i64 (wrap64 x)) := by simp [cvtV, IntKind.wrap_i64, wrap64]
theorem cvt_u64 (k' : IntKind) (x : Int) : cvtV .u64 (.int k' x) = some (.int .u64 (x % 18446744073709551616)) := by simp [cvtV, IntKind.wrap_u64]
theorem cvt_u8 (k' : IntKind) (x : Int) : cvtV .u8 (.int k' x) = some (.int .u8 (x % 256)) := by simp [cvtV, IntKind.wrap_u8]
theorem cvt_u32 (k' : IntKind) (x : Int) : cvtV .u32 (.int k' x) = some (.int .u32 (x % 4294967296)) := by simp [cvtV, IntKind.wrap_u32]
theorem cvt_i32 (k' : IntKind) (x : Int) : cvtV .i32 (.int k' x) = some (.int .i32 (wrap32 x)) := by simp [cvtV, IntKind.wrap_i32, wrap32]
theorem eql_int (k : IntKind) (x y : Int) : binV .eql (.int k x) (.int k y) = some (.bool (decide (x = y))) := by simp [binV, intV, cmpV]; rfl
theorem neq_int (k : IntKind) (x y : Int) : binV .neq (.int k x) (.int k y) = some (.bool (decide (¬ x = y))) := by
  simp [binV, intV, cmpV]; by_cases h : x = y <;> simp [h]
theorem lss_int (k : IntKind) (x y : Int) : binV .lss (.int k x) (.int k y) = some (.bool (decide (x < y))) := by simp [binV, intV, cmpV]
theorem leq_int (k : IntKind) (x y : Int) : binV .leq (.int k x) (.int k y) = some (.bool (decide (x ≤ y))) := by simp [binV, intV, cmpV]
theorem gtr_int (k : IntKind) (x y : Int) : binV .gtr (.int k x) (.int k y) = some (.bool (decide (y < x))) := by simp [binV, intV, cmpV]
theorem geq_int (k : IntKind) (x y : Int) : binV .geq (.int k x) (.int k y) = some (.bool (decide (y ≤ x))) := by simp [binV, intV, cmpV]
theorem eqb_b (x y : Bool) : eqbV false (.bool x) (.bool y) = some (.bool (x == y)) := rfl
theorem neb_b (x y : Bool) : eqbV true (.bool x) (.bool y) = some (.bool (!(x == y))) := rfl
theorem eqn_some (a : Addr) : eqnV false (.pointer (some a)) (.pointer none) = some (.bool false) := rfl
theorem eqn_none : eqnV false (.pointer none) (.pointer none) = some (.bool true) := rfl
theorem nen_some (a : Addr) : eqnV true (.pointer (some a)) (.pointer none) = some (.bool true) := rfl
theorem nen_none : eqnV true (.pointer none) (.pointer none) = some (.bool false) := rfl
theorem not_b (x : Bool) : unV .not (.bool x) = some (.bool !x) := rfl
theorem neg_i64 (x : Int) : unV .neg (.int .i64 x) = some (.int .i64 (wrap64 (0 - x))) := by simp [unV, IntKind.wrap_i64, wrap64]
theorem cvt_int (k k' : IntKind) (x : Int) : cvtV k (.int k' x) = some (.int k (k.wrap x)) := rfl
theorem pick_b (c : Bool) (x y : Value) : pickV (.bool c) x y = some (if c then x else y) := rfl
theorem ld_p (m : Mem) (a : Addr) : ldV m (.pointer (some a)) = m.get a := rfl
theorem ldn_p (m : Mem) (n : Nat) (a : Addr) : ldnV m n (.pointer (some a)) = (m.row a n).map fun l => .agg l.toArray := rfl
theorem fa_p (n b o : Nat) : faV n (.pointer (some ⟨b, o, none⟩)) = some (.pointer (some ⟨b, o + n, none⟩)) := by simp [faV, addA]
theorem nck_p (a : Addr) : nckV (.pointer (some a)) = some (.pointer (some a)) := rfl
theorem len_s (a : Option Addr) (n c : Nat) : lenV (.slice a n c) = some (.int .i64 n) := rfl
theorem slen_s (s : ByteArray) : slenV (.string s) = some (.int .i64 s.size) := rfl
theorem ext_t (n : Nat) (vs : Array Value) : extV n (.tuple vs) = vs[n]? := rfl
theorem cs_t (v : Value) (vs : Array Value) : csV v (.tuple vs) = some (.tuple (#[v] ++ vs)) := rfl
theorem fld_a (n : Nat) (cs : Array Value) : fldV n (.agg cs) = cs[n]? := rfl
theorem ix_at (sz b o n c : Nat) (k : IntKind) (i : Int) (h0 : 0 ≤ i) (h1 : i < n) : ixV sz (.slice (some ⟨b, o, none⟩) n c) (.int k i) = some (.pointer (some ⟨b, o + i.toNat * sz, none⟩)) := by
  simp [ixV, h0, h1, addA]
theorem ix_nat (sz b o n c : Nat) (k : IntKind) (i : Nat) (h1 : i < n) : ixV sz (.slice (some ⟨b, o, none⟩) n c) (.int k (i : Int)) = some (.pointer (some ⟨b, o + i * sz, none⟩)) := by
  rw [ix_at _ _ _ _ _ _ _ (by omega) (by omega)]; simp
theorem andK_b (x : Bool) (e : Option Value) : andK (.bool x) e = if x then e else some (.bool false) := rfl
theorem orK_b (x : Bool) (e : Option Value) : orK (.bool x) e = if x then some (.bool true) else e := rfl
theorem grdK_b (w x : Bool) (e : Option Value) : grdK w (.bool x) e = if x = w then e else some undef := rfl
theorem andK_bb (x y : Bool) : andK (.bool x) (some (.bool y)) = some (.bool (x && y)) := by cases x <;> rfl
theorem orK_bb (x y : Bool) : orK (.bool x) (some (.bool y)) = some (.bool (x || y)) := by cases x <;> rfl
theorem andK_of {x y : Bool} {e : Option Value} (h : x = true → e = some (.bool y)) : andK (.bool x) e = some (.bool (x && y)) := by
  cases x
  · rfl
  · rw [h rfl]; rfl
theorem orK_of {x y : Bool} {e : Option Value} (h : x = false → e = some (.bool y)) : orK (.bool x) e = some (.bool (x || y)) := by
  cases x
  · rw [h rfl]; rfl
  · rfl
/-- It reads only: what it has made besides is let go. -/
theorem RO.of {P : Program} {f : FuncId} {args : List Value} {v : Value} {m : Mem} (h : MC P f args (fun v' m' => v' = v ∧ Grows m m') m) : RO P f args v m :=
  h.drop fun v' m' ⟨h1, h2⟩ => ⟨m, h2, h1, rfl⟩
theorem w64 {x : Int} (h : -9223372036854775808 ≤ x ∧ x ≤ 9223372036854775807) : wrap64 x = x := by unfold wrap64; omega
theorem w64n (n : Nat) (h : (n : Int) ≤ 9223372036854775807) : wrap64 (n : Int) = n := by unfold wrap64; omega

/-! ### Memory -/
theorem get_same (m : Mem) (b o ty n : Nat) (f : Bool) (cs : List Value) : (m.ins b (.cells ty n f cs)).get ⟨b, o, none⟩ = cs[o]? := by simp [Mem.get]
theorem get_ne (m : Mem) {b b' o : Nat} (B : Blk) (h : b' ≠ b) : (m.ins b B).get ⟨b', o, none⟩ = m.get ⟨b', o, none⟩ := by simp [Mem.get, Mem.ins_ne m B h]
theorem row_same (m : Mem) (b o k ty n : Nat) (f : Bool) (cs : List Value) : (m.ins b (.cells ty n f cs)).row ⟨b, o, none⟩ k = if o + k ≤ cs.length then some ((cs.drop o).take k) else none := by simp [Mem.row]
theorem row_ne (m : Mem) {b b' o k : Nat} (B : Blk) (h : b' ≠ b) : (m.ins b B).row ⟨b', o, none⟩ k = m.row ⟨b', o, none⟩ k := by simp [Mem.row, Mem.ins_ne m B h]
theorem row_mk {m : Mem} {b o : Nat} {l : List Value} (hne : 0 < l.length) (h : ∀ i (hi : i < l.length), m.get ⟨b, o + i, none⟩ = some l[i]) : m.row ⟨b, o, none⟩ l.length = some l := by
  have h0 := h 0 hne
  unfold Mem.get at h0
  unfold Mem.row
  simp only at h0 ⊢
  cases hb : m b with
  | none => rw [hb] at h0; cases h0
  | some B =>
    cases B with
    | obj o => rw [hb] at h0; cases h0
    | cells ty n f cs =>
      simp only
      have hl := h (l.length - 1) (by omega)
      unfold Mem.get at hl
      simp only [hb] at hl
      have hle := (List.getElem?_eq_some_iff.1 hl).1
      rw [if_pos (by omega)]
      congr 1
      apply List.ext_getElem
      · simp; omega
      · intro i h1 h2
        have hi := h i h2
        unfold Mem.get at hi
        simp only [hb] at hi
        have := (List.getElem?_eq_some_iff.1 hi).2
        simp only [List.getElem_take, List.getElem_drop]
        exact this
theorem row2 {m : Mem} {b o : Nat} {x y : Value} (h0 : m.get ⟨b, o, none⟩ = some x) (h1 : m.get ⟨b, o + 1, none⟩ = some y) : m.row ⟨b, o, none⟩ 2 = some [x, y] :=
  row_mk (l := [x, y]) (by simp) fun i hi => by
    match i, hi with
    | 0, _ => exact h0
    | 1, _ => exact h1
theorem row3 {m : Mem} {b o : Nat} {x y z : Value} (h0 : m.get ⟨b, o, none⟩ = some x) (h1 : m.get ⟨b, o + 1, none⟩ = some y) (h2 : m.get ⟨b, o + 2, none⟩ = some z) : m.row ⟨b, o, none⟩ 3 = some [x, y, z] :=
  row_mk (l := [x, y, z]) (by simp) fun i hi => by
    match i, hi with
    | 0, _ => exact h0
    | 1, _ => exact h1
    | 2, _ => exact h2
/-! What is known behind a new block. -/
section new
variable {m m1 : Mem} {b ty n : Nat} {f : Bool} {cs : List Value} (hb : m b = none) (hm : m1 = m.ins b (.cells ty n f cs))
include hm in
theorem new_get (o : Nat) {v : Value} (h : cs[o]? = some v) : m1.get ⟨b, o, none⟩ = some v := by rw [hm, get_same]; exact h
include hm in
theorem new_row (o k : Nat) (h : o + k ≤ cs.length) : m1.row ⟨b, o, none⟩ k = some ((cs.drop o).take k) := by rw [hm, row_same, if_pos h]
include hm in
theorem new_at : m1 b = some (.cells ty n f cs) := by rw [hm, Mem.ins_same]
include hb hm in
theorem new_grows : Grows m m1 := by rw [hm]; exact Grows.ins m _ hb
end new
/-- A cell of a block that nobody writes. -/
def Mem.fget (m : Mem) (b o : Nat) : Option Value :=
  match m b with
  | some (.cells _ _ true cs) => cs[o]?
  | _ => none
theorem fget_get {m : Mem} {b o : Nat} {v : Value} (h : m.fget b o = some v) : m.get ⟨b, o, none⟩ = some v := by
  unfold Mem.fget at h
  split at h
  · rename_i hb; simp [Mem.get, hb, h]
  · cases h
theorem get_some_ne {m : Mem} {b b' o : Nat} {v : Value} (h : m.get ⟨b, o, none⟩ = some v) (hb : m b' = none) : b ≠ b' := by
  rintro rfl; simp [Mem.get, hb] at h
/-- What is written no more stays. -/
def Fin (m m' : Mem) : Prop := ∀ b B, m b = some B → B.isFin = true → m' b = some B
theorem Fin.refl (m : Mem) : Fin m m := fun _ _ h _ => h
theorem Fin.trans {a b c : Mem} (h : Fin a b) (k : Fin b c) : Fin a c := fun x B hx hf => k x B (h x B hx hf) hf
theorem Grows.toFin {m m' : Mem} (h : Grows m m') : Fin m m' := fun b B hb _ => h b B hb
theorem Fin.ins {m : Mem} {b : Nat} (B : Blk) (h : m b = none) : Fin m (m.ins b B) := (Grows.ins m B h).toFin
theorem Fin.write {m : Mem} {b ty n : Nat} {cs : List Value} (B : Blk) (h : m b = some (.cells ty n false cs)) : Fin m (m.ins b B) := fun x C hx hf => by
  rw [Mem.ins_ne]; exact hx
  rintro rfl; rw [h] at hx; cases hx; cases hf
theorem Fin.fget {m m' : Mem} (h : Fin m m') {b o : Nat} {v : Value} (hg : m.fget b o = some v) : m'.fget b o = some v := by
  unfold Mem.fget at *
  split at hg
  · rename_i hb; rw [h _ _ hb rfl]; exact hg
  · cases hg

/-! ### Data -/
abbrev AtK (α : Type) := Mem → Nat → Nat → α → Prop
def AtInt (k : IntKind) : AtK Int := fun m b o x => m.fget b o = some (.int k x)
def AtBool : AtK Bool := fun m b o x => m.fget b o = some (.bool x)
/-- A slice reads as a list. -/
def Sl {α : Type} (sz : Nat) (A : AtK α) (m : Mem) (v : Value) (l : List α) : Prop :=
  ∃ a c, v = .slice a l.length c ∧ l.length ≤ 140737488351232 ∧ (0 < l.length → ∃ b o, a = some ⟨b, o, none⟩ ∧ ∀ i (h : i < l.length), A m b (o + i * sz) l[i])
def MonoA {α : Type} (A : AtK α) : Prop := ∀ {m m' : Mem} {b o : Nat} {x : α}, Fin m m' → A m b o x → A m' b o x
theorem AtInt.mono (k : IntKind) : MonoA (AtInt k) := fun h g => h.fget g
theorem AtBool.mono : MonoA AtBool := fun h g => h.fget g
theorem Sl.mono {α : Type} {sz : Nat} {A : AtK α} (hA : MonoA A) {m m' : Mem} {v : Value} {l : List α} (hf : Fin m m') (h : Sl sz A m v l) : Sl sz A m' v l := by
  obtain ⟨a, c, h1, h2, h3⟩ := h
  exact ⟨a, c, h1, h2, fun hl => let ⟨b, o, e, g⟩ := h3 hl; ⟨b, o, e, fun i hi => hA hf (g i hi)⟩⟩
theorem Sl.len {α : Type} {sz : Nat} {A : AtK α} {m : Mem} {v : Value} {l : List α} (h : Sl sz A m v l) : lenV v = some (.int .i64 l.length) := by
  obtain ⟨a, c, rfl, _⟩ := h; rfl
theorem Sl.bound {α : Type} {sz : Nat} {A : AtK α} {m : Mem} {v : Value} {l : List α} (h : Sl sz A m v l) : l.length ≤ 140737488351232 := by
  obtain ⟨a, c, rfl, h, _⟩ := h; exact h
theorem Sl.ix {α : Type} {sz : Nat} {A : AtK α} {m : Mem} {v : Value} {l : List α} (h : Sl sz A m v l) (k : IntKind) (i : Nat) (hi : i < l.length) :
    ∃ b o, ixV sz v (.int k (i : Int)) = some (.pointer (some ⟨b, o, none⟩)) ∧ A m b o l[i] := by
  obtain ⟨a, c, rfl, _, h⟩ := h
  obtain ⟨b, o, rfl, h2⟩ := h (by omega)
  exact ⟨b, o + i * sz, ix_nat _ _ _ _ _ _ _ hi, h2 i hi⟩
end Go.Proofs.Ytmkdikbjolobdaa.Mw
