/- Deep values: what is read no more than read is a value, without memory; what is written stands in blocks. No condition. -/
import Derived.Test.YtaifmmeghninhaaMn
namespace Go.Proofs.Ytaifmmeghninhaa.Mw
open Go Go.RowKit
set_option linter.unusedVariables false
set_option linter.unusedSimpArgs false

inductive DV where
  | int (k : IntKind) (x : Int)
  | bool (b : Bool)
  | str (s : ByteArray)
  | nilp
  | mp (b o : Nat)
  | ip (cs : List DV)
  | isl (n : Nat) (cs : List DV)
  | zsl
  | msl (b o n c : Nat)
  | agg (cs : List DV)
  | tup (cs : List DV)
  | fn (f : Fn) (first caps : List DV)
  | ifc (t : TypeId) (d : DV)
  | raw (v : Value)
  | csl (n : Nat) (cs : List DV)

mutual
def Rep (m : Mem) : DV → Value → Prop
  | .int k x, v => v = .int k x
  | .bool b, v => v = .bool b
  | .str s, v => v = .string s
  | .nilp, v => v = .pointer none
  | .mp b o, v => v = .pointer (some ⟨b, o, none⟩)
  | .ip cs, v => ∃ b o ty N full, v = .pointer (some ⟨b, o, none⟩) ∧ m b = some (.cells ty N true full) ∧ RepP m cs (full.drop o)
  | .isl n cs, v => ∃ a c, v = .slice a n c ∧ n ≤ c ∧ (0 < n → ∃ b o ty N full, a = some ⟨b, o, none⟩ ∧ m b = some (.cells ty N true full) ∧ RepP m cs (full.drop o))
  | .zsl, v => ∃ a, v = .slice a 0 0
  | .msl b o n c, v => v = .slice (some ⟨b, o, none⟩) n c
  | .agg cs, v => ∃ vs : List Value, v = .agg vs.toArray ∧ RepP m cs vs ∧ cs.length = vs.length
  | .tup cs, v => ∃ vs : List Value, v = .tuple vs.toArray ∧ RepP m cs vs ∧ cs.length = vs.length
  | .fn f a b, v => ∃ x y : List Value, v = .func f x.toArray y.toArray ∧ RepP m a x ∧ a.length = x.length ∧ RepP m b y ∧ b.length = y.length
  | .ifc t d, v => ∃ x, v = .iface t x ∧ Rep m d x
  | .raw u, v => v = u
  | .csl n cs, v => ∃ b o ty N full, v = .slice (some ⟨b, o, none⟩) n n ∧ m b = some (.cells ty N true full) ∧ RepP m cs (full.drop o)
def RepP (m : Mem) : List DV → List Value → Prop
  | [], _ => True
  | d :: ds, v :: vs => Rep m d v ∧ RepP m ds vs
  | _ :: _, [] => False
end
/-- One for one. -/
def RepL (m : Mem) (ds : List DV) (vs : List Value) : Prop := RepP m ds vs ∧ ds.length = vs.length
/-- What nobody writes any more is there still. -/
def Fin (m m' : Mem) : Prop := ∀ b B, m b = some B → B.isFin = true → m' b = some B
theorem Fin.refl (m : Mem) : Fin m m := fun _ _ h _ => h
theorem Fin.trans {a b c : Mem} (h : Fin a b) (k : Fin b c) : Fin a c := fun x B hx hf => k x B (h x B hx hf) hf
theorem Grows.toFin {m m' : Mem} (h : Grows m m') : Fin m m' := fun b B hb _ => h b B hb
mutual
theorem Rep.mono {m m' : Mem} (h : Fin m m') : ∀ {d : DV} {v : Value}, Rep m d v → Rep m' d v
  | .int .., _, r | .bool .., _, r | .str .., _, r | .nilp, _, r | .mp .., _, r | .zsl, _, r | .msl .., _, r | .raw .., _, r => by simpa only [Rep] using r
  | .ip cs, v, r => by
    simp only [Rep] at r ⊢
    obtain ⟨b, o, ty, N, full, h1, h2, h3⟩ := r
    exact ⟨b, o, ty, N, full, h1, h _ _ h2 rfl, RepP.mono h h3⟩
  | .isl n cs, v, r => by
    simp only [Rep] at r ⊢
    obtain ⟨a, c, h1, h2, h3⟩ := r
    refine ⟨a, c, h1, h2, fun hn => ?_⟩
    obtain ⟨b, o, ty, N, full, h4, h5, h6⟩ := h3 hn
    exact ⟨b, o, ty, N, full, h4, h _ _ h5 rfl, RepP.mono h h6⟩
  | .agg cs, v, r => by
    simp only [Rep] at r ⊢
    obtain ⟨vs, h1, h2, h3⟩ := r
    exact ⟨vs, h1, RepP.mono h h2, h3⟩
  | .tup cs, v, r => by
    simp only [Rep] at r ⊢
    obtain ⟨vs, h1, h2, h3⟩ := r
    exact ⟨vs, h1, RepP.mono h h2, h3⟩
  | .fn f a b, v, r => by
    simp only [Rep] at r ⊢
    obtain ⟨x, y, h1, h2, h3, h4, h5⟩ := r
    exact ⟨x, y, h1, RepP.mono h h2, h3, RepP.mono h h4, h5⟩
  | .ifc t d, v, r => by
    simp only [Rep] at r ⊢
    obtain ⟨x, h1, h2⟩ := r
    exact ⟨x, h1, Rep.mono h h2⟩
  | .csl n cs, v, r => by
    simp only [Rep] at r ⊢
    obtain ⟨b, o, ty, N, full, h1, h2, h3⟩ := r
    exact ⟨b, o, ty, N, full, h1, h _ _ h2 rfl, RepP.mono h h3⟩
theorem RepP.mono {m m' : Mem} (h : Fin m m') : ∀ {ds : List DV} {vs : List Value}, RepP m ds vs → RepP m' ds vs
  | [], _, _ => by simp only [RepP]
  | _ :: _, [], r => by simp only [RepP] at r
  | d :: ds, v :: vs, r => by
    simp only [RepP] at r ⊢
    exact ⟨Rep.mono h r.1, RepP.mono h r.2⟩
end
theorem RepL.mono {m m' : Mem} (h : Fin m m') {ds : List DV} {vs : List Value} (r : RepL m ds vs) : RepL m' ds vs := ⟨r.1.mono h, r.2⟩
theorem RepP.drop {m : Mem} : ∀ {ds : List DV} {vs : List Value} (n : Nat), RepP m ds vs → RepP m (ds.drop n) (vs.drop n)
  | [], _, n, _ => by simp [RepP]
  | _ :: _, [], n, r => by simp only [RepP] at r
  | d :: ds, v :: vs, 0, r => r
  | d :: ds, v :: vs, n + 1, r => by
    simp only [RepP] at r
    simpa using RepP.drop n r.2
theorem RepP.take {m : Mem} : ∀ {ds : List DV} {vs : List Value} (n : Nat), RepP m ds vs → RepP m (ds.take n) vs
  | [], _, n, _ => by simp [RepP]
  | _ :: _, [], n, r => by simp only [RepP] at r
  | d :: ds, v :: vs, 0, r => by simp [RepP]
  | d :: ds, v :: vs, n + 1, r => by
    simp only [RepP] at r
    simp only [List.take_succ_cons, RepP]
    exact ⟨r.1, RepP.take n r.2⟩
theorem RepP.le {m : Mem} : ∀ {ds : List DV} {vs : List Value}, RepP m ds vs → ds.length ≤ vs.length
  | [], _, _ => by simp
  | _ :: _, [], r => by simp only [RepP] at r
  | d :: ds, v :: vs, r => by
    simp only [RepP] at r
    have := RepP.le r.2
    simp only [List.length_cons]; omega
theorem RepP.trunc {m : Mem} : ∀ {ds : List DV} {vs : List Value} {n : Nat}, RepP m ds vs → ds.length ≤ n → RepP m ds (vs.take n)
  | [], _, n, _, _ => by simp [RepP]
  | _ :: _, [], n, r, _ => by simp only [RepP] at r
  | d :: ds, v :: vs, 0, r, h => by simp at h
  | d :: ds, v :: vs, n + 1, r, h => by
    simp only [RepP] at r
    simp only [List.take_succ_cons, RepP]
    exact ⟨r.1, RepP.trunc r.2 (by simpa using h)⟩
/-- The first n of them, one for one. -/
theorem RepP.rowL {m : Mem} {ds : List DV} {vs : List Value} {n : Nat} (r : RepP m ds vs) (h : n ≤ ds.length) : RepL m (ds.take n) (vs.take n) := by
  have := r.le
  refine ⟨(r.take n).trunc (by simp; omega), by simp; omega⟩
theorem RepP.get {m : Mem} : ∀ {ds : List DV} {vs : List Value} {i : Nat} {d : DV}, RepP m ds vs → ds[i]? = some d → ∃ v, vs[i]? = some v ∧ Rep m d v
  | [], _, _, _, _, h => by simp at h
  | _ :: _, [], _, _, r, _ => by simp only [RepP] at r
  | d :: ds, v :: vs, 0, e, r, h => by
    simp only [RepP] at r
    simp at h; subst h
    exact ⟨v, rfl, r.1⟩
  | d :: ds, v :: vs, i + 1, e, r, h => by
    simp only [RepP] at r
    simp only [List.getElem?_cons_succ] at h ⊢
    exact RepP.get r.2 h
theorem RepP.append {m : Mem} : ∀ {ds ds' : List DV} {vs vs' : List Value}, RepP m ds vs → ds.length = vs.length → RepP m ds' vs' → RepP m (ds ++ ds') (vs ++ vs')
  | [], ds', [], vs', _, _, r => r
  | [], _, _ :: _, _, _, h, _ => by simp at h
  | _ :: _, _, [], _, r, _, _ => by simp only [RepP] at r
  | d :: ds, ds', v :: vs, vs', r, h, r' => by
    simp only [RepP] at r
    simp only [List.cons_append, RepP]
    exact ⟨r.1, RepP.append r.2 (by simpa using h) r'⟩
theorem RepL.append {m : Mem} {ds ds' : List DV} {vs vs' : List Value} (r : RepL m ds vs) (r' : RepL m ds' vs') : RepL m (ds ++ ds') (vs ++ vs') := ⟨r.1.append r.2 r'.1, by simp [r.2, r'.2]⟩
theorem RepL.nil (m : Mem) : RepL m [] [] := ⟨by simp only [RepP], rfl⟩
theorem RepL.cons {m : Mem} {d : DV} {v : Value} {ds : List DV} {vs : List Value} (h : Rep m d v) (r : RepL m ds vs) : RepL m (d :: ds) (v :: vs) := ⟨by simp only [RepP]; exact ⟨h, r.1⟩, by simp [r.2]⟩
theorem RepL.drop {m : Mem} {ds : List DV} {vs : List Value} (r : RepL m ds vs) (n : Nat) : RepL m (ds.drop n) (vs.drop n) := ⟨r.1.drop n, by simp [r.2]⟩
theorem RepL.take {m : Mem} {ds : List DV} {vs : List Value} (r : RepL m ds vs) (n : Nat) : RepL m (ds.take n) (vs.take n) := ⟨(r.1.take n).trunc (by simp; omega), by simp [r.2]⟩

/-! ### What is written -/
structure DBlk where
  ty : TypeId
  n : Nat
  cs : List DV
abbrev DMem := Nat → Option DBlk
def DMem.ins (M : DMem) (b : Nat) (B : DBlk) : DMem := fun x => if x = b then some B else M x
def DMem.del (M : DMem) (b : Nat) : DMem := fun x => if x = b then none else M x
def DMem.mt : DMem := fun _ => none
@[simp] theorem DMem.ins_same (M : DMem) (b : Nat) (B : DBlk) : M.ins b B b = some B := by simp [DMem.ins]
theorem DMem.ins_ne (M : DMem) {b x : Nat} (B : DBlk) (h : x ≠ b) : M.ins b B x = M x := by simp [DMem.ins, h]
theorem DMem.ins_none (M : DMem) (b x : Nat) (B : DBlk) : M.ins b B x = none ↔ x ≠ b ∧ M x = none := by
  unfold DMem.ins; split <;> simp_all
/-- The package-level variables that are told, each with what it holds. -/
def globs : List (Nat × Value) := []
def Glob (m : Mem) : Prop := ∀ b v, globs.lookup b = some v → ∃ ty, m b = some (.cells ty 1 true [v])
theorem Glob.mono {m m' : Mem} (h : Glob m) (hf : Fin m m') : Glob m' := fun b v hb => by
  obtain ⟨ty, e⟩ := h b v hb
  exact ⟨ty, hf _ _ e rfl⟩
structure RepM (M : DMem) (m : Mem) : Prop where
  glob : Glob m
  blk : ∀ b B, M b = some B → ∃ vs, m b = some (.cells B.ty B.n false vs) ∧ RepL m B.cs vs
instance {M : DMem} {m : Mem} : CoeFun (RepM M m) (fun _ => ∀ b B, M b = some B → ∃ vs, m b = some (.cells B.ty B.n false vs) ∧ RepL m B.cs vs) := ⟨RepM.blk⟩
theorem RepM.none {M : DMem} {m : Mem} (h : RepM M m) {b : Nat} (hb : m b = .none) : M b = .none := by
  cases hM : M b with
  | none => rfl
  | some B => obtain ⟨vs, h1, _⟩ := h b B hM; rw [hb] at h1; cases h1
theorem RepM.mt {m : Mem} (h : Glob m) : RepM DMem.mt m := ⟨h, fun b B h => by cases h⟩

/-! ### Values and deep values -/
def DV.v0 : DV → Option Value
  | .int k x => some (.int k x)
  | .bool b => some (.bool b)
  | .str s => some (.string s)
  | .nilp => some (.pointer none)
  | .raw v => some v
  | _ => none
/-- The value that a flat one stands for. -/
def DV.v1 : DV → Option Value
  | .int k x => some (.int k x)
  | .bool b => some (.bool b)
  | .str s => some (.string s)
  | .nilp => some (.pointer none)
  | .raw v => some v
  | .agg cs => (cs.mapM DV.v0).map fun l => .agg l.toArray
  | .tup cs => (cs.mapM DV.v0).map fun l => .tuple l.toArray
  | _ => none
theorem v0_rep {m : Mem} {d : DV} {v : Value} (h : d.v0 = some v) : Rep m d v := by
  cases d <;> simp only [DV.v0, Option.some.injEq, reduceCtorEq] at h <;> subst h <;> simp only [Rep]
theorem v0_eq {m : Mem} {d : DV} {v u : Value} (h : d.v0 = some v) (r : Rep m d u) : u = v := by
  cases d <;> simp only [DV.v0, Option.some.injEq, reduceCtorEq] at h <;> subst h <;> simpa only [Rep] using r
theorem v0s_rep {m : Mem} : ∀ {ds : List DV} {vs : List Value}, ds.mapM DV.v0 = some vs → RepL m ds vs
  | [], vs, h => by simp at h; subst h; exact RepL.nil m
  | d :: ds, vs, h => by
    simp only [List.mapM_cons, Option.bind_eq_bind, Option.bind_eq_some_iff, Option.pure_def, Option.some.injEq] at h
    obtain ⟨v, h1, vs', h2, rfl⟩ := h
    exact (v0s_rep h2).cons (v0_rep h1)
theorem v0s_eq {m : Mem} : ∀ {ds : List DV} {vs us : List Value}, ds.mapM DV.v0 = some vs → RepL m ds us → us = vs
  | [], vs, us, h, r => by simp at h; subst h; have := r.2; cases us <;> simp_all
  | d :: ds, vs, us, h, r => by
    simp only [List.mapM_cons, Option.bind_eq_bind, Option.bind_eq_some_iff, Option.pure_def, Option.some.injEq] at h
    obtain ⟨v, h1, vs', h2, rfl⟩ := h
    cases us with
    | nil => have := r.2; simp at this
    | cons u us =>
      have r1 := r.1
      simp only [RepP] at r1
      rw [v0_eq h1 r1.1, v0s_eq h2 ⟨r1.2, by simpa using r.2⟩]
theorem v1_rep {m : Mem} {d : DV} {v : Value} (h : d.v1 = some v) : Rep m d v := by
  cases d <;> simp only [DV.v1, Option.some.injEq, reduceCtorEq, Option.map_eq_some_iff] at h
  case agg cs => obtain ⟨l, h1, rfl⟩ := h; simp only [Rep]; exact ⟨l, rfl, (v0s_rep h1).1, (v0s_rep (m := m) h1).2⟩
  case tup cs => obtain ⟨l, h1, rfl⟩ := h; simp only [Rep]; exact ⟨l, rfl, (v0s_rep h1).1, (v0s_rep (m := m) h1).2⟩
  all_goals (subst h; simp only [Rep])
theorem v1_eq {m : Mem} {d : DV} {v u : Value} (h : d.v1 = some v) (r : Rep m d u) : u = v := by
  cases d <;> simp only [DV.v1, Option.some.injEq, reduceCtorEq, Option.map_eq_some_iff] at h
  case agg cs => obtain ⟨l, h1, rfl⟩ := h; simp only [Rep] at r; obtain ⟨vs, rfl, r1, r2⟩ := r; rw [v0s_eq h1 ⟨r1, r2⟩]
  case tup cs => obtain ⟨l, h1, rfl⟩ := h; simp only [Rep] at r; obtain ⟨vs, rfl, r1, r2⟩ := r; rw [v0s_eq h1 ⟨r1, r2⟩]
  all_goals (subst h; simpa only [Rep] using r)
def of0 : Value → DV
  | .int k x => .int k x
  | .bool b => .bool b
  | .string s => .str s
  | .pointer none => .nilp
  | .slice none 0 0 => .zsl
  | v => .raw v
def ofV : Value → DV
  | .agg cs => .agg (cs.toList.map of0)
  | .func f a b => if a.size = 0 ∧ b.size = 0 then .fn f [] [] else .raw (.func f a b)
  | v => of0 v
theorem of0_rep (m : Mem) (v : Value) : Rep m (of0 v) v := by
  unfold of0
  split <;> simp only [Rep]
  exact ⟨none, rfl⟩
theorem of0s_rep (m : Mem) : ∀ vs : List Value, RepP m (vs.map of0) vs
  | [] => by simp only [List.map_nil, RepP]
  | v :: vs => by simp only [List.map_cons, RepP]; exact ⟨of0_rep m v, of0s_rep m vs⟩
theorem ofV_rep (m : Mem) (v : Value) : Rep m (ofV v) v := by
  cases v with
  | agg cs => simp only [ofV, Rep]; exact ⟨cs.toList, by simp, of0s_rep m _, by simp⟩
  | func f a b =>
    simp only [ofV]
    split
    · rename_i h
      have h1 : a = #[] := Array.eq_empty_of_size_eq_zero h.1
      have h2 : b = #[] := Array.eq_empty_of_size_eq_zero h.2
      subst h1; subst h2
      simp only [Rep]; exact ⟨[], [], by simp, by simp only [RepP], rfl, by simp only [RepP], rfl⟩
    · simp only [Rep]
  | _ => simp only [ofV]; exact of0_rep m _
def lift1 (f : Value → Option Value) (a : DV) : Option DV := a.v1.bind fun x => (f x).map ofV
def lift2 (f : Value → Value → Option Value) (a b : DV) : Option DV := a.v1.bind fun x => b.v1.bind fun y => (f x y).map ofV
def lift3 (f : Value → Value → Value → Option Value) (a b c : DV) : Option DV := a.v1.bind fun x => b.v1.bind fun y => c.v1.bind fun z => (f x y z).map ofV
theorem lift1_ok {m : Mem} {f : Value → Option Value} {a d : DV} {x : Value} (h : lift1 f a = some d) (r : Rep m a x) : ∃ v, f x = some v ∧ Rep m d v := by
  simp only [lift1, Option.bind_eq_some_iff, Option.map_eq_some_iff] at h
  obtain ⟨x', h1, v, h2, rfl⟩ := h
  rw [v1_eq h1 r]; exact ⟨v, h2, ofV_rep m v⟩
theorem lift2_ok {m : Mem} {f : Value → Value → Option Value} {a b d : DV} {x y : Value} (h : lift2 f a b = some d) (r : Rep m a x) (s : Rep m b y) : ∃ v, f x y = some v ∧ Rep m d v := by
  simp only [lift2, Option.bind_eq_some_iff, Option.map_eq_some_iff] at h
  obtain ⟨x', h1, y', h2, v, h3, rfl⟩ := h
  rw [v1_eq h1 r, v1_eq h2 s]; exact ⟨v, h3, ofV_rep m v⟩
theorem lift3_ok {m : Mem} {f : Value → Value → Value → Option Value} {a b c d : DV} {x y z : Value} (h : lift3 f a b c = some d) (r : Rep m a x) (s : Rep m b y) (t : Rep m c z) : ∃ v, f x y z = some v ∧ Rep m d v := by
  simp only [lift3, Option.bind_eq_some_iff, Option.map_eq_some_iff] at h
  obtain ⟨x', h1, y', h2, z', h3, v, h4, rfl⟩ := h
  rw [v1_eq h1 r, v1_eq h2 s, v1_eq h3 t]; exact ⟨v, h4, ofV_rep m v⟩

/-! ### What is written, as if nobody wrote it any more -/
mutual
def fzS (f : DV → DV) : DV → DV
  | .zsl => .isl 0 []
  | .mp b o => f (.mp b o)
  | .msl b o n c => f (.msl b o n c)
  | .agg cs => .agg (fzL f cs)
  | .tup cs => .tup (fzL f cs)
  | .ip cs => .ip (fzL f cs)
  | .isl n cs => .isl n (fzL f cs)
  | .fn g a b => .fn g (fzL f a) (fzL f b)
  | .ifc t d => .ifc t (fzS f d)
  | .int k x => .int k x
  | .bool b => .bool b
  | .str s => .str s
  | .nilp => .nilp
  | .raw v => .raw v
  | .csl n cs => .isl n (fzL f cs)
def fzL (f : DV → DV) : List DV → List DV
  | [] => []
  | d :: ds => fzS f d :: fzL f ds
end
def fzF (M : DMem) (g : DV → DV) : DV → DV
  | .mp b o => match M b with
    | some B => .ip ((B.cs.map g).drop o)
    | none => .mp b o
  | .msl b o n c => match M b with
    | some B => if n ≤ c then .isl n ((B.cs.map g).drop o) else .msl b o n c
    | none => .msl b o n c
  | d => d
def fz (M : DMem) : Nat → DV → DV
  | 0 => fzS id
  | k + 1 => fzS (fzF M (fz M k))
/-- The memory with the blocks of M sealed. -/
def sealM (M : DMem) (m : Mem) : Mem := fun b => match M b, m b with
  | some _, some (.cells ty n _ cs) => some (.cells ty n true cs)
  | _, x => x
theorem sealM_fin (M : DMem) (m : Mem) : Fin m (sealM M m) := fun b B hb hf => by
  unfold sealM
  split
  · rename_i h1 h2; rw [h2] at hb; cases hb; simp only [Blk.isFin] at hf; subst hf; rfl
  · exact hb
mutual
theorem fzS_ok {m m' : Mem} (hm : Fin m m') {f : DV → DV} (hf : ∀ d v, Rep m d v → Rep m' (f d) v) : ∀ {d : DV} {v : Value}, Rep m d v → Rep m' (fzS f d) v
  | .int .., _, r | .bool .., _, r | .str .., _, r | .nilp, _, r | .raw .., _, r => by simpa only [fzS, Rep] using r
  | .zsl, v, r => by
    simp only [fzS, Rep] at r ⊢
    obtain ⟨a, rfl⟩ := r
    exact ⟨a, 0, rfl, Nat.le_refl _, fun h => absurd h (by omega)⟩
  | .mp b o, v, r => by simpa only [fzS] using hf _ _ r
  | .msl b o n c, v, r => by simpa only [fzS] using hf _ _ r
  | .ip cs, v, r => by
    simp only [fzS, Rep] at r ⊢
    obtain ⟨b, o, ty, N, full, h1, h2, h3⟩ := r
    exact ⟨b, o, ty, N, full, h1, hm _ _ h2 rfl, fzL_ok hm hf h3⟩
  | .isl n cs, v, r => by
    simp only [fzS, Rep] at r ⊢
    obtain ⟨a, c, h1, h2, h3⟩ := r
    refine ⟨a, c, h1, h2, fun hn => ?_⟩
    obtain ⟨b, o, ty, N, full, h4, h5, h6⟩ := h3 hn
    exact ⟨b, o, ty, N, full, h4, hm _ _ h5 rfl, fzL_ok hm hf h6⟩
  | .agg cs, v, r => by
    simp only [fzS, Rep] at r ⊢
    obtain ⟨vs, h1, h2, h3⟩ := r
    exact ⟨vs, h1, fzL_ok hm hf h2, by rw [fzL_len, h3]⟩
  | .tup cs, v, r => by
    simp only [fzS, Rep] at r ⊢
    obtain ⟨vs, h1, h2, h3⟩ := r
    exact ⟨vs, h1, fzL_ok hm hf h2, by rw [fzL_len, h3]⟩
  | .fn g a b, v, r => by
    simp only [fzS, Rep] at r ⊢
    obtain ⟨x, y, h1, h2, h3, h4, h5⟩ := r
    exact ⟨x, y, h1, fzL_ok hm hf h2, by rw [fzL_len, h3], fzL_ok hm hf h4, by rw [fzL_len, h5]⟩
  | .ifc t d, v, r => by
    simp only [fzS, Rep] at r ⊢
    obtain ⟨x, h1, h2⟩ := r
    exact ⟨x, h1, fzS_ok hm hf h2⟩
  | .csl n cs, v, r => by
    simp only [fzS, Rep] at r ⊢
    obtain ⟨b, o, ty, N, full, h1, h2, h3⟩ := r
    exact ⟨_, n, h1, Nat.le_refl _, fun _ => ⟨b, o, ty, N, full, rfl, hm _ _ h2 rfl, fzL_ok hm hf h3⟩⟩
theorem fzL_ok {m m' : Mem} (hm : Fin m m') {f : DV → DV} (hf : ∀ d v, Rep m d v → Rep m' (f d) v) : ∀ {ds : List DV} {vs : List Value}, RepP m ds vs → RepP m' (fzL f ds) vs
  | [], _, _ => by simp only [fzL, RepP]
  | _ :: _, [], r => by simp only [RepP] at r
  | d :: ds, v :: vs, r => by
    simp only [fzL, RepP] at r ⊢
    exact ⟨fzS_ok hm hf r.1, fzL_ok hm hf r.2⟩
theorem fzL_len {f : DV → DV} : ∀ (ds : List DV), (fzL f ds).length = ds.length
  | [] => rfl
  | d :: ds => by simp only [fzL, List.length_cons]; rw [fzL_len ds]
end
theorem map_ok {m m' : Mem} {f : DV → DV} (hf : ∀ d v, Rep m d v → Rep m' (f d) v) : ∀ {ds : List DV} {vs : List Value}, RepP m ds vs → RepP m' (ds.map f) vs
  | [], _, _ => by simp only [List.map_nil, RepP]
  | _ :: _, [], r => by simp only [RepP] at r
  | d :: ds, v :: vs, r => by
    simp only [List.map_cons, RepP] at r ⊢
    exact ⟨hf _ _ r.1, map_ok hf r.2⟩
theorem fzF_ok {M : DMem} {m : Mem} (hM : RepM M m) {g : DV → DV} (hg : ∀ d v, Rep m d v → Rep (sealM M m) (g d) v) (d : DV) (v : Value) (r : Rep m d v) : Rep (sealM M m) (fzF M g d) v := by
  cases d with
  | mp b o =>
    simp only [fzF]
    split
    · rename_i B hB
      simp only [Rep] at r ⊢
      obtain ⟨vs, h1, h2, h3⟩ := hM b B hB
      exact ⟨b, o, B.ty, B.n, vs, r, by simp only [sealM, hB, h1], (map_ok hg h2).drop o⟩
    · exact r.mono (sealM_fin M m)
  | msl b o n c =>
    simp only [fzF]
    split
    · rename_i B hB
      split
      · rename_i hnc
        simp only [Rep] at r ⊢
        obtain ⟨vs, h1, h2, h3⟩ := hM b B hB
        exact ⟨_, c, r, hnc, fun _ => ⟨b, o, B.ty, B.n, vs, rfl, by simp only [sealM, hB, h1], (map_ok hg h2).drop o⟩⟩
      · exact r.mono (sealM_fin M m)
    · exact r.mono (sealM_fin M m)
  | _ => exact r.mono (sealM_fin M m)
theorem fz_ok {M : DMem} {m : Mem} (hM : RepM M m) : ∀ (k : Nat) (d : DV) (v : Value), Rep m d v → Rep (sealM M m) (fz M k d) v
  | 0, d, v, r => fzS_ok (sealM_fin M m) (fun d v r => r.mono (sealM_fin M m)) r
  | k + 1, d, v, r => fzS_ok (sealM_fin M m) (fzF_ok hM (fz_ok hM k)) r
/-- Nothing in it is written. -/
def Froz (d : DV) : Prop := ∀ f, fzS f d = d
def FrozL (ds : List DV) : Prop := ∀ f, fzL f ds = ds
theorem Froz.fz {d : DV} (h : Froz d) (M : DMem) : ∀ k, fz M k d = d
  | 0 => h _
  | k + 1 => h _
theorem Sat.sealM {w0 w : World} {m : Mem} (h : Sat w0 w m) (M : DMem) : Sat w0 w (sealM M m) := by
  refine ⟨h.below, fun b B hb => ?_⟩
  unfold Mw.sealM at hb
  split at hb
  · rename_i ty n f cs h1 h2
    cases hb
    obtain ⟨arr, fz, he, hn, hl, hc, _⟩ := h.blk _ _ h2
    exact ⟨arr, fz, he, hn, hl, hc, fun hh => by cases hh⟩
  · exact h.blk _ _ hb
end Go.Proofs.Ytaifmmeghninhaa.Mw
