/- Expressions over deep values, and what calls that only read come to. No condition. -/
import Derived.Test.YtaifmmeghninhaaDa
namespace Go.Proofs.Ytaifmmeghninhaa.Mw
open Go Go.RowKit
set_option linter.unusedVariables false
set_option linter.unusedSimpArgs false

abbrev DEnv := Nat → DV
def DEnv.upd (δ : DEnv) (i : Nat) (d : DV) : DEnv := fun j => if j = i then d else δ j
theorem DEnv.upd_eq (δ : DEnv) (i j : Nat) (d : DV) : δ.upd i d j = if j = i then d else δ j := rfl
def DEnv.updO (δ : DEnv) : Option Nat → DV → DEnv
  | some i, d => δ.upd i d
  | none, _ => δ
def DEnv.upds (δ : DEnv) : List (Nat × DV) → DEnv
  | [] => δ
  | (i, d) :: r => (δ.upd i d).upds r
def DEnv.of (δ : DEnv) : Operand → DV
  | .tmp t => δ t
  | .const v => ofV v
  | .global g => .raw (.pointer (some ⟨g, 0, none⟩))
  | .func f => .fn (.func f) [] []

/-! ### Worlds that bear what is told -/
def hmem (H : List (List Value)) : Mem := fun b => H[b]?.map fun cs => .cells 0 cs.length true cs
theorem hmem_fin (H T : List (List Value)) : Fin (hmem H) (hmem (H ++ T)) := fun b B hb _ => by
  simp only [hmem, Option.map_eq_some_iff] at hb ⊢
  obtain ⟨cs, h1, h2⟩ := hb
  exact ⟨cs, by rw [List.getElem?_append_left (List.getElem?_eq_some_iff.1 h1).1]; exact h1, h2⟩
theorem hmem_inh (H : List (List Value)) : Inh (hmem H) := by
  let w : World := { (default : World) with heap := (H.map fun cs => Obj.cells cs.toArray 0 (0, 0)).toArray }
  refine ⟨w, w, Below.refl _ _, fun b B hb => ?_⟩
  simp only [hmem, Option.map_eq_some_iff] at hb
  obtain ⟨cs, h1, rfl⟩ := hb
  exact ⟨cs.toArray, (0, 0), by simp [w, h1], by simp, Nat.le_refl _, fun i v hi => by simpa using hi, fun h => by cases h⟩
mutual
theorem froz_build : ∀ (d : DV), Froz d → ∀ H, ∃ T v, Rep (hmem (H ++ T)) d v
  | .int k x, _, H => ⟨[], .int k x, by simp only [Rep]⟩
  | .bool b, _, H => ⟨[], .bool b, by simp only [Rep]⟩
  | .str s, _, H => ⟨[], .string s, by simp only [Rep]⟩
  | .nilp, _, H => ⟨[], .pointer none, by simp only [Rep]⟩
  | .raw v, _, H => ⟨[], v, by simp only [Rep]⟩
  | .zsl, h, H => by have := h id; simp [fzS] at this
  | .csl n cs, h, H => by have := h id; simp [fzS] at this
  | .mp b o, h, H => by have := h (fun _ => .nilp); simp [fzS] at this
  | .msl b o n c, h, H => by have := h (fun _ => .nilp); simp [fzS] at this
  | .ip cs, h, H => by
    obtain ⟨T, vs, h1, h2⟩ := frozL_build cs (fun f => by have := h f; simpa [fzS] using this) H
    refine ⟨T ++ [vs], .pointer (some ⟨(H ++ T).length, 0, none⟩), ?_⟩
    simp only [Rep]
    refine ⟨_, 0, 0, vs.length, vs, rfl, ?_, ?_⟩
    · rw [← List.append_assoc]; simp [hmem]
    · rw [← List.append_assoc]; exact RepP.mono (hmem_fin _ _) h1
  | .isl n cs, h, H => by
    obtain ⟨T, vs, h1, h2⟩ := frozL_build cs (fun f => by have := h f; simpa [fzS] using this) H
    refine ⟨T ++ [vs], .slice (some ⟨(H ++ T).length, 0, none⟩) n n, ?_⟩
    simp only [Rep]
    refine ⟨_, _, rfl, Nat.le_refl _, fun _ => ⟨_, 0, 0, vs.length, vs, rfl, ?_, ?_⟩⟩
    · rw [← List.append_assoc]; simp [hmem]
    · rw [← List.append_assoc]; exact RepP.mono (hmem_fin _ _) h1
  | .agg cs, h, H => by
    obtain ⟨T, vs, h1, h2⟩ := frozL_build cs (fun f => by have := h f; simpa [fzS] using this) H
    exact ⟨T, .agg vs.toArray, by simp only [Rep]; exact ⟨vs, rfl, h1, h2⟩⟩
  | .tup cs, h, H => by
    obtain ⟨T, vs, h1, h2⟩ := frozL_build cs (fun f => by have := h f; simpa [fzS] using this) H
    exact ⟨T, .tuple vs.toArray, by simp only [Rep]; exact ⟨vs, rfl, h1, h2⟩⟩
  | .fn g a b, h, H => by
    obtain ⟨T, vs, h1, h2⟩ := frozL_build a (fun f => by have := h f; simp [fzS] at this; exact this.1) H
    obtain ⟨T', us, h3, h4⟩ := frozL_build b (fun f => by have := h f; simp [fzS] at this; exact this.2) (H ++ T)
    refine ⟨T ++ T', .func g vs.toArray us.toArray, ?_⟩
    simp only [Rep]
    rw [← List.append_assoc]
    exact ⟨vs, us, rfl, RepP.mono (hmem_fin _ _) h1, h2, h3, h4⟩
  | .ifc t d, h, H => by
    obtain ⟨T, v, h1⟩ := froz_build d (fun f => by have := h f; simpa [fzS] using this) H
    exact ⟨T, .iface t v, by simp only [Rep]; exact ⟨v, rfl, h1⟩⟩
theorem frozL_build : ∀ (ds : List DV), FrozL ds → ∀ H, ∃ T vs, RepL (hmem (H ++ T)) ds vs
  | [], _, H => ⟨[], [], RepL.nil _⟩
  | d :: ds, h, H => by
    obtain ⟨T, v, h1⟩ := froz_build d (fun f => by have := h f; simp [fzL] at this; exact this.1) H
    obtain ⟨T', vs, h2⟩ := frozL_build ds (fun f => by have := h f; simp [fzL] at this; exact this.2) (H ++ T)
    refine ⟨T ++ T', v :: vs, ?_⟩
    rw [← List.append_assoc]
    exact RepL.cons (Rep.mono (hmem_fin _ _) h1) h2
end
def gTop : List (Nat × Value) → Nat
  | [] => 0
  | p :: r => max (p.1 + 1) (gTop r)
theorem gTop_lt : ∀ {l : List (Nat × Value)} {b : Nat} {v : Value}, l.lookup b = some v → b < gTop l
  | [], b, v, h => by simp at h
  | (c, u) :: r, b, v, h => by
    rw [List.lookup_cons] at h
    simp only [gTop]
    split at h
    · rename_i e; have : b = c := by simpa using e
      omega
    · have := gTop_lt h; omega
def gList : List (List Value) := (List.range (gTop globs)).map fun b => match globs.lookup b with
  | some v => [v]
  | none => []
theorem gList_glob (T : List (List Value)) : Glob (hmem (gList ++ T)) := fun b v hb => by
  have hlt := gTop_lt hb
  refine ⟨0, ?_⟩
  simp only [hmem]
  rw [List.getElem?_append_left (by simp [gList, hlt])]
  simp only [gList, List.getElem?_map, List.getElem?_range hlt, Option.map_some, hb, List.length_singleton]
theorem frozL_inh {ds : List DV} (h : FrozL ds) : ∃ m vs, Inh m ∧ Glob m ∧ RepL m ds vs := by
  obtain ⟨T, vs, h1⟩ := frozL_build ds h gList
  exact ⟨_, vs, hmem_inh _, gList_glob T, h1⟩

/-! ### Calls that only read -/
variable (P : Program)
/-- A call that only reads, and comes to a value, whatever else is in memory. -/
def Pf (f : FuncId) (ds : List DV) (v : Value) : Prop := ∀ m vals, Glob m → RepL m ds vals → RO P f vals v m
def dOf : Value → DV
  | .tuple vs => .tup (vs.toList.map of0)
  | v => ofV v
theorem dOf_rep (m : Mem) (v : Value) : Rep m (dOf v) v := by
  cases v with
  | tuple vs => simp only [dOf, Rep]; exact ⟨vs.toList, by simp, of0s_rep m _, by simp⟩
  | _ => simp only [dOf]; exact ofV_rep m _
open Classical in
noncomputable def pf (f : FuncId) (ds : List DV) : Option DV := if h : FrozL ds ∧ ∃ v, Pf P f ds v then some (dOf (Classical.choose h.2)) else none
variable {P}
theorem pf_spec {f : FuncId} {ds : List DV} {d : DV} (h : pf P f ds = some d) : ∃ v, d = dOf v ∧ Pf P f ds v := by
  unfold pf at h
  split at h
  · rename_i hh; cases h; exact ⟨_, rfl, Classical.choose_spec hh.2⟩
  · cases h
theorem pf_eq {f : FuncId} {ds : List DV} {v : Value} {d : DV} (hf : FrozL ds) (h : Pf P f ds v) (hd : dOf v = d) : pf P f ds = some d := by
  unfold pf
  have hh : FrozL ds ∧ ∃ v, Pf P f ds v := ⟨hf, v, h⟩
  rw [dif_pos hh]
  obtain ⟨m, vals, hi, hg, hr⟩ := frozL_inh hf
  rw [RO.unique hi (Classical.choose_spec hh.2 m vals hg hr) (h m vals hg hr), hd]
def finA (m : Mem) : Mem := fun b => match m b with
  | some (.cells ty n _ cs) => some (.cells ty n true cs)
  | _ => none
theorem finA_fin (M : DMem) (m : Mem) : Fin (sealM M m) (finA m) := fun b B hb hf => by
  unfold sealM at hb
  unfold finA
  split at hb
  · rename_i h1 h2; rw [h2]; exact hb
  · rw [hb]
    cases B with
    | cells ty n f cs => simp only [Blk.isFin] at hf; subst hf; rfl
    | obj o => cases hf
/-- What is written may be read as if it were not. -/
theorem RO.unseal {f : FuncId} {vals : List Value} {v : Value} {m : Mem} (h : RO P f vals v (finA m)) : RO P f vals v m := by
  refine ⟨h.1, fun w0 w hs => ?_⟩
  have hs2 : Sat w w (finA m) := by
    refine ⟨Below.refl _ _, fun b B hb => ?_⟩
    unfold finA at hb
    split at hb
    · rename_i ty n fin cs hb'
      cases hb
      obtain ⟨arr, fz, h1, h2, h3, h4, _⟩ := hs.blk _ _ hb'
      exact ⟨arr, fz, h1, h2, h3, h4, fun hh => by cases hh⟩
    · cases hb
  refine (h.2 w w hs2).mono ?_
  rintro e w' ⟨v', m', he, hs', hv, _⟩
  refine ⟨v', m, he, ⟨hs.below.trans (hs'.below.mono hs.le), fun b B hb => ?_⟩, hv, rfl⟩
  rw [hs'.below.block b (hs.lt hb)]
  exact hs.blk b B hb

/-! ### Expressions -/
theorem add_addr (b o n : Nat) : (⟨b, o, none⟩ : Addr).add n = ⟨b, o + n, none⟩ := by unfold Addr.add; split <;> simp_all
def ldD (M : DMem) : DV → Option DV
  | .mp b o => (M b).bind fun B => B.cs[o]?
  | .ip cs => cs[0]?
  | _ => none
def ldnD (M : DMem) (n : Nat) : DV → Option DV
  | .mp b o => (M b).bind fun B => if o + n ≤ B.cs.length then some (.agg ((B.cs.drop o).take n)) else none
  | .ip cs => if 0 < n ∧ n ≤ cs.length then some (.agg (cs.take n)) else none
  | _ => none
def faD (off : Nat) : DV → Option DV
  | .mp b o => some (.mp b (o + off))
  | .ip cs => some (.ip (cs.drop off))
  | _ => none
def nckD : DV → Option DV
  | .mp b o => some (.mp b o)
  | .ip cs => some (.ip cs)
  | .ifc t d => some (.ifc t d)
  | _ => none
def ixD (sz : Nat) : DV → DV → Option DV
  | .isl n cs, .int _ i => if 0 ≤ i ∧ i < n then some (.ip (cs.drop (i.toNat * sz))) else none
  | .msl b o n c, .int _ i => if 0 ≤ i ∧ i < n then some (.mp b (o + i.toNat * sz)) else none
  | _, _ => none
def lenD : DV → Option DV
  | .isl n _ => some (.int .i64 n)
  | .msl _ _ n _ => some (.int .i64 n)
  | .zsl => some (.int .i64 0)
  | _ => none
def fldD (off : Nat) : DV → Option DV
  | .agg cs => cs[off]?
  | _ => none
def fldnD (off n : Nat) : DV → Option DV
  | .agg cs => some (.agg ((cs.drop off).take n))
  | _ => none
def extD (n : Nat) : DV → Option DV
  | .tup cs => cs[n]?
  | _ => none
def csD : DV → DV → Option DV
  | d, .tup ds => some (.tup (d :: ds))
  | _, _ => none
def boundD : DV → Option (Option Int)
  | .tup [] => some none
  | .tup [.int _ i] => some (some i)
  | _ => none
def slcD (sz : Nat) (d lo hi mx : DV) : Option DV :=
  (boundD lo).bind fun lo => (boundD hi).bind fun hi => (boundD mx).bind fun mx =>
  match d with
  | .isl n cs => (slcB n n lo hi mx).map fun (l, h, m) => if mx.isSome = true ∧ m = l then .zsl else .isl (h - l) ((cs.drop (l * sz)).take ((h - l) * sz))
  | .msl b o n c => if n ≤ c then (slcB n c lo hi mx).map fun (l, h, m) => if m = l then .zsl else .msl b (o + l * sz) (h - l) (m - l) else none
  | .zsl => (slcB 0 0 lo hi mx).map fun _ => .zsl
  | _ => none
def cellsD : DV → Option (List DV)
  | .agg cs => some cs
  | .raw .nilIface => some [.raw .nilIface]
  | .raw _ => none
  | d => some [d]
def bldLD : List DV → List (Nat × Nat) → List DV → Option (List DV)
  | z, [], [] => some z
  | z, (off, n) :: pl, d :: ds => (cellsD d).bind fun cs => if cs.length = n ∧ off + n ≤ z.length then bldLD (z.take off ++ cs ++ z.drop (off + n)) pl ds else none
  | _, _, _ => none
def bldD (z : List Value) (pl : List (Nat × Nat)) : DV → Option DV
  | .tup ds => (bldLD (z.map of0) pl ds).map .agg
  | _ => none
def mkfD (fn : Fn) : DV → DV → Option DV
  | .tup a, .tup b => some (.fn fn a b)
  | _, _ => none
def pickD : DV → DV → DV → Option DV
  | .bool c, a, b => some (if c then a else b)
  | _, _, _ => none
def andD : DV → Option DV → Option DV
  | .bool x, e => if x then e else some (.bool false)
  | _, _ => none
def orD : DV → Option DV → Option DV
  | .bool x, e => if x then some (.bool true) else e
  | _, _ => none
def grdD (want : Bool) : DV → Option DV → Option DV
  | .bool b, e => if b = want then e else some (.raw undef)
  | .raw (.bool _), _ => none
  | .raw _, _ => some (.raw undef)
  | _, _ => none
def tupD : DV → Option (List DV)
  | .tup ds => some ds
  | _ => none
def binD (op : BinOp) (a b : DV) : Option DV := lift2 (binV op) a b
def eqsD (ne : Bool) (n : Nat) (a b : DV) : Option DV := lift2 (eqsV ne n) a b
def eqnD (ne : Bool) : DV → DV → Option DV
  | .nilp, .nilp => some (.bool (!ne))
  | .mp _ _, .nilp => some (.bool ne)
  | .ip _, .nilp => some (.bool ne)
  | _, _ => none
def eqzD (ne : Bool) : DV → DV → Option DV
  | .isl (n + 1) _, .zsl => some (.bool ne)
  | .msl .., .zsl => some (.bool ne)
  | _, _ => none
def eqbD (ne : Bool) (a b : DV) : Option DV := lift2 (eqbV ne) a b
def unD (op : UnOp) (a : DV) : Option DV := lift1 (unV op) a
def cvtD (k : IntKind) (a : DV) : Option DV := lift1 (cvtV k) a
def sidxD (a b : DV) : Option DV := lift2 sidxV a b
def slenD (a : DV) : Option DV := lift1 slenV a
def sslcD (a lo hi : DV) : Option DV := lift3 sslcV a lo hi
variable (P)
noncomputable def evD (M : DMem) (δ : DEnv) : Ex → Option DV
  | .s i => some (δ i)
  | .k v => some (ofV v)
  | .bin op a b => (evD M δ a).bind fun x => (evD M δ b).bind fun y => binD op x y
  | .eqs ne n a b => (evD M δ a).bind fun x => (evD M δ b).bind fun y => eqsD ne n x y
  | .eqn ne a b => (evD M δ a).bind fun x => (evD M δ b).bind fun y => eqnD ne x y
  | .eqz ne a b => none
  | .eqb ne a b => (evD M δ a).bind fun x => (evD M δ b).bind fun y => eqbD ne x y
  | .un op a => (evD M δ a).bind (unD op)
  | .cvt k a => (evD M δ a).bind (cvtD k)
  | .pick c a b => (evD M δ c).bind fun z => (evD M δ a).bind fun x => (evD M δ b).bind fun y => pickD z x y
  | .and c e => (evD M δ c).bind fun x => andD x (evD M δ e)
  | .or c e => (evD M δ c).bind fun x => orD x (evD M δ e)
  | .grd c want e => (evD M δ c).bind fun x => grdD want x (evD M δ e)
  | .ld a => (evD M δ a).bind (ldD M)
  | .ldn n a => (evD M δ a).bind (ldnD M n)
  | .fa off a => (evD M δ a).bind (faD off)
  | .nck a => (evD M δ a).bind nckD
  | .ix sz a i => (evD M δ a).bind fun x => (evD M δ i).bind fun y => ixD sz x y
  | .sidx a i => (evD M δ a).bind fun x => (evD M δ i).bind fun y => sidxD x y
  | .len a => (evD M δ a).bind lenD
  | .slen a => (evD M δ a).bind slenD
  | .fld off a => (evD M δ a).bind (fldD off)
  | .fldn off n a => (evD M δ a).bind (fldnD off n)
  | .ext n a => (evD M δ a).bind (extD n)
  | .slc sz a lo hi mx => (evD M δ a).bind fun x => (evD M δ lo).bind fun l => (evD M δ hi).bind fun h => (evD M δ mx).bind fun q => slcD sz x l h q
  | .sslc a lo hi => (evD M δ a).bind fun x => (evD M δ lo).bind fun l => (evD M δ hi).bind fun h => sslcD x l h
  | .ifc ty a => (evD M δ a).bind fun x => some (.ifc ty x)
  | .nl => some (.tup [])
  | .cs a t => (evD M δ a).bind fun x => (evD M δ t).bind fun y => csD x y
  | .bld z pl parts => (evD M δ parts).bind (bldD z pl)
  | .mkf fn first caps => (evD M δ first).bind fun x => (evD M δ caps).bind fun y => mkfD fn x y
  | .call f args => (evD M δ args).bind fun x => (tupD x).bind fun ds => pf P f (ds.map (fz M 4))
variable {P}

section ok
variable {M : DMem} {m : Mem} (hM : RepM M m)
include hM
theorem RepM.le {b : Nat} {B : DBlk} (hb : M b = some B) : ∃ vs, m b = some (.cells B.ty B.n false vs) ∧ RepP m B.cs vs ∧ B.cs.length = vs.length := by
  obtain ⟨vs, h1, h2, h3⟩ := hM b B hb; exact ⟨vs, h1, h2, h3⟩
theorem ldD_ok {a d : DV} {x : Value} (h : ldD M a = some d) (r : Rep m a x) : ∃ v, ldV m x = some v ∧ Rep m d v := by
  cases a <;> simp only [ldD, reduceCtorEq] at h
  case mp b o =>
    simp only [Option.bind_eq_some_iff] at h
    obtain ⟨B, hB, h⟩ := h
    obtain ⟨vs, h1, h2, _⟩ := hM b B hB
    simp only [Rep] at r; subst r
    obtain ⟨v, h3, h4⟩ := h2.get h
    exact ⟨v, by simp [ldV, Mem.get, h1, h3], h4⟩
  case ip cs =>
    simp only [Rep] at r
    obtain ⟨b, o, ty, N, full, rfl, h1, h2⟩ := r
    obtain ⟨v, h3, h4⟩ := h2.get h
    refine ⟨v, ?_, h4⟩
    simp only [List.getElem?_drop, Nat.add_zero] at h3
    simp [ldV, Mem.get, h1, h3]
theorem ldnD_ok {n : Nat} {a d : DV} {x : Value} (h : ldnD M n a = some d) (r : Rep m a x) : ∃ v, ldnV m n x = some v ∧ Rep m d v := by
  cases a <;> simp only [ldnD, reduceCtorEq] at h
  case mp b o =>
    simp only [Option.bind_eq_some_iff] at h
    obtain ⟨B, hB, h⟩ := h
    obtain ⟨vs, h1, h2, h5⟩ := hM b B hB
    simp only [Rep] at r; subst r
    split at h
    · rename_i hle
      cases h
      have := (h2.drop o).rowL (n := n) (by simp; omega)
      refine ⟨.agg ((vs.drop o).take n).toArray, ?_, by simp only [Rep]; exact ⟨_, rfl, this.1, this.2⟩⟩
      simp [ldnV, Mem.row, h1]; omega
    · cases h
  case ip cs =>
    simp only [Rep] at r
    obtain ⟨b, o, ty, N, full, rfl, h1, h2⟩ := r
    split at h
    · rename_i hle
      cases h
      have := h2.rowL (n := n) hle.2
      have hl := h2.le
      refine ⟨.agg ((full.drop o).take n).toArray, ?_, by simp only [Rep]; exact ⟨_, rfl, this.1, this.2⟩⟩
      simp only [List.length_drop] at hl
      simp [ldnV, Mem.row, h1]; omega
    · cases h
omit hM
theorem faD_ok {n : Nat} {a d : DV} {x : Value} (h : faD n a = some d) (r : Rep m a x) : ∃ v, faV n x = some v ∧ Rep m d v := by
  cases a <;> simp only [faD, reduceCtorEq, Option.some.injEq] at h
  case mp b o => subst h; simp only [Rep] at r; subst r; exact ⟨_, rfl, by simp only [Rep]; rw [add_addr]⟩
  case ip cs =>
    subst h; simp only [Rep] at r
    obtain ⟨b, o, ty, N, full, rfl, h1, h2⟩ := r
    refine ⟨_, rfl, ?_⟩
    simp only [Rep]
    refine ⟨b, o + n, ty, N, full, by rw [add_addr], h1, ?_⟩
    have := h2.drop n
    rwa [List.drop_drop] at this
theorem nckD_ok {a d : DV} {x : Value} (h : nckD a = some d) (r : Rep m a x) : ∃ v, nckV x = some v ∧ Rep m d v := by
  cases a <;> simp only [nckD, reduceCtorEq, Option.some.injEq] at h <;> subst h
  case mp b o => simp only [Rep] at r; subst r; exact ⟨_, rfl, by simp only [Rep]⟩
  case ip cs => have r' := r; simp only [Rep] at r; obtain ⟨b, o, ty, N, full, rfl, h1, h2⟩ := r; exact ⟨_, rfl, r'⟩
  case ifc t d => have r' := r; simp only [Rep] at r; obtain ⟨x, rfl, _⟩ := r; exact ⟨_, rfl, r'⟩
theorem ixD_ok {sz : Nat} {a i d : DV} {x y : Value} (h : ixD sz a i = some d) (r : Rep m a x) (s : Rep m i y) : ∃ v, ixV sz x y = some v ∧ Rep m d v := by
  cases a <;> cases i <;> simp only [ixD, reduceCtorEq] at h
  case isl.int n cs k i =>
    split at h
    · rename_i hi
      cases h
      simp only [Rep] at r s
      obtain ⟨a, c, rfl, _, h1⟩ := r
      obtain ⟨b, o, ty, N, full, rfl, h2, h3⟩ := h1 (by omega)
      subst s
      refine ⟨.pointer (some ⟨b, o + i.toNat * sz, none⟩), by simp [ixV, hi, add_addr], ?_⟩
      simp only [Rep]
      refine ⟨b, _, ty, N, full, rfl, h2, ?_⟩
      have := h3.drop (i.toNat * sz)
      rwa [List.drop_drop] at this
    · cases h
  case msl.int b o n c k i =>
    split at h
    · rename_i hi
      cases h
      simp only [Rep] at r s
      subst r; subst s
      exact ⟨.pointer (some ⟨b, o + i.toNat * sz, none⟩), by simp [ixV, hi, add_addr], by simp only [Rep]⟩
    · cases h
theorem lenD_ok {a d : DV} {x : Value} (h : lenD a = some d) (r : Rep m a x) : ∃ v, lenV x = some v ∧ Rep m d v := by
  cases a <;> simp only [lenD, reduceCtorEq, Option.some.injEq] at h <;> subst h <;> simp only [Rep] at r
  case isl n cs => obtain ⟨a, c, rfl, _⟩ := r; exact ⟨_, rfl, by simp only [Rep]⟩
  case msl b o n c => subst r; exact ⟨_, rfl, by simp only [Rep]⟩
  case zsl => obtain ⟨a, rfl⟩ := r; exact ⟨_, rfl, by simp only [Rep]; rfl⟩
theorem fldD_ok {n : Nat} {a d : DV} {x : Value} (h : fldD n a = some d) (r : Rep m a x) : ∃ v, fldV n x = some v ∧ Rep m d v := by
  cases a <;> simp only [fldD, reduceCtorEq] at h
  simp only [Rep] at r
  obtain ⟨vs, rfl, h1, h2⟩ := r
  obtain ⟨v, h3, h4⟩ := h1.get h
  exact ⟨v, by simp [fldV, h3], h4⟩
theorem fldnD_ok {o n : Nat} {a d : DV} {x : Value} (h : fldnD o n a = some d) (r : Rep m a x) : ∃ v, fldnV o n x = some v ∧ Rep m d v := by
  cases a <;> simp only [fldnD, reduceCtorEq, Option.some.injEq] at h
  subst h
  simp only [Rep] at r
  obtain ⟨vs, rfl, h1, h2⟩ := r
  have := (RepL.take (RepL.drop ⟨h1, h2⟩ o) n)
  refine ⟨.agg ((vs.drop o).take n).toArray, ?_, by simp only [Rep]; exact ⟨_, rfl, this.1, this.2⟩⟩
  simp only [fldnV, List.extract_toArray, Option.some.injEq, Value.agg.injEq]
  simp [List.extract_eq_take_drop]
theorem extD_ok {n : Nat} {a d : DV} {x : Value} (h : extD n a = some d) (r : Rep m a x) : ∃ v, extV n x = some v ∧ Rep m d v := by
  cases a <;> simp only [extD, reduceCtorEq] at h
  simp only [Rep] at r
  obtain ⟨vs, rfl, h1, h2⟩ := r
  obtain ⟨v, h3, h4⟩ := h1.get h
  exact ⟨v, by simp [extV, h3], h4⟩
theorem csD_ok {a b d : DV} {x y : Value} (h : csD a b = some d) (r : Rep m a x) (s : Rep m b y) : ∃ v, csV x y = some v ∧ Rep m d v := by
  cases b <;> simp only [csD, reduceCtorEq, Option.some.injEq] at h
  subst h
  simp only [Rep] at s
  obtain ⟨vs, rfl, h1, h2⟩ := s
  exact ⟨.tuple (x :: vs).toArray, by simp [csV], by simp only [Rep]; exact ⟨_, rfl, by simp only [RepP]; exact ⟨r, h1⟩, by simp [h2]⟩⟩
theorem boundD_ok {a : DV} {x : Value} {o : Option Int} (h : boundD a = some o) (r : Rep m a x) : bound? x = some o := by
  unfold boundD at h
  split at h
  · cases h; simp only [Rep] at r; obtain ⟨vs, rfl, h1, h2⟩ := r
    cases vs with
    | nil => simp [bound?]
    | cons => simp at h2
  · cases h; simp only [Rep] at r; obtain ⟨vs, rfl, h1, h2⟩ := r
    match vs, h1, h2 with
    | [v], h1, _ => simp only [RepP, Rep] at h1; rw [h1.1]; simp [bound?]
  · cases h
theorem slcB_cap {n c : Nat} {lo hi mx : Option Int} {l h q : Nat} (hc : n ≤ c) (e : slcB n n lo hi mx = some (l, h, q)) : ∃ q', slcB n c lo hi mx = some (l, h, q') ∧ q ≤ q' ∧ (mx.isSome = true → q' = q) ∧ l ≤ h ∧ h ≤ q := by
  simp only [slcB, Option.bind_eq_some_iff, Option.map_eq_some_iff, Prod.mk.injEq] at e ⊢
  obtain ⟨m1, h1, h2, h3, l1, h4, rfl, rfl, rfl⟩ := e
  cases mx with
  | none =>
    cases h1
    refine ⟨c, ⟨c, rfl, h2, ?_, l1, h4, rfl, rfl, rfl⟩, hc, (fun h => by cases h), ?_, ?_⟩
    · cases hi with
      | none => simpa using h3
      | some i => simp only [Option.isSome_none, Bool.false_eq_true, if_false] at h3 ⊢; split at h3 <;> simp_all; omega
    · cases lo with
      | none => simp at h4; omega
      | some i => simp at h4; omega
    · cases hi with
      | none => simp at h3; omega
      | some i => simp at h3; omega
  | some j =>
    simp only [Option.isSome_some, if_true, Bool.true_eq_false] at h1 h3 ⊢
    split at h1
    · rename_i hj
      cases h1
      refine ⟨j.toNat, ⟨j.toNat, by rw [if_pos ⟨hj.1, by omega⟩], h2, h3, l1, h4, rfl, rfl, rfl⟩, Nat.le_refl _, fun _ => rfl, ?_, ?_⟩
      · cases lo with
        | none => simp at h4; omega
        | some i => simp at h4; omega
      · cases hi with
        | none => simp at h3
        | some i => simp at h3; omega
    · cases h1
theorem slcB_le {n c : Nat} {lo hi mx : Option Int} {l h q : Nat} (hc : n ≤ c) (e : slcB n c lo hi mx = some (l, h, q)) : l ≤ h ∧ h ≤ q := by
  simp only [slcB, Option.bind_eq_some_iff, Option.map_eq_some_iff, Prod.mk.injEq] at e
  obtain ⟨m1, h1, h2, h3, l1, h4, rfl, rfl, rfl⟩ := e
  constructor
  · cases lo with
    | none => simp at h4; omega
    | some i => simp at h4; omega
  · cases hi with
    | none => cases mx <;> simp at h1 h3; omega
    | some i => cases mx <;> simp at h1 h3 <;> omega
theorem slcD_ok {sz : Nat} {a lo hi mx d : DV} {x l h q : Value} (e : slcD sz a lo hi mx = some d) (r : Rep m a x) (rl : Rep m lo l) (rh : Rep m hi h) (rq : Rep m mx q) : ∃ v, slcV sz x l h q = some v ∧ Rep m d v := by
  simp only [slcD, Option.bind_eq_some_iff] at e
  obtain ⟨lo', h1, hi', h2, mx', h3, e⟩ := e
  simp only [slcV, boundD_ok h1 rl, boundD_ok h2 rh, boundD_ok h3 rq, Option.bind_some]
  cases a <;> simp only [reduceCtorEq, Option.map_eq_some_iff] at e
  case isl n cs =>
    obtain ⟨⟨l1, h1', q1⟩, e, rfl⟩ := e
    simp only [Rep] at r
    obtain ⟨a, c, rfl, hc, hr⟩ := r
    obtain ⟨q', e', hq, hqe, hlh, hhq⟩ := slcB_cap hc e
    simp only [e', Option.map_some]
    refine ⟨_, rfl, ?_⟩
    split
    · rename_i hz
      obtain ⟨hz1, rfl⟩ := hz
      rw [hqe hz1]
      simp only [Rep, if_true]
      exact ⟨a, by congr <;> omega⟩
    · simp only [Rep]
      refine ⟨_, _, rfl, by omega, fun hp => ?_⟩
      rw [if_neg (by omega)]
      have hn : 0 < n := by
        simp only [slcB, Option.bind_eq_some_iff, Option.map_eq_some_iff, Prod.mk.injEq] at e
        obtain ⟨m1, g1, g2, g3, l1', g4, rfl, rfl, rfl⟩ := e
        cases mx' with
        | none => simp at g1; omega
        | some j => simp at g1; omega
      obtain ⟨b, o, ty, N, full, rfl, h5, h6⟩ := hr hn
      refine ⟨b, o + l1 * sz, ty, N, full, by simp [add_addr], h5, ?_⟩
      have := h6.drop (l1 * sz)
      rw [List.drop_drop] at this
      exact this.take _
  case msl b o n c =>
    split at e <;> simp only [reduceCtorEq, Option.map_eq_some_iff] at e
    rename_i hnc
    obtain ⟨⟨l1, h1', q1⟩, e, rfl⟩ := e
    simp only [Rep] at r; subst r
    have hle := slcB_le hnc e
    simp only [e, Option.map_some]
    refine ⟨_, rfl, ?_⟩
    split
    · rename_i hz; subst hz
      simp only [Rep]
      exact ⟨some ⟨b, o, none⟩, by congr <;> omega⟩
    · simp only [Rep, Option.map_some, add_addr]
  case zsl =>
    obtain ⟨⟨l1, h1', q1⟩, e, rfl⟩ := e
    simp only [Rep] at r
    obtain ⟨a, rfl⟩ := r
    have hle := slcB_le (Nat.le_refl 0) e
    have hq : q1 = 0 := by
      simp only [slcB, Option.bind_eq_some_iff, Option.map_eq_some_iff, Prod.mk.injEq] at e
      obtain ⟨m1, g1, g2, g3, l1', g4, rfl, rfl, rfl⟩ := e
      cases mx' with
      | none => simp at g1; omega
      | some j => simp at g1; omega
    subst hq
    have : l1 = 0 ∧ h1' = 0 := by omega
    obtain ⟨rfl, rfl⟩ := this
    simp only [e, Option.map_some]
    exact ⟨_, rfl, by simp only [Rep]; exact ⟨a, by simp⟩⟩
theorem cellsD_ok {d : DV} {x : Value} {cs : List DV} (h : cellsD d = some cs) (r : Rep m d x) : RepL m cs x.cells.toList := by
  by_cases hraw : ∃ v, d = .raw v
  · obtain ⟨v, rfl⟩ := hraw
    cases v <;> simp only [cellsD, reduceCtorEq, Option.some.injEq] at h
    subst h
    simp only [Rep] at r
    subst r
    exact (RepL.nil m).cons (by simp only [Rep])
  cases d <;> (try exact absurd ⟨_, rfl⟩ hraw) <;> clear hraw <;> simp only [cellsD, Option.some.injEq, reduceCtorEq] at h <;> subst h <;> simp only [Rep] at r
  case agg cs => obtain ⟨vs, rfl, h1, h2⟩ := r; exact ⟨h1, h2⟩
  case int => subst r; exact (RepL.nil m).cons (by simp only [Rep])
  case bool => subst r; exact (RepL.nil m).cons (by simp only [Rep])
  case str => subst r; exact (RepL.nil m).cons (by simp only [Rep])
  case nilp => subst r; exact (RepL.nil m).cons (by simp only [Rep])
  case mp => subst r; exact (RepL.nil m).cons (by simp only [Rep])
  case ip => obtain ⟨b, o, ty, N, full, rfl, h1, h2⟩ := r; exact (RepL.nil m).cons (by simp only [Rep]; exact ⟨b, o, ty, N, full, rfl, h1, h2⟩)
  case isl => obtain ⟨a, c, rfl, h1, h2⟩ := r; exact (RepL.nil m).cons (by simp only [Rep]; exact ⟨a, c, rfl, h1, h2⟩)
  case zsl => obtain ⟨a, rfl⟩ := r; exact (RepL.nil m).cons (by simp only [Rep]; exact ⟨a, rfl⟩)
  case msl => subst r; exact (RepL.nil m).cons (by simp only [Rep])
  case tup => obtain ⟨vs, rfl, h1, h2⟩ := r; exact (RepL.nil m).cons (by simp only [Rep]; exact ⟨vs, rfl, h1, h2⟩)
  case csl => obtain ⟨b, o, ty, N, full, rfl, h1, h2⟩ := r; exact (RepL.nil m).cons (by simp only [Rep]; exact ⟨b, o, ty, N, full, rfl, h1, h2⟩)
  case fn => obtain ⟨x, y, rfl, h1⟩ := r; exact (RepL.nil m).cons (by simp only [Rep]; exact ⟨x, y, rfl, h1⟩)
  case ifc => obtain ⟨x, rfl, h1⟩ := r; exact (RepL.nil m).cons (by simp only [Rep]; exact ⟨x, rfl, h1⟩)
theorem bldLD_ok : ∀ (pl : List (Nat × Nat)) {z ds l : List DV} {zv vs : List Value}, bldLD z pl ds = some l → RepL m z zv → RepL m ds vs → ∃ l', bldL zv pl vs = some l' ∧ RepL m l l'
  | [], z, ds, l, zv, vs, h, rz, rs => by
    cases ds <;> simp [bldLD] at h
    subst h
    have := rs.2
    cases vs <;> simp at this
    exact ⟨zv, rfl, rz⟩
  | (off, n) :: pl, z, ds, l, zv, vs, h, rz, rs => by
    cases ds with
    | nil => simp [bldLD] at h
    | cons d ds =>
      cases vs with
      | nil => have := rs.2; simp at this
      | cons v vs =>
        simp only [bldLD, Option.bind_eq_some_iff] at h
        obtain ⟨cs, hc, h⟩ := h
        split at h
        · rename_i hh
          have r1 := rs.1
          simp only [RepP] at r1
          have rc := cellsD_ok hc r1.1
          obtain ⟨l', h1, h2⟩ := bldLD_ok pl h (((rz.take off).append rc).append (rz.drop (off + n))) ⟨r1.2, by simpa using rs.2⟩
          refine ⟨l', ?_, h2⟩
          simp only [bldL]
          rw [if_pos ⟨by rw [← hh.1, rc.2]; simp, by rw [← rz.2]; exact hh.2⟩]
          exact h1
        · cases h
theorem bldD_ok {z : List Value} {pl : List (Nat × Nat)} {a d : DV} {x : Value} (h : bldD z pl a = some d) (r : Rep m a x) : ∃ v, bldV z pl x = some v ∧ Rep m d v := by
  cases a <;> simp only [bldD, reduceCtorEq, Option.map_eq_some_iff] at h
  obtain ⟨l, h, rfl⟩ := h
  simp only [Rep] at r
  obtain ⟨vs, rfl, h1, h2⟩ := r
  obtain ⟨l', h3, h4⟩ := bldLD_ok pl h ⟨of0s_rep m z, by simp⟩ ⟨h1, h2⟩
  exact ⟨.agg l'.toArray, by simp [bldV, h3], by simp only [Rep]; exact ⟨l', rfl, h4.1, h4.2⟩⟩
theorem mkfD_ok {fn : Fn} {a b d : DV} {x y : Value} (h : mkfD fn a b = some d) (r : Rep m a x) (s : Rep m b y) : ∃ v, mkfV fn x y = some v ∧ Rep m d v := by
  cases a <;> cases b <;> simp only [mkfD, reduceCtorEq, Option.some.injEq] at h
  subst h
  simp only [Rep] at r s
  obtain ⟨vs, rfl, h1, h2⟩ := r
  obtain ⟨us, rfl, h3, h4⟩ := s
  exact ⟨.func fn vs.toArray us.toArray, rfl, by simp only [Rep]; exact ⟨vs, us, rfl, h1, h2, h3, h4⟩⟩
theorem pickD_ok {c a b d : DV} {z x y : Value} (h : pickD c a b = some d) (q : Rep m c z) (r : Rep m a x) (s : Rep m b y) : ∃ v, pickV z x y = some v ∧ Rep m d v := by
  cases c <;> simp only [pickD, reduceCtorEq, Option.some.injEq] at h
  subst h
  simp only [Rep] at q; subst q
  exact ⟨_, rfl, by split <;> assumption⟩
theorem eqnD_ok {ne : Bool} {a b d : DV} {x y : Value} (h : eqnD ne a b = some d) (r : Rep m a x) (s : Rep m b y) : ∃ v, eqnV ne x y = some v ∧ Rep m d v := by
  unfold eqnD at h
  split at h <;> simp only [Option.some.injEq, reduceCtorEq] at h <;> subst h <;> simp only [Rep] at r s <;> subst s
  · subst r; exact ⟨_, rfl, by simp only [Rep]; cases ne <;> rfl⟩
  · subst r; exact ⟨_, rfl, by simp only [Rep]; cases ne <;> rfl⟩
  · obtain ⟨b, o, ty, N, full, rfl, h1, h2⟩ := r; exact ⟨_, rfl, by simp only [Rep]; cases ne <;> rfl⟩
end ok
theorem fzL_map_ok {M : DMem} {m : Mem} (hM : RepM M m) (k : Nat) {ds : List DV} {vs : List Value} (r : RepL m ds vs) : RepL (sealM M m) (ds.map (fz M k)) vs :=
  ⟨map_ok (fz_ok hM k) r.1, by simpa using r.2⟩
theorem evD_ok {M : DMem} {δ : DEnv} {m : Mem} {ρ : Env} (hI : Inh m) (hM : RepM M m) (hρ : ∀ i, Rep m (δ i) (ρ i)) : ∀ (e : Ex) (d : DV), evD P M δ e = some d → ∃ v, ev (spRO P) m ρ e = some v ∧ Rep m d v := by
  intro e
  induction e with
  | s i => intro d h; simp only [evD, Option.some.injEq] at h; subst h; exact ⟨_, rfl, hρ i⟩
  | k v => intro d h; simp only [evD, Option.some.injEq] at h; subst h; exact ⟨_, rfl, ofV_rep m v⟩
  | bin op a b iha ihb =>
    intro d h; simp only [evD, Option.bind_eq_some_iff] at h; obtain ⟨x, hx, y, hy, h⟩ := h
    obtain ⟨u, e1, r1⟩ := iha x hx; obtain ⟨v, e2, r2⟩ := ihb y hy
    obtain ⟨w, e3, r3⟩ := lift2_ok h r1 r2
    exact ⟨w, by simp only [ev, e1, e2, Option.bind_some, e3], r3⟩
  | eqs ne n a b iha ihb =>
    intro d h; simp only [evD, Option.bind_eq_some_iff] at h; obtain ⟨x, hx, y, hy, h⟩ := h
    obtain ⟨u, e1, r1⟩ := iha x hx; obtain ⟨v, e2, r2⟩ := ihb y hy
    obtain ⟨w, e3, r3⟩ := lift2_ok h r1 r2
    exact ⟨w, by simp only [ev, e1, e2, Option.bind_some, e3], r3⟩
  | eqn ne a b iha ihb =>
    intro d h; simp only [evD, Option.bind_eq_some_iff] at h; obtain ⟨x, hx, y, hy, h⟩ := h
    obtain ⟨u, e1, r1⟩ := iha x hx; obtain ⟨v, e2, r2⟩ := ihb y hy
    obtain ⟨w, e3, r3⟩ := eqnD_ok h r1 r2
    exact ⟨w, by simp only [ev, e1, e2, Option.bind_some, e3], r3⟩
  | eqz ne a b iha ihb => intro d h; simp [evD] at h
  | eqb ne a b iha ihb =>
    intro d h; simp only [evD, Option.bind_eq_some_iff] at h; obtain ⟨x, hx, y, hy, h⟩ := h
    obtain ⟨u, e1, r1⟩ := iha x hx; obtain ⟨v, e2, r2⟩ := ihb y hy
    obtain ⟨w, e3, r3⟩ := lift2_ok h r1 r2
    exact ⟨w, by simp only [ev, e1, e2, Option.bind_some, e3], r3⟩
  | un op a ih =>
    intro d h; simp only [evD, Option.bind_eq_some_iff] at h; obtain ⟨x, hx, h⟩ := h
    obtain ⟨u, e1, r1⟩ := ih x hx; obtain ⟨w, e3, r3⟩ := lift1_ok h r1
    exact ⟨w, by simp only [ev, e1, Option.bind_some, e3], r3⟩
  | cvt k a ih =>
    intro d h; simp only [evD, Option.bind_eq_some_iff] at h; obtain ⟨x, hx, h⟩ := h
    obtain ⟨u, e1, r1⟩ := ih x hx; obtain ⟨w, e3, r3⟩ := lift1_ok h r1
    exact ⟨w, by simp only [ev, e1, Option.bind_some, e3], r3⟩
  | pick c a b ihc iha ihb =>
    intro d h; simp only [evD, Option.bind_eq_some_iff] at h; obtain ⟨z, hz, x, hx, y, hy, h⟩ := h
    obtain ⟨t, e0, r0⟩ := ihc z hz; obtain ⟨u, e1, r1⟩ := iha x hx; obtain ⟨v, e2, r2⟩ := ihb y hy
    obtain ⟨w, e3, r3⟩ := pickD_ok h r0 r1 r2
    exact ⟨w, by simp only [ev, e0, e1, e2, Option.bind_some, e3], r3⟩
  | and c e ihc ihe =>
    intro d h; simp only [evD, Option.bind_eq_some_iff] at h; obtain ⟨x, hx, h⟩ := h
    obtain ⟨u, e1, r1⟩ := ihc x hx
    cases x <;> simp only [andD, reduceCtorEq] at h
    rename_i b
    simp only [Rep] at r1; subst r1
    cases b
    · simp at h; subst h; exact ⟨.bool false, by simp [ev, e1, andK], by simp only [Rep]⟩
    · simp at h; obtain ⟨v, e2, r2⟩ := ihe d h; exact ⟨v, by simp [ev, e1, andK, e2], r2⟩
  | or c e ihc ihe =>
    intro d h; simp only [evD, Option.bind_eq_some_iff] at h; obtain ⟨x, hx, h⟩ := h
    obtain ⟨u, e1, r1⟩ := ihc x hx
    cases x <;> simp only [orD, reduceCtorEq] at h
    rename_i b
    simp only [Rep] at r1; subst r1
    cases b
    · simp at h; obtain ⟨v, e2, r2⟩ := ihe d h; exact ⟨v, by simp [ev, e1, orK, e2], r2⟩
    · simp at h; subst h; exact ⟨.bool true, by simp [ev, e1, orK], by simp only [Rep]⟩
  | grd c want e ihc ihe =>
    intro d h; simp only [evD, Option.bind_eq_some_iff] at h; obtain ⟨x, hx, h⟩ := h
    obtain ⟨u, e1, r1⟩ := ihc x hx
    unfold grdD at h
    split at h
    · simp only [Rep] at r1; subst r1
      split at h
      · rename_i hb; obtain ⟨v, e2, r2⟩ := ihe d h; exact ⟨v, by simp [ev, e1, grdK, e2, hb], r2⟩
      · rename_i hb; cases h; exact ⟨undef, by simp [ev, e1, grdK, hb], by simp only [Rep]⟩
    · cases h
    · rename_i u' _ hu
      simp only [Rep] at r1; subst r1
      cases h
      refine ⟨undef, ?_, by simp only [Rep]⟩
      simp only [ev, e1, Option.bind_some]
      unfold grdK
      split
      · exact (hu _ rfl).elim
      · rfl
    · cases h
  | ld a ih =>
    intro d h; simp only [evD, Option.bind_eq_some_iff] at h; obtain ⟨x, hx, h⟩ := h
    obtain ⟨u, e1, r1⟩ := ih x hx; obtain ⟨w, e3, r3⟩ := ldD_ok hM h r1
    exact ⟨w, by simp only [ev, e1, Option.bind_some, e3], r3⟩
  | ldn n a ih =>
    intro d h; simp only [evD, Option.bind_eq_some_iff] at h; obtain ⟨x, hx, h⟩ := h
    obtain ⟨u, e1, r1⟩ := ih x hx; obtain ⟨w, e3, r3⟩ := ldnD_ok hM h r1
    exact ⟨w, by simp only [ev, e1, Option.bind_some, e3], r3⟩
  | fa off a ih =>
    intro d h; simp only [evD, Option.bind_eq_some_iff] at h; obtain ⟨x, hx, h⟩ := h
    obtain ⟨u, e1, r1⟩ := ih x hx; obtain ⟨w, e3, r3⟩ := faD_ok h r1
    exact ⟨w, by simp only [ev, e1, Option.bind_some, e3], r3⟩
  | nck a ih =>
    intro d h; simp only [evD, Option.bind_eq_some_iff] at h; obtain ⟨x, hx, h⟩ := h
    obtain ⟨u, e1, r1⟩ := ih x hx; obtain ⟨w, e3, r3⟩ := nckD_ok h r1
    exact ⟨w, by simp only [ev, e1, Option.bind_some, e3], r3⟩
  | ix sz a i iha ihi =>
    intro d h; simp only [evD, Option.bind_eq_some_iff] at h; obtain ⟨x, hx, y, hy, h⟩ := h
    obtain ⟨u, e1, r1⟩ := iha x hx; obtain ⟨v, e2, r2⟩ := ihi y hy
    obtain ⟨w, e3, r3⟩ := ixD_ok h r1 r2
    exact ⟨w, by simp only [ev, e1, e2, Option.bind_some, e3], r3⟩
  | sidx a i iha ihi =>
    intro d h; simp only [evD, Option.bind_eq_some_iff] at h; obtain ⟨x, hx, y, hy, h⟩ := h
    obtain ⟨u, e1, r1⟩ := iha x hx; obtain ⟨v, e2, r2⟩ := ihi y hy
    obtain ⟨w, e3, r3⟩ := lift2_ok h r1 r2
    exact ⟨w, by simp only [ev, e1, e2, Option.bind_some, e3], r3⟩
  | len a ih =>
    intro d h; simp only [evD, Option.bind_eq_some_iff] at h; obtain ⟨x, hx, h⟩ := h
    obtain ⟨u, e1, r1⟩ := ih x hx; obtain ⟨w, e3, r3⟩ := lenD_ok h r1
    exact ⟨w, by simp only [ev, e1, Option.bind_some, e3], r3⟩
  | slen a ih =>
    intro d h; simp only [evD, Option.bind_eq_some_iff] at h; obtain ⟨x, hx, h⟩ := h
    obtain ⟨u, e1, r1⟩ := ih x hx; obtain ⟨w, e3, r3⟩ := lift1_ok h r1
    exact ⟨w, by simp only [ev, e1, Option.bind_some, e3], r3⟩
  | fld off a ih =>
    intro d h; simp only [evD, Option.bind_eq_some_iff] at h; obtain ⟨x, hx, h⟩ := h
    obtain ⟨u, e1, r1⟩ := ih x hx; obtain ⟨w, e3, r3⟩ := fldD_ok h r1
    exact ⟨w, by simp only [ev, e1, Option.bind_some, e3], r3⟩
  | fldn off n a ih =>
    intro d h; simp only [evD, Option.bind_eq_some_iff] at h; obtain ⟨x, hx, h⟩ := h
    obtain ⟨u, e1, r1⟩ := ih x hx; obtain ⟨w, e3, r3⟩ := fldnD_ok h r1
    exact ⟨w, by simp only [ev, e1, Option.bind_some, e3], r3⟩
  | ext n a ih =>
    intro d h; simp only [evD, Option.bind_eq_some_iff] at h; obtain ⟨x, hx, h⟩ := h
    obtain ⟨u, e1, r1⟩ := ih x hx; obtain ⟨w, e3, r3⟩ := extD_ok h r1
    exact ⟨w, by simp only [ev, e1, Option.bind_some, e3], r3⟩
  | slc sz a lo hi mx iha ihl ihh ihm =>
    intro d h; simp only [evD, Option.bind_eq_some_iff] at h; obtain ⟨x, hx, l, hl, hh, hhe, q, hq, h⟩ := h
    obtain ⟨u, e1, r1⟩ := iha x hx; obtain ⟨v1, e2, r2⟩ := ihl l hl; obtain ⟨v2, e3, r3⟩ := ihh hh hhe; obtain ⟨v3, e4, r4⟩ := ihm q hq
    obtain ⟨w, e5, r5⟩ := slcD_ok h r1 r2 r3 r4
    exact ⟨w, by simp only [ev, e1, e2, e3, e4, Option.bind_some, e5], r5⟩
  | sslc a lo hi iha ihl ihh =>
    intro d h; simp only [evD, Option.bind_eq_some_iff] at h; obtain ⟨x, hx, l, hl, hh, hhe, h⟩ := h
    obtain ⟨u, e1, r1⟩ := iha x hx; obtain ⟨v1, e2, r2⟩ := ihl l hl; obtain ⟨v2, e3, r3⟩ := ihh hh hhe
    obtain ⟨w, e5, r5⟩ := lift3_ok h r1 r2 r3
    exact ⟨w, by simp only [ev, e1, e2, e3, Option.bind_some, e5], r5⟩
  | ifc ty a ih =>
    intro d h; simp only [evD, Option.bind_eq_some_iff, Option.some.injEq] at h; obtain ⟨x, hx, rfl⟩ := h
    obtain ⟨u, e1, r1⟩ := ih x hx
    exact ⟨.iface ty u, by simp only [ev, e1, Option.bind_some], by simp only [Rep]; exact ⟨u, rfl, r1⟩⟩
  | nl => intro d h; simp only [evD, Option.some.injEq] at h; subst h; exact ⟨.tuple #[], rfl, by simp only [Rep]; exact ⟨[], rfl, by simp only [RepP], rfl⟩⟩
  | cs a t iha iht =>
    intro d h; simp only [evD, Option.bind_eq_some_iff] at h; obtain ⟨x, hx, y, hy, h⟩ := h
    obtain ⟨u, e1, r1⟩ := iha x hx; obtain ⟨v, e2, r2⟩ := iht y hy
    obtain ⟨w, e3, r3⟩ := csD_ok h r1 r2
    exact ⟨w, by simp only [ev, e1, e2, Option.bind_some, e3], r3⟩
  | bld z pl parts ih =>
    intro d h; simp only [evD, Option.bind_eq_some_iff] at h; obtain ⟨x, hx, h⟩ := h
    obtain ⟨u, e1, r1⟩ := ih x hx; obtain ⟨w, e3, r3⟩ := bldD_ok h r1
    exact ⟨w, by simp only [ev, e1, Option.bind_some, e3], r3⟩
  | mkf fn first caps iha ihb =>
    intro d h; simp only [evD, Option.bind_eq_some_iff] at h; obtain ⟨x, hx, y, hy, h⟩ := h
    obtain ⟨u, e1, r1⟩ := iha x hx; obtain ⟨v, e2, r2⟩ := ihb y hy
    obtain ⟨w, e3, r3⟩ := mkfD_ok h r1 r2
    exact ⟨w, by simp only [ev, e1, e2, Option.bind_some, e3], r3⟩
  | call f args ih =>
    intro d h; simp only [evD, Option.bind_eq_some_iff] at h; obtain ⟨x, hx, ds, hds, h⟩ := h
    obtain ⟨u, e1, r1⟩ := ih x hx
    cases x <;> simp only [tupD, reduceCtorEq, Option.some.injEq] at hds
    subst hds
    simp only [Rep] at r1
    obtain ⟨vs, rfl, h1, h2⟩ := r1
    obtain ⟨v, rfl, hp⟩ := pf_spec h
    have := RO.unseal (hp _ _ (hM.glob.mono ((sealM_fin M m).trans (finA_fin M m))) ((fzL_map_ok hM 4 ⟨h1, h2⟩).mono (finA_fin M m)))
    exact ⟨v, by simp only [ev, e1, Option.bind_some]; exact spRO_eq hI this, dOf_rep m v⟩
end Go.Proofs.Ytaifmmeghninhaa.Mw
