/- Db Dc De Df Dd Dg Dw Dr Ds Dt: joined texts of this claim. No condition. -/
import Derived.Test.YtbiejiangdbcmaaDoorJgja
import Derived.WideLaws
import Derived.Stop.Asserts
import Derived.Lib.IfaceEq
import Derived.Laws.BytesArg
import Derived.Lib.SlBytesConst
namespace Go.Proofs.YtbiejiangdbcmaaDoor.Mw
open Go Go.RowKit
set_option linter.unusedVariables false
set_option linter.unusedSimpArgs false

abbrev DEnv := Nat → DV
def DEnv.upd (δ : DEnv) (i : Nat) (d : DV) : DEnv := fun j => if j = i then d else δ j
theorem DEnv.upd_eq (δ : DEnv) (i j : Nat) (d : DV) : δ.upd i d j = if j = i then d else δ j := rfl
def DEnv.updO (δ : DEnv) : Option Nat → DV → DEnv
  | some i, d => δ.upd i d
  | none, _ => δ
def DEnv.upds (δ : DEnv) : List (Nat × DV) → DEnv
  | [] => δ
  | (i, d) :: r => (δ.upd i d).upds r
def DEnv.of (δ : DEnv) : Operand → DV
  | .tmp t => δ t
  | .const v => ofV v
  | .global g => .raw (.pointer (some ⟨g, 0, none⟩))
  | .func f => .fn (.func f) [] []

def hmem (H : List (List Value)) : Mem := fun b => H[b]?.map fun cs => .cells 0 cs.length true cs
theorem hmem_fin (H T : List (List Value)) : Fin (hmem H) (hmem (H ++ T)) := fun b B hb _ => by
  simp only [hmem, Option.map_eq_some_iff] at hb ⊢
  obtain ⟨cs, h1, h2⟩ := hb
  exact ⟨cs, by rw [List.getElem?_append_left (List.getElem?_eq_some_iff.1 h1).1]; exact h1, h2⟩
theorem hmem_inh (H : List (List Value)) : Inh (hmem H) := by
  let w : World := { (default : World) with heap := (H.map fun cs => Obj.cells cs.toArray 0 (0, 0)).toArray }
  refine ⟨w, w, Below.refl _ _, fun b B hb => ?_⟩
  simp only [hmem, Option.map_eq_some_iff] at hb
  obtain ⟨cs, h1, rfl⟩ := hb
  exact .inl ⟨fun _ => by decide, cs.toArray, (0, 0), by simp [w, h1], by simp, Nat.le_refl _, fun i v hi => by simpa using hi, fun h => by cases h⟩
mutual
theorem froz_build : ∀ (d : DV), Froz d → ∀ H, ∃ T v, Rep (hmem (H ++ T)) d v
  | .int k x, _, H => ⟨[], .int k x, by simp only [Rep]⟩
  | .bool b, _, H => ⟨[], .bool b, by simp only [Rep]⟩
  | .str s, _, H => ⟨[], .string s, by simp only [Rep]⟩
  | .nilp, _, H => ⟨[], .pointer none, by simp only [Rep]⟩
  | .raw v, _, H => ⟨[], v, by simp only [Rep]⟩
  | .zsl, h, H => by have := h id; simp [fzS] at this
  | .csl n cs, h, H => by have := h id; simp [fzS] at this
  | .mp b o, h, H => by have := h (fun _ => .nilp); simp [fzS] at this
  | .msl b o n c, h, H => by have := h (fun _ => .nilp); simp [fzS] at this
  | .ip cs, h, H => by
    obtain ⟨T, vs, h1, h2⟩ := frozL_build cs (fun f => by have := h f; simpa [fzS] using this) H
    refine ⟨T ++ [vs], .pointer (some ⟨(H ++ T).length, 0, none⟩), ?_⟩
    simp only [Rep]
    refine ⟨_, 0, 0, vs.length, vs, rfl, ?_, ?_⟩
    · rw [← List.append_assoc]; simp [hmem]
    · rw [← List.append_assoc]; exact RepP.mono (hmem_fin _ _) h1
  | .isl n cs, h, H => by
    obtain ⟨T, vs, h1, h2⟩ := frozL_build cs (fun f => by have := h f; simpa [fzS] using this) H
    refine ⟨T ++ [vs], .slice (some ⟨(H ++ T).length, 0, none⟩) n n, ?_⟩
    simp only [Rep]
    refine ⟨_, _, rfl, Nat.le_refl _, fun _ => ⟨_, 0, 0, vs.length, vs, rfl, ?_, ?_⟩⟩
    · rw [← List.append_assoc]; simp [hmem]
    · rw [← List.append_assoc]; exact RepP.mono (hmem_fin _ _) h1
  | .agg cs, h, H => by
    obtain ⟨T, vs, h1, h2⟩ := frozL_build cs (fun f => by have := h f; simpa [fzS] using this) H
    exact ⟨T, .agg vs.toArray, by simp only [Rep]; exact ⟨vs, rfl, h1, h2⟩⟩
  | .tup cs, h, H => by
    obtain ⟨T, vs, h1, h2⟩ := frozL_build cs (fun f => by have := h f; simpa [fzS] using this) H
    exact ⟨T, .tuple vs.toArray, by simp only [Rep]; exact ⟨vs, rfl, h1, h2⟩⟩
  | .fn g a b, h, H => by
    obtain ⟨T, vs, h1, h2⟩ := frozL_build a (fun f => by have := h f; simp [fzS] at this; exact this.1) H
    obtain ⟨T', us, h3, h4⟩ := frozL_build b (fun f => by have := h f; simp [fzS] at this; exact this.2) (H ++ T)
    refine ⟨T ++ T', .func g vs.toArray us.toArray, ?_⟩
    simp only [Rep]
    rw [← List.append_assoc]
    exact ⟨vs, us, rfl, RepP.mono (hmem_fin _ _) h1, h2, h3, h4⟩
  | .ifc t d, h, H => by
    obtain ⟨T, v, h1⟩ := froz_build d (fun f => by have := h f; simpa [fzS] using this) H
    exact ⟨T, .iface t v, by simp only [Rep]; exact ⟨v, rfl, h1⟩⟩
theorem frozL_build : ∀ (ds : List DV), FrozL ds → ∀ H, ∃ T vs, RepL (hmem (H ++ T)) ds vs
  | [], _, H => ⟨[], [], RepL.nil _⟩
  | d :: ds, h, H => by
    obtain ⟨T, v, h1⟩ := froz_build d (fun f => by have := h f; simp [fzL] at this; exact this.1) H
    obtain ⟨T', vs, h2⟩ := frozL_build ds (fun f => by have := h f; simp [fzL] at this; exact this.2) (H ++ T)
    refine ⟨T ++ T', v :: vs, ?_⟩
    rw [← List.append_assoc]
    exact RepL.cons (Rep.mono (hmem_fin _ _) h1) h2
end
def gTop : List (Nat × Value) → Nat
  | [] => 0
  | p :: r => max (p.1 + 1) (gTop r)
theorem gTop_lt : ∀ {l : List (Nat × Value)} {b : Nat} {v : Value}, l.lookup b = some v → b < gTop l
  | [], b, v, h => by simp at h
  | (c, u) :: r, b, v, h => by
    rw [List.lookup_cons] at h
    simp only [gTop]
    split at h
    · rename_i e; have : b = c := by simpa using e
      omega
    · have := gTop_lt h; omega
def gList : List (List Value) := (List.range (gTop globs)).map fun b => match globs.lookup b with
  | some v => [v]
  | none => []
theorem gList_glob (T : List (List Value)) : Glob (hmem (gList ++ T)) := fun b v hb => by
  have hlt := gTop_lt hb
  refine ⟨0, ?_⟩
  simp only [hmem]
  rw [List.getElem?_append_left (by simp [gList, hlt])]
  simp only [gList, List.getElem?_map, List.getElem?_range hlt, Option.map_some, hb, List.length_singleton]
theorem frozL_inh {ds : List DV} (h : FrozL ds) : ∃ m vs, Inh m ∧ Glob m ∧ RepL m ds vs := by
  obtain ⟨T, vs, h1⟩ := frozL_build ds h gList
  exact ⟨_, vs, hmem_inh _, gList_glob T, h1⟩

variable (P : Program)
def Pf (f : FuncId) (ds : List DV) (v : Value) : Prop := ∀ m vals, Glob m → RepL m ds vals → RO P f vals v m
def dOf : Value → DV
  | .tuple vs => .tup (vs.toList.map of0)
  | v => ofV v
theorem dOf_rep (m : Mem) (v : Value) : Rep m (dOf v) v := by
  cases v with
  | tuple vs => simp only [dOf, Rep]; exact ⟨vs.toList, by simp, of0s_rep m _, by simp⟩
  | _ => simp only [dOf]; exact ofV_rep m _
open Classical in
noncomputable def pf (f : FuncId) (ds : List DV) : Option DV := if h : FrozL ds ∧ ∃ v, Pf P f ds v then some (dOf (Classical.choose h.2)) else none
variable {P}
theorem pf_spec {f : FuncId} {ds : List DV} {d : DV} (h : pf P f ds = some d) : ∃ v, d = dOf v ∧ Pf P f ds v := by
  unfold pf at h
  split at h
  · rename_i hh; cases h; exact ⟨_, rfl, Classical.choose_spec hh.2⟩
  · cases h
theorem pf_eq {f : FuncId} {ds : List DV} {v : Value} {d : DV} (hf : FrozL ds) (h : Pf P f ds v) (hd : dOf v = d) : pf P f ds = some d := by
  unfold pf
  have hh : FrozL ds ∧ ∃ v, Pf P f ds v := ⟨hf, v, h⟩
  rw [dif_pos hh]
  obtain ⟨m, vals, hi, hg, hr⟩ := frozL_inh hf
  rw [RO.unique hi (Classical.choose_spec hh.2 m vals hg hr) (h m vals hg hr), hd]
def finA (m : Mem) : Mem := fun b => match m b with
  | some (.cells ty n _ cs) => some (.cells ty n true cs)
  | _ => none
theorem finA_fin (M : DMem) (m : Mem) : Fin (sealM M m) (finA m) := fun b B hb hf => by
  unfold sealM at hb
  unfold finA
  split at hb
  · rename_i h1 h2; rw [h2]; exact hb
  · rw [hb]
    cases B with
    | cells ty n f cs => simp only [Blk.isFin] at hf; subst hf; rfl
    | obj o => cases hf
theorem RO.unseal {f : FuncId} {vals : List Value} {v : Value} {m : Mem} (h : RO P f vals v (finA m)) : RO P f vals v m := by
  refine ⟨h.1, fun w0 w hs => ?_⟩
  have hs2 : Sat w w (finA m) := by
    refine ⟨Below.refl _ _, fun b B hb => ?_⟩
    unfold finA at hb
    split at hb
    · rename_i ty n fin cs hb'
      cases hb
      exact (hs.blk _ _ hb').tofin
    · cases hb
  refine (h.2 w w hs2).mono ?_
  rintro e w' ⟨v', m', he, hs', hv, _⟩
  refine ⟨v', m, he, ⟨hs.below.trans (hs'.below.mono hs.le), fun b B hb => ?_⟩, hv, rfl⟩
  rw [hs'.below.block b (hs.lt hb)]
  exact hs.blk b B hb

theorem add_addr (b o n : Nat) : (⟨b, o, none⟩ : Addr).add n = ⟨b, o + n, none⟩ := by unfold Addr.add; split <;> simp_all
def ldD (M : DMem) : DV → Option DV
  | .mp b o => (M b).bind fun B => B.cs[o]?
  | .ip cs => cs[0]?
  | _ => none
def ldnD (M : DMem) (n : Nat) : DV → Option DV
  | .mp b o => (M b).bind fun B => if o + n ≤ B.cs.length then some (.agg ((B.cs.drop o).take n)) else none
  | .ip cs => if 0 < n ∧ n ≤ cs.length then some (.agg (cs.take n)) else none
  | _ => none
def faD (off : Nat) : DV → Option DV
  | .mp b o => some (.mp b (o + off))
  | .ip cs => some (.ip (cs.drop off))
  | _ => none
def nckD : DV → Option DV
  | .mp b o => some (.mp b o)
  | .ip cs => some (.ip cs)
  | .ifc t d => some (.ifc t d)
  | _ => none
def ixD (sz : Nat) : DV → DV → Option DV
  | .isl n cs, .int _ i => if 0 ≤ i ∧ i < n then some (.ip (cs.drop (i.toNat * sz))) else none
  | .msl b o n c, .int _ i => if 0 ≤ i ∧ i < n then some (.mp b (o + i.toNat * sz)) else none
  | _, _ => none
def lenD : DV → Option DV
  | .isl n _ => some (.int .i64 n)
  | .msl _ _ n _ => some (.int .i64 n)
  | .zsl => some (.int .i64 0)
  | _ => none
def fldD (off : Nat) : DV → Option DV
  | .agg cs => cs[off]?
  | _ => none
def fldnD (off n : Nat) : DV → Option DV
  | .agg cs => some (.agg ((cs.drop off).take n))
  | _ => none
def extD (n : Nat) : DV → Option DV
  | .tup cs => cs[n]?
  | _ => none
def csD : DV → DV → Option DV
  | d, .tup ds => some (.tup (d :: ds))
  | _, _ => none
def boundD : DV → Option (Option Int)
  | .tup [] => some none
  | .tup [.int _ i] => some (some i)
  | _ => none
def slcD (sz : Nat) (d lo hi mx : DV) : Option DV :=
  (boundD lo).bind fun lo => (boundD hi).bind fun hi => (boundD mx).bind fun mx =>
  match d with
  | .isl n cs => (slcB n n lo hi mx).map fun (l, h, m) => if mx.isSome = true ∧ m = l then .zsl else .isl (h - l) ((cs.drop (l * sz)).take ((h - l) * sz))
  | .msl b o n c => if n ≤ c then (slcB n c lo hi mx).map fun (l, h, m) => if m = l then .zsl else .msl b (o + l * sz) (h - l) (m - l) else none
  | .zsl => (slcB 0 0 lo hi mx).map fun _ => .zsl
  | .raw (.slice _ n c) => (slcB n c lo hi mx).bind fun (l, h, m) => if m = l ∧ h = l then some .zsl else none
  | _ => none
def cellsD : DV → Option (List DV)
  | .agg cs => some cs
  | .raw .nilIface => some [.raw .nilIface]
  | .raw _ => none
  | d => some [d]
def bldLD : List DV → List (Nat × Nat) → List DV → Option (List DV)
  | z, [], [] => some z
  | z, (off, n) :: pl, d :: ds => (cellsD d).bind fun cs => if cs.length = n ∧ off + n ≤ z.length then bldLD (z.take off ++ cs ++ z.drop (off + n)) pl ds else none
  | _, _, _ => none
def bldD (z : List Value) (pl : List (Nat × Nat)) : DV → Option DV
  | .tup ds => (bldLD (z.map of0) pl ds).map .agg
  | _ => none
def mkfD (fn : Fn) : DV → DV → Option DV
  | .tup a, .tup b => some (.fn fn a b)
  | _, _ => none
def pickD : DV → DV → DV → Option DV
  | .bool c, a, b => some (if c then a else b)
  | _, _, _ => none
def andD : DV → Option DV → Option DV
  | .bool x, e => if x then e else some (.bool false)
  | _, _ => none
def orD : DV → Option DV → Option DV
  | .bool x, e => if x then some (.bool true) else e
  | _, _ => none
def grdD (want : Bool) : DV → Option DV → Option DV
  | .bool b, e => if b = want then e else some (.raw undef)
  | .raw (.bool _), _ => none
  | .raw _, _ => some (.raw undef)
  | _, _ => none
def tupD : DV → Option (List DV)
  | .tup ds => some ds
  | _ => none
def binD (op : BinOp) (a b : DV) : Option DV := lift2 (binV op) a b
def eqsD (ne : Bool) (n : Nat) (a b : DV) : Option DV := lift2 (eqsV ne n) a b
def eqnD (ne : Bool) : DV → DV → Option DV
  | .nilp, .nilp => some (.bool (!ne))
  | .mp _ _, .nilp => some (.bool ne)
  | .ip _, .nilp => some (.bool ne)
  | _, _ => none
def eqzD (ne : Bool) : DV → Option DV
  | .isl (n + 1) _ => some (.bool ne)
  | .msl .. => some (.bool ne)
  | .csl .. => some (.bool ne)
  | .raw (.slice a _ _) => some (.bool (if ne then a.isSome else a.isNone))
  | _ => none
def isNils : Ex → Bool
  | .k (.slice none 0 0) => true
  | _ => false
def eqbD (ne : Bool) (a b : DV) : Option DV := lift2 (eqbV ne) a b
def unD (op : UnOp) (a : DV) : Option DV := lift1 (unV op) a
def cvtD (k : IntKind) (a : DV) : Option DV := lift1 (cvtV k) a
def sidxD (a b : DV) : Option DV := lift2 sidxV a b
def slenD (a : DV) : Option DV := lift1 slenV a
def sslcD (a lo hi : DV) : Option DV := lift3 sslcV a lo hi
variable (P)
noncomputable def evD (M : DMem) (δ : DEnv) : Ex → Option DV
  | .s i => some (δ i)
  | .k v => some (ofV v)
  | .bin op a b => (evD M δ a).bind fun x => (evD M δ b).bind fun y => binD op x y
  | .eqs ne n a b => (evD M δ a).bind fun x => (evD M δ b).bind fun y => eqsD ne n x y
  | .eqn ne a b => (evD M δ a).bind fun x => (evD M δ b).bind fun y => eqnD ne x y
  | .eqz ne a b => if isNils b = true then (evD M δ a).bind (eqzD ne) else none
  | .eqb ne a b => (evD M δ a).bind fun x => (evD M δ b).bind fun y => eqbD ne x y
  | .un op a => (evD M δ a).bind (unD op)
  | .cvt k a => (evD M δ a).bind (cvtD k)
  | .pick c a b => (evD M δ c).bind fun z => (evD M δ a).bind fun x => (evD M δ b).bind fun y => pickD z x y
  | .and c e => (evD M δ c).bind fun x => andD x (evD M δ e)
  | .or c e => (evD M δ c).bind fun x => orD x (evD M δ e)
  | .grd c want e => (evD M δ c).bind fun x => grdD want x (evD M δ e)
  | .ld a => (evD M δ a).bind (ldD M)
  | .ldn n a => (evD M δ a).bind (ldnD M n)
  | .fa off a => (evD M δ a).bind (faD off)
  | .nck a => (evD M δ a).bind nckD
  | .ix sz a i => (evD M δ a).bind fun x => (evD M δ i).bind fun y => ixD sz x y
  | .sidx a i => (evD M δ a).bind fun x => (evD M δ i).bind fun y => sidxD x y
  | .len a => (evD M δ a).bind lenD
  | .slen a => (evD M δ a).bind slenD
  | .fld off a => (evD M δ a).bind (fldD off)
  | .fldn off n a => (evD M δ a).bind (fldnD off n)
  | .ext n a => (evD M δ a).bind (extD n)
  | .slc sz a lo hi mx => (evD M δ a).bind fun x => (evD M δ lo).bind fun l => (evD M δ hi).bind fun h => (evD M δ mx).bind fun q => slcD sz x l h q
  | .sslc a lo hi => (evD M δ a).bind fun x => (evD M δ lo).bind fun l => (evD M δ hi).bind fun h => sslcD x l h
  | .ifc ty a => (evD M δ a).bind fun x => some (.ifc ty x)
  | .nl => some (.tup [])
  | .cs a t => (evD M δ a).bind fun x => (evD M δ t).bind fun y => csD x y
  | .bld z pl parts => (evD M δ parts).bind (bldD z pl)
  | .mkf fn first caps => (evD M δ first).bind fun x => (evD M δ caps).bind fun y => mkfD fn x y
  | .call f args => (evD M δ args).bind fun x => (tupD x).bind fun ds => pf P f (ds.map (fz M 4))
variable {P}

section ok
variable {M : DMem} {m : Mem} (hM : RepM M m)
include hM
theorem RepM.le {b : Nat} {B : DBlk} (hb : M b = some B) : ∃ vs, m b = some (.cells B.ty B.n false vs) ∧ RepP m B.cs vs ∧ B.cs.length = vs.length := by
  obtain ⟨vs, h1, h2, h3⟩ := hM b B hb; exact ⟨vs, h1, h2, h3⟩
theorem ldD_ok {a d : DV} {x : Value} (h : ldD M a = some d) (r : Rep m a x) : ∃ v, ldV m x = some v ∧ Rep m d v := by
  cases a <;> simp only [ldD, reduceCtorEq] at h
  case mp b o =>
    simp only [Option.bind_eq_some_iff] at h
    obtain ⟨B, hB, h⟩ := h
    obtain ⟨vs, h1, h2, _⟩ := hM b B hB
    simp only [Rep] at r; subst r
    obtain ⟨v, h3, h4⟩ := h2.get h
    exact ⟨v, by simp [ldV, Mem.get, h1, h3], h4⟩
  case ip cs =>
    simp only [Rep] at r
    obtain ⟨b, o, ty, N, full, rfl, h1, h2⟩ := r
    obtain ⟨v, h3, h4⟩ := h2.get h
    refine ⟨v, ?_, h4⟩
    simp only [List.getElem?_drop, Nat.add_zero] at h3
    simp [ldV, Mem.get, h1, h3]
theorem ldnD_ok {n : Nat} {a d : DV} {x : Value} (h : ldnD M n a = some d) (r : Rep m a x) : ∃ v, ldnV m n x = some v ∧ Rep m d v := by
  cases a <;> simp only [ldnD, reduceCtorEq] at h
  case mp b o =>
    simp only [Option.bind_eq_some_iff] at h
    obtain ⟨B, hB, h⟩ := h
    obtain ⟨vs, h1, h2, h5⟩ := hM b B hB
    simp only [Rep] at r; subst r
    split at h
    · rename_i hle
      cases h
      have := (h2.drop o).rowL (n := n) (by simp; omega)
      refine ⟨.agg ((vs.drop o).take n).toArray, ?_, by simp only [Rep]; exact ⟨_, rfl, this.1, this.2⟩⟩
      simp [ldnV, Mem.row, h1]; omega
    · cases h
  case ip cs =>
    simp only [Rep] at r
    obtain ⟨b, o, ty, N, full, rfl, h1, h2⟩ := r
    split at h
    · rename_i hle
      cases h
      have := h2.rowL (n := n) hle.2
      have hl := h2.le
      refine ⟨.agg ((full.drop o).take n).toArray, ?_, by simp only [Rep]; exact ⟨_, rfl, this.1, this.2⟩⟩
      simp only [List.length_drop] at hl
      simp [ldnV, Mem.row, h1]; omega
    · cases h
omit hM
theorem faD_ok {n : Nat} {a d : DV} {x : Value} (h : faD n a = some d) (r : Rep m a x) : ∃ v, faV n x = some v ∧ Rep m d v := by
  cases a <;> simp only [faD, reduceCtorEq, Option.some.injEq] at h
  case mp b o => subst h; simp only [Rep] at r; subst r; exact ⟨_, rfl, by simp only [Rep]; rw [add_addr]⟩
  case ip cs =>
    subst h; simp only [Rep] at r
    obtain ⟨b, o, ty, N, full, rfl, h1, h2⟩ := r
    refine ⟨_, rfl, ?_⟩
    simp only [Rep]
    refine ⟨b, o + n, ty, N, full, by rw [add_addr], h1, ?_⟩
    have := h2.drop n
    rwa [List.drop_drop] at this
theorem nckD_ok {a d : DV} {x : Value} (h : nckD a = some d) (r : Rep m a x) : ∃ v, nckV x = some v ∧ Rep m d v := by
  cases a <;> simp only [nckD, reduceCtorEq, Option.some.injEq] at h <;> subst h
  case mp b o => simp only [Rep] at r; subst r; exact ⟨_, rfl, by simp only [Rep]⟩
  case ip cs => have r' := r; simp only [Rep] at r; obtain ⟨b, o, ty, N, full, rfl, h1, h2⟩ := r; exact ⟨_, rfl, r'⟩
  case ifc t d => have r' := r; simp only [Rep] at r; obtain ⟨x, rfl, _⟩ := r; exact ⟨_, rfl, r'⟩
theorem ixD_ok {sz : Nat} {a i d : DV} {x y : Value} (h : ixD sz a i = some d) (r : Rep m a x) (s : Rep m i y) : ∃ v, ixV sz x y = some v ∧ Rep m d v := by
  cases a <;> cases i <;> simp only [ixD, reduceCtorEq] at h
  case isl.int n cs k i =>
    split at h
    · rename_i hi
      cases h
      simp only [Rep] at r s
      obtain ⟨a, c, rfl, _, h1⟩ := r
      obtain ⟨b, o, ty, N, full, rfl, h2, h3⟩ := h1 (by omega)
      subst s
      refine ⟨.pointer (some ⟨b, o + i.toNat * sz, none⟩), by simp [ixV, hi, add_addr], ?_⟩
      simp only [Rep]
      refine ⟨b, _, ty, N, full, rfl, h2, ?_⟩
      have := h3.drop (i.toNat * sz)
      rwa [List.drop_drop] at this
    · cases h
  case msl.int b o n c k i =>
    split at h
    · rename_i hi
      cases h
      simp only [Rep] at r s
      subst r; subst s
      exact ⟨.pointer (some ⟨b, o + i.toNat * sz, none⟩), by simp [ixV, hi, add_addr], by simp only [Rep]⟩
    · cases h
theorem lenD_ok {a d : DV} {x : Value} (h : lenD a = some d) (r : Rep m a x) : ∃ v, lenV x = some v ∧ Rep m d v := by
  cases a <;> simp only [lenD, reduceCtorEq, Option.some.injEq] at h <;> subst h <;> simp only [Rep] at r
  case isl n cs => obtain ⟨a, c, rfl, _⟩ := r; exact ⟨_, rfl, by simp only [Rep]⟩
  case msl b o n c => subst r; exact ⟨_, rfl, by simp only [Rep]⟩
  case zsl => obtain ⟨a, rfl⟩ := r; exact ⟨_, rfl, by simp only [Rep]; rfl⟩
theorem fldD_ok {n : Nat} {a d : DV} {x : Value} (h : fldD n a = some d) (r : Rep m a x) : ∃ v, fldV n x = some v ∧ Rep m d v := by
  cases a <;> simp only [fldD, reduceCtorEq] at h
  simp only [Rep] at r
  obtain ⟨vs, rfl, h1, h2⟩ := r
  obtain ⟨v, h3, h4⟩ := h1.get h
  exact ⟨v, by simp [fldV, h3], h4⟩
theorem fldnD_ok {o n : Nat} {a d : DV} {x : Value} (h : fldnD o n a = some d) (r : Rep m a x) : ∃ v, fldnV o n x = some v ∧ Rep m d v := by
  cases a <;> simp only [fldnD, reduceCtorEq, Option.some.injEq] at h
  subst h
  simp only [Rep] at r
  obtain ⟨vs, rfl, h1, h2⟩ := r
  have := (RepL.take (RepL.drop ⟨h1, h2⟩ o) n)
  refine ⟨.agg ((vs.drop o).take n).toArray, ?_, by simp only [Rep]; exact ⟨_, rfl, this.1, this.2⟩⟩
  simp only [fldnV, List.extract_toArray, Option.some.injEq, Value.agg.injEq]
  simp [List.extract_eq_take_drop]
theorem extD_ok {n : Nat} {a d : DV} {x : Value} (h : extD n a = some d) (r : Rep m a x) : ∃ v, extV n x = some v ∧ Rep m d v := by
  cases a <;> simp only [extD, reduceCtorEq] at h
  simp only [Rep] at r
  obtain ⟨vs, rfl, h1, h2⟩ := r
  obtain ⟨v, h3, h4⟩ := h1.get h
  exact ⟨v, by simp [extV, h3], h4⟩
theorem csD_ok {a b d : DV} {x y : Value} (h : csD a b = some d) (r : Rep m a x) (s : Rep m b y) : ∃ v, csV x y = some v ∧ Rep m d v := by
  cases b <;> simp only [csD, reduceCtorEq, Option.some.injEq] at h
  subst h
  simp only [Rep] at s
  obtain ⟨vs, rfl, h1, h2⟩ := s
  exact ⟨.tuple (x :: vs).toArray, by simp [csV], by simp only [Rep]; exact ⟨_, rfl, by simp only [RepP]; exact ⟨r, h1⟩, by simp [h2]⟩⟩
theorem boundD_ok {a : DV} {x : Value} {o : Option Int} (h : boundD a = some o) (r : Rep m a x) : bound? x = some o := by
  unfold boundD at h
  split at h
  · cases h; simp only [Rep] at r; obtain ⟨vs, rfl, h1, h2⟩ := r
    cases vs with
    | nil => simp [bound?]
    | cons => simp at h2
  · cases h; simp only [Rep] at r; obtain ⟨vs, rfl, h1, h2⟩ := r
    match vs, h1, h2 with
    | [v], h1, _ => simp only [RepP, Rep] at h1; rw [h1.1]; simp [bound?]
  · cases h
theorem slcB_cap {n c : Nat} {lo hi mx : Option Int} {l h q : Nat} (hc : n ≤ c) (e : slcB n n lo hi mx = some (l, h, q)) : ∃ q', slcB n c lo hi mx = some (l, h, q') ∧ q ≤ q' ∧ (mx.isSome = true → q' = q) ∧ l ≤ h ∧ h ≤ q := by
  simp only [slcB, Option.bind_eq_some_iff, Option.map_eq_some_iff, Prod.mk.injEq] at e ⊢
  obtain ⟨m1, h1, h2, h3, l1, h4, rfl, rfl, rfl⟩ := e
  cases mx with
  | none =>
    cases h1
    refine ⟨c, ⟨c, rfl, h2, ?_, l1, h4, rfl, rfl, rfl⟩, hc, (fun h => by cases h), ?_, ?_⟩
    · cases hi with
      | none => simpa using h3
      | some i => simp only [Option.isSome_none, Bool.false_eq_true, if_false] at h3 ⊢; split at h3 <;> simp_all; omega
    · cases lo with
      | none => simp at h4; omega
      | some i => simp at h4; omega
    · cases hi with
      | none => simp at h3; omega
      | some i => simp at h3; omega
  | some j =>
    simp only [Option.isSome_some, if_true, Bool.true_eq_false] at h1 h3 ⊢
    split at h1
    · rename_i hj
      cases h1
      refine ⟨j.toNat, ⟨j.toNat, by rw [if_pos ⟨hj.1, by omega⟩], h2, h3, l1, h4, rfl, rfl, rfl⟩, Nat.le_refl _, fun _ => rfl, ?_, ?_⟩
      · cases lo with
        | none => simp at h4; omega
        | some i => simp at h4; omega
      · cases hi with
        | none => simp at h3
        | some i => simp at h3; omega
    · cases h1
theorem slcB_le {n c : Nat} {lo hi mx : Option Int} {l h q : Nat} (hc : n ≤ c) (e : slcB n c lo hi mx = some (l, h, q)) : l ≤ h ∧ h ≤ q := by
  simp only [slcB, Option.bind_eq_some_iff, Option.map_eq_some_iff, Prod.mk.injEq] at e
  obtain ⟨m1, h1, h2, h3, l1, h4, rfl, rfl, rfl⟩ := e
  constructor
  · cases lo with
    | none => simp at h4; omega
    | some i => simp at h4; omega
  · cases hi with
    | none => cases mx <;> simp at h1 h3; omega
    | some i => cases mx <;> simp at h1 h3 <;> omega
theorem slcD_ok {sz : Nat} {a lo hi mx d : DV} {x l h q : Value} (e : slcD sz a lo hi mx = some d) (r : Rep m a x) (rl : Rep m lo l) (rh : Rep m hi h) (rq : Rep m mx q) : ∃ v, slcV sz x l h q = some v ∧ Rep m d v := by
  simp only [slcD, Option.bind_eq_some_iff] at e
  obtain ⟨lo', h1, hi', h2, mx', h3, e⟩ := e
  simp only [slcV, boundD_ok h1 rl, boundD_ok h2 rh, boundD_ok h3 rq, Option.bind_some]
  by_cases hraw : ∃ u, a = .raw u
  · obtain ⟨u, rfl⟩ := hraw
    cases u <;> simp only [reduceCtorEq, Option.bind_eq_some_iff] at e
    obtain ⟨⟨l1, h1', q1⟩, e, he⟩ := e
    split at he
    · rename_i hz
      cases he
      simp only at hz
      simp only [Rep] at r; subst r
      simp only [e, Option.map_some]
      obtain ⟨rfl, rfl⟩ := hz
      exact ⟨_, rfl, by simp only [Rep, if_true, Nat.sub_self]; exact ⟨_, rfl⟩⟩
    · cases he
  cases a <;> (try exact absurd ⟨_, rfl⟩ hraw) <;> clear hraw <;> simp only [reduceCtorEq, Option.map_eq_some_iff] at e
  case isl n cs =>
    obtain ⟨⟨l1, h1', q1⟩, e, rfl⟩ := e
    simp only [Rep] at r
    obtain ⟨a, c, rfl, hc, hr⟩ := r
    obtain ⟨q', e', hq, hqe, hlh, hhq⟩ := slcB_cap hc e
    simp only [e', Option.map_some]
    refine ⟨_, rfl, ?_⟩
    split
    · rename_i hz
      obtain ⟨hz1, rfl⟩ := hz
      rw [hqe hz1]
      simp only [Rep, if_true]
      exact ⟨a, by congr <;> omega⟩
    · simp only [Rep]
      refine ⟨_, _, rfl, by omega, fun hp => ?_⟩
      rw [if_neg (by omega)]
      have hn : 0 < n := by
        simp only [slcB, Option.bind_eq_some_iff, Option.map_eq_some_iff, Prod.mk.injEq] at e
        obtain ⟨m1, g1, g2, g3, l1', g4, rfl, rfl, rfl⟩ := e
        cases mx' with
        | none => simp at g1; omega
        | some j => simp at g1; omega
      obtain ⟨b, o, ty, N, full, rfl, h5, h6⟩ := hr hn
      refine ⟨b, o + l1 * sz, ty, N, full, by simp [add_addr], h5, ?_⟩
      have := h6.drop (l1 * sz)
      rw [List.drop_drop] at this
      exact this.take _
  case msl b o n c =>
    split at e <;> simp only [reduceCtorEq, Option.map_eq_some_iff] at e
    rename_i hnc
    obtain ⟨⟨l1, h1', q1⟩, e, rfl⟩ := e
    simp only [Rep] at r; subst r
    have hle := slcB_le hnc e
    simp only [e, Option.map_some]
    refine ⟨_, rfl, ?_⟩
    split
    · rename_i hz; subst hz
      simp only [Rep]
      exact ⟨some ⟨b, o, none⟩, by congr <;> omega⟩
    · simp only [Rep, Option.map_some, add_addr]
  case zsl =>
    obtain ⟨⟨l1, h1', q1⟩, e, rfl⟩ := e
    simp only [Rep] at r
    obtain ⟨a, rfl⟩ := r
    have hle := slcB_le (Nat.le_refl 0) e
    have hq : q1 = 0 := by
      simp only [slcB, Option.bind_eq_some_iff, Option.map_eq_some_iff, Prod.mk.injEq] at e
      obtain ⟨m1, g1, g2, g3, l1', g4, rfl, rfl, rfl⟩ := e
      cases mx' with
      | none => simp at g1; omega
      | some j => simp at g1; omega
    subst hq
    have : l1 = 0 ∧ h1' = 0 := by omega
    obtain ⟨rfl, rfl⟩ := this
    simp only [e, Option.map_some]
    exact ⟨_, rfl, by simp only [Rep]; exact ⟨a, by simp⟩⟩
theorem eqzD_ok {ne : Bool} {a d : DV} {x : Value} (h : eqzD ne a = some d) (r : Rep m a x) : ∃ v, eqzV ne x (.slice none 0 0) = some v ∧ Rep m d v := by
  unfold eqzD at h
  split at h
  · rename_i n cs
    cases h
    simp only [Rep] at r
    obtain ⟨a, c, rfl, _, h2⟩ := r
    obtain ⟨b, o, ty, N, full, rfl, _⟩ := h2 (by omega)
    exact ⟨.bool ne, by cases ne <;> rfl, by simp only [Rep]⟩
  · cases h
    simp only [Rep] at r
    subst r
    exact ⟨.bool ne, by cases ne <;> rfl, by simp only [Rep]⟩
  · cases h
    simp only [Rep] at r
    obtain ⟨b, o, ty, N, full, rfl, _⟩ := r
    exact ⟨.bool ne, by cases ne <;> rfl, by simp only [Rep]⟩
  · cases h
    simp only [Rep] at r
    subst r
    exact ⟨_, rfl, by simp only [Rep]⟩
  · cases h
theorem cellsD_ok {d : DV} {x : Value} {cs : List DV} (h : cellsD d = some cs) (r : Rep m d x) : RepL m cs x.cells.toList := by
  by_cases hraw : ∃ v, d = .raw v
  · obtain ⟨v, rfl⟩ := hraw
    cases v <;> simp only [cellsD, reduceCtorEq, Option.some.injEq] at h
    subst h
    simp only [Rep] at r
    subst r
    exact (RepL.nil m).cons (by simp only [Rep])
  cases d <;> (try exact absurd ⟨_, rfl⟩ hraw) <;> clear hraw <;> simp only [cellsD, Option.some.injEq, reduceCtorEq] at h <;> subst h <;> simp only [Rep] at r
  case agg cs => obtain ⟨vs, rfl, h1, h2⟩ := r; exact ⟨h1, h2⟩
  case int => subst r; exact (RepL.nil m).cons (by simp only [Rep])
  case bool => subst r; exact (RepL.nil m).cons (by simp only [Rep])
  case str => subst r; exact (RepL.nil m).cons (by simp only [Rep])
  case nilp => subst r; exact (RepL.nil m).cons (by simp only [Rep])
  case mp => subst r; exact (RepL.nil m).cons (by simp only [Rep])
  case ip => obtain ⟨b, o, ty, N, full, rfl, h1, h2⟩ := r; exact (RepL.nil m).cons (by simp only [Rep]; exact ⟨b, o, ty, N, full, rfl, h1, h2⟩)
  case isl => obtain ⟨a, c, rfl, h1, h2⟩ := r; exact (RepL.nil m).cons (by simp only [Rep]; exact ⟨a, c, rfl, h1, h2⟩)
  case zsl => obtain ⟨a, rfl⟩ := r; exact (RepL.nil m).cons (by simp only [Rep]; exact ⟨a, rfl⟩)
  case msl => subst r; exact (RepL.nil m).cons (by simp only [Rep])
  case tup => obtain ⟨vs, rfl, h1, h2⟩ := r; exact (RepL.nil m).cons (by simp only [Rep]; exact ⟨vs, rfl, h1, h2⟩)
  case csl => obtain ⟨b, o, ty, N, full, rfl, h1, h2⟩ := r; exact (RepL.nil m).cons (by simp only [Rep]; exact ⟨b, o, ty, N, full, rfl, h1, h2⟩)
  case fn => obtain ⟨x, y, rfl, h1⟩ := r; exact (RepL.nil m).cons (by simp only [Rep]; exact ⟨x, y, rfl, h1⟩)
  case ifc => obtain ⟨x, rfl, h1⟩ := r; exact (RepL.nil m).cons (by simp only [Rep]; exact ⟨x, rfl, h1⟩)
theorem bldLD_ok : ∀ (pl : List (Nat × Nat)) {z ds l : List DV} {zv vs : List Value}, bldLD z pl ds = some l → RepL m z zv → RepL m ds vs → ∃ l', bldL zv pl vs = some l' ∧ RepL m l l'
  | [], z, ds, l, zv, vs, h, rz, rs => by
    cases ds <;> simp [bldLD] at h
    subst h
    have := rs.2
    cases vs <;> simp at this
    exact ⟨zv, rfl, rz⟩
  | (off, n) :: pl, z, ds, l, zv, vs, h, rz, rs => by
    cases ds with
    | nil => simp [bldLD] at h
    | cons d ds =>
      cases vs with
      | nil => have := rs.2; simp at this
      | cons v vs =>
        simp only [bldLD, Option.bind_eq_some_iff] at h
        obtain ⟨cs, hc, h⟩ := h
        split at h
        · rename_i hh
          have r1 := rs.1
          simp only [RepP] at r1
          have rc := cellsD_ok hc r1.1
          obtain ⟨l', h1, h2⟩ := bldLD_ok pl h (((rz.take off).append rc).append (rz.drop (off + n))) ⟨r1.2, by simpa using rs.2⟩
          refine ⟨l', ?_, h2⟩
          simp only [bldL]
          rw [if_pos ⟨by rw [← hh.1, rc.2]; simp, by rw [← rz.2]; exact hh.2⟩]
          exact h1
        · cases h
theorem bldD_ok {z : List Value} {pl : List (Nat × Nat)} {a d : DV} {x : Value} (h : bldD z pl a = some d) (r : Rep m a x) : ∃ v, bldV z pl x = some v ∧ Rep m d v := by
  cases a <;> simp only [bldD, reduceCtorEq, Option.map_eq_some_iff] at h
  obtain ⟨l, h, rfl⟩ := h
  simp only [Rep] at r
  obtain ⟨vs, rfl, h1, h2⟩ := r
  obtain ⟨l', h3, h4⟩ := bldLD_ok pl h ⟨of0s_rep m z, by simp⟩ ⟨h1, h2⟩
  exact ⟨.agg l'.toArray, by simp [bldV, h3], by simp only [Rep]; exact ⟨l', rfl, h4.1, h4.2⟩⟩
theorem mkfD_ok {fn : Fn} {a b d : DV} {x y : Value} (h : mkfD fn a b = some d) (r : Rep m a x) (s : Rep m b y) : ∃ v, mkfV fn x y = some v ∧ Rep m d v := by
  cases a <;> cases b <;> simp only [mkfD, reduceCtorEq, Option.some.injEq] at h
  subst h
  simp only [Rep] at r s
  obtain ⟨vs, rfl, h1, h2⟩ := r
  obtain ⟨us, rfl, h3, h4⟩ := s
  exact ⟨.func fn vs.toArray us.toArray, rfl, by simp only [Rep]; exact ⟨vs, us, rfl, h1, h2, h3, h4⟩⟩
theorem pickD_ok {c a b d : DV} {z x y : Value} (h : pickD c a b = some d) (q : Rep m c z) (r : Rep m a x) (s : Rep m b y) : ∃ v, pickV z x y = some v ∧ Rep m d v := by
  cases c <;> simp only [pickD, reduceCtorEq, Option.some.injEq] at h
  subst h
  simp only [Rep] at q; subst q
  exact ⟨_, rfl, by split <;> assumption⟩
theorem eqnD_ok {ne : Bool} {a b d : DV} {x y : Value} (h : eqnD ne a b = some d) (r : Rep m a x) (s : Rep m b y) : ∃ v, eqnV ne x y = some v ∧ Rep m d v := by
  unfold eqnD at h
  split at h <;> simp only [Option.some.injEq, reduceCtorEq] at h <;> subst h <;> simp only [Rep] at r s <;> subst s
  · subst r; exact ⟨_, rfl, by simp only [Rep]; cases ne <;> rfl⟩
  · subst r; exact ⟨_, rfl, by simp only [Rep]; cases ne <;> rfl⟩
  · obtain ⟨b, o, ty, N, full, rfl, h1, h2⟩ := r; exact ⟨_, rfl, by simp only [Rep]; cases ne <;> rfl⟩
end ok
theorem fzL_map_ok {M : DMem} {m : Mem} (hM : RepM M m) (k : Nat) {ds : List DV} {vs : List Value} (r : RepL m ds vs) : RepL (sealM M m) (ds.map (fz M k)) vs :=
  ⟨map_ok (fz_ok hM k) r.1, by simpa using r.2⟩
theorem evD_ok {M : DMem} {δ : DEnv} {m : Mem} {ρ : Env} (hI : Inh m) (hM : RepM M m) (hρ : ∀ i, Rep m (δ i) (ρ i)) : ∀ (e : Ex) (d : DV), evD P M δ e = some d → ∃ v, ev (spRO P) m ρ e = some v ∧ Rep m d v := by
  intro e
  induction e with
  | s i => intro d h; simp only [evD, Option.some.injEq] at h; subst h; exact ⟨_, rfl, hρ i⟩
  | k v => intro d h; simp only [evD, Option.some.injEq] at h; subst h; exact ⟨_, rfl, ofV_rep m v⟩
  | bin op a b iha ihb =>
    intro d h; simp only [evD, Option.bind_eq_some_iff] at h; obtain ⟨x, hx, y, hy, h⟩ := h
    obtain ⟨u, e1, r1⟩ := iha x hx; obtain ⟨v, e2, r2⟩ := ihb y hy
    obtain ⟨w, e3, r3⟩ := lift2_ok h r1 r2
    exact ⟨w, by simp only [ev, e1, e2, Option.bind_some, e3], r3⟩
  | eqs ne n a b iha ihb =>
    intro d h; simp only [evD, Option.bind_eq_some_iff] at h; obtain ⟨x, hx, y, hy, h⟩ := h
    obtain ⟨u, e1, r1⟩ := iha x hx; obtain ⟨v, e2, r2⟩ := ihb y hy
    obtain ⟨w, e3, r3⟩ := lift2_ok h r1 r2
    exact ⟨w, by simp only [ev, e1, e2, Option.bind_some, e3], r3⟩
  | eqn ne a b iha ihb =>
    intro d h; simp only [evD, Option.bind_eq_some_iff] at h; obtain ⟨x, hx, y, hy, h⟩ := h
    obtain ⟨u, e1, r1⟩ := iha x hx; obtain ⟨v, e2, r2⟩ := ihb y hy
    obtain ⟨w, e3, r3⟩ := eqnD_ok h r1 r2
    exact ⟨w, by simp only [ev, e1, e2, Option.bind_some, e3], r3⟩
  | eqz ne a b iha ihb =>
    intro d h
    simp only [evD] at h
    split at h
    · rename_i hb
      have hbe : b = .k (.slice none 0 0) := by
        unfold isNils at hb
        split at hb
        · rfl
        · cases hb
      subst hbe
      simp only [Option.bind_eq_some_iff] at h
      obtain ⟨x, hx, h⟩ := h
      obtain ⟨u, e1, r1⟩ := iha x hx
      obtain ⟨w, e3, r3⟩ := eqzD_ok h r1
      exact ⟨w, by simp only [ev, e1, Option.bind_some, e3], r3⟩
    · cases h
  | eqb ne a b iha ihb =>
    intro d h; simp only [evD, Option.bind_eq_some_iff] at h; obtain ⟨x, hx, y, hy, h⟩ := h
    obtain ⟨u, e1, r1⟩ := iha x hx; obtain ⟨v, e2, r2⟩ := ihb y hy
    obtain ⟨w, e3, r3⟩ := lift2_ok h r1 r2
    exact ⟨w, by simp only [ev, e1, e2, Option.bind_some, e3], r3⟩
  | un op a ih =>
    intro d h; simp only [evD, Option.bind_eq_some_iff] at h; obtain ⟨x, hx, h⟩ := h
    obtain ⟨u, e1, r1⟩ := ih x hx; obtain ⟨w, e3, r3⟩ := lift1_ok h r1
    exact ⟨w, by simp only [ev, e1, Option.bind_some, e3], r3⟩
  | cvt k a ih =>
    intro d h; simp only [evD, Option.bind_eq_some_iff] at h; obtain ⟨x, hx, h⟩ := h
    obtain ⟨u, e1, r1⟩ := ih x hx; obtain ⟨w, e3, r3⟩ := lift1_ok h r1
    exact ⟨w, by simp only [ev, e1, Option.bind_some, e3], r3⟩
  | pick c a b ihc iha ihb =>
    intro d h; simp only [evD, Option.bind_eq_some_iff] at h; obtain ⟨z, hz, x, hx, y, hy, h⟩ := h
    obtain ⟨t, e0, r0⟩ := ihc z hz; obtain ⟨u, e1, r1⟩ := iha x hx; obtain ⟨v, e2, r2⟩ := ihb y hy
    obtain ⟨w, e3, r3⟩ := pickD_ok h r0 r1 r2
    exact ⟨w, by simp only [ev, e0, e1, e2, Option.bind_some, e3], r3⟩
  | and c e ihc ihe =>
    intro d h; simp only [evD, Option.bind_eq_some_iff] at h; obtain ⟨x, hx, h⟩ := h
    obtain ⟨u, e1, r1⟩ := ihc x hx
    cases x <;> simp only [andD, reduceCtorEq] at h
    rename_i b
    simp only [Rep] at r1; subst r1
    cases b
    · simp at h; subst h; exact ⟨.bool false, by simp [ev, e1, andK], by simp only [Rep]⟩
    · simp at h; obtain ⟨v, e2, r2⟩ := ihe d h; exact ⟨v, by simp [ev, e1, andK, e2], r2⟩
  | or c e ihc ihe =>
    intro d h; simp only [evD, Option.bind_eq_some_iff] at h; obtain ⟨x, hx, h⟩ := h
    obtain ⟨u, e1, r1⟩ := ihc x hx
    cases x <;> simp only [orD, reduceCtorEq] at h
    rename_i b
    simp only [Rep] at r1; subst r1
    cases b
    · simp at h; obtain ⟨v, e2, r2⟩ := ihe d h; exact ⟨v, by simp [ev, e1, orK, e2], r2⟩
    · simp at h; subst h; exact ⟨.bool true, by simp [ev, e1, orK], by simp only [Rep]⟩
  | grd c want e ihc ihe =>
    intro d h; simp only [evD, Option.bind_eq_some_iff] at h; obtain ⟨x, hx, h⟩ := h
    obtain ⟨u, e1, r1⟩ := ihc x hx
    unfold grdD at h
    split at h
    · simp only [Rep] at r1; subst r1
      split at h
      · rename_i hb; obtain ⟨v, e2, r2⟩ := ihe d h; exact ⟨v, by simp [ev, e1, grdK, e2, hb], r2⟩
      · rename_i hb; cases h; exact ⟨undef, by simp [ev, e1, grdK, hb], by simp only [Rep]⟩
    · cases h
    · rename_i u' _ hu
      simp only [Rep] at r1; subst r1
      cases h
      refine ⟨undef, ?_, by simp only [Rep]⟩
      simp only [ev, e1, Option.bind_some]
      unfold grdK
      split
      · exact (hu _ rfl).elim
      · rfl
    · cases h
  | ld a ih =>
    intro d h; simp only [evD, Option.bind_eq_some_iff] at h; obtain ⟨x, hx, h⟩ := h
    obtain ⟨u, e1, r1⟩ := ih x hx; obtain ⟨w, e3, r3⟩ := ldD_ok hM h r1
    exact ⟨w, by simp only [ev, e1, Option.bind_some, e3], r3⟩
  | ldn n a ih =>
    intro d h; simp only [evD, Option.bind_eq_some_iff] at h; obtain ⟨x, hx, h⟩ := h
    obtain ⟨u, e1, r1⟩ := ih x hx; obtain ⟨w, e3, r3⟩ := ldnD_ok hM h r1
    exact ⟨w, by simp only [ev, e1, Option.bind_some, e3], r3⟩
  | fa off a ih =>
    intro d h; simp only [evD, Option.bind_eq_some_iff] at h; obtain ⟨x, hx, h⟩ := h
    obtain ⟨u, e1, r1⟩ := ih x hx; obtain ⟨w, e3, r3⟩ := faD_ok h r1
    exact ⟨w, by simp only [ev, e1, Option.bind_some, e3], r3⟩
  | nck a ih =>
    intro d h; simp only [evD, Option.bind_eq_some_iff] at h; obtain ⟨x, hx, h⟩ := h
    obtain ⟨u, e1, r1⟩ := ih x hx; obtain ⟨w, e3, r3⟩ := nckD_ok h r1
    exact ⟨w, by simp only [ev, e1, Option.bind_some, e3], r3⟩
  | ix sz a i iha ihi =>
    intro d h; simp only [evD, Option.bind_eq_some_iff] at h; obtain ⟨x, hx, y, hy, h⟩ := h
    obtain ⟨u, e1, r1⟩ := iha x hx; obtain ⟨v, e2, r2⟩ := ihi y hy
    obtain ⟨w, e3, r3⟩ := ixD_ok h r1 r2
    exact ⟨w, by simp only [ev, e1, e2, Option.bind_some, e3], r3⟩
  | sidx a i iha ihi =>
    intro d h; simp only [evD, Option.bind_eq_some_iff] at h; obtain ⟨x, hx, y, hy, h⟩ := h
    obtain ⟨u, e1, r1⟩ := iha x hx; obtain ⟨v, e2, r2⟩ := ihi y hy
    obtain ⟨w, e3, r3⟩ := lift2_ok h r1 r2
    exact ⟨w, by simp only [ev, e1, e2, Option.bind_some, e3], r3⟩
  | len a ih =>
    intro d h; simp only [evD, Option.bind_eq_some_iff] at h; obtain ⟨x, hx, h⟩ := h
    obtain ⟨u, e1, r1⟩ := ih x hx; obtain ⟨w, e3, r3⟩ := lenD_ok h r1
    exact ⟨w, by simp only [ev, e1, Option.bind_some, e3], r3⟩
  | slen a ih =>
    intro d h; simp only [evD, Option.bind_eq_some_iff] at h; obtain ⟨x, hx, h⟩ := h
    obtain ⟨u, e1, r1⟩ := ih x hx; obtain ⟨w, e3, r3⟩ := lift1_ok h r1
    exact ⟨w, by simp only [ev, e1, Option.bind_some, e3], r3⟩
  | fld off a ih =>
    intro d h; simp only [evD, Option.bind_eq_some_iff] at h; obtain ⟨x, hx, h⟩ := h
    obtain ⟨u, e1, r1⟩ := ih x hx; obtain ⟨w, e3, r3⟩ := fldD_ok h r1
    exact ⟨w, by simp only [ev, e1, Option.bind_some, e3], r3⟩
  | fldn off n a ih =>
    intro d h; simp only [evD, Option.bind_eq_some_iff] at h; obtain ⟨x, hx, h⟩ := h
    obtain ⟨u, e1, r1⟩ := ih x hx; obtain ⟨w, e3, r3⟩ := fldnD_ok h r1
    exact ⟨w, by simp only [ev, e1, Option.bind_some, e3], r3⟩
  | ext n a ih =>
    intro d h; simp only [evD, Option.bind_eq_some_iff] at h; obtain ⟨x, hx, h⟩ := h
    obtain ⟨u, e1, r1⟩ := ih x hx; obtain ⟨w, e3, r3⟩ := extD_ok h r1
    exact ⟨w, by simp only [ev, e1, Option.bind_some, e3], r3⟩
  | slc sz a lo hi mx iha ihl ihh ihm =>
    intro d h; simp only [evD, Option.bind_eq_some_iff] at h; obtain ⟨x, hx, l, hl, hh, hhe, q, hq, h⟩ := h
    obtain ⟨u, e1, r1⟩ := iha x hx; obtain ⟨v1, e2, r2⟩ := ihl l hl; obtain ⟨v2, e3, r3⟩ := ihh hh hhe; obtain ⟨v3, e4, r4⟩ := ihm q hq
    obtain ⟨w, e5, r5⟩ := slcD_ok h r1 r2 r3 r4
    exact ⟨w, by simp only [ev, e1, e2, e3, e4, Option.bind_some, e5], r5⟩
  | sslc a lo hi iha ihl ihh =>
    intro d h; simp only [evD, Option.bind_eq_some_iff] at h; obtain ⟨x, hx, l, hl, hh, hhe, h⟩ := h
    obtain ⟨u, e1, r1⟩ := iha x hx; obtain ⟨v1, e2, r2⟩ := ihl l hl; obtain ⟨v2, e3, r3⟩ := ihh hh hhe
    obtain ⟨w, e5, r5⟩ := lift3_ok h r1 r2 r3
    exact ⟨w, by simp only [ev, e1, e2, e3, Option.bind_some, e5], r5⟩
  | ifc ty a ih =>
    intro d h; simp only [evD, Option.bind_eq_some_iff, Option.some.injEq] at h; obtain ⟨x, hx, rfl⟩ := h
    obtain ⟨u, e1, r1⟩ := ih x hx
    exact ⟨.iface ty u, by simp only [ev, e1, Option.bind_some], by simp only [Rep]; exact ⟨u, rfl, r1⟩⟩
  | nl => intro d h; simp only [evD, Option.some.injEq] at h; subst h; exact ⟨.tuple #[], rfl, by simp only [Rep]; exact ⟨[], rfl, by simp only [RepP], rfl⟩⟩
  | cs a t iha iht =>
    intro d h; simp only [evD, Option.bind_eq_some_iff] at h; obtain ⟨x, hx, y, hy, h⟩ := h
    obtain ⟨u, e1, r1⟩ := iha x hx; obtain ⟨v, e2, r2⟩ := iht y hy
    obtain ⟨w, e3, r3⟩ := csD_ok h r1 r2
    exact ⟨w, by simp only [ev, e1, e2, Option.bind_some, e3], r3⟩
  | bld z pl parts ih =>
    intro d h; simp only [evD, Option.bind_eq_some_iff] at h; obtain ⟨x, hx, h⟩ := h
    obtain ⟨u, e1, r1⟩ := ih x hx; obtain ⟨w, e3, r3⟩ := bldD_ok h r1
    exact ⟨w, by simp only [ev, e1, Option.bind_some, e3], r3⟩
  | mkf fn first caps iha ihb =>
    intro d h; simp only [evD, Option.bind_eq_some_iff] at h; obtain ⟨x, hx, y, hy, h⟩ := h
    obtain ⟨u, e1, r1⟩ := iha x hx; obtain ⟨v, e2, r2⟩ := ihb y hy
    obtain ⟨w, e3, r3⟩ := mkfD_ok h r1 r2
    exact ⟨w, by simp only [ev, e1, e2, Option.bind_some, e3], r3⟩
  | call f args ih =>
    intro d h; simp only [evD, Option.bind_eq_some_iff] at h; obtain ⟨x, hx, ds, hds, h⟩ := h
    obtain ⟨u, e1, r1⟩ := ih x hx
    cases x <;> simp only [tupD, reduceCtorEq, Option.some.injEq] at hds
    subst hds
    simp only [Rep] at r1
    obtain ⟨vs, rfl, h1, h2⟩ := r1
    obtain ⟨v, rfl, hp⟩ := pf_spec h
    have := RO.unseal (hp _ _ (hM.glob.mono ((sealM_fin M m).trans (finA_fin M m))) ((fzL_map_ok hM 4 ⟨h1, h2⟩).mono (finA_fin M m)))
    exact ⟨v, by simp only [ev, e1, Option.bind_some]; exact spRO_eq hI this, dOf_rep m v⟩
end Go.Proofs.YtbiejiangdbcmaaDoor.Mw
namespace Go.Proofs.YtbiejiangdbcmaaDoor.Mw
open Go Go.RowKit
set_option linter.unusedVariables false
set_option linter.unusedSimpArgs false

structure InvD (F m0 : Mem) (δ : DEnv) (M : DMem) (ρ : Env) (m : Mem) : Prop where
  env : ∀ i, Rep m (δ i) (ρ i)
  mem : RepM M m
  fin : Fin m0 m
  keep : Grows F m
  own : ∀ b, F b ≠ none → M b = none
def LiftK (F m0 : Mem) (K : DEnv → DMem → Prop) : Env → Mem → Prop := fun ρ m => ∃ δ M, InvD F m0 δ M ρ m ∧ K δ M

def PC (P : Program) (f : FuncId) (ds : List DV) (R : DV → DMem → Prop) (M : DMem) : Prop :=
  ∀ F m vals, RepM M m → RepL m ds vals → Grows F m → (∀ b, F b ≠ none → M b = none) →
    MC P f vals (fun v m' => ∃ d M', Rep m' d v ∧ RepM M' m' ∧ Fin m m' ∧ Grows F m' ∧ (∀ b, F b ≠ none → M' b = none) ∧ R d M') m
def SubD (M M' : DMem) : Prop := ∀ b B, M b = some B → M' b = some B
theorem SubD.refl (M : DMem) : SubD M M := fun _ _ h => h
theorem SubD.mt (M : DMem) : SubD DMem.mt M := fun _ _ h => by cases h
theorem SubD.trans {a b c : DMem} (h : SubD a b) (k : SubD b c) : SubD a c := fun x B hx => k x B (h x B hx)
theorem SubD.none {M M' : DMem} (h : SubD M M') {b : Nat} (hb : M' b = .none) : M b = .none := by
  cases hM : M b with
  | none => rfl
  | some B => rw [h b B hM] at hb; cases hb
theorem InvD.sub {F m0 : Mem} {δ : DEnv} {M M0 : DMem} {ρ : Env} {m : Mem} (h : InvD F m0 δ M ρ m) (hs : SubD M0 M) : InvD F m0 δ M0 ρ m :=
  ⟨h.env, ⟨h.mem.glob, fun b B hb => h.mem b B (hs b B hb)⟩, h.fin, h.keep, fun b hb => hs.none (h.own b hb)⟩
theorem PC.drop {P : Program} {f : FuncId} {ds : List DV} {R R' : DV → DMem → Prop} {M : DMem} (h : PC P f ds R M) (hr : ∀ d M', R d M' → ∃ M0, SubD M0 M' ∧ R' d M0) : PC P f ds R' M :=
  fun F m vals h1 h2 h3 h4 => (h F m vals h1 h2 h3 h4).mono fun v m' ⟨d, M', a, b, c, e, g, r⟩ =>
    let ⟨M0, hs, hR⟩ := hr d M' r
    ⟨d, M0, a, ⟨b.glob, fun b' B hb => b b' B (hs b' B hb)⟩, c, e, fun b' hb => hs.none (g b' hb), hR⟩
theorem PC.mono {P : Program} {f : FuncId} {ds : List DV} {R R' : DV → DMem → Prop} {M : DMem} (h : PC P f ds R M) (hr : ∀ d M', R d M' → R' d M') : PC P f ds R' M :=
  fun F m vals h1 h2 h3 h4 => (h F m vals h1 h2 h3 h4).mono fun v m' ⟨d, M', a, b, c, e, g, r⟩ => ⟨d, M', a, b, c, e, g, hr _ _ r⟩
def Pu (P : Program) (f : FuncId) (ds : List DV) (d : DV) : Prop := ∀ m vals, Glob m → RepL m ds vals → MC P f vals (fun v m' => Rep m' d v ∧ Grows m m') m
theorem Pu.pc {P : Program} {f : FuncId} {ds : List DV} {d : DV} (h : Pu P f ds d) {R : DV → DMem → Prop} {M : DMem} (hR : R d M) : PC P f ds R M := by
  intro F m vals hM hr hF ho
  refine (h m vals hM.glob hr).mono fun v m' ⟨h1, h2⟩ => ⟨d, M, h1, ⟨hM.glob.mono h2.toFin, fun b B hb => ?_⟩, h2.toFin, hF.trans h2, ho, hR⟩
  obtain ⟨vs, h3, h4, h5⟩ := hM b B hb
  exact ⟨vs, h2 _ _ h3, h4.mono h2.toFin, h5⟩
theorem Pf.pc {P : Program} {f : FuncId} {ds : List DV} {v : Value} {M : DMem} (h : Pf P f (ds.map (fz M 4)) v) {R : DV → DMem → Prop} (hR : R (dOf v) M) : PC P f ds R M := by
  intro F m vals hM hr hF ho
  have := RO.unseal (h _ _ (hM.glob.mono ((sealM_fin M m).trans (finA_fin M m))) ((fzL_map_ok hM 4 hr).mono (finA_fin M m)))
  refine this.mono fun v' m' ⟨h1, h2⟩ => ?_
  subst h1; subst h2
  exact ⟨_, M, dOf_rep _ _, hM, Fin.refl _, hF, ho, hR⟩

def plainD : DV → Bool
  | .raw .nilIface => true
  | .agg _ | .tup _ | .raw _ | .csl .. => false
  | _ => true
theorem plainD_ok {m : Mem} {d : DV} {v : Value} (h : plainD d = true) (r : Rep m d v) : plainV v = true := by
  by_cases hraw : ∃ v, d = .raw v
  · obtain ⟨v, rfl⟩ := hraw
    cases v <;> simp only [plainD, Bool.false_eq_true] at h
    simp only [Rep] at r
    subst r; rfl
  cases d <;> (try exact absurd ⟨_, rfl⟩ hraw) <;> clear hraw <;> simp only [plainD, Bool.false_eq_true] at h <;> simp only [Rep] at r
  case int => subst r; rfl
  case bool => subst r; rfl
  case str => subst r; rfl
  case nilp => subst r; rfl
  case mp => subst r; rfl
  case ip => obtain ⟨b, o, ty, N, full, rfl, _⟩ := r; rfl
  case isl => obtain ⟨a, c, rfl, _⟩ := r; rfl
  case zsl => obtain ⟨a, rfl⟩ := r; rfl
  case msl => subst r; rfl
  case fn => obtain ⟨x, y, rfl, _⟩ := r; rfl
  case ifc => obtain ⟨x, rfl, _⟩ := r; rfl
theorem plainD_all {m : Mem} : ∀ {ds : List DV} {vs : List Value}, ds.all plainD = true → RepL m ds vs → vs.all plainV = true
  | [], [], _, _ => rfl
  | [], _ :: _, _, r => by have := r.2; simp at this
  | _ :: _, [], _, r => by have := r.2; simp at this
  | d :: ds, v :: vs, h, r => by
    have r1 := r.1
    simp only [RepP] at r1
    simp only [List.all_cons, Bool.and_eq_true] at h ⊢
    exact ⟨plainD_ok h.1 r1.1, plainD_all h.2 ⟨r1.2, by simpa using r.2⟩⟩
def splD (cs : List DV) (i : Nat) (ds : List DV) : List DV := cs.take i ++ ds ++ cs.drop (i + ds.length)
def RowD (M : DMem) (sz : Nat) (d : DV) (k : Nat) (news : List DV) : Prop :=
  match d with
  | .isl n cs => n = k ∧ 0 < sz ∧ k * sz ≤ cs.length ∧ news = cs.take (k * sz)
  | .zsl => k = 0 ∧ news = []
  | .raw (.slice _ n _) => n = 0 ∧ k = 0 ∧ news = []
  | .msl b o n c => n = k ∧ ∃ B, M b = some B ∧ o + k * sz ≤ B.cs.length ∧ news = (B.cs.drop o).take (k * sz)
  | _ => False
def OwnD (M : DMem) (sz : Nat) (d : DV) (n : Nat) (cs : List DV) : Prop :=
  cs.length = n * sz ∧ ((d = .zsl ∧ n = 0) ∨ ∃ b c ty, d = .msl b 0 n c ∧ M b = some ⟨ty, c * sz, cs⟩ ∧ n ≤ c ∧ 0 < c)
def blkD : DV → Option Nat
  | .msl b _ _ c => if c = 0 then none else some b
  | _ => none
structure GrewD (M M' : DMem) (d d' : DV) : Prop where
  keep : ∀ b B, M b = some B → blkD d ≠ some b → M' b = some B
  here : blkD d' = blkD d ∨ ∃ b, blkD d' = some b ∧ M b = none
  only : ∀ b, M' b ≠ none → M b ≠ none ∨ blkD d' = some b

def lenN : DV → Option Nat
  | .isl n _ => some n
  | .msl _ _ n _ => some n
  | .zsl => some 0
  | _ => none
def RowK (M : DMem) (sz : Nat) (d : DV) (k : Nat) (news : List DV) : Prop :=
  match d with
  | .isl _ cs => 0 < sz ∧ k * sz ≤ cs.length ∧ news = cs.take (k * sz)
  | .zsl => news = []
  | .msl b o _ _ => ∃ B, M b = some B ∧ o + k * sz ≤ B.cs.length ∧ news = (B.cs.drop o).take (k * sz)
  | _ => False
def AppD (M : DMem) (e : TypeId) (sz : Nat) (d : DV) (n k : Nat) (news : List DV) (Post : DV → DMem → Prop) : Prop :=
  match d with
  | .zsl => n = 0 ∧ (k = 0 → Post .zsl M) ∧ (0 < k → ∀ b c M', M b = none → k ≤ c → M' = M.ins b ⟨e, c * sz, news⟩ → Post (.msl b 0 k c) M')
  | .msl b o n' c => n' = n ∧ ∃ B, M b = some B ∧ o + n * sz ≤ B.cs.length ∧ o + c * sz ≤ B.n ∧ n ≤ c ∧
      (n + k ≤ c → ∀ M', M' = M.ins b ⟨B.ty, B.n, splD B.cs (o + n * sz) news⟩ → Post (.msl b o (n + k) c) M') ∧
      (c < n + k → ∀ b' c' M', M b' = none → n + k ≤ c' → M' = M.ins b' ⟨e, c' * sz, (B.cs.drop o).take (n * sz) ++ news⟩ → Post (.msl b' 0 (n + k) c') M')
  | .csl n' cs => n' = n ∧ 0 < k ∧ n * sz ≤ cs.length ∧ (∀ b' c' M', M b' = none → n + k ≤ c' → M' = M.ins b' ⟨e, c' * sz, cs.take (n * sz) ++ news⟩ → Post (.msl b' 0 (n + k) c') M')
  | _ => False
theorem AppD.mono {M : DMem} {e : TypeId} {sz : Nat} {d : DV} {n k : Nat} {news : List DV} {Post Post' : DV → DMem → Prop} (h : AppD M e sz d n k news Post) (hP : ∀ d M', Post d M' → Post' d M') : AppD M e sz d n k news Post' := by
  unfold AppD at h ⊢
  split at h
  · exact ⟨h.1, fun hk => hP _ _ (h.2.1 hk), fun hk b c M' h1 h2 h3 => hP _ _ (h.2.2 hk b c M' h1 h2 h3)⟩
  · obtain ⟨h1, B, h2, h3, h4, h5, h6, h7⟩ := h
    exact ⟨h1, B, h2, h3, h4, h5, fun hk M' a => hP _ _ (h6 hk M' a), fun hk b' c' M' a1 a2 a3 => hP _ _ (h7 hk b' c' M' a1 a2 a3)⟩
  · exact ⟨h.1, h.2.1, h.2.2.1, fun b' c' M' a1 a2 a3 => hP _ _ (h.2.2.2 b' c' M' a1 a2 a3)⟩
  · exact h.elim
def mpOf : DV → Option (Nat × Nat)
  | .mp b i => some (b, i)
  | _ => none
def intOf : DV → Option Int
  | .int _ x => some x
  | _ => none
def mslOf : DV → Option (Nat × Nat × Nat × Nat)
  | .msl b o n c => some (b, o, n, c)
  | _ => none
theorem mpOf_ok {d : DV} {q : Nat × Nat} (h : mpOf d = some q) : d = .mp q.1 q.2 := by
  cases d <;> simp only [mpOf, Option.some.injEq, reduceCtorEq] at h
  subst h; rfl
theorem intOf_ok {d : DV} {x : Int} (h : intOf d = some x) : ∃ k, d = .int k x := by
  cases d <;> simp only [intOf, Option.some.injEq, reduceCtorEq] at h
  subst h; exact ⟨_, rfl⟩
theorem mslOf_ok {d : DV} {q : Nat × Nat × Nat × Nat} (h : mslOf d = some q) : d = .msl q.1 q.2.1 q.2.2.1 q.2.2.2 := by
  cases d <;> simp only [mslOf, Option.some.injEq, reduceCtorEq] at h
  subst h; rfl
def wpDE (P : Program) (mu : Nat → Bool) (d : Option Nat) : Eff → DEnv → (DV → DMem → Prop) → DMem → Prop
  | .box ty x, δ, Post, M => ∃ cs, cellsD (δ.of x) = some cs ∧ if (d.map mu).getD false then ∀ b M', M b = none → M' = M.ins b ⟨ty, cs.length, cs⟩ → Post (.mp b 0) M' else Post (.ip cs) M
  | .alloc ty z, δ, Post, M => ∃ cs, cellsD (ofV z) = some cs ∧ ∀ b M', M b = none → M' = M.ins b ⟨ty, cs.length, cs⟩ → Post (.mp b 0) M'
  | .store k x y, δ, Post, M => ∃ q, mpOf (δ.of x) = some q ∧ ∃ B, M q.1 = some B ∧ ∃ cs, cellsD (δ.of y) = some cs ∧ cs.length = k ∧ q.2 ≤ B.cs.length ∧ q.2 + k ≤ B.n ∧ cs.all plainD = true ∧
      ∀ M', M' = M.ins q.1 ⟨B.ty, B.n, splD B.cs q.2 cs⟩ → Post (.raw undef) M'
  | .bslice e sz zs len parts, δ, Post, M => ∃ l, bldLD (zs.map of0) (parts.map fun p => (p.1 * sz, sz)) (parts.map fun p => δ.of p.2) = some l ∧
      if len = 0 then Post .zsl M else if (d.map mu).getD false then ∀ b M', M b = none → M' = M.ins b ⟨e, len * sz, l⟩ → Post (.msl b 0 len len) M' else Post (.isl len l) M
  | .make e sz bytes z x y, δ, Post, M => ∃ l, intOf (δ.of x) = some l ∧ ∃ c, intOf (δ.of y) = some c ∧ 0 ≤ l ∧ l ≤ c ∧ (bytes : Int) * c ≤ 281474976710656 ∧ c ≤ 9223372036854775807 ∧
      ∀ b M', M b = none → M' = M.ins b ⟨e, c.toNat * sz, (zeros z.cells.toList (l.toNat * sz)).map of0⟩ → Post (.msl b 0 l.toNat c.toNat) M'
  | .app e sz bytes x y, δ, Post, M => ∃ k news, RowD M sz (δ.of y) k news ∧ news.all plainD = true ∧ ∃ n, (n + k) * bytes ≤ 140737488355328 ∧ n + k ≤ 9223372036854775807 ∧ AppD M e sz (δ.of x) n k news Post
  | .call f args, δ, Post, M => PC P f (args.map δ.of) Post M
  | .callv q args, δ, Post, M => ∃ f first caps, δ q = .fn (.func f) first caps ∧ PC P f (first ++ args.map δ.of ++ caps) Post M
  | .var ty k y, δ, Post, M => ∃ cs, cellsD (δ.of y) = some cs ∧ cs.length = k ∧ cs.all plainD = true ∧
      if (d.map mu).getD false then ∀ b M', M b = none → M' = M.ins b ⟨ty, k, cs⟩ → Post (.mp b 0) M' else Post (.ip cs) M
  | .clr sz z x, δ, Post, M => ∃ q, mslOf (δ.of x) = some q ∧ ∃ B, M q.1 = some B ∧ q.2.1 ≤ B.cs.length ∧ q.2.1 + q.2.2.1 * sz ≤ B.n ∧ ((zeros z.cells.toList (q.2.2.1 * sz)).map of0).all plainD = true ∧
      ∀ M', M' = M.ins q.1 ⟨B.ty, B.n, splD B.cs q.2.1 ((zeros z.cells.toList (q.2.2.1 * sz)).map of0)⟩ → Post (.tup []) M'
  | .cpy sz x y, δ, Post, M => ∃ q, mslOf (δ.of x) = some q ∧ ∃ n', lenN (δ.of y) = some n' ∧ ∃ B, M q.1 = some B ∧ ∃ news, RowK M sz (δ.of y) (min n' q.2.2.1) news ∧ q.2.1 ≤ B.cs.length ∧ q.2.1 + min n' q.2.2.1 * sz ≤ B.n ∧ news.all plainD = true ∧
      ∀ M', M' = M.ins q.1 ⟨B.ty, B.n, splD B.cs q.2.1 news⟩ → Post (.int .i64 (min n' q.2.2.1 : Nat)) M'

section eff
variable {P : Program} {F m0 : Mem} {δ : DEnv} {M : DMem} {ρ : Env} {m : Mem}
theorem InvD.of (h : InvD F m0 δ M ρ m) (x : Operand) : Rep m (δ.of x) (ρ.of x) := by
  cases x with
  | tmp t => exact h.env t
  | const v => exact ofV_rep m v
  | global g => simp only [DEnv.of, Env.of, Rep]
  | func f => simp only [DEnv.of, Env.of, Rep]; exact ⟨[], [], rfl, by simp only [RepP], rfl, by simp only [RepP], rfl⟩
theorem InvD.ofs (h : InvD F m0 δ M ρ m) : ∀ xs : List Operand, RepL m (xs.map δ.of) (xs.map ρ.of)
  | [] => RepL.nil m
  | x :: xs => (h.ofs xs).cons (h.of x)
def StepD (F m : Mem) (M : DMem) (v : Value) (m' : Mem) (d : DV) (M' : DMem) : Prop :=
  Rep m' d v ∧ RepM M' m' ∧ Fin m m' ∧ Grows F m' ∧ (∀ b, F b ≠ none → M' b = none)
theorem InvD.step (h : InvD F m0 δ M ρ m) {v : Value} {m' : Mem} {d : DV} {M' : DMem} (hs : StepD F m M v m' d M') (i : Option Nat) : InvD F m0 (δ.updO i d) M' (ρ.updO i v) m' := by
  obtain ⟨h1, h2, h3, h4, h5⟩ := hs
  refine ⟨fun j => ?_, h2, h.fin.trans h3, h4, h5⟩
  cases i with
  | none => exact (h.env j).mono h3
  | some i =>
    simp only [DEnv.updO, Env.updO, DEnv.upd, Env.upd]
    split
    · exact h1
    · exact (h.env j).mono h3
theorem InvD.new (h : InvD F m0 δ M ρ m) {b : Nat} (hb : m b = none) {ty : TypeId} {n : Nat} {cs : List DV} {vs : List Value} (hr : RepL m cs vs) :
    (M b = none) ∧ RepM (M.ins b ⟨ty, n, cs⟩) (m.ins b (.cells ty n false vs)) ∧ Fin m (m.ins b (.cells ty n false vs)) ∧ Grows F (m.ins b (.cells ty n false vs)) ∧ (∀ x, F x ≠ none → (M.ins b ⟨ty, n, cs⟩) x = none) := by
  have hf : Fin m (m.ins b (.cells ty n false vs)) := (Grows.ins m _ hb).toFin
  refine ⟨h.mem.none hb, ⟨h.mem.glob.mono hf, fun x B hx => ?_⟩, hf, h.keep.trans (Grows.ins m _ hb), fun x hx => ?_⟩
  · by_cases e : x = b
    · subst e; rw [DMem.ins_same] at hx; cases hx
      exact ⟨vs, Mem.ins_same _ _ _, hr.mono hf⟩
    · rw [DMem.ins_ne _ _ e] at hx
      obtain ⟨us, h1, h2⟩ := h.mem x B hx
      exact ⟨us, by rw [Mem.ins_ne _ _ e]; exact h1, h2.mono hf⟩
  · have e : x ≠ b := by
      rintro rfl
      cases hF : F x with
      | none => exact hx hF
      | some B => have := h.keep _ _ hF; rw [hb] at this; cases this
    rw [DMem.ins_ne _ _ e]; exact h.own x hx
theorem InvD.write (h : InvD F m0 δ M ρ m) {b : Nat} {B : DBlk} (hb : M b = some B) {cs : List DV} {vs : List Value} (hr : RepL m cs vs) :
    RepM (M.ins b ⟨B.ty, B.n, cs⟩) (m.ins b (.cells B.ty B.n false vs)) ∧ Fin m (m.ins b (.cells B.ty B.n false vs)) ∧ Grows F (m.ins b (.cells B.ty B.n false vs)) ∧ (∀ x, F x ≠ none → (M.ins b ⟨B.ty, B.n, cs⟩) x = none) := by
  obtain ⟨us, h1, _⟩ := h.mem b B hb
  have hf : Fin m (m.ins b (.cells B.ty B.n false vs)) := fun x C hx hf => by
    by_cases e : x = b
    · subst e; rw [h1] at hx; cases hx; cases hf
    · rw [Mem.ins_ne _ _ e]; exact hx
  have hFb : F b = none := by
    cases hF : F b with
    | none => rfl
    | some C => have := h.own b (by rw [hF]; simp); rw [hb] at this; cases this
  refine ⟨⟨h.mem.glob.mono hf, fun x C hx => ?_⟩, hf, fun x C hx => ?_, fun x hx => ?_⟩
  · by_cases e : x = b
    · subst e; rw [DMem.ins_same] at hx; cases hx
      exact ⟨vs, Mem.ins_same _ _ _, hr.mono hf⟩
    · rw [DMem.ins_ne _ _ e] at hx
      obtain ⟨us, h1, h2⟩ := h.mem x C hx
      exact ⟨us, by rw [Mem.ins_ne _ _ e]; exact h1, h2.mono hf⟩
  · have e : x ≠ b := by rintro rfl; rw [hFb] at hx; cases hx
    rw [Mem.ins_ne _ _ e]; exact h.keep x C hx
  · have e : x ≠ b := by rintro rfl; exact hx hFb
    rw [DMem.ins_ne _ _ e]; exact h.own x hx
theorem InvD.same (h : InvD F m0 δ M ρ m) {v : Value} {d : DV} (hr : Rep m d v) : StepD F m M v m d M := ⟨hr, h.mem, Fin.refl m, h.keep, h.own⟩
theorem InvD.fixed (h : InvD F m0 δ M ρ m) {b : Nat} (hb : m b = none) {ty : TypeId} {n : Nat} {vs : List Value} {v : Value} {d : DV} (hr : Rep (m.ins b (.cells ty n true vs)) d v) :
    StepD F m M v (m.ins b (.cells ty n true vs)) d M := by
  have hf : Fin m (m.ins b (.cells ty n true vs)) := (Grows.ins m _ hb).toFin
  refine ⟨hr, ⟨h.mem.glob.mono hf, fun x B hx => ?_⟩, hf, h.keep.trans (Grows.ins m _ hb), h.own⟩
  obtain ⟨us, h1, h2⟩ := h.mem x B hx
  have e : x ≠ b := by rintro rfl; rw [hb] at h1; cases h1
  exact ⟨us, by rw [Mem.ins_ne _ _ e]; exact h1, h2.mono hf⟩
theorem ofs0 (m : Mem) (vs : List Value) : RepL m (vs.map of0) vs := ⟨of0s_rep m vs, by simp⟩
theorem wpDE_ok (mu : Nat → Bool) (i : Option Nat) (h : InvD F m0 δ M ρ m) : ∀ (e : Eff) (Post : DV → DMem → Prop), wpDE P mu i e δ Post M →
    wpE P e ρ (fun v m' => ∃ d M', StepD F m M v m' d M' ∧ Post d M') m
  | .box ty x, Post, hw => by
    obtain ⟨cs, hc, hw⟩ := hw
    have rc := cellsD_ok hc (h.of x)
    have e1 : (ρ.of x).cells.size = cs.length := by rw [rc.2]; simp
    split at hw
    · refine ⟨false, fun b m' hb hm => ?_⟩
      rw [e1] at hm
      obtain ⟨h1, h2, h3, h4, h5⟩ := h.new hb (ty := ty) (n := cs.length) rc
      subst hm; exact ⟨_, _, ⟨by simp only [Rep], h2, h3, h4, h5⟩, hw b _ h1 rfl⟩
    · refine ⟨true, fun b m' hb hm => ?_⟩
      subst hm
      refine ⟨_, _, h.fixed hb ?_, hw⟩
      simp only [Rep]
      exact ⟨b, 0, ty, _, _, rfl, Mem.ins_same _ _ _, by simpa using (rc.mono (Grows.ins m _ hb).toFin).1⟩
  | .alloc ty z, Post, hw => by
    obtain ⟨cs, hc, hw⟩ := hw
    have rc := cellsD_ok hc (ofV_rep m z)
    have e1 : z.cells.size = cs.length := by rw [rc.2]; simp
    intro b m' hb hm
    rw [e1] at hm
    obtain ⟨h1, h2, h3, h4, h5⟩ := h.new hb (ty := ty) (n := cs.length) rc
    subst hm; exact ⟨_, _, ⟨by simp only [Rep], h2, h3, h4, h5⟩, hw b _ h1 rfl⟩
  | .store k x y, Post, hw => by
    obtain ⟨⟨b, i⟩, hx, B, hB, cs, hc, hk, hi, hn, hp, hw⟩ := hw
    replace hx := mpOf_ok hx
    simp only at hx hB hi hn hw
    have rx := h.of x
    rw [hx] at rx
    simp only [Rep] at rx
    have rc := cellsD_ok hc (h.of y)
    obtain ⟨vs, h1, h2⟩ := h.mem b B hB
    have e1 : (ρ.of y).cells.size = cs.length := by rw [rc.2]; simp
    refine ⟨b, i, B.n, B.ty, vs, rx, h1, by omega, by rw [← h2.2]; exact hi, hn, plainD_all hp rc, fun m' hm => ?_⟩
    subst hm
    have rs : RepL m (splD B.cs i cs) (spl vs i (ρ.of y).cells.toList) := by
      simp only [splD, spl]
      rw [show (ρ.of y).cells.toList.length = cs.length by rw [rc.2]]
      exact ((h2.take i).append rc).append (h2.drop _)
    obtain ⟨h3, h4, h5, h6⟩ := h.write hB rs
    exact ⟨_, _, ⟨by simp only [Rep], h3, h4, h5, h6⟩, hw _ rfl⟩
  | .bslice e sz zs len parts, Post, hw => by
    obtain ⟨l, hl, hw⟩ := hw
    have hps : RepL m (parts.map fun p => δ.of p.2) (parts.map fun p => ρ.of p.2) := by
      have := h.ofs (parts.map (·.2))
      simpa [List.map_map, Function.comp_def] using this
    obtain ⟨l', h1, h2⟩ := bldLD_ok _ hl (ofs0 m zs) hps
    refine ⟨l', h1, ?_⟩
    split at hw
    · rename_i h0
      refine ⟨true, fun b m' hb hm => ?_⟩
      subst hm
      exact ⟨_, _, h.fixed hb (by simp only [Rep]; exact ⟨_, by rw [h0]⟩), hw⟩
    split at hw
    · refine ⟨false, fun b m' hb hm => ?_⟩
      obtain ⟨h3, h4, h5, h6, h7⟩ := h.new hb (ty := e) (n := len * sz) h2
      subst hm; exact ⟨_, _, ⟨by simp only [Rep], h4, h5, h6, h7⟩, hw b _ h3 rfl⟩
    · refine ⟨true, fun b m' hb hm => ?_⟩
      subst hm
      refine ⟨_, _, h.fixed hb ?_, hw⟩
      simp only [Rep]
      exact ⟨_, _, rfl, Nat.le_refl _, fun _ => ⟨b, 0, e, _, _, rfl, Mem.ins_same _ _ _, by simpa using (h2.mono (Grows.ins m _ hb).toFin).1⟩⟩
  | .make e sz bytes z x y, Post, hw => by
    obtain ⟨l, hx, c, hy, h0, hlc, hb1, hb2, hw⟩ := hw
    obtain ⟨kl, hx⟩ := intOf_ok hx
    obtain ⟨kc, hy⟩ := intOf_ok hy
    have rx := h.of x
    have ry := h.of y
    rw [hx] at rx; rw [hy] at ry
    simp only [Rep] at rx ry
    refine ⟨kl, kc, l, c, rx, ry, h0, hlc, hb1, hb2, fun b m' hb hm => ?_⟩
    obtain ⟨h3, h4, h5, h6, h7⟩ := h.new hb (ty := e) (n := c.toNat * sz) (ofs0 m (zeros z.cells.toList (l.toNat * sz)))
    subst hm; exact ⟨_, _, ⟨by simp only [Rep], h4, h5, h6, h7⟩, hw b _ h3 rfl⟩
  | .app e sz bytes x y, Post, hw => by
    obtain ⟨k, news, hrow, hp, n, hb1, hb2, hw⟩ := hw
    have hr : ∃ nv, RowS m sz (ρ.of y) k nv ∧ RepL m news nv := by
      have ry := h.of y
      unfold RowD at hrow
      split at hrow
      · rename_i n' cs' hd
        obtain ⟨rfl, hsz, hle, rfl⟩ := hrow
        rw [hd] at ry
        simp only [Rep] at ry
        obtain ⟨a, c, hv, hnc, h1⟩ := ry
        rcases Nat.eq_zero_or_pos n' with rfl | hn
        · exact ⟨[], ⟨a, c, hv, by simp, fun hh => absurd hh (by omega)⟩, by simpa using RepL.nil m⟩
        · obtain ⟨b, o, ty, N, full, rfl, h2, h3⟩ := h1 hn
          have rr := h3.rowL hle
          refine ⟨_, ⟨_, c, hv, ?_, fun _ => ⟨_, rfl, ?_⟩⟩, rr⟩
          · rw [← rr.2]; simp; omega
          · have := h3.le
            simp only [List.length_drop] at this
            have hz : 0 < n' * sz := Nat.mul_pos hn hsz
            simp only [Mem.row, h2]
            rw [if_pos (by omega)]
      · rename_i hd
        obtain ⟨rfl, rfl⟩ := hrow
        rw [hd] at ry
        simp only [Rep] at ry
        obtain ⟨a, hv⟩ := ry
        exact ⟨[], ⟨a, 0, hv, by simp, fun hh => absurd hh (by omega)⟩, RepL.nil m⟩
      · rename_i a0 n0 c0 hd
        obtain ⟨rfl, rfl, rfl⟩ := hrow
        rw [hd] at ry
        simp only [Rep] at ry
        exact ⟨[], ⟨a0, c0, ry, by simp, fun hh => absurd hh (by omega)⟩, RepL.nil m⟩
      · rename_i b o n' c hd
        obtain ⟨rfl, B, hB, hle, rfl⟩ := hrow
        rw [hd] at ry
        simp only [Rep] at ry
        obtain ⟨vs, h1, h2⟩ := h.mem b B hB
        have rr := (h2.drop o).take (n' * sz)
        refine ⟨_, ⟨_, c, ry, ?_, fun _ => ⟨_, rfl, ?_⟩⟩, rr⟩
        · rw [← rr.2]; simp; omega
        · simp only [Mem.row, h1]
          rw [if_pos (by rw [← h2.2]; omega)]
      · exact hrow.elim
    obtain ⟨nv, hrow', rn⟩ := hr
    have rx := h.of x
    refine ⟨n, k, nv, hrow', plainD_all hp rn, hb1, hb2, ?_⟩
    unfold AppD at hw
    split at hw
    · rename_i hd
      obtain ⟨rfl, h1, h2⟩ := hw
      rw [hd] at rx
      simp only [Rep] at rx
      refine .inl ⟨rfl, rx, fun hk => ⟨.zsl, M, ⟨by simp only [Rep]; exact rx, h.mem, Fin.refl m, h.keep, h.own⟩, h1 hk⟩, fun hk b cap m' hb hc hm => ?_⟩
      obtain ⟨h3, h4, h5, h6, h7⟩ := h.new hb (ty := e) (n := cap * sz) rn
      subst hm; exact ⟨_, _, ⟨by simp only [Rep], h4, h5, h6, h7⟩, h2 hk b cap _ h3 hc rfl⟩
    · rename_i b o n' c hd
      obtain ⟨rfl, B, hB, hf, hN, hnc, h1, h2⟩ := hw
      rw [hd] at rx
      simp only [Rep] at rx
      obtain ⟨vs, hm, rv⟩ := h.mem b B hB
      refine .inr (.inl ⟨b, o, c, B.ty, B.n, vs, rx, hm, by rw [← rv.2]; exact hf, hN, hnc, fun hk m' hm' => ?_, fun hk b' c' m' hb hc hm' => ?_⟩)
      · subst hm'
        have rs : RepL m (splD B.cs (o + n' * sz) news) (spl vs (o + n' * sz) nv) := by
          simp only [splD, spl, rn.2]
          exact ((rv.take _).append rn).append (rv.drop _)
        obtain ⟨h3, h4, h5, h6⟩ := h.write hB rs
        exact ⟨_, _, ⟨by simp only [Rep], h3, h4, h5, h6⟩, h1 hk _ rfl⟩
      · obtain ⟨h3, h4, h5, h6, h7⟩ := h.new hb (ty := e) (n := c' * sz) (((rv.drop o).take (n' * sz)).append rn)
        subst hm'; exact ⟨_, _, ⟨by simp only [Rep], h4, h5, h6, h7⟩, h2 hk b' c' _ h3 hc rfl⟩
    · rename_i n' cs hd
      obtain ⟨rfl, hk0, hf, h2⟩ := hw
      rw [hd] at rx
      simp only [Rep] at rx
      obtain ⟨b, o, ty, N, full, rx, hm, rv⟩ := rx
      have hrow := rv.rowL hf
      have hle := rv.le
      rw [List.length_drop] at hle
      refine .inr (.inr ⟨b, o, ty, N, true, full, rx, hm, hk0, by split <;> omega, fun b' c' m' hb hc hm' => ?_⟩)
      obtain ⟨h3, h4, h5, h6, h7⟩ := h.new hb (ty := e) (n := c' * sz) (hrow.append rn)
      subst hm'; exact ⟨_, _, ⟨by simp only [Rep], h4, h5, h6, h7⟩, h2 b' c' _ h3 hc rfl⟩
    · exact hw.elim
  | .call f args, Post, hw => by
    exact (hw F m _ h.mem (h.ofs args) h.keep h.own).mono fun v m' ⟨d, M', a, b, c, e, g, r⟩ => ⟨d, M', ⟨a, b, c, e, g⟩, r⟩
  | .callv q args, Post, hw => by
    obtain ⟨f, first, caps, hq, hw⟩ := hw
    have rq := h.env q
    rw [hq] at rq
    simp only [Rep] at rq
    obtain ⟨x, y, hv, h1, h2, h3, h4⟩ := rq
    refine ⟨f, x.toArray, y.toArray, hv, ?_⟩
    have hr : RepL m (first ++ args.map δ.of ++ caps) (x.toArray.toList ++ args.map ρ.of ++ y.toArray.toList) := (RepL.append ⟨h1, h2⟩ (h.ofs args)).append ⟨h3, h4⟩
    exact (hw F m _ h.mem hr h.keep h.own).mono fun v m' ⟨d, M', a, b, c, e, g, r⟩ => ⟨d, M', ⟨a, b, c, e, g⟩, r⟩
  | .var ty k y, Post, hw => by
    obtain ⟨cs, hc, hk, hp, hw⟩ := hw
    have rc := cellsD_ok hc (h.of y)
    have e1 : (ρ.of y).cells.size = k := by rw [← hk, rc.2]; simp
    refine ⟨e1, plainD_all hp rc, ?_⟩
    split at hw
    · refine ⟨false, fun b m' hb hm => ?_⟩
      obtain ⟨h1, h2, h3, h4, h5⟩ := h.new hb (ty := ty) (n := k) rc
      subst hm; exact ⟨_, _, ⟨by simp only [Rep], h2, h3, h4, h5⟩, hw b _ h1 rfl⟩
    · refine ⟨true, fun b m' hb hm => ?_⟩
      subst hm
      refine ⟨_, _, h.fixed hb ?_, hw⟩
      simp only [Rep]
      exact ⟨b, 0, ty, _, _, rfl, Mem.ins_same _ _ _, by simpa using (rc.mono (Grows.ins m _ hb).toFin).1⟩
  | .clr sz z x, Post, hw => by
    obtain ⟨⟨b, o, n, c⟩, hx, B, hB, ho, hN, hp, hw⟩ := hw
    replace hx := mslOf_ok hx
    simp only at hx hB ho hN hp hw
    have rx := h.of x
    rw [hx] at rx
    simp only [Rep] at rx
    obtain ⟨vs, h1, h2⟩ := h.mem b B hB
    have rz := ofs0 m (zeros z.cells.toList (n * sz))
    refine ⟨_, n, c, rx, .inr ⟨b, o, B.n, B.ty, vs, rfl, h1, by rw [← h2.2]; exact ho, hN, plainD_all hp rz, fun m' hm => ?_⟩⟩
    subst hm
    have rs : RepL m (splD B.cs o ((zeros z.cells.toList (n * sz)).map of0)) (spl vs o (zeros z.cells.toList (n * sz))) := by
      simp only [splD, spl, List.length_map]
      exact ((h2.take o).append rz).append (h2.drop _)
    obtain ⟨h3, h4, h5, h6⟩ := h.write hB rs
    exact ⟨_, _, ⟨by simp only [Rep]; exact ⟨[], rfl, by simp only [RepP], rfl⟩, h3, h4, h5, h6⟩, hw _ rfl⟩
  | .cpy sz x y, Post, hw => by
    obtain ⟨⟨b, o, n, c⟩, hx, n', hn', B, hB, news, hrow, ho, hN, hp, hw⟩ := hw
    replace hx := mslOf_ok hx
    simp only at hx hB hrow ho hN hw
    have rx := h.of x
    rw [hx] at rx
    simp only [Rep] at rx
    obtain ⟨vs, h1, h2⟩ := h.mem b B hB
    have hy : ∃ a' c', ρ.of y = .slice a' n' c' ∧ ∃ nv, RepL m news nv ∧ (min n' n = 0 → news = []) ∧ (0 < min n' n → ∃ ad, a' = some ad ∧ m.row ad (min n' n * sz) = some nv) := by
      have ry := h.of y
      revert hn' hrow ry
      generalize δ.of y = dy
      intro hn' hrow ry
      cases dy <;> simp only [lenN, Option.some.injEq, reduceCtorEq] at hn' <;> subst hn' <;> simp only [RowK] at hrow <;> simp only [Rep] at ry
      case isl n' cs =>
        obtain ⟨hsz, hle, rfl⟩ := hrow
        obtain ⟨a, c', hv, hnc, h3⟩ := ry
        rcases Nat.eq_zero_or_pos (min n' n) with h0 | h0
        · exact ⟨a, c', hv, [], by rw [h0]; simpa using RepL.nil m, fun _ => by rw [h0]; simp, fun hh => by omega⟩
        · obtain ⟨b', o', ty, N, full, rfl, h4, h5⟩ := h3 (by omega)
          have rr := h5.rowL hle
          refine ⟨_, c', hv, _, rr, fun hh => by omega, fun _ => ⟨_, rfl, ?_⟩⟩
          have := h5.le
          simp only [List.length_drop] at this
          have hz : 0 < min n' n * sz := Nat.mul_pos h0 hsz
          simp only [Mem.row, h4]
          rw [if_pos (by omega)]
      case zsl =>
        subst hrow
        obtain ⟨a, hv⟩ := ry
        exact ⟨a, 0, hv, [], RepL.nil m, fun _ => rfl, fun hh => by simp at hh⟩
      case msl b' o' n' c' =>
        obtain ⟨B', hB', hle, rfl⟩ := hrow
        obtain ⟨vs', h4, h5⟩ := h.mem b' B' hB'
        have rr := (h5.drop o').take (min n' n * sz)
        refine ⟨_, c', ry, _, rr, fun hh => by rw [hh]; simp, fun _ => ⟨_, rfl, ?_⟩⟩
        simp only [Mem.row, h4]
        rw [if_pos (by rw [← h5.2]; omega)]
    obtain ⟨a', c', hv, nv, rn, hz, hpos⟩ := hy
    have rs : RepL m (splD B.cs o news) (spl vs o nv) := by
      simp only [splD, spl, rn.2]
      exact ((h2.take o).append rn).append (h2.drop _)
    refine ⟨_, n, c, a', n', c', rx, hv, ?_⟩
    rcases Nat.eq_zero_or_pos (min n' n) with h0 | h0
    · refine .inl ⟨h0, ?_⟩
      have hM : M = M.ins b ⟨B.ty, B.n, splD B.cs o news⟩ := by
        rw [hz h0]
        funext x
        unfold DMem.ins
        split
        · rename_i e; subst e; rw [hB]; simp [splD]
        · rfl
      have := hw _ hM
      rw [h0] at this
      exact ⟨_, M, h.same (by simp only [Rep]; rfl), this⟩
    · obtain ⟨ad, rfl, hrow⟩ := hpos h0
      refine .inr ⟨b, o, B.n, B.ty, vs, ad, nv, rfl, h1, by rw [← h2.2]; exact ho, hN, rfl, hrow, plainD_all hp rn, fun m' hm => ?_⟩
      subst hm
      obtain ⟨h3, h4, h5, h6⟩ := h.write hB rs
      exact ⟨_, _, ⟨by simp only [Rep], h3, h4, h5, h6⟩, hw _ rfl⟩
end eff

end Go.Proofs.YtbiejiangdbcmaaDoor.Mw
namespace Go.Proofs.YtbiejiangdbcmaaDoor.Mw
open Go Go.RowKit
set_option linter.unusedVariables false
set_option linter.unusedSimpArgs false

inductive PK where
  | rd (e : Ex)
  | fr (e : Eff)
  | va (ty : TypeId) (z : Value)
  | hv (ia dv : Nat) (ty : TypeId) (k : Nat) (y : Operand)
  | hd (e : Eff)
  | as (e : Ex)
  | hg (dj : Nat) (wt : Bool) (e : Eff)
  | ho (o : Oper)
def PK.hard : PK → Bool
  | .hv .. | .hd _ | .as _ | .hg .. | .ho _ => true
  | _ => false
section plan
variable (P : Program) (ro : FuncId → Bool) (G : Nat → Bool) (N : Nat) (mu : Nat → Bool)
def usedBefore (ops : Array Oper) (i d : Nat) : Bool := (List.range i).any fun j => match ops[j]? with | some o => usesT ops d o | none => false
def storeOf (ops : Array Oper) (d : Nat) (ty : TypeId) : Bool := ops.any fun o => match o.op with | .store ty' (.tmp d') _ => d' == d && ty' == ty && o.guard.isNone | _ => false
def allocOf (ops : Array Oper) (d : Nat) (ty : TypeId) : Option Nat := (List.range ops.size).find? fun j => match ops[j]? with
  | some o => o.dst == some d && (match o.op with | .alloc ty' => ty' == ty | _ => false) && o.guard.isNone
  | none => false
def kindOf (ops : Array Oper) (i : Nat) : Option PK :=
  (ops[i]?).bind fun o => (guardDst ops o).bind fun gd =>
    match low P ro (opd []) o.op with
    | some e => o.dst.bind fun d => some (if usedBefore ops i d then .as (wrapG [] gd e) else .rd (wrapG [] gd e))
    | none => match gd with
     | some (dj, wt) => (effOf P o).map (.hg dj wt)
     | none => match o.op, o.dst with
      | .alloc ty, some d => if storeOf ops d ty then (P.info? ty).bind fun inf => inf.zero.bind fun z => if z.cells.size = inf.size ∧ ty < mapLim then some (.va ty z) else none else (effOf P o).map .hd
      | .store ty (.tmp dv) y, none => match allocOf ops dv ty with
        | some ia => (P.info? ty).map fun inf => .hv ia dv ty inf.size y
        | none => (effOf P o).map .hd
      | .box .., some d => if mu d then (effOf P o).map .hd else (effOf P o).map .fr
      | .buildSlice .., some d => if mu d then (effOf P o).map .hd else (effOf P o).map .fr
      | .mapUpdate .., none => some (.ho (Oper.bare o))
      | _, _ => (effOf P o).map .hd
def ordOf (ks : List PK) (i : Nat) : Nat := ((ks.take i).filter PK.hard).length
def hardI (ks : List PK) (i : Nat) : Bool := match ks[i]? with | some k => k.hard | none => false
def isVa : Option PK → Bool
  | some (.va ..) => true
  | _ => false
def hvIa : Option PK → Option Nat
  | some (.hv ia ..) => some ia
  | _ => none
def pairOk2 (ops : Array Oper) (ks : List PK) (i j : Nat) : Bool :=
  (match ops[i]?, ops[j]? with
    | some oi, some oj => match oj.dst with
      | some d => if i = j then !usesT ops d oi else (oi.dst != some d) && (!usesT ops d oi || ((if j < i then hasEdge oi j else (hasEdge oj i && hardI ks j)) && (!isVa ks[j]? || (match ks[i]? with | some (.hv ia dv _ _ y) => ia == j && dv == d && notTmp d y | _ => false))))
      | none => true
    | _, _ => false) && (i == j || (hvIa ks[i]?).isNone || hvIa ks[i]? != hvIa ks[j]?)
def stOk (ops : Array Oper) (ks : List PK) (st : List Nat) (i : Nat) : Bool :=
  hardI ks i || st.getD i 0 == 0 || (List.range i).any fun j => (match ops[i]? with | some o => hasEdge o j | none => false) && (if hardI ks j then ordOf ks j + 1 == st.getD i 0 else st.getD j 0 == st.getD i 0)
def foOk (ops : Array Oper) (ks : List PK) (fo : List Nat) (i : Nat) : Bool :=
  hardI ks i || fo.getD i 0 == ordOf ks ks.length || (List.range ops.size).any fun j => decide (i < j) && (match ops[j]? with | some o => hasEdge o i | none => false) && (if hardI ks j then ordOf ks j == fo.getD i 0 else fo.getD j 0 == fo.getD i 0)
def chainOk (ops : Array Oper) (ks : List PK) (st : List Nat) (i : Nat) : Bool :=
  !hardI ks i || ordOf ks i == 0 || (List.range i).any fun j => (if hardI ks j then (ordOf ks j + 1 == ordOf ks i) else st.getD j 0 == ordOf ks i) && (match ops[i]? with | some o => hasEdge o j | none => false)
def exSlots : Ex → List Nat
  | .s i => [i]
  | .k _ | .nl => []
  | .bin _ a b | .eqs _ _ a b | .eqn _ a b | .eqz _ a b | .eqb _ a b | .and a b | .or a b | .grd a _ b | .ix _ a b | .sidx a b | .cs a b | .mkf _ a b => exSlots a ++ exSlots b
  | .un _ a | .cvt _ a | .ld a | .ldn _ a | .fa _ a | .nck a | .len a | .slen a | .fld _ a | .fldn _ _ a | .ext _ a | .ifc _ a | .bld _ _ a | .call _ a => exSlots a
  | .pick a b c | .sslc a b c => exSlots a ++ exSlots b ++ exSlots c
  | .slc _ a b c d => exSlots a ++ exSlots b ++ exSlots c ++ exSlots d
theorem exSlots_uses {t : Nat} : ∀ {e : Ex}, uses t e = true → t ∈ exSlots e := by
  intro e
  induction e <;> intro h <;> simp_all [uses, exSlots] <;> grind
def opOk (ops : Array Oper) (ks : List PK) (i : Nat) : Bool :=
  match ops[i]?, ks[i]? with
  | some o, some k => dstOk N o.dst && o.op.operands.all (fun | .tmp t => G t || (List.range i).any (fun j => match ops[j]? with | some o' => o'.dst == some t | none => false) | _ => true) &&
      (match guardDst ops o with | some (some (dj, _)) => (G dj || (List.range i).any (fun j => match ops[j]? with | some o' => o'.dst == some dj | none => false)) && decide (dj < N) | some none => true | none => false) &&
      (match k with | .rd e | .as e => (exSlots e).all fun t => usesT ops t o | _ => true) && (match k with | .hv ia dv _ _ _ => hasEdge o ia && decide (dv < N) && isVa ks[ia]? && (match ops[ia]? with | some o' => o'.dst == some dv | none => false) | .va .. => (List.range ops.size).any (fun j => hvIa ks[j]? == some i) | _ => true)
  | _, _ => false
def drawOk (ops : Array Oper) (ks : List PK) (st fo : List Nat) : Bool :=
  P.follows .mixedOrders && (ks.length == ops.size) && (List.range ops.size).all fun i => backOk ops i && opOk G N ops ks i && stOk ops ks st i && foOk ops ks fo i && chainOk ops ks st i && (List.range ops.size).all fun j => pairOk2 ops ks i j

inductive Sp where
  | rd (d : Nat) (e : Ex)
  | fr (d : Nat) (e : Eff)
  | ck (d : Nat) (e : Ex)
  | cf (d : Nat) (e : Eff)
  | hd (d : Option Nat) (e : Eff)
  | hg (d : Option Nat) (dj : Nat) (wt : Bool) (e : Eff)
  | ho (o : Oper)
def itemOf (ops : Array Oper) (ks : List PK) (i : Nat) : Option Sp :=
  match (ops[i]?).bind (·.dst), ks[i]? with
  | some d, some (.rd e) => some (.rd d e)
  | some d, some (.fr e) => some (.fr d e)
  | _, _ => none
def ckOf (ops : Array Oper) (ks : List PK) (i : Nat) : Option Sp :=
  match (ops[i]?).bind (·.dst), ks[i]? with
  | some d, some (.rd e) => some (.ck d e)
  | some d, some (.fr e) => some (.cf d e)
  | _, _ => none
def hardOf (ops : Array Oper) (ks : List PK) (i : Nat) : Option Sp :=
  match (ops[i]?).map (·.dst), ks[i]? with
  | some d, some (.hd e) => some (.hd d e)
  | some d, some (.hv _ dv ty k y) => some (.hd (some dv) (.var ty k y))
  | some (some d), some (.as e) => some (.rd d e)
  | some d, some (.hg dj wt e) => some (.hg d dj wt e)
  | some _, some (.ho o) => some (.ho o)
  | _, _ => none
def itemsAt (ops : Array Oper) (ks : List PK) (st : List Nat) (s : Nat) : List Sp := (List.range ops.size).filterMap fun i => if st.getD i 0 == s then itemOf ops ks i else none
def cksAt (ops : Array Oper) (ks : List PK) (st fo : List Nat) (s : Nat) : List Sp := (List.range ops.size).filterMap fun i => if st.getD i 0 ≤ s ∧ s ≤ fo.getD i 0 then ckOf ops ks i else none
def hardAt (ks : List PK) (s : Nat) : Option Nat := (List.range ks.length).find? fun i => hardI ks i && ordOf ks i == s
def stepsFrom (ops : Array Oper) (ks : List PK) (st fo : List Nat) : Nat → Nat → List Sp
  | 0, s => itemsAt ops ks st s ++ cksAt ops ks st fo s
  | n + 1, s => itemsAt ops ks st s ++ cksAt ops ks st fo s ++ ((hardAt ks s).bind (hardOf ops ks)).toList ++ stepsFrom ops ks st fo n (s + 1)
def kinds (ops : Array Oper) : Option (List PK) := (List.range ops.size).mapM (kindOf P ro mu ops)
def stages (ops : Array Oper) (ks : List PK) : List Nat := (List.range ops.size).foldl (fun st i => st ++ [match ops[i]? with
  | some o => if hardI ks i then 0 else o.after.foldl (fun m e => if Region.binds .any e then max m (if hardI ks e.on then ordOf ks e.on + 1 else st.getD e.on 0) else m) 0
  | none => 0]) []
def forced (ops : Array Oper) (ks : List PK) : List Nat := ((List.range ops.size).reverse.foldl (fun fo i => ((List.range ops.size).foldl (fun m j => match ops[j]? with
  | some o => if i < j ∧ hasEdge o i = true then min m (if hardI ks j then ordOf ks j else fo.getD (j - (i + 1)) 0) else m
  | none => m) (ordOf ks ks.length)) :: fo) [])
def planD (ops : Array Oper) : Option (List Sp) :=
  (kinds P ro mu ops).bind fun ks => if drawOk P G N ops ks (stages ops ks) (forced ops ks) = true then some (stepsFrom ops ks (stages ops ks) (forced ops ks) (ordOf ks ks.length) 0) else none
end plan
section wp
variable (P : Program) (mu : Nat → Bool)
def freshI (δ : DEnv) : Eff → Option DV
  | .box ty x => (cellsD (δ.of x)).map .ip
  | .bslice e sz zs len parts => (bldLD (zs.map of0) (parts.map fun p => (p.1 * sz, sz)) (parts.map fun p => δ.of p.2)).map fun l => if len = 0 then .zsl else .isl len l
  | _ => none
def gOn (wt : Bool) : DV → Option Bool
  | .bool b => some (b == wt)
  | .raw v => match v with
    | .bool _ => none
    | _ => some false
  | _ => none
theorem gOnT (b : Bool) : gOn true (.bool b) = some b := by cases b <;> rfl
theorem gOnF (b : Bool) : gOn false (.bool b) = some (!b) := by cases b <;> rfl
theorem gOnU (wt : Bool) : gOn wt (.raw undef) = some false := rfl
def EffD (o : Oper) (K : DV → DMem → Prop) (δ : DEnv) (M : DMem) : Prop :=
  ∀ F m0 ρ m, InvD F m0 δ M ρ m → EffM P o ρ (fun v m' => ∃ d M', StepD F m M v m' d M' ∧ K d M') m
def wpSp (K : DEnv → DMem → Prop) : List Sp → DEnv → DMem → Prop
  | [], δ, M => K δ M
  | .rd d e :: r, δ, M => ∃ v, evD P M δ e = some v ∧ wpSp K r (δ.upd d v) M
  | .fr d e :: r, δ, M => ∃ v, freshI δ e = some v ∧ wpSp K r (δ.upd d v) M
  | .ck d e :: r, δ, M => evD P M δ e = some (δ d) ∧ wpSp K r δ M
  | .cf d e :: r, δ, M => freshI δ e = some (δ d) ∧ wpSp K r δ M
  | .hd d e :: r, δ, M => wpDE P mu d e δ (fun v M' => wpSp K r (δ.updO d v) M') M
  | .hg d dj wt e :: r, δ, M => ∃ b, gOn wt (δ dj) = some b ∧ (b = true → wpDE P mu d e δ (fun v M' => wpSp K r (δ.updO d v) M') M) ∧ (b = false → wpSp K r (δ.updO d (.raw undef)) M)
  | .ho o :: r, δ, M => ∀ δ' : DEnv, (∀ x ∈ o.op.operands, δ'.of x = δ.of x) → EffD P o (fun v M' => wpSp K r (δ.updO o.dst v) M') δ' M
end wp

def effOps : Eff → List Operand
  | .box _ x => [x]
  | .alloc .. => []
  | .store _ x y => [x, y]
  | .bslice _ _ _ _ parts => parts.map (·.2)
  | .make _ _ _ _ x y => [x, y]
  | .app _ _ _ x y => [x, y]
  | .call _ args => args
  | .callv q args => .tmp q :: args
  | .var _ _ y => [y]
  | .clr _ _ x => [x]
  | .cpy _ x y => [x, y]
theorem effOps_sub {P : Program} {o : Oper} {e : Eff} (h : effOf P o = some e) : ∀ x ∈ effOps e, x ∈ o.op.operands := by
  obtain ⟨d, op, t, pos, after, guard⟩ := o
  simp only at *
  cases op with
  | box ty x =>
    simp only [effOf] at h
    split at h
    · cases h; simp [effOps, Op.operands]
    · cases h
  | alloc ty =>
    simp only [effOf] at h
    split at h
    · simp only [Option.map_eq_some_iff] at h; obtain ⟨z, hz, rfl⟩ := h; simp [effOps]
    · cases h
  | store ty x y => simp only [effOf, Option.map_eq_some_iff] at h; obtain ⟨i, hi, rfl⟩ := h; simp [effOps, Op.operands]
  | buildSlice ty len parts =>
    simp only [effOf] at h
    split at h
    · simp only [Option.bind_eq_some_iff] at h
      obtain ⟨inf, hi, z, hz, h⟩ := h
      split at h
      · cases h; simp [effOps, Op.operands]
      · cases h
    · cases h
  | makeSlice ty x y =>
    simp only [effOf] at h
    split at h
    · simp only [Option.bind_eq_some_iff] at h
      obtain ⟨inf, hi, z, hz, h⟩ := h
      split at h
      · cases h; simp [effOps, Op.operands]
      · cases h
    · cases h
  | call c =>
    obtain ⟨callee, args, argTypes⟩ := c
    cases callee with
    | builtin b =>
      cases b with
      | append =>
        simp only [effOf] at h
        split at h
        · rename_i x y ty ty' ha ht
          have ha' : args = #[x, y] := by cases args; simp_all
          subst ha'
          split at h
          · split at h
            · simp only [Option.bind_eq_some_iff] at h
              obtain ⟨inf, hi, z, hz, h⟩ := h
              split at h
              · cases h; simp [effOps, Op.operands, Call.operands]
              · cases h
            · cases h
          · cases h
        · cases h
      | clear =>
        simp only [effOf] at h
        split at h
        · rename_i x ty ha ht
          have ha' : args = #[x] := by cases args; simp_all
          subst ha'
          split at h
          · simp only [Option.bind_eq_some_iff] at h
            obtain ⟨inf, hi, z, hz, h⟩ := h
            split at h
            · cases h; simp [effOps, Op.operands, Call.operands]
            · cases h
          · cases h
        · cases h
      | copy =>
        simp only [effOf] at h
        split at h
        · rename_i x y ty ty' ha ht
          have ha' : args = #[x, y] := by cases args; simp_all
          subst ha'
          split at h
          · split at h
            · simp only [Option.bind_eq_some_iff, Option.some.injEq] at h
              obtain ⟨inf, hi, rfl⟩ := h
              simp [effOps, Op.operands, Call.operands]
            · cases h
          · cases h
        · cases h
      | _ => simp [effOf] at h
    | value f =>
      cases f with
      | func f => cases h; intro x hx; simp only [effOps] at hx; simp only [Op.operands, Call.operands]; simp; exact .inr (by simpa using hx)
      | tmp q =>
        cases h
        intro x hx
        simp only [effOps, List.mem_cons] at hx
        simp only [Op.operands, Call.operands]
        rcases hx with rfl | hx
        · simp
        · simp; exact .inr (by simpa using hx)
      | _ => simp [effOf] at h
    | invoke r n => simp [effOf] at h
  | _ => simp [effOf] at h
theorem wpDE_congr {P : Program} {mu : Nat → Bool} {d : Option Nat} {δ δ' : DEnv} {Post : DV → DMem → Prop} {M : DMem} : ∀ {e : Eff}, (∀ x ∈ effOps e, δ.of x = δ'.of x) → wpDE P mu d e δ Post M → wpDE P mu d e δ' Post M
  | .box ty x, h, hw => by simp only [effOps, List.mem_singleton, forall_eq] at h; simp only [wpDE, h] at hw ⊢; exact hw
  | .alloc ty z, h, hw => hw
  | .store k x y, h, hw => by simp only [effOps, List.mem_cons, List.not_mem_nil, or_false, forall_eq_or_imp, forall_eq] at h; simp only [wpDE, h] at hw ⊢; exact hw
  | .bslice e sz zs len parts, h, hw => by
    have e1 : parts.map (fun p => δ.of p.2) = parts.map (fun p => δ'.of p.2) := List.map_congr_left fun p hp => h p.2 (by simp only [effOps, List.mem_map]; exact ⟨p, hp, rfl⟩)
    simp only [wpDE, e1] at hw ⊢; exact hw
  | .make e sz bytes z x y, h, hw => by simp only [effOps, List.mem_cons, List.not_mem_nil, or_false, forall_eq_or_imp, forall_eq] at h; simp only [wpDE, h] at hw ⊢; exact hw
  | .app e sz bytes x y, h, hw => by simp only [effOps, List.mem_cons, List.not_mem_nil, or_false, forall_eq_or_imp, forall_eq] at h; simp only [wpDE, h] at hw ⊢; exact hw
  | .call f args, h, hw => by
    have e1 : args.map δ.of = args.map δ'.of := List.map_congr_left h
    simp only [wpDE, e1] at hw ⊢; exact hw
  | .callv q args, h, hw => by
    have e1 : args.map δ.of = args.map δ'.of := List.map_congr_left fun x hx => h x (by simp [effOps, hx])
    have e2 : δ q = δ' q := h (.tmp q) (by simp [effOps])
    simp only [wpDE, e1, e2] at hw ⊢; exact hw
  | .var ty k y, h, hw => by simp only [effOps, List.mem_singleton, forall_eq] at h; simp only [wpDE, h] at hw ⊢; exact hw
  | .clr sz z x, h, hw => by simp only [effOps, List.mem_singleton, forall_eq] at h; simp only [wpDE, h] at hw ⊢; exact hw
  | .cpy sz x y, h, hw => by simp only [effOps, List.mem_cons, List.not_mem_nil, or_false, forall_eq_or_imp, forall_eq] at h; simp only [wpDE, h] at hw ⊢; exact hw
theorem freshI_wp {P : Program} {mu : Nat → Bool} {d : Nat} (hmu : mu d = false) {δ : DEnv} {e : Eff} {v : DV} {M : DMem} (h : freshI δ e = some v) : wpDE P mu (some d) e δ (fun v' M' => v' = v ∧ M' = M) M := by
  cases e <;> simp only [freshI, reduceCtorEq, Option.map_eq_some_iff] at h
  case box ty x => obtain ⟨cs, h1, rfl⟩ := h; exact ⟨cs, h1, by simp [hmu]⟩
  case bslice e sz zs len parts => obtain ⟨l, h1, rfl⟩ := h; exact ⟨l, h1, by by_cases h0 : len = 0 <;> simp [hmu, h0]⟩
theorem evD_congr {P : Program} {M : DMem} {δ δ' : DEnv} : ∀ {e : Ex}, (∀ t, uses t e = true → δ t = δ' t) → evD P M δ e = evD P M δ' e := by
  intro e
  induction e with
  | s i => intro h; simp only [evD]; rw [h i (by simp [uses])]
  | k v => intro _; rfl
  | nl => intro _; rfl
  | bin op a b iha ihb | eqs ne n a b iha ihb | eqn ne a b iha ihb | eqb ne a b iha ihb | ix sz a b iha ihb | sidx a b iha ihb | cs a b iha ihb | mkf fn a b iha ihb =>
    intro h; simp only [evD]; rw [iha fun t ht => h t (by simp [uses, ht]), ihb fun t ht => h t (by simp [uses, ht])]
  | eqz ne a b iha ihb => intro h; simp only [evD]; rw [iha fun t ht => h t (by simp [uses, ht])]
  | and a b iha ihb | or a b iha ihb =>
    intro h; simp only [evD]; rw [iha fun t ht => h t (by simp [uses, ht]), ihb fun t ht => h t (by simp [uses, ht])]
  | grd a w b iha ihb => intro h; simp only [evD]; rw [iha fun t ht => h t (by simp [uses, ht]), ihb fun t ht => h t (by simp [uses, ht])]
  | un op a ih | cvt k a ih | ld a ih | ldn n a ih | fa n a ih | nck a ih | len a ih | slen a ih | fld n a ih | fldn n q a ih | ext n a ih | ifc t a ih | bld z pl a ih | call f a ih =>
    intro h; simp only [evD]; rw [ih fun t ht => h t (by simp [uses, ht])]
  | pick a b c iha ihb ihc => intro h; simp only [evD]; rw [iha fun t ht => h t (by simp [uses, ht]), ihb fun t ht => h t (by simp [uses, ht]), ihc fun t ht => h t (by simp [uses, ht])]
  | sslc a b c iha ihb ihc => intro h; simp only [evD]; rw [iha fun t ht => h t (by simp [uses, ht]), ihb fun t ht => h t (by simp [uses, ht]), ihc fun t ht => h t (by simp [uses, ht])]
  | slc sz a b c d iha ihb ihc ihd => intro h; simp only [evD]; rw [iha fun t ht => h t (by simp [uses, ht]), ihb fun t ht => h t (by simp [uses, ht]), ihc fun t ht => h t (by simp [uses, ht]), ihd fun t ht => h t (by simp [uses, ht])]

section draw
variable {P : Program} {ro : FuncId → Bool} {G : Nat → Bool} {N : Nat} {mu : Nat → Bool} {ops : Array Oper} {ks : List PK} {st fo : List Nat}
structure OkAt (P : Program) (G : Nat → Bool) (N : Nat) (ops : Array Oper) (ks : List PK) (st fo : List Nat) (i : Nat) : Prop where
  back : backOk ops i = true
  op : opOk G N ops ks i = true
  sta : stOk ops ks st i = true
  fa : foOk ops ks fo i = true
  chain : chainOk ops ks st i = true
  pair : ∀ j, j < ops.size → pairOk2 ops ks i j = true
theorem drawOk_spec (h : drawOk P G N ops ks st fo = true) : P.follows .mixedOrders = true ∧ ks.length = ops.size ∧ ∀ i, i < ops.size → OkAt P G N ops ks st fo i := by
  simp only [drawOk, Bool.and_eq_true, beq_iff_eq, List.all_eq_true, List.mem_range] at h
  obtain ⟨⟨h1, h2⟩, h3⟩ := h
  refine ⟨h1, h2, fun i hi => ?_⟩
  obtain ⟨⟨⟨⟨⟨a, b⟩, c⟩, d⟩, e⟩, f⟩ := h3 i hi
  exact ⟨a, b, c, d, e, f⟩
theorem kinds_spec (h : kinds P ro mu ops = some ks) {i : Nat} (hi : i < ops.size) : ∃ k, ks[i]? = some k ∧ kindOf P ro mu ops i = some k := by
  unfold kinds at h
  have key : ∀ (l : List Nat) (ks : List PK), l.mapM (kindOf P ro mu ops) = some ks → ∀ (i j : Nat), l[i]? = some j → ∃ k, ks[i]? = some k ∧ kindOf P ro mu ops j = some k := by
    intro l
    induction l with
    | nil => intro ks h i j hj; simp at hj
    | cons x l ih =>
      intro ks h i j hj
      simp only [List.mapM_cons, Option.bind_eq_bind, Option.bind_eq_some_iff, Option.pure_def, Option.some.injEq] at h
      obtain ⟨k, h1, ks', h2, rfl⟩ := h
      cases i with
      | zero => simp at hj; subst hj; exact ⟨k, rfl, h1⟩
      | succ i => simp only [List.getElem?_cons_succ] at hj ⊢; exact ih _ h2 i j hj
  exact key _ _ h i i (by simp [hi])
def Filled (ks : List PK) (listed : Array Bool) (i : Nat) : Prop := ∃ j, hvIa ks[j]? = some i ∧ listed.getD j false = true
def Live (ops : Array Oper) (ks : List PK) (listed : Array Bool) (t : Nat) : Prop :=
  ∀ (i : Nat) (o : Oper), ops[i]? = some o → o.dst = some t → hardI ks i = false → listed.getD i false = true ∧ (isVa ks[i]? = true → Filled ks listed i)
def ptrV (b : Nat) : Value := .pointer (some ⟨b, 0, none⟩)
structure SI (P : Program) (ops : Array Oper) (ks : List PK) (st : List Nat) (G : Nat → Bool) (N : Nat) (F m0 : Mem) (w0 : World) (s : Nat) (δ : DEnv) (M : DMem) (ρ : Env) (m F' : Mem) (listed : Array Bool) (a : Act) (w : World) : Prop where
  sat : Sat w0 w m
  lsize : listed.size = ops.size
  size : a.tmps.size = N
  defers : a.defers = []
  closed : ∀ (i : Nat) o e, listed.getD i false = true → ops[i]? = some o → e ∈ o.after → Region.binds .any e = true → listed.getD e.on false = true
  env : ∀ t, Live ops ks listed t → Rep m (δ t) (ρ t)
  mem : RepM M m
  fin : Fin m0 m
  keep : Grows F' m
  own : ∀ b, F' b ≠ none → M b = none
  FF : Grows F F'
  hard : ∀ i, i < ops.size → hardI ks i = true → (listed.getD i false = true ↔ ordOf ks i < s)
  val : ∀ t, Live ops ks listed t → (G t = true ∨ ∃ i o, ops[i]? = some o ∧ o.dst = some t ∧ listed.getD i false = true) → a.eval (.tmp t) = ρ t
  vpend : ∀ i o ty z d, ops[i]? = some o → ks[i]? = some (.va ty z) → o.dst = some d → listed.getD i false = true → ¬ Filled ks listed i →
    ∃ b, a.eval (.tmp d) = ptrV b ∧ F' b = some (.cells ty z.cells.size false z.cells.toList) ∧ F b = none
  vdist : ∀ i i' o o' d d' ty z ty' z' b, i ≠ i' → ops[i]? = some o → ops[i']? = some o' → ks[i]? = some (.va ty z) → ks[i']? = some (.va ty' z') → o.dst = some d → o'.dst = some d' → listed.getD i false = true → listed.getD i' false = true →
    ¬ Filled ks listed i → ¬ Filled ks listed i' → a.eval (.tmp d) = ptrV b → a.eval (.tmp d') ≠ ptrV b
def Told (P : Program) (ops : Array Oper) (ks : List PK) (st : List Nat) (s : Nat) (δ : DEnv) (M : DMem) (listed : Array Bool) : Prop :=
  ∀ i o d, ops[i]? = some o → o.dst = some d → listed.getD i false = false → st.getD i 0 ≤ s →
    (∀ e, ks[i]? = some (.rd e) → evD P M δ e = some (δ d)) ∧ (∀ e, ks[i]? = some (.fr e) → freshI δ e = some (δ d))
theorem getD_lt {l : Array Bool} {i : Nat} (h : l.getD i false = true) : i < l.size := by
  rcases Nat.lt_or_ge i l.size with h' | h'
  · exact h'
  · simp [Array.getD_eq_getD_getElem?, Array.getElem?_eq_none h'] at h
theorem hasEdge_listed {o : Oper} {i j : Nat} {listed : Array Bool} (hc : ∀ (i : Nat) o e, listed.getD i false = true → ops[i]? = some o → e ∈ o.after → Region.binds .any e = true → listed.getD e.on false = true)
    (ho : ops[i]? = some o) (hi : listed.getD i false = true) (h : hasEdge o j = true) : listed.getD j false = true := by
  obtain ⟨e, he, hon, hb⟩ := hasEdge_spec h
  have := hc i o e hi ho he hb
  rwa [hon] at this
theorem ordOf_lt {ks : List PK} {i j : Nat} (h : i < j) (hi : hardI ks i = true) : ordOf ks i < ordOf ks j := by
  have hk : ∃ k, ks[i]? = some k ∧ k.hard = true := by
    unfold hardI at hi
    split at hi
    · rename_i k hk; exact ⟨k, hk, hi⟩
    · cases hi
  obtain ⟨k, hk, hh⟩ := hk
  have hlt := (List.getElem?_eq_some_iff.1 hk).1
  unfold ordOf
  have e1 : ks.take j = ks.take i ++ (ks.drop i).take (j - i) := by
    rw [← List.take_add]; congr 1; omega
  have e2 : (ks.drop i).take (j - i) = k :: (ks.drop (i + 1)).take (j - i - 1) := by
    rw [List.drop_eq_getElem_cons hlt]
    obtain ⟨q, hq⟩ : ∃ q, j - i = q + 1 := ⟨j - i - 1, by omega⟩
    rw [hq, List.take_succ_cons, (List.getElem?_eq_some_iff.1 hk).2]
    rfl
  rw [e1, e2, List.filter_append, List.filter_cons_of_pos hh, List.length_append, List.length_cons]
  omega
theorem hardAt_of {ks : List PK} {i : Nat} (hi : hardI ks i = true) : hardAt ks (ordOf ks i) = some i := by
  have hlt : i < ks.length := by
    unfold hardI at hi
    split at hi
    · rename_i k hk; exact (List.getElem?_eq_some_iff.1 hk).1
    · cases hi
  unfold hardAt
  cases hf : (List.range ks.length).find? fun j => hardI ks j && ordOf ks j == ordOf ks i with
  | none =>
    rw [List.find?_eq_none] at hf
    have := hf i (List.mem_range.2 hlt)
    simp [hi] at this
  | some j =>
    have h1 := List.find?_some hf
    simp only [Bool.and_eq_true, beq_iff_eq] at h1
    rcases Nat.lt_trichotomy i j with h | h | h
    · have := ordOf_lt h hi; omega
    · rw [h]
    · have := ordOf_lt h h1.1; omega
theorem hard_ex {ks : List PK} : ∀ {s n : Nat}, s < ordOf ks n → ∃ i, hardI ks i = true ∧ ordOf ks i = s := by
  intro s n
  induction n with
  | zero => intro h; simp [ordOf] at h
  | succ n ih =>
    intro h
    by_cases hs : s < ordOf ks n
    · exact ih hs
    · unfold ordOf at h hs
      rw [List.take_add_one] at h
      cases hk : ks[n]? with
      | none => rw [hk] at h; simp at h; omega
      | some k =>
        rw [hk] at h
        simp only [Option.toList_some, List.filter_append, List.length_append] at h
        cases hh : k.hard with
        | false => simp [hh] at h; omega
        | true =>
          simp [hh] at h
          refine ⟨n, by unfold hardI; rw [hk]; exact hh, ?_⟩
          unfold ordOf; omega
def restAt (ops : Array Oper) (ks : List PK) (st fo : List Nat) (T s : Nat) : List Sp :=
  if s < T then ((hardAt ks s).bind (hardOf ops ks)).toList ++ stepsFrom ops ks st fo (T - (s + 1)) (s + 1) else []
theorem steps_rest {T s : Nat} (h : s ≤ T) : stepsFrom ops ks st fo (T - s) s = itemsAt ops ks st s ++ cksAt ops ks st fo s ++ restAt ops ks st fo T s := by
  unfold restAt
  by_cases hs : s < T
  · rw [if_pos hs, show T - s = (T - (s + 1)) + 1 by omega, stepsFrom]
    simp only [List.append_assoc]
  · rw [if_neg hs, show T - s = 0 by omega, stepsFrom, List.append_nil]
theorem wpDE_mono {M : DMem} {d : Option Nat} {δ : DEnv} : ∀ (e : Eff) {K K' : DV → DMem → Prop}, (∀ v M', K v M' → K' v M') → wpDE P mu d e δ K M → wpDE P mu d e δ K' M := by
  intro e K K' hk h
  cases e <;> simp only [wpDE] at h ⊢
  case box => obtain ⟨cs, h1, h2⟩ := h; refine ⟨cs, h1, ?_⟩; split at h2 <;> rename_i hc <;> simp only [hc, if_true, Bool.false_eq_true, if_false] <;> grind
  case call => exact h.mono hk
  case callv => obtain ⟨f, a, b, h1, h2⟩ := h; exact ⟨f, a, b, h1, h2.mono hk⟩
  case cpy => obtain ⟨q, h1, n, h2, B, h3, nw, h4, h5, h6, h7, h8⟩ := h; exact ⟨q, h1, n, h2, B, h3, nw, h4, h5, h6, h7, fun M' hM => hk _ _ (h8 M' hM)⟩
  case clr => obtain ⟨q, h1, B, h3, h5, h6, h7, h8⟩ := h; exact ⟨q, h1, B, h3, h5, h6, h7, fun M' hM => hk _ _ (h8 M' hM)⟩
  case store => obtain ⟨q, h1, B, h3, cs, h4, h5, h6, h7, h8, h9⟩ := h; exact ⟨q, h1, B, h3, cs, h4, h5, h6, h7, h8, fun M' hM => hk _ _ (h9 M' hM)⟩
  case bslice => obtain ⟨l, h1, h2⟩ := h; refine ⟨l, h1, ?_⟩; by_cases h0 : ‹Nat› = 0 <;> (first | (split at h2 <;> rename_i hc <;> (try split at h2) <;> rename_i hd <;> simp_all) | skip) <;> grind
  case make => obtain ⟨l, h1, c, h3, h4, h5, h6, h7, h8⟩ := h; exact ⟨l, h1, c, h3, h4, h5, h6, h7, fun b M' hb hM => hk _ _ (h8 b M' hb hM)⟩
  case app => obtain ⟨k, nw, h1, h2, n, h3, h4, h5⟩ := h; exact ⟨k, nw, h1, h2, n, h3, h4, h5.mono hk⟩
  all_goals grind
theorem wpSp_append {K : DEnv → DMem → Prop} : ∀ (l r : List Sp) (δ : DEnv) (M : DMem), wpSp P mu K (l ++ r) δ M → wpSp P mu (fun δ M => wpSp P mu K r δ M) l δ M
  | [], r, δ, M, h => h
  | .rd d e :: l, r, δ, M, ⟨v, h1, h2⟩ => ⟨v, h1, wpSp_append l r _ _ h2⟩
  | .fr d e :: l, r, δ, M, ⟨v, h1, h2⟩ => ⟨v, h1, wpSp_append l r _ _ h2⟩
  | .ck d e :: l, r, δ, M, ⟨h1, h2⟩ => ⟨h1, wpSp_append l r _ _ h2⟩
  | .cf d e :: l, r, δ, M, ⟨h1, h2⟩ => ⟨h1, wpSp_append l r _ _ h2⟩
  | .hd d e :: l, r, δ, M, h => wpDE_mono e (fun v M' h => wpSp_append l r _ _ h) h
  | .hg d dj wt e :: l, r, δ, M, ⟨b, h1, h2, h3⟩ => ⟨b, h1, fun hb => wpDE_mono e (fun v M' h => wpSp_append l r _ _ h) (h2 hb), fun hb => wpSp_append l r _ _ (h3 hb)⟩
  | .ho o :: l, r, δ, M, h => fun δ' hδ F m0 ρ m hI => EffM.mono (fun v m' ⟨d', M', hs, hp⟩ => ⟨d', M', hs, wpSp_append l r _ _ hp⟩) (h δ' hδ F m0 ρ m hI)
theorem pair_dst (hok : ∀ i, i < ops.size → OkAt P G N ops ks st fo i) {i j : Nat} {oi oj : Oper} {d : Nat} (hi : ops[i]? = some oi) (hj : ops[j]? = some oj) (hdi : oi.dst = some d) (hdj : oj.dst = some d) : i = j := by
  have := (hok i (Array.getElem?_eq_some_iff.1 hi).1).pair j (Array.getElem?_eq_some_iff.1 hj).1
  simp only [pairOk2, hi, hj, hdj, Bool.and_eq_true] at this
  by_cases h : i = j
  · exact h
  · simp [h, hdi] at this
theorem pair_use (hok : ∀ i, i < ops.size → OkAt P G N ops ks st fo i) {i j : Nat} {oi oj : Oper} {d : Nat} (hi : ops[i]? = some oi) (hj : ops[j]? = some oj) (hdj : oj.dst = some d) (hu : usesT ops d oi = true) :
    i ≠ j ∧ ((j < i ∧ hasEdge oi j = true) ∨ (i < j ∧ hasEdge oj i = true ∧ hardI ks j = true)) ∧ (isVa ks[j]? = true → ∃ dv ty k y, ks[i]? = some (.hv j dv ty k y) ∧ dv = d ∧ notTmp d y = true) := by
  have := (hok i (Array.getElem?_eq_some_iff.1 hi).1).pair j (Array.getElem?_eq_some_iff.1 hj).1
  simp only [pairOk2, hi, hj, hdj, Bool.and_eq_true] at this
  obtain ⟨this, _⟩ := this
  by_cases h : i = j
  · simp [h] at this
    have e : oi = oj := by subst h; rw [hi] at hj; exact Option.some.inj hj
    rw [hu] at this; cases this
  · simp only [h, if_false, Bool.and_eq_true, Bool.or_eq_true, Bool.not_eq_true'] at this
    refine ⟨h, ?_, fun hv => ?_⟩
    · rcases this.2 with h2 | h2
      · rw [hu] at h2; cases h2
      · by_cases hlt : j < i
        · simp only [hlt, if_true] at h2; exact .inl ⟨hlt, h2.1⟩
        · simp only [hlt, if_false, Bool.and_eq_true] at h2; exact .inr ⟨by omega, h2.1.1, h2.1.2⟩
    · rcases this.2 with h2 | h2
      · rw [hu] at h2; cases h2
      · rcases h2.2 with h3 | h3
        · rw [hv] at h3; cases h3
        · split at h3
          · rename_i ia dv ty k y hk
            simp only [Bool.and_eq_true, beq_iff_eq] at h3
            obtain ⟨⟨rfl, rfl⟩, h4⟩ := h3
            exact ⟨dv, ty, k, y, hk, rfl, h4⟩
          · cases h3
theorem hv_one (hok : ∀ i, i < ops.size → OkAt P G N ops ks st fo i) {i j x : Nat} (hi : i < ops.size) (hj : j < ops.size) (h1 : hvIa ks[i]? = some x) (h2 : hvIa ks[j]? = some x) : i = j := by
  have := (hok i hi).pair j hj
  simp only [pairOk2, Bool.and_eq_true] at this
  by_cases h : i = j
  · exact h
  · simp [h, h1, h2] at this
theorem SI.use {F m0 : Mem} {w0 : World} {s : Nat} {δ : DEnv} {M : DMem} {ρ : Env} {m F' : Mem} {listed : Array Bool} {a : Act} {w : World} (hok : ∀ i, i < ops.size → OkAt P G N ops ks st fo i)
    (h : SI P ops ks st G N F m0 w0 s δ M ρ m F' listed a w) {i : Nat} {o : Oper} (ho : ops[i]? = some o) (hun : listed.getD i false = false)
    (hed : ∀ e ∈ o.after, Region.binds .any e = true → listed.getD e.on false = true) {t : Nat} (hu : usesT ops t o = true)
    (hv : ∀ j dv ty k y, ks[i]? = some (.hv j dv ty k y) → t ≠ dv) (hk : G t = true ∨ ∃ j oj, j < i ∧ ops[j]? = some oj ∧ oj.dst = some t) :
    Live ops ks listed t ∧ a.eval (.tmp t) = ρ t := by
  have edge : ∀ {j}, hasEdge o j = true → listed.getD j false = true := fun he => by
    obtain ⟨e, he, hon, hb⟩ := hasEdge_spec he
    have := hed e he hb
    rwa [hon] at this
  have hl : Live ops ks listed t := by
    intro j oj hj hd hnh
    obtain ⟨_, h1, h2⟩ := pair_use hok ho hj hd hu
    rcases h1 with ⟨_, h1⟩ | ⟨_, _, h1⟩
    · refine ⟨edge h1, fun hva => ?_⟩
      obtain ⟨dv, ty, k, y, hk', hdv, _⟩ := h2 hva
      exact absurd hdv.symm (hv _ _ _ _ _ hk')
    · rw [hnh] at h1; cases h1
  refine ⟨hl, h.val t hl ?_⟩
  rcases hk with hk | ⟨j, oj, hlt, hj, hd⟩
  · exact .inl hk
  · obtain ⟨_, h1, _⟩ := pair_use hok ho hj hd hu
    rcases h1 with ⟨_, h1⟩ | ⟨h1, _⟩
    · exact .inr ⟨j, oj, hj, hd, edge h1⟩
    · omega
theorem getD_set_iff {listed : Array Bool} {i j : Nat} (hi : i < listed.size) : (listed.setIfInBounds i true).getD j false = true ↔ j = i ∨ listed.getD j false = true := by
  by_cases h : j = i
  · subst h; simp [Array.getD_eq_getD_getElem?, hi]
  · rw [getD_set_ne false (Ne.symm h)]; simp [h]
theorem Filled.of_set {listed : Array Bool} {i x : Nat} (hi : i < listed.size) (hn : hvIa ks[i]? = none) (h : Filled ks (listed.setIfInBounds i true) x) : Filled ks listed x := by
  obtain ⟨j, h1, h2⟩ := h
  rw [getD_set_iff hi] at h2
  rcases h2 with rfl | h2
  · rw [hn] at h1; cases h1
  · exact ⟨j, h1, h2⟩
theorem Filled.set {listed : Array Bool} {i x : Nat} (h : Filled ks listed x) : Filled ks (listed.setIfInBounds i true) x := by
  obtain ⟨j, h1, h2⟩ := h
  exact ⟨j, h1, getD_set_true h2⟩
theorem SI.put {F m0 : Mem} {w0 : World} {s s' : Nat} {δ δ' : DEnv} {M M' : DMem} {ρ : Env} {m m' F' : Mem} {listed : Array Bool} {a : Act} {w w' : World} (hok : ∀ i, i < ops.size → OkAt P G N ops ks st fo i)
    (h : SI P ops ks st G N F m0 w0 s δ M ρ m F' listed a w) {i : Nat} {o : Oper} (ho : ops[i]? = some o) (hun : listed.getD i false = false)
    (hed : ∀ e ∈ o.after, Region.binds .any e = true → listed.getD e.on false = true) (hva : isVa ks[i]? = false) (hhv : hvIa ks[i]? = none) {v : Value}
    (hs' : Sat w0 w' m') (hM : RepM M' m') (hf : Fin m m') (hk : Grows F' m') (hown : ∀ b, F' b ≠ none → M' b = none)
    (hδ : ∀ t, o.dst ≠ some t → δ' t = δ t) (hδd : ∀ d, o.dst = some d → Rep m' (δ' d) v)
    (hst : (hardI ks i = false ∧ s' = s) ∨ (hardI ks i = true ∧ ordOf ks i = s ∧ s' = s + 1)) :
    SI P ops ks st G N F m0 w0 s' δ' M' (ρ.updO o.dst v) m' F' (listed.setIfInBounds i true) (a.put o.dst v) w' := by
  have hin : i < ops.size := (Array.getElem?_eq_some_iff.1 ho).1
  have hil : i < listed.size := by rw [h.lsize]; exact hin
  have hiff := fun j => getD_set_iff (listed := listed) (i := i) (j := j) hil
  have live : ∀ t, o.dst ≠ some t → Live ops ks (listed.setIfInBounds i true) t → Live ops ks listed t := by
    intro t hne hl j oj hj hd hnh
    obtain ⟨h1, h2⟩ := hl j oj hj hd hnh
    rw [hiff] at h1
    rcases h1 with rfl | h1
    · rw [ho] at hj; cases hj; exact absurd hd hne
    · exact ⟨h1, fun hv => (h2 hv).of_set hil hhv⟩
  have hdN : ∀ d, o.dst = some d → d < N := fun d hd => by
    have := (hok i hin).op
    unfold opOk at this
    rw [ho] at this
    cases hk : ks[i]? with
    | none => rw [hk] at this; cases this
    | some k => rw [hk] at this; simp only [Bool.and_eq_true] at this; have := this.1.1.1.1; rw [hd] at this; simpa [dstOk] using this
  refine ⟨hs', by simp [h.lsize], by rw [size_put]; exact h.size, by rw [defers_put]; exact h.defers, ?_, ?_, hM, h.fin.trans hf, hk, hown, h.FF, ?_, ?_, ?_, ?_⟩
  · intro j oj e hj hoj he hb
    rw [hiff] at hj ⊢
    rcases hj with rfl | hj
    · rw [ho] at hoj; cases hoj; exact .inr (hed e he hb)
    · exact .inr (h.closed j oj e hj hoj he hb)
  · intro t hl
    by_cases hd : o.dst = some t
    · rw [hd]; simp only [Env.updO, Env.upd, if_true]; exact hδd t hd
    · rw [hδ t hd]
      have e : (ρ.updO o.dst v) t = ρ t := by
        cases hdo : o.dst with
        | none => rfl
        | some d => simp only [Env.updO, Env.upd]; rw [if_neg]; rintro rfl; exact hd hdo
      rw [e]; exact (h.env t (live t hd hl)).mono hf
  · intro j hj hhj
    rw [hiff]
    rcases hst with ⟨h1, rfl⟩ | ⟨h1, h2, rfl⟩
    · have hne : j ≠ i := by rintro rfl; rw [h1] at hhj; cases hhj
      simp only [hne, false_or]; exact h.hard j hj hhj
    · have := h.hard j hj hhj
      by_cases hji : j = i
      · subst hji; simp only [true_or, true_iff]; omega
      · simp only [hji, false_or]
        rw [this]
        constructor
        · intro h; omega
        · intro h3
          rcases Nat.lt_trichotomy i j with hl | hl | hl
          · have := ordOf_lt hl h1; omega
          · exact absurd hl.symm hji
          · have := ordOf_lt hl hhj; omega
  · intro t hl hg
    by_cases hd : o.dst = some t
    · rw [hd]
      rw [eval_put_same (by rw [h.size]; exact hdN t hd)]
      simp [Env.updO, Env.upd]
    · have e1 : (ρ.updO o.dst v) t = ρ t := by
        cases hdo : o.dst with
        | none => rfl
        | some d => simp only [Env.updO, Env.upd]; rw [if_neg]; rintro rfl; exact hd hdo
      have e2 : (a.put o.dst v).eval (.tmp t) = a.eval (.tmp t) := by
        cases hdo : o.dst with
        | none => rfl
        | some d => exact eval_put_ne (by rintro rfl; exact hd hdo)
      rw [e1, e2]
      refine h.val t (live t hd hl) ?_
      rcases hg with hg | ⟨j, oj, hj, hdj, hlj⟩
      · exact .inl hg
      · rw [hiff] at hlj
        rcases hlj with rfl | hlj
        · rw [ho] at hj; cases hj; exact absurd hdj hd
        · exact .inr ⟨j, oj, hj, hdj, hlj⟩
  · intro j oj ty z d hj hkj hdj hlj hnf
    rw [hiff] at hlj
    rcases hlj with rfl | hlj
    · rw [hkj] at hva; cases hva
    · obtain ⟨b, h1, h2, h3⟩ := h.vpend j oj ty z d hj hkj hdj hlj (fun hf => hnf hf.set)
      refine ⟨b, ?_, h2, h3⟩
      have hne : o.dst ≠ some d := fun hd => by
        have := pair_dst hok ho hj hd hdj
        subst this
        rw [hkj] at hva; cases hva
      cases hdo : o.dst with
      | none => exact h1
      | some d' => rw [eval_put_ne (by rintro rfl; exact hne hdo)]; exact h1
  · intro j j' oj oj' d d' ty z ty' z' b hne hj hj' hkj hkj' hdj hdj' hlj hlj' hnf hnf' hb
    have put_ne : ∀ (j : Nat) (oj : Oper) (d : Nat) ty z, ops[j]? = some oj → ks[j]? = some (.va ty z) → oj.dst = some d → (a.put o.dst v).eval (.tmp d) = a.eval (.tmp d) := by
      intro j oj d ty z hj hkj hdj
      have hne : o.dst ≠ some d := fun hd => by
        have := pair_dst hok ho hj hd hdj
        subst this
        rw [hkj] at hva; cases hva
      cases hdo : o.dst with
      | none => rfl
      | some d' => exact eval_put_ne (by rintro rfl; exact hne hdo)
    have nl : ∀ (j : Nat) ty z, ks[j]? = some (.va ty z) → (listed.setIfInBounds i true).getD j false = true → listed.getD j false = true := by
      intro j ty z hkj hlj
      rw [hiff] at hlj
      rcases hlj with rfl | hlj
      · rw [hkj] at hva; cases hva
      · exact hlj
    rw [put_ne j oj d ty z hj hkj hdj] at hb
    rw [put_ne j' oj' d' ty' z' hj' hkj' hdj']
    exact h.vdist j j' oj oj' d d' ty z ty' z' b hne hj hj' hkj hkj' hdj hdj' (nl j ty z hkj hlj) (nl j' ty' z' hkj' hlj') (fun hf => hnf hf.set) (fun hf => hnf' hf.set) hb
theorem items_ok {K : DEnv → DMem → Prop} (S : Nat → Prop) : ∀ (l : List Sp) (δ : DEnv) (M : DMem), (∀ x ∈ l, ∃ d, S d ∧ ((∃ e, x = .rd d e) ∨ ∃ e, x = .fr d e)) → wpSp P mu K l δ M → ∃ δ', (∀ t, ¬ S t → δ' t = δ t) ∧ K δ' M
  | [], δ, M, _, h => ⟨δ, fun _ _ => rfl, h⟩
  | x :: l, δ, M, hx, h => by
    obtain ⟨d, hS, ⟨e, rfl⟩ | ⟨e, rfl⟩⟩ := hx x (by simp)
    · obtain ⟨v, h1, h2⟩ := h
      obtain ⟨δ', h3, h4⟩ := items_ok S l _ M (fun y hy => hx y (by simp [hy])) h2
      exact ⟨δ', fun t ht => by rw [h3 t ht]; simp only [DEnv.upd]; rw [if_neg]; rintro rfl; exact ht hS, h4⟩
    · obtain ⟨v, h1, h2⟩ := h
      obtain ⟨δ', h3, h4⟩ := items_ok S l _ M (fun y hy => hx y (by simp [hy])) h2
      exact ⟨δ', fun t ht => by rw [h3 t ht]; simp only [DEnv.upd]; rw [if_neg]; rintro rfl; exact ht hS, h4⟩
theorem cks_ok {K : DEnv → DMem → Prop} : ∀ (l : List Sp) (δ : DEnv) (M : DMem), (∀ x ∈ l, ∃ d, (∃ e, x = .ck d e) ∨ ∃ e, x = .cf d e) → wpSp P mu K l δ M →
    (∀ d e, .ck d e ∈ l → evD P M δ e = some (δ d)) ∧ (∀ d e, .cf d e ∈ l → freshI δ e = some (δ d)) ∧ K δ M
  | [], δ, M, _, h => ⟨(fun _ _ h => by cases h), (fun _ _ h => by cases h), h⟩
  | x :: l, δ, M, hx, h => by
    obtain ⟨d, ⟨e, rfl⟩ | ⟨e, rfl⟩⟩ := hx x (by simp)
    · obtain ⟨h1, h2⟩ := h
      obtain ⟨h3, h4, h5⟩ := cks_ok l δ M (fun y hy => hx y (by simp [hy])) h2
      refine ⟨fun d' e' hm => ?_, fun d' e' hm => ?_, h5⟩
      · rcases List.mem_cons.1 hm with hm | hm
        · cases hm; exact h1
        · exact h3 d' e' hm
      · rcases List.mem_cons.1 hm with hm | hm
        · cases hm
        · exact h4 d' e' hm
    · obtain ⟨h1, h2⟩ := h
      obtain ⟨h3, h4, h5⟩ := cks_ok l δ M (fun y hy => hx y (by simp [hy])) h2
      refine ⟨fun d' e' hm => ?_, fun d' e' hm => ?_, h5⟩
      · rcases List.mem_cons.1 hm with hm | hm
        · cases hm
        · exact h3 d' e' hm
      · rcases List.mem_cons.1 hm with hm | hm
        · cases hm; exact h1
        · exact h4 d' e' hm
theorem stage_le {F m0 : Mem} {w0 : World} {s : Nat} {δ : DEnv} {M : DMem} {ρ : Env} {m F' : Mem} {listed : Array Bool} {a : Act} {w : World} (hok : ∀ i, i < ops.size → OkAt P G N ops ks st fo i) (hlen : ks.length = ops.size)
    (h : SI P ops ks st G N F m0 w0 s δ M ρ m F' listed a w) : ∀ (n i : Nat) (o : Oper), i < n → ops[i]? = some o → hardI ks i = false → (∀ e ∈ o.after, Region.binds .any e = true → listed.getD e.on false = true) → st.getD i 0 ≤ s := by
  intro n
  induction n with
  | zero => intro i o hi; omega
  | succ n ih =>
    intro i o hi ho hnh hed
    have hin : i < ops.size := (Array.getElem?_eq_some_iff.1 ho).1
    have := (hok i hin).sta
    simp only [stOk, hnh, Bool.false_or, Bool.or_eq_true, beq_iff_eq, ho, List.any_eq_true, List.mem_range, Bool.and_eq_true] at this
    rcases this with h0 | ⟨j, hj, he, hs⟩
    · omega
    · have hlj : listed.getD j false = true := by
        obtain ⟨e, he, hon, hb⟩ := hasEdge_spec he
        have := hed e he hb
        rwa [hon] at this
      by_cases hh : hardI ks j = true
      · rw [if_pos hh] at hs
        have := (h.hard j (by omega) hh).1 hlj
        simp only [beq_iff_eq] at hs
        omega
      · rw [if_neg hh] at hs
        simp only [beq_iff_eq] at hs
        rw [← hs]
        exact ih j ops[j] (by omega) (Array.getElem?_eq_getElem (by omega)) (by simpa using hh) fun e he hb => h.closed j _ e hlj (Array.getElem?_eq_getElem (by omega)) he hb
theorem forced_le {F m0 : Mem} {w0 : World} {s : Nat} {δ : DEnv} {M : DMem} {ρ : Env} {m F' : Mem} {listed : Array Bool} {a : Act} {w : World} (hok : ∀ i, i < ops.size → OkAt P G N ops ks st fo i)
    (h : SI P ops ks st G N F m0 w0 s δ M ρ m F' listed a w) (hT : s ≤ ordOf ks ks.length) : ∀ (n i : Nat), ops.size - i < n → i < ops.size → hardI ks i = false → fo.getD i 0 < s → listed.getD i false = true := by
  intro n
  induction n with
  | zero => intro i hi; omega
  | succ n ih =>
    intro i hn hin hnh hs
    have := (hok i hin).fa
    simp only [foOk, hnh, Bool.false_or, Bool.or_eq_true, beq_iff_eq, List.any_eq_true, List.mem_range, Bool.and_eq_true, decide_eq_true_eq] at this
    rcases this with h0 | ⟨j, hj, ⟨hij, he⟩, hf⟩
    · omega
    · rw [Array.getElem?_eq_getElem hj] at he
      simp only at he
      have hlj : listed.getD j false = true := by
        by_cases hh : hardI ks j = true
        · rw [if_pos hh] at hf
          simp only [beq_iff_eq] at hf
          exact (h.hard j hj hh).2 (by omega)
        · rw [if_neg hh] at hf
          simp only [beq_iff_eq] at hf
          exact ih j (by omega) hj (by simpa using hh) (by omega)
      exact hasEdge_listed h.closed (Array.getElem?_eq_getElem hj) hlj he
theorem advance {K : DEnv → DMem → Prop} {F m0 : Mem} {w0 : World} {s : Nat} {δ : DEnv} {M : DMem} {ρ : Env} {m F' : Mem} {listed : Array Bool} {a : Act} {w : World} (hok : ∀ i, i < ops.size → OkAt P G N ops ks st fo i) (hlen : ks.length = ops.size)
    (h : SI P ops ks st G N F m0 w0 s δ M ρ m F' listed a w) (hT : s ≤ ordOf ks ks.length) (hun : ∀ i, i < ops.size → hardI ks i = false → st.getD i 0 = s → listed.getD i false = false)
    (hw : wpSp P mu K (itemsAt ops ks st s ++ cksAt ops ks st fo s ++ restAt ops ks st fo (ordOf ks ks.length) s) δ M) :
    ∃ δ', SI P ops ks st G N F m0 w0 s δ' M ρ m F' listed a w ∧ Told P ops ks st s δ' M listed ∧ wpSp P mu K (restAt ops ks st fo (ordOf ks ks.length) s) δ' M := by
  rw [List.append_assoc] at hw
  have h1 := wpSp_append _ _ _ _ hw
  obtain ⟨δ', h2, h3⟩ := items_ok (fun t => ∃ i o, ops[i]? = some o ∧ o.dst = some t ∧ hardI ks i = false ∧ listed.getD i false = false) _ _ _ (fun x hx => by
    simp only [itemsAt, List.mem_filterMap, List.mem_range] at hx
    obtain ⟨i, hi, hx⟩ := hx
    split at hx
    · rename_i hs
      simp only [beq_iff_eq] at hs
      unfold itemOf at hx
      rw [Array.getElem?_eq_getElem hi] at hx
      simp only [Option.bind_some] at hx
      split at hx <;> simp only [Option.some.injEq, reduceCtorEq] at hx
      · rename_i d e hd hk
        have hnh : hardI ks i = false := by simp [hardI, hk, PK.hard]
        exact ⟨d, ⟨i, ops[i], Array.getElem?_eq_getElem hi, hd, hnh, hun i hi hnh hs⟩, .inl ⟨e, hx.symm⟩⟩
      · rename_i d e hd hk
        have hnh : hardI ks i = false := by simp [hardI, hk, PK.hard]
        exact ⟨d, ⟨i, ops[i], Array.getElem?_eq_getElem hi, hd, hnh, hun i hi hnh hs⟩, .inr ⟨e, hx.symm⟩⟩
    · cases hx) h1
  have h4 := wpSp_append _ _ _ _ h3
  obtain ⟨h5, h6, h7⟩ := cks_ok _ _ _ (fun x hx => by
    simp only [cksAt, List.mem_filterMap, List.mem_range] at hx
    obtain ⟨i, hi, hx⟩ := hx
    split at hx
    · unfold ckOf at hx
      rw [Array.getElem?_eq_getElem hi] at hx
      simp only [Option.bind_some] at hx
      split at hx <;> simp only [Option.some.injEq, reduceCtorEq] at hx
      · exact ⟨_, .inl ⟨_, hx.symm⟩⟩
      · exact ⟨_, .inr ⟨_, hx.symm⟩⟩
    · cases hx) h4
  refine ⟨δ', { h with env := fun t hl => ?_ }, fun i o d ho hd hli hsi => ?_, h7⟩
  · rw [h2 t]
    · exact h.env t hl
    · rintro ⟨i, o, ho, hd, hnh, hli⟩
      have := (hl i o ho hd hnh).1
      rw [hli] at this; cases this
  · have hin : i < ops.size := (Array.getElem?_eq_some_iff.1 ho).1
    have hck : ∀ k, ks[i]? = some k → k.hard = false → ∀ x, ckOf ops ks i = some x → x ∈ cksAt ops ks st fo s := by
      intro k hk hkh x hx
      simp only [cksAt, List.mem_filterMap, List.mem_range]
      refine ⟨i, hin, ?_⟩
      have hnh : hardI ks i = false := by simp [hardI, hk, hkh]
      have : s ≤ fo.getD i 0 := by
        rcases Nat.lt_or_ge (fo.getD i 0) s with hlt | hge
        · have := forced_le hok h hT _ i (Nat.lt_succ_self _) hin hnh hlt
          rw [hli] at this; cases this
        · exact hge
      rw [if_pos ⟨hsi, this⟩]; exact hx
    constructor
    · intro e hk
      exact h5 d e (hck _ hk rfl _ (by unfold ckOf; rw [ho]; simp only [Option.bind_some, hd, hk]))
    · intro e hk
      exact h6 d e (hck _ hk rfl _ (by unfold ckOf; rw [ho]; simp only [Option.bind_some, hd, hk]))
theorem op_known (hok : ∀ i, i < ops.size → OkAt P G N ops ks st fo i) {i : Nat} {o : Oper} (ho : ops[i]? = some o) :
    (∀ t, Operand.tmp t ∈ o.op.operands → G t = true ∨ ∃ j oj, j < i ∧ ops[j]? = some oj ∧ oj.dst = some t) ∧
    (∀ dj w, guardDst ops o = some (some (dj, w)) → (G dj = true ∨ ∃ j oj, j < i ∧ ops[j]? = some oj ∧ oj.dst = some dj) ∧ dj < N) ∧
    (∀ e, (ks[i]? = some (.rd e) ∨ ks[i]? = some (.as e)) → ∀ t, uses t e = true → usesT ops t o = true) ∧
    (∀ ia dv ty k y, ks[i]? = some (.hv ia dv ty k y) → hasEdge o ia = true ∧ dv < N ∧ isVa ks[ia]? = true ∧ ∃ oa, ops[ia]? = some oa ∧ oa.dst = some dv) ∧ (∀ d, o.dst = some d → d < N) ∧ (isVa ks[i]? = true → ∃ j, j < ops.size ∧ hvIa ks[j]? = some i) := by
  have hin : i < ops.size := (Array.getElem?_eq_some_iff.1 ho).1
  have h := (hok i hin).op
  unfold opOk at h
  rw [ho] at h
  cases hk : ks[i]? with
  | none => rw [hk] at h; cases h
  | some k =>
    rw [hk] at h
    simp only [Bool.and_eq_true] at h
    obtain ⟨⟨⟨⟨h1, h2⟩, h3⟩, h4⟩, h5⟩ := h
    have any_ex : ∀ t, ((List.range i).any fun j => match ops[j]? with | some o' => o'.dst == some t | none => false) = true → ∃ j oj, j < i ∧ ops[j]? = some oj ∧ oj.dst = some t := by
      intro t ht
      obtain ⟨j, hj, hd⟩ := List.any_eq_true.1 ht
      rw [List.mem_range] at hj
      split at hd
      · rename_i oj hoj; exact ⟨j, oj, hj, hoj, by simpa using hd⟩
      · cases hd
    refine ⟨fun t ht => ?_, fun dj w hg => ?_, fun e he t ht => ?_, fun ia dv ty k' y he => ?_, fun d hd => by rw [hd] at h1; simpa [dstOk] using h1, fun hv => ?_⟩
    · have := Array.all_eq_true_iff_forall_mem.1 h2 _ ht
      simp only [Bool.or_eq_true] at this
      exact this.imp id (any_ex t)
    · rw [hg] at h3
      simp only [Bool.and_eq_true, Bool.or_eq_true, decide_eq_true_eq] at h3
      exact ⟨h3.1.imp id (any_ex dj), h3.2⟩
    · rcases he with he | he <;> cases he <;> simp only [List.all_eq_true] at h4 <;> exact h4 t (exSlots_uses ht)
    · cases he
      simp only [Bool.and_eq_true, decide_eq_true_eq] at h5
      obtain ⟨⟨⟨h6, h7⟩, h8⟩, h9⟩ := h5
      refine ⟨h6, h7, h8, ?_⟩
      split at h9
      · rename_i oa hoa; exact ⟨oa, hoa, by simpa using h9⟩
      · cases h9
    · cases k <;> simp only [isVa, Bool.false_eq_true] at hv
      simp only at h5
      obtain ⟨j, hj, he⟩ := List.any_eq_true.1 h5
      exact ⟨j, List.mem_range.1 hj, by simpa using he⟩
section run
variable {F m0 : Mem} {w0 : World} {s : Nat} {δ : DEnv} {M : DMem} {ρ : Env} {m F' : Mem} {listed : Array Bool} {a : Act} {w : World}
open Classical in
noncomputable def mask (ops : Array Oper) (ks : List PK) (listed : Array Bool) (δ : DEnv) (ρ : Env) : DEnv := fun t => if Live ops ks listed t then δ t else .raw (ρ t)
theorem SI.invD (h : SI P ops ks st G N F m0 w0 s δ M ρ m F' listed a w) : InvD F' m0 (mask ops ks listed δ ρ) M ρ m :=
  ⟨fun t => by
    unfold mask
    split
    · exact h.env t (by assumption)
    · simp only [Rep], h.mem, h.fin, h.keep, h.own⟩
theorem SI.reads (hok : ∀ i, i < ops.size → OkAt P G N ops ks st fo i) (h : SI P ops ks st G N F m0 w0 s δ M ρ m F' listed a w) {i : Nat} {o : Oper} (ho : ops[i]? = some o) (hun : listed.getD i false = false)
    (hed : ∀ e ∈ o.after, Region.binds .any e = true → listed.getD e.on false = true) (hhv : hvIa ks[i]? = none) :
    (∀ t, usesT ops t o = true → Live ops ks listed t ∧ a.eval (.tmp t) = ρ t) ∧ ∀ x ∈ o.op.operands, a.eval x = ρ.of x ∧ δ.of x = (mask ops ks listed δ ρ).of x := by
  obtain ⟨hk1, hk2, _⟩ := op_known hok ho
  have hnv : ∀ t j dv ty k y, ks[i]? = some (.hv j dv ty k y) → t ≠ dv := fun t j dv ty k y hk => by rw [hk] at hhv; cases hhv
  have key : ∀ t, usesT ops t o = true → Live ops ks listed t ∧ a.eval (.tmp t) = ρ t := by
    intro t hu
    refine h.use hok ho hun hed hu (hnv t) ?_
    have hu' := hu
    unfold usesT at hu
    rw [Bool.or_eq_true] at hu
    rcases hu with hu | hu
    · rw [← Array.any_toList, List.any_eq_true] at hu
      obtain ⟨x, hx, hxt⟩ := hu
      have hx' : x = .tmp t := by cases x <;> simp_all
      subst hx'
      exact hk1 t (by simpa using hx)
    · split at hu
      · rename_i d w hg
        have : d = t := by simpa using hu
        subst this
        exact (hk2 d w hg).1
      · cases hu
  refine ⟨key, fun x hx => ?_⟩
  cases x with
  | tmp t =>
    obtain ⟨h1, h2⟩ := key t (uses_operand hx)
    refine ⟨h2, ?_⟩
    show δ t = mask ops ks listed δ ρ t
    unfold mask; rw [if_pos h1]
  | _ => exact ⟨rfl, rfl⟩
theorem SI.eff (hok : ∀ i, i < ops.size → OkAt P G N ops ks st fo i) (h : SI P ops ks st G N F m0 w0 s δ M ρ m F' listed a w) {i : Nat} {o : Oper} (ho : ops[i]? = some o) (hun : listed.getD i false = false)
    (hed : ∀ e ∈ o.after, Region.binds .any e = true → listed.getD e.on false = true) (hhv : hvIa ks[i]? = none) {e : Eff} (he : effOf P o = some e) {Post : DV → DMem → Prop} (hw : wpDE P mu o.dst e δ Post M)
    {next : Act → World → Prop} {Q : Exit → Act → World → Prop} (hn : ∀ v m' w' dv M', StepD F' m M v m' dv M' → Sat w0 w' m' → Post dv M' → next (a.put o.dst v) w') : o.wp P a w next Q := by
  obtain ⟨_, hop⟩ := h.reads hok ho hun hed hhv
  have h1 := wpDE_congr (fun x hx => (hop x (effOps_sub he x hx)).2) hw
  have h2 := wpDE_ok mu o.dst h.invD e _ h1
  have h3 := effOf_sound he h2
  have h4 := h3 w0 w a h.sat fun x hx => (hop x hx).1
  have h5 := Oper.wp_mono2 (Q := Q) (fun a' w' ⟨v, m', he, hs, dv, M', hst, hp⟩ => by
    subst he
    exact hn v m' w' dv M' hst hs hp) h4
  exact h5
theorem SI.expr (hsp : True) (hok : ∀ i, i < ops.size → OkAt P G N ops ks st fo i) (h : SI P ops ks st G N F m0 w0 s δ M ρ m F' listed a w) {i : Nat} {o : Oper} (ho : ops[i]? = some o) (hun : listed.getD i false = false)
    (hed : ∀ e ∈ o.after, Region.binds .any e = true → listed.getD e.on false = true) (hhv : hvIa ks[i]? = none) {gd : Option (Nat × Bool)} {e : Ex} (hg : guardDst ops o = some gd) (hl : low P ro (opd []) o.op = some e)
    (hk : ks[i]? = some (.rd (wrapG [] gd e)) ∨ ks[i]? = some (.as (wrapG [] gd e))) {dv : DV} (hev : evD P M δ (wrapG [] gd e) = some dv)
    {K' : Act → World → Prop} {Q : Exit → Act → World → Prop} (hn : ∀ v w', Rep m dv v → Sat w0 w' m → K' (a.put o.dst v) w') : wpOp P ops Q i K' a w := by
  obtain ⟨hus, hop⟩ := h.reads hok ho hun hed hhv
  obtain ⟨_, hk2, hk3, _⟩ := op_known hok ho
  have h1 : evD P M (mask ops ks listed δ ρ) (wrapG [] gd e) = some dv := by
    rw [← hev]
    refine evD_congr fun t ht => ?_
    unfold mask; rw [if_pos (hus t (hk3 _ hk t ht)).1]
  have hI : Inh m := ⟨w0, w, h.sat⟩
  obtain ⟨v, h2, h3⟩ := evD_ok hI h.invD.mem h.invD.env _ _ h1
  have H : ∀ x ∈ o.op.operands, ∀ u, ev (spRO P) m ρ (opd [] x) = some u → a.eval x = u := by
    intro x hx u hu
    rw [(hop x hx).1]
    cases x with
    | tmp t => show ρ t = u; simpa [opd, ev] using hu
    | const v => cases hu; rfl
    | global g => cases hu; rfl
    | func f => cases hu; rfl
  unfold wpOp
  rw [ho]
  simp only
  have hgw := guardDst_wanted hg a
  cases gd with
  | none =>
    rw [if_pos (hgw.1 rfl)]
    exact .inl (low_wp (spRO_sound P) hl h2 H h.sat fun w' hs' => hn v w' h3 hs')
  | some q =>
    obtain ⟨dj, wt⟩ := q
    have hdj := (hk2 dj wt hg).2
    have hcv := (hus dj (uses_guard hg)).2
    simp only [wrapG] at h2
    rw [Ex.mkGrd_ev] at h2
    simp only [ev, opd, List.lookup_nil, Option.getD_none, Option.bind_some] at h2
    rw [← hcv] at h2
    cases hbv : a.eval (.tmp dj) with
    | bool b =>
      rw [hbv] at h2
      simp only [grdK] at h2
      have hwt := hgw.2 dj wt b rfl (by rw [h.size]; exact hdj) hbv
      by_cases hb : b = wt
      · rw [if_pos hb] at h2
        rw [if_pos (by rw [hwt]; simp [hb])]
        exact .inl (low_wp (spRO_sound P) hl h2 H h.sat fun w' hs' => hn v w' h3 hs')
      · rw [if_neg hb] at h2
        cases h2
        rw [if_neg (by rw [hwt]; simp [hb])]
        exact hn undef w h3 h.sat
    | _ =>
      rw [hbv] at h2
      simp only [grdK] at h2
      cases h2
      rw [if_neg (by rw [guardDst_off (by first | exact hg | (rw [← hg]; exact hg) | (rw [hg] at *; assumption)) a (by rw [hbv]; intro b hh; cases hh)]; simp)]
      exact hn undef w h3 h.sat
end run
theorem kindOf_inv {i : Nat} {o : Oper} {k : PK} (ho : ops[i]? = some o) (h : kindOf P ro mu ops i = some k) :
    (∃ gd e, guardDst ops o = some gd ∧ low P ro (opd []) o.op = some e ∧ (∃ d, o.dst = some d) ∧ (k = .rd (wrapG [] gd e) ∨ k = .as (wrapG [] gd e))) ∨
    (∃ dj wt e, guardDst ops o = some (some (dj, wt)) ∧ k = .hg dj wt e ∧ effOf P o = some e) ∨
    (guardDst ops o = some none ∧ k = .ho (Oper.bare o)) ∨
    (guardDst ops o = some none ∧ ((∃ e, k = .hd e ∧ effOf P o = some e) ∨ (∃ e d, k = .fr e ∧ effOf P o = some e ∧ o.dst = some d ∧ mu d = false) ∨
      (∃ ty d inf z, k = .va ty z ∧ o.op = .alloc ty ∧ o.dst = some d ∧ P.info? ty = some inf ∧ inf.zero = some z ∧ z.cells.size = inf.size ∧ ty < mapLim) ∨
      (∃ ty dv y ia inf, k = .hv ia dv ty inf.size y ∧ o.op = .store ty (.tmp dv) y ∧ o.dst = none ∧ P.info? ty = some inf ∧ allocOf ops dv ty = some ia))) := by
  unfold kindOf at h
  rw [ho] at h
  simp only [Option.bind_some, Option.bind_eq_some_iff] at h
  obtain ⟨gd, hg, h⟩ := h
  cases hl : low P ro (opd []) o.op with
  | some e =>
    rw [hl] at h
    simp only [Option.bind_eq_some_iff, Option.some.injEq] at h
    obtain ⟨d, hd, h⟩ := h
    refine .inl ⟨gd, e, hg, rfl, ⟨d, hd⟩, ?_⟩
    split at h
    · exact .inr h.symm
    · exact .inl h.symm
  | none =>
    rw [hl] at h
    simp only at h
    split at h
    · rename_i dj wt
      simp only [Option.map_eq_some_iff] at h
      obtain ⟨e, he, rfl⟩ := h
      exact .inr (.inl ⟨dj, wt, e, hg, rfl, he⟩)
    · by_cases hmu : k = .ho (Oper.bare o)
      · exact .inr (.inr (.inl ⟨hg, hmu⟩))
      refine .inr (.inr (.inr ⟨hg, ?_⟩))
      split at h
      · rename_i ty d hop hd
        split at h
        · simp only [Option.bind_eq_some_iff] at h
          obtain ⟨inf, hi, z, hz, h⟩ := h
          split at h
          · rename_i hs; cases h; exact .inr (.inr (.inl ⟨ty, d, inf, z, rfl, hop, hd, hi, hz, hs.1, hs.2⟩))
          · cases h
        · simp only [Option.map_eq_some_iff] at h; obtain ⟨e, he, rfl⟩ := h; exact .inl ⟨e, rfl, he⟩
      · rename_i ty dv y hop hd
        split at h
        · rename_i ia hia
          simp only [Option.map_eq_some_iff] at h
          obtain ⟨inf, hi, rfl⟩ := h
          exact .inr (.inr (.inr ⟨ty, dv, y, ia, inf, rfl, hop, hd, hi, hia⟩))
        · simp only [Option.map_eq_some_iff] at h; obtain ⟨e, he, rfl⟩ := h; exact .inl ⟨e, rfl, he⟩
      · rename_i ty x d hop hd
        split at h
        · simp only [Option.map_eq_some_iff] at h; obtain ⟨e, he, rfl⟩ := h; exact .inl ⟨e, rfl, he⟩
        · rename_i hm; simp only [Option.map_eq_some_iff] at h; obtain ⟨e, he, rfl⟩ := h; exact .inr (.inl ⟨e, d, rfl, he, hd, by simpa using hm⟩)
      · rename_i ty len parts d hop hd
        split at h
        · simp only [Option.map_eq_some_iff] at h; obtain ⟨e, he, rfl⟩ := h; exact .inl ⟨e, rfl, he⟩
        · rename_i hm; simp only [Option.map_eq_some_iff] at h; obtain ⟨e, he, rfl⟩ := h; exact .inr (.inl ⟨e, d, rfl, he, hd, by simpa using hm⟩)
      · cases h; exact absurd rfl hmu
      · simp only [Option.map_eq_some_iff] at h; obtain ⟨e, he, rfl⟩ := h; exact .inl ⟨e, rfl, he⟩
theorem allocOf_inv {dv : Nat} {ty : TypeId} {ia : Nat} (h : allocOf ops dv ty = some ia) : ∃ o, ops[ia]? = some o ∧ o.dst = some dv ∧ o.op = .alloc ty := by
  have := List.find?_some h
  split at this
  · rename_i o ho
    simp only [Bool.and_eq_true, beq_iff_eq] at this
    refine ⟨o, ho, this.1.1, ?_⟩
    have h2 := this.1.2
    split at h2
    · rename_i hop; rw [hop]; simpa using h2
    · cases h2
  · cases this
section run2
variable {F m0 : Mem} {w0 : World} {s : Nat} {δ : DEnv} {M : DMem} {ρ : Env} {m F' : Mem} {listed : Array Bool} {a : Act} {w : World}
theorem SI.va (hok : ∀ i, i < ops.size → OkAt P G N ops ks st fo i) (h : SI P ops ks st G N F m0 w0 s δ M ρ m F' listed a w) {i : Nat} {o : Oper} (ho : ops[i]? = some o) (hun : listed.getD i false = false)
    (hed : ∀ e ∈ o.after, Region.binds .any e = true → listed.getD e.on false = true) {ty : TypeId} {z : Value} {d : Nat} (hk : ks[i]? = some (.va ty z)) (hd : o.dst = some d) (hty : ty < mapLim) :
    SI P ops ks st G N F m0 w0 s δ M ρ (m.ins w.heap.size (.cells ty z.cells.size false z.cells.toList)) (F'.ins w.heap.size (.cells ty z.cells.size false z.cells.toList)) (listed.setIfInBounds i true) (a.put o.dst (ptrV w.heap.size)) (w.alloc (.cells z.cells ty)) := by
  have hin : i < ops.size := (Array.getElem?_eq_some_iff.1 ho).1
  have hil : i < listed.size := by rw [h.lsize]; exact hin
  have hiff := fun j => getD_set_iff (listed := listed) (i := i) (j := j) hil
  have hhv : hvIa ks[i]? = none := by rw [hk]; rfl
  have hnh : hardI ks i = false := by simp [hardI, hk, PK.hard]
  have hb : m w.heap.size = none := h.sat.fresh
  have hFb : F' w.heap.size = none := by
    cases hF : F' w.heap.size with
    | none => rfl
    | some B => have := h.keep _ _ hF; rw [hb] at this; cases this
  have hFFb : F w.heap.size = none := by
    cases hF : F w.heap.size with
    | none => rfl
    | some B => have := h.FF _ _ hF; rw [hFb] at this; cases this
  have hdN : d < N := (op_known hok ho).2.2.2.2.1 d hd
  have hnf : ¬ Filled ks listed i := by
    rintro ⟨j, hj, hlj⟩
    have hjn : j < ops.size := by rw [← h.lsize]; exact getD_lt hlj
    cases hkj : ks[j]? with
    | none => rw [hkj] at hj; cases hj
    | some k =>
      rw [hkj] at hj
      cases k <;> simp only [hvIa, reduceCtorEq, Option.some.injEq] at hj
      rename_i ia dv ty' k' y
      subst hj
      have := (op_known hok (Array.getElem?_eq_getElem hjn)).2.2.2.1 _ _ _ _ _ hkj
      have := hasEdge_listed h.closed (Array.getElem?_eq_getElem hjn) hlj this.1
      rw [hun] at this; cases this
  have hnf' : ¬ Filled ks (listed.setIfInBounds i true) i := fun hf => hnf (hf.of_set hil hhv)
  have nlive : ¬ Live ops ks (listed.setIfInBounds i true) d := fun hl => hnf' ((hl i o ho hd hnh).2 (by rw [hk]; rfl))
  have live : ∀ t, Live ops ks (listed.setIfInBounds i true) t → t ≠ d ∧ Live ops ks listed t := by
    intro t hl
    have hne : t ≠ d := by rintro rfl; exact nlive hl
    refine ⟨hne, fun j oj hj hdj hh => ?_⟩
    obtain ⟨h1, h2⟩ := hl j oj hj hdj hh
    rw [hiff] at h1
    rcases h1 with rfl | h1
    · rw [ho] at hj; cases hj; rw [hd] at hdj; cases hdj; exact absurd rfl hne
    · exact ⟨h1, fun hv => (h2 hv).of_set hil hhv⟩
  have hg : Grows m (m.ins w.heap.size (.cells ty z.cells.size false z.cells.toList)) := Grows.ins m _ hb
  rw [hd]
  refine ⟨h.sat.new ty hty z.cells false, by simp [h.lsize], by rw [size_put]; exact h.size, by rw [defers_put]; exact h.defers, ?_, ?_, ?_, h.fin.trans hg.toFin, ?_, ?_, ?_, ?_, ?_, ?_, ?_⟩
  · intro j oj e hj hoj he hbd
    rw [hiff] at hj ⊢
    rcases hj with rfl | hj
    · rw [ho] at hoj; cases hoj; exact .inr (hed e he hbd)
    · exact .inr (h.closed j oj e hj hoj he hbd)
  · intro t hl; exact (h.env t (live t hl).2).mono hg.toFin
  · refine ⟨h.mem.glob.mono hg.toFin, fun b B hB => ?_⟩
    obtain ⟨vs, h1, h2⟩ := h.mem b B hB
    exact ⟨vs, hg _ _ h1, h2.mono hg.toFin⟩
  · intro b B hB
    by_cases e : b = w.heap.size
    · subst e; rw [Mem.ins_same] at hB ⊢; exact hB
    · rw [Mem.ins_ne _ _ e] at hB ⊢; exact h.keep b B hB
  · intro b hB
    by_cases e : b = w.heap.size
    · subst e; exact h.mem.none hb
    · rw [Mem.ins_ne _ _ e] at hB; exact h.own b hB
  · intro b B hB
    have e : b ≠ w.heap.size := by rintro rfl; rw [hFFb] at hB; cases hB
    rw [Mem.ins_ne _ _ e]; exact h.FF b B hB
  · intro j hj hhj
    have hne : j ≠ i := by rintro rfl; rw [hnh] at hhj; cases hhj
    rw [hiff]; simp only [hne, false_or]; exact h.hard j hj hhj
  · intro t hl hgt
    obtain ⟨hne, hl'⟩ := live t hl
    rw [eval_put_ne hne]
    refine h.val t hl' ?_
    rcases hgt with hgt | ⟨j, oj, hj, hdj, hlj⟩
    · exact .inl hgt
    · rw [hiff] at hlj
      rcases hlj with rfl | hlj
      · rw [ho] at hj; cases hj; rw [hd] at hdj; cases hdj; exact absurd rfl hne
      · exact .inr ⟨j, oj, hj, hdj, hlj⟩
  · intro j oj ty' z' d' hj hkj hdj hlj hnfj
    rw [hiff] at hlj
    rcases hlj with rfl | hlj
    · rw [ho] at hj; cases hj
      rw [hk] at hkj; cases hkj
      rw [hd] at hdj; cases hdj
      exact ⟨w.heap.size, eval_put_same (by rw [h.size]; exact hdN), Mem.ins_same _ _ _, hFFb⟩
    · obtain ⟨b, h1, h2, h3⟩ := h.vpend j oj ty' z' d' hj hkj hdj hlj (fun hf => hnfj hf.set)
      have hne : d' ≠ d := by
        rintro rfl
        have := pair_dst hok ho hj hd hdj
        subst this
        rw [hun] at hlj; cases hlj
      refine ⟨b, by rw [eval_put_ne hne]; exact h1, ?_, h3⟩
      rw [Mem.ins_ne]; · exact h2
      rintro rfl; rw [hFb] at h2; cases h2
  · intro j j' oj oj' d1 d2 ty1 z1 ty2 z2 b hne hj hj' hkj hkj' hdj hdj' hlj hlj' hnfj hnfj' hbj hbj'
    rw [hiff] at hlj hlj'
    have fresh : ∀ (j : Nat) (oj : Oper) d1 ty1 z1 b, ops[j]? = some oj → ks[j]? = some (.va ty1 z1) → oj.dst = some d1 → listed.getD j false = true → ¬ Filled ks (listed.setIfInBounds i true) j → a.eval (.tmp d1) = ptrV b → b ≠ w.heap.size := by
      intro j oj d1 ty1 z1 b hj hkj hdj hlj hnfj hbj
      obtain ⟨b', h1, h2, _⟩ := h.vpend j oj ty1 z1 d1 hj hkj hdj hlj (fun hf => hnfj hf.set)
      rw [hbj] at h1
      simp only [ptrV, Value.pointer.injEq, Option.some.injEq, Addr.mk.injEq, and_true] at h1
      subst h1
      rintro rfl; rw [hFb] at h2; cases h2
    have ne_d : ∀ (j : Nat) (oj : Oper) d1, ops[j]? = some oj → oj.dst = some d1 → listed.getD j false = true → d1 ≠ d := by
      rintro j oj d1 hj hdj hlj rfl
      have := pair_dst hok ho hj hd hdj
      subst this
      rw [hun] at hlj; cases hlj
    have same : (a.put (some d) (ptrV w.heap.size)).eval (.tmp d) = ptrV w.heap.size := eval_put_same (by rw [h.size]; exact hdN)
    rcases hlj with rfl | hlj <;> rcases hlj' with rfl | hlj'
    · exact hne rfl
    · rw [ho] at hj; cases hj; rw [hd] at hdj; cases hdj
      rw [same] at hbj
      rw [eval_put_ne (ne_d j' oj' d2 hj' hdj' hlj')] at hbj'
      have := fresh j' oj' d2 ty2 z2 b hj' hkj' hdj' hlj' hnfj' hbj'
      simp only [ptrV, Value.pointer.injEq, Option.some.injEq, Addr.mk.injEq, and_true] at hbj
      exact this hbj.symm
    · rw [ho] at hj'; cases hj'; rw [hd] at hdj'; cases hdj'
      rw [same] at hbj'
      rw [eval_put_ne (ne_d j oj d1 hj hdj hlj)] at hbj
      have := fresh j oj d1 ty1 z1 b hj hkj hdj hlj hnfj hbj
      simp only [ptrV, Value.pointer.injEq, Option.some.injEq, Addr.mk.injEq, and_true] at hbj'
      exact this hbj'.symm
    · rw [eval_put_ne (ne_d j oj d1 hj hdj hlj)] at hbj
      rw [eval_put_ne (ne_d j' oj' d2 hj' hdj' hlj')] at hbj'
      exact h.vdist j j' oj oj' d1 d2 ty1 z1 ty2 z2 b hne hj hj' hkj hkj' hdj hdj' hlj hlj' (fun hf => hnfj hf.set) (fun hf => hnfj' hf.set) hbj hbj'
end run2
section run3
variable {F m0 : Mem} {w0 : World} {s : Nat} {δ : DEnv} {M : DMem} {ρ : Env} {m F' : Mem} {listed : Array Bool} {a : Act} {w : World}
theorem SI.hv (hks : kinds P ro mu ops = some ks) (hok : ∀ i, i < ops.size → OkAt P G N ops ks st fo i) (h : SI P ops ks st G N F m0 w0 s δ M ρ m F' listed a w) {i : Nat} {o : Oper} (ho : ops[i]? = some o) (hun : listed.getD i false = false)
    (hed : ∀ e ∈ o.after, Region.binds .any e = true → listed.getD e.on false = true) {ty : TypeId} {dv ia : Nat} {y : Operand} {inf : TypeInfo} (hk : ks[i]? = some (.hv ia dv ty inf.size y)) (hop : o.op = .store ty (.tmp dv) y) (hd : o.dst = none)
    (hi : P.info? ty = some inf) (hia : allocOf ops dv ty = some ia) (hord : ordOf ks i = s) {Post : DV → DMem → Prop} (hw : wpDE P mu (some dv) (.var ty inf.size y) δ Post M)
    {next : Act → World → Prop} {Q : Exit → Act → World → Prop} (hn : ∀ δ' M' ρ' m' F'' w', SI P ops ks st G N F m0 w0 (s + 1) δ' M' ρ' m' F'' (listed.setIfInBounds i true) (a.put o.dst undef) w' → (∃ v, δ' = δ.upd dv v ∧ Post v M') → next (a.put o.dst undef) w') : o.wp P a w next Q := by
  have hin : i < ops.size := (Array.getElem?_eq_some_iff.1 ho).1
  have hil : i < listed.size := by rw [h.lsize]; exact hin
  have hiff := fun j => getD_set_iff (listed := listed) (i := i) (j := j) hil
  have hhard : hardI ks i = true := by simp [hardI, hk, PK.hard]
  obtain ⟨hk1, _, _, hk4, _⟩ := op_known hok ho
  obtain ⟨heia, hdvN, hva, _⟩ := hk4 _ _ _ _ _ hk
  obtain ⟨oa, hoa, hda, hopa⟩ := allocOf_inv hia
  have hian : ia < ops.size := (Array.getElem?_eq_some_iff.1 hoa).1
  obtain ⟨ka, hka, hkind⟩ := kinds_spec hks hian
  have hzz : ∃ z, ks[ia]? = some (.va ty z) ∧ z.cells.size = inf.size := by
    rw [hka] at hva
    rcases kindOf_inv hoa hkind with ⟨gd, e, _, _, _, rfl | rfl⟩ | ⟨_, _, e, _, rfl, _⟩ | ⟨_, rfl⟩ | ⟨_, ⟨e, rfl, _⟩ | ⟨e, d, rfl, _⟩ | ⟨ty', d, inf', z, rfl, hop', _, hi', _, hz, _⟩ | ⟨ty', dv', y', ia', inf', rfl, _⟩⟩
    · cases hva
    · cases hva
    · cases hva
    · cases hva
    · cases hva
    · cases hva
    · rw [hopa] at hop'; cases hop'
      rw [hi] at hi'; cases hi'
      exact ⟨z, hka, hz⟩
    · cases hva
  obtain ⟨z, hkz, hzs⟩ := hzz
  have hlia : listed.getD ia false = true := by
    obtain ⟨e, he, hon, hb⟩ := hasEdge_spec heia
    have := hed e he hb
    rwa [hon] at this
  have hnfia : ¬ Filled ks listed ia := by
    rintro ⟨j, hj, hlj⟩
    have := hv_one hok (by rw [← h.lsize]; exact getD_lt hlj) hin hj (by rw [hk]; rfl)
    subst this
    rw [hun] at hlj; cases hlj
  obtain ⟨b, hab, hFb', hFb⟩ := h.vpend ia oa ty z dv hoa hkz hda hlia hnfia
  have hmb := h.keep _ _ hFb'
  have hMb : M b = none := h.own b (by rw [hFb']; simp)
  -- what is put in
  have hdvu : usesT ops dv o = true := uses_operand (by rw [hop]; simp [Op.operands])
  have hynt : notTmp dv y = true := by
    obtain ⟨_, _, h3⟩ := pair_use hok ho hoa hda hdvu
    obtain ⟨dv', ty', k', y', hk', _, hy⟩ := h3 hva
    rw [hk] at hk'; cases hk'; exact hy
  have hy : a.eval y = ρ.of y ∧ Rep m (δ.of y) (ρ.of y) := by
    cases y with
    | tmp t =>
      have hne : t ≠ dv := by simpa [notTmp] using hynt
      obtain ⟨h1, h2⟩ := h.use hok ho hun hed (uses_operand (by rw [hop]; simp [Op.operands])) (fun j dv' ty' k' y' hk' => by rw [hk] at hk'; cases hk'; exact hne) (hk1 t (by rw [hop]; simp [Op.operands]))
      exact ⟨h2, h.env t h1⟩
    | const v => exact ⟨rfl, ofV_rep m v⟩
    | global g => exact ⟨rfl, by simp only [DEnv.of, Env.of, Rep]⟩
    | func f => exact ⟨rfl, by simp only [DEnv.of, Env.of, Rep]; exact ⟨[], [], rfl, by simp only [RepP], rfl, by simp only [RepP], rfl⟩⟩
  obtain ⟨hya, hyr⟩ := hy
  obtain ⟨cs, hc, hkk, hp, hw⟩ := hw
  have rc := cellsD_ok hc hyr
  have hpl := plainD_all hp rc
  have hylen : (ρ.of y).cells.size = inf.size := by rw [← hkk, rc.2]; simp
  obtain ⟨w2, hr, hs2⟩ := run_storeM (P := P) h.sat hmb (Nat.zero_le _) (vs := (ρ.of y).cells.toList) (by simp; omega) hpl
  have hrun : (execOp a.eval o).run P w = .ok .skip w2 := by
    obtain ⟨d0, op0, t0, p0, f0, g0⟩ := o
    simp only at hop hd
    subst hop
    have hz2 : (Go.sizeOf ty).run P w = .ok inf.size w := by simp [Go.sizeOf, typeInfo, hi]
    simp only [execOp, hab, ptrV, hya, Instr.storeAt, Instr.sureAddr, storeVar, Sem.run_bind, Sem.run_pure, Result.andThen_ok, hz2, hylen]
    simp only [ne_eq, not_true_eq_false, if_false, hr, Result.andThen_ok]
  have hsp : spl z.cells.toList 0 (ρ.of y).cells.toList = (ρ.of y).cells.toList := by
    simp only [spl, List.take_zero, List.nil_append, Nat.zero_add]
    rw [List.drop_eq_nil_of_le (by simp; omega), List.append_nil]
  rw [hsp, hzs] at hs2
  -- the state behind it
  have build : ∀ (fin : Bool) (dv' : DV) (M' : DMem), (∀ x B, M' x = some B → (x = b ∧ fin = false ∧ B = ⟨ty, inf.size, cs⟩) ∨ (x ≠ b ∧ M x = some B)) → Rep (m.ins b (.cells ty inf.size fin (ρ.of y).cells.toList)) dv' (ptrV b) →
      SI P ops ks st G N F m0 w0 (s + 1) (δ.upd dv dv') M' (ρ.upd dv (ptrV b)) (m.ins b (.cells ty inf.size fin (ρ.of y).cells.toList)) (fun x => if x = b then none else F' x) (listed.setIfInBounds i true) (a.put o.dst undef) w2 := by
    intro fin dv' M' hM' hrep
    have hput : a.put o.dst undef = a := by rw [hd]; rfl
    have hf : Fin m (m.ins b (.cells ty inf.size fin (ρ.of y).cells.toList)) := fun x B hx hfx => by
      by_cases e : x = b
      · subst e; rw [hmb] at hx; cases hx; cases hfx
      · rw [Mem.ins_ne _ _ e]; exact hx
    have hvi : hvIa ks[i]? = some ia := by rw [hk]; rfl
    have filled : Filled ks (listed.setIfInBounds i true) ia := ⟨i, hvi, (hiff i).2 (.inl rfl)⟩
    have live : ∀ t, t ≠ dv → Live ops ks (listed.setIfInBounds i true) t → Live ops ks listed t := by
      intro t hne hl j oj hj hdj hnh
      obtain ⟨h1, h2⟩ := hl j oj hj hdj hnh
      rw [hiff] at h1
      rcases h1 with rfl | h1
      · rw [ho] at hj; cases hj; rw [hd] at hdj; cases hdj
      · refine ⟨h1, fun hv => ?_⟩
        obtain ⟨j', h3, h4⟩ := h2 hv
        rw [hiff] at h4
        rcases h4 with rfl | h4
        · rw [hvi] at h3; cases h3
          rw [hoa] at hj; cases hj; rw [hda] at hdj; cases hdj; exact absurd rfl hne
        · exact ⟨j', h3, h4⟩
    have hs3 : Sat w0 w2 (m.ins b (.cells ty inf.size fin (ρ.of y).cells.toList)) := by
      cases fin with
      | false => exact hs2
      | true =>
        have := hs2.seal (Mem.ins_same _ _ _)
        have hii : (m.ins b (.cells ty inf.size false (ρ.of y).cells.toList)).ins b (.cells ty inf.size true (ρ.of y).cells.toList) = m.ins b (.cells ty inf.size true (ρ.of y).cells.toList) := by
          funext x; unfold Mem.ins; split <;> rfl
        rw [hii] at this; exact this
    rw [hput]
    refine ⟨hs3, by simp [h.lsize], h.size, h.defers, ?_, ?_, ?_, h.fin.trans hf, ?_, ?_, ?_, ?_, ?_, ?_, ?_⟩
    · intro j oj e hj hoj he hbd
      rw [hiff] at hj ⊢
      rcases hj with rfl | hj
      · rw [ho] at hoj; cases hoj; exact .inr (hed e he hbd)
      · exact .inr (h.closed j oj e hj hoj he hbd)
    · intro t hl
      simp only [DEnv.upd, Env.upd]
      by_cases e : t = dv
      · rw [if_pos e, if_pos e]; exact hrep
      · rw [if_neg e, if_neg e]; exact (h.env t (live t e hl)).mono hf
    · refine ⟨h.mem.glob.mono hf, fun x B hB => ?_⟩
      rcases hM' x B hB with ⟨rfl, rfl, rfl⟩ | ⟨e, hB'⟩
      · exact ⟨_, Mem.ins_same _ _ _, rc.mono hf⟩
      · obtain ⟨vs, h1, h2⟩ := h.mem x B hB'
        exact ⟨vs, by rw [Mem.ins_ne _ _ e]; exact h1, h2.mono hf⟩
    · intro x B hx
      change (if x = b then none else F' x) = some B at hx
      split at hx
      · cases hx
      · rename_i e; rw [Mem.ins_ne _ _ e]; exact h.keep x B hx
    · intro x hx
      change (if x = b then none else F' x) ≠ none at hx
      split at hx
      · exact absurd rfl hx
      · rename_i e
        cases hMx : M' x with
        | none => rfl
        | some B =>
          rcases hM' x B hMx with ⟨e', _⟩ | ⟨_, h1⟩
          · exact absurd e' e
          · rw [h.own x hx] at h1; cases h1
    · intro x B hx
      have e : x ≠ b := by rintro rfl; rw [hFb] at hx; cases hx
      simp only [if_neg e]; exact h.FF x B hx
    · intro j hj hhj
      rw [hiff]
      have := h.hard j hj hhj
      by_cases hji : j = i
      · subst hji; simp only [true_or, true_iff]; omega
      · simp only [hji, false_or]
        rw [this]
        constructor
        · intro h; omega
        · intro h3
          rcases Nat.lt_trichotomy i j with hl | hl | hl
          · have := ordOf_lt hl hhard; omega
          · exact absurd hl.symm hji
          · have := ordOf_lt hl hhj; omega
    · intro t hl hg
      simp only [Env.upd]
      by_cases e : t = dv
      · rw [if_pos e, e]; exact hab
      · rw [if_neg e]
        refine h.val t (live t e hl) ?_
        rcases hg with hg | ⟨j, oj, hj, hdj, hlj⟩
        · exact .inl hg
        · rw [hiff] at hlj
          rcases hlj with rfl | hlj
          · rw [ho] at hj; cases hj; rw [hd] at hdj; cases hdj
          · exact .inr ⟨j, oj, hj, hdj, hlj⟩
    · intro j oj ty' z' d' hj hkj hdj hlj hnf
      rw [hiff] at hlj
      rcases hlj with rfl | hlj
      · rw [hk] at hkj; cases hkj
      · obtain ⟨b', h1, h2, h3⟩ := h.vpend j oj ty' z' d' hj hkj hdj hlj (fun hf => hnf hf.set)
        refine ⟨b', h1, ?_, h3⟩
        have hne : ia ≠ j := by rintro rfl; exact hnf filled
        have : b' ≠ b := by
          rintro rfl
          exact h.vdist ia j oa oj dv d' ty z ty' z' b' hne hoa hj hkz hkj hda hdj hlia hlj hnfia (fun hf => hnf hf.set) hab h1
        simp only [if_neg this]; exact h2
    · intro j j' oj oj' d1 d2 ty1 z1 ty2 z2 b' hne hj hj' hkj hkj' hdj hdj' hlj hlj' hnfj hnfj' hbj
      have nl : ∀ (j : Nat) ty z, ks[j]? = some (.va ty z) → (listed.setIfInBounds i true).getD j false = true → listed.getD j false = true := by
        intro j ty z hkj hlj
        rw [hiff] at hlj
        rcases hlj with rfl | hlj
        · rw [hk] at hkj; cases hkj
        · exact hlj
      exact h.vdist j j' oj oj' d1 d2 ty1 z1 ty2 z2 b' hne hj hj' hkj hkj' hdj hdj' (nl j ty1 z1 hkj hlj) (nl j' ty2 z2 hkj' hlj') (fun hf => hnfj hf.set) (fun hf => hnfj' hf.set) hbj
  unfold Go.Oper.wp
  rw [hrun]
  show next (a.put o.dst undef) w2
  have rcm : ∀ fin, RepL (m.ins b (.cells ty inf.size fin (ρ.of y).cells.toList)) cs (ρ.of y).cells.toList := fun fin => rc.mono fun x B hx hfx => by
    by_cases e : x = b
    · subst e; rw [hmb] at hx; cases hx; cases hfx
    · rw [Mem.ins_ne _ _ e]; exact hx
  split at hw
  · refine hn _ _ _ _ _ _ (build false (.mp b 0) (M.ins b ⟨ty, inf.size, cs⟩) (fun x B hB => ?_) (by simp only [Rep, ptrV])) ⟨_, rfl, hw b _ hMb rfl⟩
    by_cases e : x = b
    · subst e; rw [DMem.ins_same] at hB; cases hB; exact .inl ⟨rfl, rfl, rfl⟩
    · rw [DMem.ins_ne _ _ e] at hB; exact .inr ⟨e, hB⟩
  · refine hn _ _ _ _ _ _ (build true (.ip cs) M (fun x B hB => .inr ⟨?_, hB⟩) ?_) ⟨_, rfl, hw⟩
    · rintro rfl; rw [hMb] at hB; cases hB
    · simp only [Rep, ptrV]; exact ⟨b, 0, ty, _, _, rfl, Mem.ins_same _ _ _, by simpa using (rcm true).1⟩
end run3
theorem draw_main (hks : kinds P ro mu ops = some ks) (hok : ∀ i, i < ops.size → OkAt P G N ops ks st fo i) (hlen : ks.length = ops.size) {K : DEnv → DMem → Prop} {F m0 : Mem} {w0 : World} {Q : Exit → Act → World → Prop}
    (hQ : ∀ a w m ρ δ M, Sat w0 w m → Agree G N a ρ → InvD F m0 δ M ρ m → K δ M → Q .normal a w) :
    ∀ (fuel s : Nat) (δ : DEnv) (M : DMem) (ρ : Env) (m F' : Mem) (listed : Array Bool) (a : Act) (w : World), SI P ops ks st G N F m0 w0 s δ M ρ m F' listed a w → Told P ops ks st s δ M listed → s ≤ ordOf ks ks.length →
      wpSp P mu K (restAt ops ks st fo (ordOf ks ks.length) s) δ M → cnt (fun i => !listed.getD i true) ops.size ≤ fuel → wpAny P .any ops Q fuel listed a w := by
  have hend : ∀ (s : Nat) (δ : DEnv) (M : DMem) (ρ : Env) (m F' : Mem) (listed : Array Bool) (a : Act) (w : World), SI P ops ks st G N F m0 w0 s δ M ρ m F' listed a w → s ≤ ordOf ks ks.length →
      wpSp P mu K (restAt ops ks st fo (ordOf ks ks.length) s) δ M → (∀ i, i < ops.size → listed.getD i true = true) → Q .normal a w := by
    intro s δ M ρ m F' listed a w h hs hw hall
    have hall' : ∀ i, i < ops.size → listed.getD i false = true := fun i hi => by
      have := hall i hi
      have hil : i < listed.size := by rw [h.lsize]; exact hi
      simp only [Array.getD_eq_getD_getElem?, Array.getElem?_eq_getElem hil, Option.getD_some] at this ⊢
      exact this
    have hsT : s = ordOf ks ks.length := by
      rcases Nat.lt_or_ge s (ordOf ks ks.length) with hlt | hge
      · exfalso
        obtain ⟨i, hi, ho⟩ := hard_ex hlt
        have hin : i < ops.size := by
          unfold hardI at hi
          split at hi
          · rename_i k hk; rw [← hlen]; exact (List.getElem?_eq_some_iff.1 hk).1
          · cases hi
        have := (h.hard i hin hi).1 (hall' i hin)
        omega
      · omega
    unfold restAt at hw
    rw [if_neg (by omega)] at hw
    have hlive : ∀ t, Live ops ks listed t := by
      intro t j oj hj hdj hnh
      have hjn : j < ops.size := (Array.getElem?_eq_some_iff.1 hj).1
      refine ⟨hall' j hjn, fun hv => ?_⟩
      obtain ⟨j', hj', h1⟩ := (op_known hok hj).2.2.2.2.2 hv
      exact ⟨j', h1, hall' j' hj'⟩
    refine hQ a w m ρ δ M h.sat ⟨h.size, h.defers, fun t ht => h.val t (hlive t) (.inl ht)⟩ ⟨fun t => h.env t (hlive t), h.mem, h.fin, fun b B hb => h.keep b B (h.FF b B hb), fun b hb => h.own b fun hF => ?_⟩ hw
    cases hFb : F b with
    | none => exact hb hFb
    | some B => rw [h.FF b B hFb] at hF; cases hF
  intro fuel
  induction fuel with
  | zero =>
    intro s δ M ρ m F' listed a w h ht hs hw hc
    have hfull : ∀ i, i < ops.size → listed.getD i true = true := fun i hlt => by
      have := cnt_zero (p := fun i => !listed.getD i true) ops.size (by omega) i hlt
      simpa using this
    refine ⟨?_, hend s δ M ρ m F' listed a w h hs hw hfull⟩
    rw [List.eq_nil_iff_forall_not_mem]
    intro i hr
    rw [mem_ready] at hr
    obtain ⟨h1, o, ho, _⟩ := hr
    rw [hfull i (Array.getElem?_eq_some_iff.1 ho).1] at h1; cases h1
  | succ fuel ih =>
    intro s δ M ρ m F' listed a w h ht hs hw hc
    refine ⟨fun hr => ?_, fun i hr => ?_⟩
    · refine hend s δ M ρ m F' listed a w h hs hw fun i hlt => ?_
      by_cases hx : ∃ i, i < ops.size ∧ (!listed.getD i true) = true
      · exfalso
        obtain ⟨k, hk, hkl, hleast⟩ := least_of (p := fun i => !listed.getD i true) ops.size hx
        have hmem : k ∈ Region.ready .any ops listed := by
          rw [mem_ready]
          refine ⟨by simpa using hkl, ops[k], Array.getElem?_eq_getElem hk, fun e he hb => ?_⟩
          have hbk := (hok k hk).back
          unfold backOk at hbk
          rw [Array.getElem?_eq_getElem hk] at hbk
          simp only [Array.all_eq_true_iff_forall_mem, Bool.or_eq_true, Bool.not_eq_true', decide_eq_true_eq] at hbk
          have hlt := (hbk e he).resolve_left (by simp [hb])
          have := hleast e.on hlt
          have hjl : e.on < listed.size := by rw [h.lsize]; omega
          simp only [Array.getD_eq_getD_getElem?, Array.getElem?_eq_getElem hjl, Option.getD_some] at this ⊢
          simpa using this
        rw [hr] at hmem; cases hmem
      · cases hli : listed.getD i true
        · exact absurd ⟨i, hlt, by simp [hli]⟩ hx
        · rfl
    · rw [mem_ready] at hr
      obtain ⟨hun, o, ho, hed⟩ := hr
      have hin : i < ops.size := (Array.getElem?_eq_some_iff.1 ho).1
      have hil : i < listed.size := by rw [h.lsize]; exact hin
      have hunf : listed.getD i false = false := by
        simp only [Array.getD_eq_getD_getElem?, Array.getElem?_eq_getElem hil, Option.getD_some] at hun ⊢
        exact hun
      have hcnt : cnt (fun j => !(listed.setIfInBounds i true).getD j true) ops.size ≤ fuel := by
        have := cnt_set (p := fun i => !listed.getD i true) (q := fun j => !(listed.setIfInBounds i true).getD j true) (i := i) (by simp only [hun]; rfl) (by simp [Array.getD_eq_getD_getElem?, hil])
          (fun j hj => by show (!_) = (!_); rw [getD_set_ne true (Ne.symm hj)]) ops.size
        rw [if_pos hin] at this
        omega
      obtain ⟨k, hk, hkind⟩ := kinds_spec hks hin
      -- a stage that goes on
      have told : ∀ {δ'}, δ' = δ → Told P ops ks st s δ' M (listed.setIfInBounds i true) := by
        rintro _ rfl j oj d hj hd hlj hsj
        refine ht j oj d hj hd ?_ hsj
        cases hl : listed.getD j false
        · rfl
        · rw [getD_set_true hl] at hlj; cases hlj
      -- the next stage
      have next : ∀ {δ' M' ρ' m' F''} {a' : Act} {w'}, hardI ks i = true → ordOf ks i = s → SI P ops ks st G N F m0 w0 (s + 1) δ' M' ρ' m' F'' (listed.setIfInBounds i true) a' w' → s < ordOf ks ks.length →
          wpSp P mu K (stepsFrom ops ks st fo (ordOf ks ks.length - (s + 1)) (s + 1)) δ' M' → wpAny P .any ops Q fuel (listed.setIfInBounds i true) a' w' := by
        intro δ' M' ρ' m' F'' a' w' hh ho' h' hlt hw'
        rw [steps_rest (by omega)] at hw'
        have hun2 : ∀ j, j < ops.size → hardI ks j = false → (stages ops ks).getD j 0 = s + 1 ∨ True → st.getD j 0 = s + 1 → (listed.setIfInBounds i true).getD j false = false := fun j hj hnh _ hsj => by
          cases hl : (listed.setIfInBounds i true).getD j false
          · rfl
          · rw [getD_set_iff hil] at hl
            rcases hl with rfl | hl
            · rw [hh] at hnh; cases hnh
            · have := stage_le hok hlen h _ j ops[j] (Nat.lt_succ_self j) (Array.getElem?_eq_getElem hj) hnh fun e he hb => h.closed j _ e hl (Array.getElem?_eq_getElem hj) he hb
              omega
        obtain ⟨δ2, h2, h3, h4⟩ := advance hok hlen h' (by omega) (fun j hj hnh hsj => hun2 j hj hnh (.inr trivial) hsj) hw'
        exact ih _ _ _ _ _ _ _ _ _ h2 h3 (by omega) h4 hcnt
      have hardS : hardI ks i = true → ordOf ks i = s ∧ s < ordOf ks ks.length := by
        intro hh
        have hge : ¬ ordOf ks i < s := fun hlt => by
          have := (h.hard i hin hh).2 hlt
          rw [hunf] at this; cases this
        have hlt : ordOf ks i < ordOf ks ks.length := ordOf_lt (by rw [hlen]; exact hin) hh
        have hch := (hok i hin).chain
        simp only [chainOk, hh, Bool.not_true, Bool.false_or, Bool.or_eq_true, beq_iff_eq, List.any_eq_true, List.mem_range, Bool.and_eq_true, ho] at hch
        rcases hch with h0 | ⟨j, hj, hjo, hje⟩
        · omega
        · have hlj : listed.getD j false = true := by
            obtain ⟨e, he, hon, hb⟩ := hasEdge_spec hje
            have := hed e he hb
            rwa [hon] at this
          by_cases hjh : hardI ks j = true
          · rw [if_pos hjh] at hjo
            simp only [beq_iff_eq] at hjo
            have := (h.hard j (by omega) hjh).1 hlj
            omega
          · rw [if_neg hjh] at hjo
            simp only [beq_iff_eq] at hjo
            have hjn : j < ops.size := by omega
            have := stage_le hok hlen h _ j ops[j] (Nat.lt_succ_self j) (Array.getElem?_eq_getElem hjn) (by simpa using hjh) fun e he hb => h.closed j _ e hlj (Array.getElem?_eq_getElem hjn) he hb
            omega
      have hardW : hardI ks i = true → wpSp P mu K ((hardOf ops ks i).toList ++ stepsFrom ops ks st fo (ordOf ks ks.length - (s + 1)) (s + 1)) δ M := by
        intro hh
        obtain ⟨h1, h2⟩ := hardS hh
        have hw2 := hw
        unfold restAt at hw2
        rw [if_pos h2, ← h1, hardAt_of hh, Option.bind_some, h1] at hw2
        exact hw2
      rcases kindOf_inv ho hkind with ⟨gd, e, hg, hl, ⟨d, hd⟩, rfl | rfl⟩ | ⟨dj, wt, e, hg, rfl, he⟩ | ⟨hg, rfl⟩ | ⟨hg, ⟨e, rfl, he⟩ | ⟨e, d, rfl, he, hd, hmu⟩ | ⟨ty, d, inf, z, rfl, hop, hd, hi, hz, hzs, hty⟩ | ⟨ty, dv, y, ia, inf, rfl, hop, hd, hi, hia⟩⟩
      · -- read
        have hnh : hardI ks i = false := by simp [hardI, hk, PK.hard]
        have hst := stage_le hok hlen h _ i o (Nat.lt_succ_self i) ho hnh hed
        have hev := (ht i o d ho hd hunf hst).1 _ hk
        refine h.expr trivial hok ho hunf hed (by rw [hk]; rfl) hg hl (.inl hk) hev fun v w' hv hs' => ?_
        refine ih _ _ _ _ _ _ _ _ _ (h.put hok ho hunf hed (by rw [hk]; rfl) (by rw [hk]; rfl) hs' h.mem (Fin.refl m) h.keep h.own (fun t _ => rfl) (fun d' hd' => ?_) (.inl ⟨hnh, rfl⟩)) (told rfl) hs hw hcnt
        rw [hd] at hd'; cases hd'; exact hv
      · -- a slot that others read
        have hh : hardI ks i = true := by simp [hardI, hk, PK.hard]
        have hw2 := hardW hh
        unfold hardOf at hw2
        rw [ho] at hw2
        simp only [Option.map_some, hd, hk, Option.toList_some, List.singleton_append] at hw2
        obtain ⟨dv, hev, hw3⟩ := hw2
        refine h.expr trivial hok ho hunf hed (by rw [hk]; rfl) hg hl (.inr hk) hev fun v w' hv hs' => ?_
        refine next hh (hardS hh).1 (h.put (s' := s + 1) (δ' := δ.upd d dv) hok ho hunf hed (by rw [hk]; rfl) (by rw [hk]; rfl) hs' h.mem (Fin.refl m) h.keep h.own (fun t hne => ?_) (fun d' hd' => ?_) (.inr ⟨hh, (hardS hh).1, rfl⟩)) (hardS hh).2 hw3
        · simp only [DEnv.upd]; rw [if_neg]; rintro rfl; exact hne hd
        · rw [hd] at hd'; cases hd'; simp only [DEnv.upd, if_true]; exact hv
      · -- in its turn, where the guard lets it
        have hh : hardI ks i = true := by simp [hardI, hk, PK.hard]
        have hw2 := hardW hh
        unfold hardOf at hw2
        rw [ho] at hw2
        simp only [Option.map_some, hk] at hw2
        have hw3 : ∃ b, gOn wt (δ dj) = some b ∧ (b = true → wpDE P mu o.dst e δ (fun v M' => wpSp P mu K (stepsFrom ops ks st fo (ordOf ks ks.length - (s + 1)) (s + 1)) (δ.updO o.dst v) M') M) ∧
            (b = false → wpSp P mu K (stepsFrom ops ks st fo (ordOf ks ks.length - (s + 1)) (s + 1)) (δ.updO o.dst (.raw undef)) M) := by
          cases hd : o.dst <;> rw [hd] at hw2 <;> exact hw2
        obtain ⟨b, hb, hon, hoff⟩ := hw3
        obtain ⟨hus, _⟩ := h.reads hok ho hunf hed (by rw [hk]; rfl)
        obtain ⟨hlv, hcv⟩ := hus dj (uses_guard hg)
        have hrv := h.env dj hlv
        rw [← hcv] at hrv
        have hdj := ((op_known hok ho).2.1 dj wt hg).2
        unfold wpOp
        rw [ho]
        simp only
        have off : Region.wanted o (yielded ops a.tmps) = false → b = false → wpAny P .any ops Q fuel (listed.setIfInBounds i true) (a.put o.dst undef) w := by
          intro _ hbf
          refine next hh (hardS hh).1 (h.put (s' := s + 1) (δ' := δ.updO o.dst (.raw undef)) hok ho hunf hed (by rw [hk]; rfl) (by rw [hk]; rfl) h.sat h.mem (Fin.refl m) h.keep h.own (fun t hne => ?_) (fun d' hd' => ?_) (.inr ⟨hh, (hardS hh).1, rfl⟩)) (hardS hh).2 (hoff hbf)
          · cases hd : o.dst with
            | none => rfl
            | some d => simp only [DEnv.updO, DEnv.upd]; rw [if_neg]; rintro rfl; exact hne hd
          · rw [hd']; simp only [DEnv.updO, DEnv.upd, if_true, Rep]
        have cases : (∃ bb, δ dj = .bool bb) ∨ (∃ v, δ dj = .raw v ∧ (∀ bb, v ≠ .bool bb) ∧ b = false) := by
          unfold gOn at hb
          split at hb
          · rename_i bb hbb; exact .inl ⟨bb, hbb⟩
          · rename_i v hv
            split at hb
            · cases hb
            · rename_i hnb; cases hb; exact .inr ⟨v, hv, fun bb e => hnb bb e, rfl⟩
          · cases hb
        rcases cases with ⟨bb, hbb⟩ | ⟨v, hv, hnb, hbf⟩
        · rw [hbb] at hb hrv
          simp only [Rep] at hrv
          simp only [gOn, Option.some.injEq] at hb
          have hwt := (guardDst_wanted hg a).2 dj wt bb rfl (by rw [h.size]; exact hdj) hrv
          rw [hb] at hwt
          cases b with
          | true =>
            rw [if_pos hwt]
            refine .inl (h.eff hok ho hunf hed (by rw [hk]; rfl) he (hon rfl) fun v m' w' dv M' hst hs' hp => ?_)
            obtain ⟨q1, q2, q3, q4, q5⟩ := hst
            refine next hh (hardS hh).1 (h.put (s' := s + 1) (δ' := δ.updO o.dst dv) hok ho hunf hed (by rw [hk]; rfl) (by rw [hk]; rfl) hs' q2 q3 q4 q5 (fun t hne => ?_) (fun d' hd' => ?_) (.inr ⟨hh, (hardS hh).1, rfl⟩)) (hardS hh).2 hp
            · cases hd : o.dst with
              | none => rfl
              | some d => simp only [DEnv.updO, DEnv.upd]; rw [if_neg]; rintro rfl; exact hne hd
            · rw [hd']; simp only [DEnv.updO, DEnv.upd, if_true]; exact q1
          | false =>
            rw [if_neg (by rw [hwt]; decide)]
            exact off hwt rfl
        · rw [hv] at hrv
          simp only [Rep] at hrv
          have hwt := guardDst_off hg a (fun bb => by rw [hrv]; exact hnb bb)
          rw [if_neg (by rw [hwt]; decide)]
          exact off hwt hbf
      · -- an operation told by hand, in its turn
        have hh : hardI ks i = true := by simp [hardI, hk, PK.hard]
        have hw2 := hardW hh
        unfold hardOf at hw2
        rw [ho] at hw2
        simp only [Option.map_some, hk] at hw2
        have hw3 : wpSp P mu K (.ho (Oper.bare o) :: stepsFrom ops ks st fo (ordOf ks ks.length - (s + 1)) (s + 1)) δ M := by
          exact hw2
        obtain ⟨_, hop⟩ := h.reads hok ho hunf hed (by rw [hk]; rfl)
        have h3 := hw3 (mask ops ks listed δ ρ) (fun x hx => ((hop x hx).2).symm) F' m0 ρ m h.invD
        have h4 := h3 w0 w a h.sat fun x hx => (hop x hx).1
        unfold wpOp
        rw [ho]
        simp only
        rw [if_pos ((guardDst_wanted hg a).1 rfl)]
        have h5 : Oper.wp P (Oper.bare o) a w (fun a' w' => wpAny P .any ops Q fuel (listed.setIfInBounds i true) a' w') Q := by
          refine Oper.wp_mono2 (fun a' w' ⟨v, m', he, hs', dv, M', hst, hp⟩ => ?_) h4
          subst he
          obtain ⟨q1, q2, q3, q4, q5⟩ := hst
          refine next hh (hardS hh).1 (h.put (s' := s + 1) (δ' := δ.updO o.dst dv) hok ho hunf hed (by rw [hk]; rfl) (by rw [hk]; rfl) hs' q2 q3 q4 q5 (fun t hne => ?_) (fun d' hd' => ?_) (.inr ⟨hh, (hardS hh).1, rfl⟩)) (hardS hh).2 hp
          · cases hd : o.dst with
            | none => rfl
            | some d => simp only [DEnv.updO, DEnv.upd]; rw [if_neg]; rintro rfl; exact hne hd
          · rw [hd']; simp only [DEnv.updO, DEnv.upd, if_true]; exact q1
        exact .inl h5
      · -- in its turn
        have hh : hardI ks i = true := by simp [hardI, hk, PK.hard]
        have hw2 := hardW hh
        unfold hardOf at hw2
        rw [ho] at hw2
        simp only [Option.map_some, hk] at hw2
        have hw3 : wpDE P mu o.dst e δ (fun v M' => wpSp P mu K (stepsFrom ops ks st fo (ordOf ks ks.length - (s + 1)) (s + 1)) (δ.updO o.dst v) M') M := by
          cases hd : o.dst <;> rw [hd] at hw2 <;> exact hw2
        unfold wpOp
        rw [ho]
        simp only
        rw [if_pos ((guardDst_wanted hg a).1 rfl)]
        refine .inl (h.eff hok ho hunf hed (by rw [hk]; rfl) he hw3 fun v m' w' dv M' hst hs' hp => ?_)
        obtain ⟨q1, q2, q3, q4, q5⟩ := hst
        refine next hh (hardS hh).1 (h.put (s' := s + 1) (δ' := δ.updO o.dst dv) hok ho hunf hed (by rw [hk]; rfl) (by rw [hk]; rfl) hs' q2 q3 q4 q5 (fun t hne => ?_) (fun d' hd' => ?_) (.inr ⟨hh, (hardS hh).1, rfl⟩)) (hardS hh).2 hp
        · cases hd : o.dst with
          | none => rfl
          | some d => simp only [DEnv.updO, DEnv.upd]; rw [if_neg]; rintro rfl; exact hne hd
        · rw [hd']; simp only [DEnv.updO, DEnv.upd, if_true]; exact q1
      · -- new memory that nobody writes
        have hnh : hardI ks i = false := by simp [hardI, hk, PK.hard]
        have hst := stage_le hok hlen h _ i o (Nat.lt_succ_self i) ho hnh hed
        have hfr := (ht i o d ho hd hunf hst).2 _ hk
        unfold wpOp
        rw [ho]
        simp only
        rw [if_pos ((guardDst_wanted hg a).1 rfl)]
        have hw3 : wpDE P mu o.dst e δ (fun v M' => v = δ d ∧ M' = M) M := by rw [hd]; exact freshI_wp hmu hfr
        refine .inl (h.eff hok ho hunf hed (by rw [hk]; rfl) he hw3 fun v m' w' dv M' hst hs' hp => ?_)
        obtain ⟨rfl, rfl⟩ := hp
        obtain ⟨q1, q2, q3, q4, q5⟩ := hst
        refine ih _ _ _ _ _ _ _ _ _ (h.put hok ho hunf hed (by rw [hk]; rfl) (by rw [hk]; rfl) hs' q2 q3 q4 q5 (fun t _ => rfl) (fun d' hd' => ?_) (.inl ⟨hnh, rfl⟩)) (told rfl) hs hw hcnt
        rw [hd] at hd'; cases hd'; exact q1
      · -- a variable is made
        unfold wpOp
        rw [ho]
        simp only
        rw [if_pos ((guardDst_wanted hg a).1 rfl)]
        refine .inl (wp_of_run (v := ptrV w.heap.size) (w' := w.alloc (.cells z.cells ty)) ?_ ?_)
        · obtain ⟨d0, op0, t0, p0, f0, g0⟩ := o
          simp only at hop hd
          subst hop
          have hzv : (zeroValue ty).run P w = .ok z w := by simp [zeroValue, typeInfo, hi, hz]
          simp only [execOp, Instr.alloc, Sem.run_bind, hzv, Result.andThen_ok, newVar, newRow, newObj]
          rfl
        · exact ih _ _ _ _ _ _ _ _ _ (h.va hok ho hunf hed hk hd hty) (told rfl) hs hw hcnt
      · -- a variable is filled
        have hh : hardI ks i = true := by simp [hardI, hk, PK.hard]
        have hw2 := hardW hh
        unfold hardOf at hw2
        rw [ho] at hw2
        simp only [Option.map_some, hk] at hw2
        have hw3 : wpDE P mu (some dv) (.var ty inf.size y) δ (fun v M' => wpSp P mu K (stepsFrom ops ks st fo (ordOf ks ks.length - (s + 1)) (s + 1)) (δ.upd dv v) M') M := by
          exact hw2
        unfold wpOp
        rw [ho]
        simp only
        rw [if_pos ((guardDst_wanted hg a).1 rfl)]
        refine .inl (h.hv hks hok ho hunf hed hk hop hd hi hia (hardS hh).1 hw3 fun δ' M' ρ' m' F'' w' h' hp => ?_)
        obtain ⟨v, rfl, hp⟩ := hp
        exact next hh (hardS hh).1 h' (hardS hh).2 hp
theorem raw_drawn {id : Nat} {l : List Sp} (hp : planD P ro G N mu ops = some l) {K : DEnv → DMem → Prop} {X : Nat → DEnv → DMem → Prop} {R : DEnv → DMem → Prop} {δ : DEnv} {M : DMem} (hw : wpSp P mu K l δ M) :
    ∀ F m0 ρ m, InvD F m0 δ M ρ m → wpS P (spRO P) G N (.raw (.region id ops true)) (LiftK F m0 K) (fun i => LiftK F m0 (X i)) (LiftK F m0 R) ρ m := by
  intro F m0 ρ m hI a ha w0 w hs
  unfold planD at hp
  simp only [Option.bind_eq_some_iff] at hp
  obtain ⟨ks, hks, hp⟩ := hp
  split at hp
  · rename_i hc
    cases hp
    obtain ⟨hm, hlen, hok⟩ := drawOk_spec hc
    refine wp_region_any hm ?_
    have h0 : SI P ops ks (stages ops ks) G N F m0 w0 0 δ M ρ m F (Array.replicate ops.size false) a w.drew := by
      have hr : ∀ j, (Array.replicate ops.size false).getD j false = false := fun j => by
        simp [Array.getD_eq_getD_getElem?, Array.getElem?_replicate]; split <;> rfl
      refine ⟨hs.drew, by simp, ha.1, ha.2.1, (fun i o e hi => by rw [hr] at hi; cases hi), fun t _ => hI.env t, hI.mem, hI.fin, hI.keep, hI.own, Grows.refl F, (fun i _ _ => by rw [hr]; simp), fun t _ ht => ?_,
        (fun i o ty z d _ _ _ hi => by rw [hr] at hi; cases hi), (fun i i' o o' d d' ty z ty' z' b _ _ _ _ _ _ _ hi => by rw [hr] at hi; cases hi)⟩
      rcases ht with ht | ⟨i, o, _, _, hi⟩
      · exact ha.2.2 t ht
      · rw [hr] at hi; cases hi
    have e0 : ordOf ks ks.length = ordOf ks ks.length - 0 := by omega
    rw [e0, steps_rest (Nat.zero_le _)] at hw
    obtain ⟨δ', h1, h2, h3⟩ := advance hok hlen h0 (Nat.zero_le _) (fun i _ _ _ => by simp [Array.getD_eq_getD_getElem?, Array.getElem?_replicate]; split <;> rfl) hw
    refine draw_main hks hok hlen (Q := fun e a' w' => ∃ m', Sat w0 w' m' ∧ Lift G N (LiftK F m0 K) (fun i => LiftK F m0 (X i)) (LiftK F m0 R) e a' m') (fun a w m ρ δ M hs ha hI hK => ⟨m, hs, ρ, ha, δ, M, hI, hK⟩) ops.size 0 δ' M ρ m F _ a _ h1 h2 (Nat.zero_le _) h3 ?_
    have : ∀ (p : Nat → Bool) n, cnt p n ≤ n := by
      intro p n
      induction n with
      | zero => simp [cnt]
      | succ n ih => simp only [cnt]; split <;> omega
    exact this _ _
  · cases hp
end draw
end Go.Proofs.YtbiejiangdbcmaaDoor.Mw
namespace Go.Proofs.YtbiejiangdbcmaaDoor.Mw
open Go Go.RowKit
set_option linter.unusedVariables false
set_option linter.unusedSimpArgs false
section st
variable (P : Program) (mu : Nat → Bool) (ro : FuncId → Bool)
noncomputable def evDL (M : DMem) (δ : DEnv) : List (Nat × Ex) → Option (List (Nat × DV))
  | [] => some []
  | (i, e) :: r => (evD P M δ e).bind fun v => (evDL M δ r).map fun l => (i, v) :: l
def evDM (M : DMem) (δ : DEnv) : List Ex → Prop
  | [] => True
  | e :: r => (evD P M δ e).isSome = true ∧ evDM M δ r
def rawD (G : Nat → Bool) (N : Nat) (c : Code) (K : DEnv → DMem → Prop) (X : Nat → DEnv → DMem → Prop) (R : DEnv → DMem → Prop) (δ : DEnv) (M : DMem) : Prop :=
  ∀ F m0 ρ m, InvD F m0 δ M ρ m → wpS P (spRO P) G N (.raw c) (LiftK F m0 K) (fun i => LiftK F m0 (X i)) (LiftK F m0 R) ρ m
def opsOf : Code → Option (Array Oper)
  | .region _ ops true => some ops
  | _ => none
def rawW (G : Nat → Bool) (N : Nat) (c : Code) (K : DEnv → DMem → Prop) (X : Nat → DEnv → DMem → Prop) (R : DEnv → DMem → Prop) (δ : DEnv) (M : DMem) : Prop :=
  match opsOf c with
    | some ops => match planD P ro G N mu ops with
      | some l => wpSp P mu K l δ M
      | none => rawD P G N c K X R δ M
    | none => rawD P G N c K X R δ M
def wpD (G : Nat → Bool) (N : Nat) : St → (DEnv → DMem → Prop) → (Nat → DEnv → DMem → Prop) → (DEnv → DMem → Prop) → DEnv → DMem → Prop
  | .nop, K, _, _, δ, M => K δ M
  | .sets outs must, K, _, _, δ, M => evDM P M δ must ∧ ∃ l, evDL P M δ outs = some l ∧ K (δ.upds l) M
  | .act d e, K, _, _, δ, M => wpDE P mu d e δ (fun v M' => K (δ.updO d v) M') M
  | .eff o, K, _, _, δ, M => match o.op with
    | .panic _ => False
    | _ => EffD P o (fun v M' => K (δ.updO o.dst v) M') δ M
  | .seq a b, K, X, R, δ, M => wpD G N a (fun δ' M' => wpD G N b K X R δ' M') X R δ M
  | .ite c a b, K, X, R, δ, M => ∃ t, evD P M δ c = some (.bool t) ∧ (t = true → wpD G N a K X R δ M) ∧ (t = false → wpD G N b K X R δ M)
  | .block id a, K, X, R, δ, M => wpD G N a K (fun i => if i = id then K else X i) R δ M
  | .loop a, K, X, R, δ, M => ∃ (I : Nat → DEnv → DMem → Prop) (n : Nat), I n δ M ∧ ∀ k δ' M', I k δ' M' → wpD G N a (fun δ'' M'' => ∃ k' M0, k' < k ∧ SubD M0 M'' ∧ I k' δ'' M0) X R δ' M'
  | .exit id, _, X, _, δ, M => X id δ M
  | .ret, _, _, R, δ, M => R δ M
  | .raw c, K, X, R, δ, M => rawW P mu ro G N c K X R δ M
end st
section sound
variable {P : Program} {mu : Nat → Bool} {ro : FuncId → Bool} {G : Nat → Bool} {N : Nat} {F m0 : Mem}
theorem evDL_ok {M : DMem} {δ : DEnv} {m : Mem} {ρ : Env} (hI : Inh m) (hM : RepM M m) (hρ : ∀ i, Rep m (δ i) (ρ i)) : ∀ (outs : List (Nat × Ex)) (l : List (Nat × DV)), evDL P M δ outs = some l →
    ∃ l', evL (spRO P) m ρ outs = some l' ∧ ∀ (δ2 : DEnv) (ρ2 : Env), (∀ i, Rep m (δ2 i) (ρ2 i)) → ∀ i, Rep m (δ2.upds l i) (ρ2.upds l' i)
  | [], l, h => by cases h; exact ⟨[], rfl, fun δ2 ρ2 h2 => h2⟩
  | (i, e) :: r, l, h => by
    simp only [evDL, Option.bind_eq_some_iff, Option.map_eq_some_iff] at h
    obtain ⟨d, h1, l1, h2, rfl⟩ := h
    obtain ⟨v, h3, h4⟩ := evD_ok hI hM hρ e d h1
    obtain ⟨l', h5, h6⟩ := evDL_ok hI hM hρ r l1 h2
    refine ⟨(i, v) :: l', by simp only [evL, h3, h5, Option.bind_some, Option.map_some], fun δ2 ρ2 hh => ?_⟩
    refine h6 (δ2.upd i d) (ρ2.upd i v) fun j => ?_
    simp only [DEnv.upd, Env.upd]
    split
    · exact h4
    · exact hh j
theorem evDM_ok {M : DMem} {δ : DEnv} {m : Mem} {ρ : Env} (hI : Inh m) (hM : RepM M m) (hρ : ∀ i, Rep m (δ i) (ρ i)) : ∀ (es : List Ex), evDM P M δ es → evM (spRO P) m ρ es
  | [], _ => trivial
  | e :: r, h => by
    obtain ⟨d, hd⟩ := Option.isSome_iff_exists.1 h.1
    obtain ⟨v, h3, _⟩ := evD_ok hI hM hρ e d hd
    exact ⟨by rw [h3]; rfl, evDM_ok hI hM hρ r h.2⟩
theorem wpD_ok : ∀ (s : St) (K : DEnv → DMem → Prop) (X : Nat → DEnv → DMem → Prop) (R : DEnv → DMem → Prop) (δ : DEnv) (M : DMem) (ρ : Env) (m : Mem), InvD F m0 δ M ρ m → wpD P mu ro G N s K X R δ M →
    wpS P (spRO P) G N s (LiftK F m0 K) (fun i => LiftK F m0 (X i)) (LiftK F m0 R) ρ m
  | .nop, K, X, R, δ, M, ρ, m, h, hw => ⟨δ, M, h, hw⟩
  | .sets outs must, K, X, R, δ, M, ρ, m, h, hw => by
    intro hI
    obtain ⟨h1, l, h2, h3⟩ := hw
    obtain ⟨l', h4, h5⟩ := evDL_ok hI h.mem h.env outs l h2
    exact ⟨evDM_ok hI h.mem h.env must h1, l', h4, _, M, ⟨h5 δ ρ h.env, h.mem, h.fin, h.keep, h.own⟩, h3⟩
  | .act d e, K, X, R, δ, M, ρ, m, h, hw => Eff.wp_mono e ρ _ _ m (fun v m' ⟨d', M', hs, hp⟩ => ⟨_, M', h.step hs d, hp⟩) (wpDE_ok mu d h e _ hw)
  | .eff o, K, X, R, δ, M, ρ, m, h, hw => by
    unfold wpD at hw
    split at hw
    · exact hw.elim
    · exact EffM.mono (fun v m' ⟨d, M', hs, hp⟩ => ⟨_, M', h.step hs o.dst, hp⟩) (hw F m0 ρ m h)
  | .seq a b, K, X, R, δ, M, ρ, m, h, hw => St.wp_mono a (fun ρ' m' ⟨δ', M', h', hw'⟩ => wpD_ok b K X R δ' M' ρ' m' h' hw') (fun _ _ _ h => h) (fun _ _ h => h) (wpD_ok a _ X R δ M ρ m h hw)
  | .ite c a b, K, X, R, δ, M, ρ, m, h, hw => by
    intro hI
    obtain ⟨t, h1, h2, h3⟩ := hw
    obtain ⟨v, h4, h5⟩ := evD_ok hI h.mem h.env c _ h1
    simp only [Rep] at h5; subst h5
    exact ⟨t, h4, fun e => wpD_ok a K X R δ M ρ m h (h2 e), fun e => wpD_ok b K X R δ M ρ m h (h3 e)⟩
  | .block id a, K, X, R, δ, M, ρ, m, h, hw => by
    have := wpD_ok a K _ R δ M ρ m h hw
    refine St.wp_mono a (fun _ _ h => h) (fun i ρ m h => ?_) (fun _ _ h => h) this
    split
    · rename_i e; simp only [e, if_true] at h; exact h
    · rename_i e; simp only [e, if_false] at h; exact h
  | .loop a, K, X, R, δ, M, ρ, m, h, hw => by
    obtain ⟨I, n, h0, hr⟩ := hw
    refine ⟨fun k => LiftK F m0 (I k), n, ⟨δ, M, h, h0⟩, fun k ρ' m' ⟨δ', M', h', hI⟩ => ?_⟩
    exact St.wp_mono a (fun ρ2 m2 ⟨δ2, M2, h2, k', M0, hk, hs, hI2⟩ => ⟨k', hk, δ2, M0, h2.sub hs, hI2⟩) (fun _ _ _ h => h) (fun _ _ h => h) (wpD_ok a _ X R δ' M' ρ' m' h' (hr k δ' M' hI))
  | .exit id, K, X, R, δ, M, ρ, m, h, hw => ⟨δ, M, h, hw⟩
  | .ret, K, X, R, δ, M, ρ, m, h, hw => ⟨δ, M, h, hw⟩
  | .raw c, K, X, R, δ, M, ρ, m, h, hw => by
    simp only [wpD, rawW] at hw
    split at hw
    · rename_i ops ho
      have hc : ∃ id, c = .region id ops true := by
        unfold opsOf at ho
        split at ho
        · cases ho; exact ⟨_, rfl⟩
        · cases ho
      obtain ⟨id, rfl⟩ := hc
      split at hw
      · rename_i l hl; exact raw_drawn hl hw F m0 ρ m h
      · exact hw F m0 ρ m h
    · exact hw F m0 ρ m h
def argD (ds : List DV) : DEnv := fun t => ds.getD t (.raw undef)
theorem argD_ok {m : Mem} : ∀ {ds : List DV} {vs : List Value}, RepL m ds vs → ∀ i, Rep m (argD ds i) (argEnv vs i)
  | [], [], _, i => by simp only [argD, argEnv, List.getD_nil, Rep]
  | [], _ :: _, r, _ => by have := r.2; simp at this
  | _ :: _, [], r, _ => by have := r.2; simp at this
  | d :: ds, v :: vs, r, 0 => by
    have := r.1
    simp only [RepP] at this
    exact this.1
  | d :: ds, v :: vs, r, i + 1 => by
    have r1 := r.1
    simp only [RepP] at r1
    have := argD_ok ⟨r1.2, by simpa using r.2⟩ i
    simpa [argD, argEnv] using this
theorem pc_opt {f : FuncId} {fn : Func} {c : Code} (hf : P.funcs[f]? = some fn) (hb : fn.body = some c) (hname : (fn.name == "runtime.NumGoroutine") = false) (hin : P.inits.idxOf? f = none)
    {s : St} (hd : opt (dec P ro G fn.ntmps c) = s) {r : Ex} (hr : resE P G fn.results.toList = some r) (mu : Nat → Bool) {ds : List DV} (hl : ds.length ≤ fn.ntmps) {R : DV → DMem → Prop} {M : DMem}
    (h : wpD P mu ro G fn.ntmps s (fun δ M' => ∃ d, evD P M' δ r = some d ∧ R d M') (fun _ _ _ => False) (fun δ M' => ∃ d, evD P M' δ r = some d ∧ R d M') (argD ds) M) : PC P f ds R M := by
  intro F m vals hM hv hF ho
  refine mc_opt (spRO_sound P) hf hb hname hin hd hr (by rw [← hv.2]; exact hl) fun hI => ?_
  have hfin : ∀ ρ m', LiftK F m (fun δ M' => ∃ d, evD P M' δ r = some d ∧ R d M') ρ m' → Inh m' →
      ∃ v, ev (spRO P) m' ρ r = some v ∧ ∃ d M', Rep m' d v ∧ RepM M' m' ∧ Fin m m' ∧ Grows F m' ∧ (∀ b, F b ≠ none → M' b = none) ∧ R d M' := by
    rintro ρ m' ⟨δ, M', h', d, he, hR⟩ hI'
    obtain ⟨v, h4, h5⟩ := evD_ok hI' h'.mem h'.env r d he
    exact ⟨v, h4, d, M', h5, h'.mem, h'.fin, h'.keep, h'.own, hR⟩
  exact St.wp_mono s hfin (fun _ _ _ ⟨_, _, _, h⟩ => h) hfin (wpD_ok s _ _ _ _ M _ m ⟨argD_ok hv, hM, Fin.refl m, hF, ho⟩ h)
theorem Pu.of {f : FuncId} {ds : List DV} {d : DV} (h : PC P f ds (fun d' M' => fz M' 4 d' = d) DMem.mt) : Pu P f ds d := by
  intro m vals hgl hv
  have := h m m vals (RepM.mt hgl) hv (Grows.refl m) (fun b hb => rfl)
  refine ⟨this.1, fun w0 w hs => (this.2 w0 w hs).mono ?_⟩
  rintro e w' ⟨v, m', he, hs', d', M', hr, hM, _, hg, ho, rfl⟩
  refine ⟨v, sealM M' m', he, hs'.sealM M', fz_ok hM 4 d' v hr, fun b B hb => ?_⟩
  have := hg b B hb
  unfold sealM
  rw [ho b (by rw [hb]; simp)]
  exact this
theorem Pf.of {f : FuncId} {ds : List DV} {d : DV} {v : Value} (h : PC P f ds (fun d' M' => d' = d) DMem.mt) (hv : d.v1 = some v) : Pf P f ds v := by
  intro m vals hgl hr
  have := h m m vals (RepM.mt hgl) hr (Grows.refl m) (fun b hb => rfl)
  exact this.drop fun v' m' ⟨d', M', h1, _, _, hg, _, e⟩ => ⟨m, hg, by subst e; exact v1_eq hv h1, rfl⟩
theorem pf_of {f : FuncId} {ds : List DV} {d : DV} {v : Value} (h : PC P f ds (fun d' M' => d' = d) DMem.mt) (hf : FrozL ds) (hv : d.v1 = some v) (hd : dOf v = d) : pf P f ds = some d :=
  pf_eq hf (Pf.of h hv) hd
theorem PC.of_pf {f : FuncId} {ds : List DV} {d : DV} {R : DV → DMem → Prop} {M : DMem} (h : pf P f (ds.map (fz M 4)) = some d) (hR : R d M) : PC P f ds R M := by
  obtain ⟨v, rfl, hp⟩ := pf_spec h
  exact Pf.pc hp hR
theorem law_mc {f : FuncId} {ds : List DV} {m : Mem} {vals : List Value} (h : PC P f ds (fun d' M' => d' = .bool true) DMem.mt) (hgl : Glob m) (hr : RepL m ds vals) : MC P f vals (fun v _ => v = .bool true) m := by
  refine (h m m vals (RepM.mt hgl) hr (Grows.refl m) (fun b hb => rfl)).mono fun v m' ⟨d', M', h1, _, _, hg, _, e⟩ => ?_
  subst e; simpa only [Rep] using h1
end sound
end Go.Proofs.YtbiejiangdbcmaaDoor.Mw
namespace Go.Proofs.YtbiejiangdbcmaaDoor.Mw
open Go Go.RowKit
set_option linter.unusedVariables false
set_option linter.unusedSimpArgs false
theorem dupdO_some (δ : DEnv) (i : Nat) (v : DV) : δ.updO (some i) v = δ.upd i v := rfl
theorem dupdO_none (δ : DEnv) (v : DV) : δ.updO none v = δ := rfl
theorem dupds_nil (δ : DEnv) : δ.upds [] = δ := rfl
theorem dupds_cons (δ : DEnv) (i : Nat) (v : DV) (l : List (Nat × DV)) : δ.upds ((i, v) :: l) = (δ.upd i v).upds l := rfl
theorem argD_0 (a : DV) (l : List DV) : argD (a :: l) 0 = a := rfl
theorem argD_1 (a b : DV) (l : List DV) : argD (a :: b :: l) 1 = b := rfl
theorem argD_2 (a b c : DV) (l : List DV) : argD (a :: b :: c :: l) 2 = c := rfl
theorem argD_3 (a b c d : DV) (l : List DV) : argD (a :: b :: c :: d :: l) 3 = d := rfl
theorem argD_4 (a b c d e : DV) (l : List DV) : argD (a :: b :: c :: d :: e :: l) 4 = e := rfl
theorem argD_5 (a b c d e f : DV) (l : List DV) : argD (a :: b :: c :: d :: e :: f :: l) 5 = f := rfl
theorem dof_tmp (δ : DEnv) (t : Nat) : δ.of (.tmp t) = δ t := rfl
theorem dof_const (δ : DEnv) (v : Value) : δ.of (.const v) = ofV v := rfl
theorem dof_func (δ : DEnv) (f : Nat) : δ.of (.func f) = .fn (.func f) [] [] := rfl
theorem ofV_int (k : IntKind) (x : Int) : ofV (.int k x) = .int k x := rfl
theorem ofV_bool (b : Bool) : ofV (.bool b) = .bool b := rfl
theorem ofV_str (s : ByteArray) : ofV (.string s) = .str s := rfl
theorem ofV_nilp : ofV (.pointer none) = .nilp := rfl
theorem ofV_nils : ofV (.slice none 0 0) = .zsl := rfl
theorem ofV_func (f : Fn) : ofV (.func f #[] #[]) = .fn f [] [] := rfl
theorem ofV_agg (cs : List Value) : ofV (.agg ⟨cs⟩) = .agg (cs.map of0) := rfl
theorem of0_int (k : IntKind) (x : Int) : of0 (.int k x) = .int k x := rfl
theorem of0_bool (b : Bool) : of0 (.bool b) = .bool b := rfl
theorem of0_str (s : ByteArray) : of0 (.string s) = .str s := rfl
theorem of0_nilp : of0 (.pointer none) = .nilp := rfl
theorem of0_nils : of0 (.slice none 0 0) = .zsl := rfl
theorem wr64_ex : ∃ f : Int → Int, ∀ x, f x = wrap64 x := ⟨_, fun _ => rfl⟩
noncomputable def wr64 : Int → Int := Classical.choose wr64_ex
theorem wr64_eq (x : Int) : wr64 x = wrap64 x := Classical.choose_spec wr64_ex x
theorem addD (x y : Int) : binD .add (.int .i64 x) (.int .i64 y) = some (.int .i64 (wr64 (x + y))) := by simp [wr64_eq, binD, lift2, DV.v1, binV, intV, IntKind.wrap_i64, wrap64, ofV_int]
theorem subD (x y : Int) : binD .sub (.int .i64 x) (.int .i64 y) = some (.int .i64 (wr64 (x - y))) := by simp [wr64_eq, binD, lift2, DV.v1, binV, intV, IntKind.wrap_i64, wrap64, ofV_int]
theorem mulD (x y : Int) : binD .mul (.int .i64 x) (.int .i64 y) = some (.int .i64 (wr64 (x * y))) := by simp [wr64_eq, binD, lift2, DV.v1, binV, intV, IntKind.wrap_i64, wrap64, ofV_int]
theorem remD (k : IntKind) (x y : Int) : binD .rem (.int k x) (.int k y) = if y = 0 then none else some (.int k (x.tmod y)) := by
  simp only [binD, lift2, DV.v1, binV, intV, Option.bind_some, if_true]; split <;> rfl
theorem quoD (x y : Int) : binD .quo (.int .i64 x) (.int .i64 y) = if y = 0 then none else some (.int .i64 (wr64 (x.tdiv y))) := by
  simp only [binD, lift2, DV.v1, binV, intV, Option.bind_some, if_true, IntKind.wrap_i64]; split
  · rfl
  · simp [ofV_int, wr64_eq, wrap64]
theorem andI (k : IntKind) (x y : Int) : binD .and (.int k x) (.int k y) = some (.int k (bits .and k x y)) := by simp [binD, lift2, DV.v1, binV, intV, ofV_int]
theorem orI (k : IntKind) (x y : Int) : binD .or (.int k x) (.int k y) = some (.int k (bits .or k x y)) := by simp [binD, lift2, DV.v1, binV, intV, ofV_int]
theorem xorI (k : IntKind) (x y : Int) : binD .xor (.int k x) (.int k y) = some (.int k (bits .xor k x y)) := by simp [binD, lift2, DV.v1, binV, intV, ofV_int]
theorem shrI (k k' : IntKind) (x y : Int) : binD .shr (.int k x) (.int k' y) = if y < 0 then none else some (.int k (x.fdiv (2 ^ (min y.toNat k.bits)))) := by
  simp only [binD, lift2, DV.v1, binV, Option.bind_some]; split <;> rfl
theorem shlI (k k' : IntKind) (x y : Int) : binD .shl (.int k x) (.int k' y) = if y < 0 then none else some (.int k (k.wrap (x * 2 ^ (min y.toNat k.bits)))) := by
  simp only [binD, lift2, DV.v1, binV, Option.bind_some]; split <;> rfl
theorem addU (x y : Int) : binD .add (.int .u64 x) (.int .u64 y) = some (.int .u64 ((x + y) % 18446744073709551616)) := by simp [binD, lift2, DV.v1, binV, intV, IntKind.wrap_u64, ofV_int]
theorem mulU (x y : Int) : binD .mul (.int .u64 x) (.int .u64 y) = some (.int .u64 ((x * y) % 18446744073709551616)) := by simp [binD, lift2, DV.v1, binV, intV, IntKind.wrap_u64, ofV_int]
theorem eqlD (k : IntKind) (x y : Int) : binD .eql (.int k x) (.int k y) = some (.bool (decide (x = y))) := by simp [binD, lift2, DV.v1, binV, intV, cmpV]; rfl
theorem neqD (k : IntKind) (x y : Int) : binD .neq (.int k x) (.int k y) = some (.bool (decide (¬ x = y))) := by
  simp [binD, lift2, DV.v1, binV, intV, cmpV]; by_cases h : x = y <;> simp [h, ofV_bool]
theorem lssD (k : IntKind) (x y : Int) : binD .lss (.int k x) (.int k y) = some (.bool (decide (x < y))) := by simp [binD, lift2, DV.v1, binV, intV, cmpV, ofV_bool]
theorem leqD (k : IntKind) (x y : Int) : binD .leq (.int k x) (.int k y) = some (.bool (decide (x ≤ y))) := by simp [binD, lift2, DV.v1, binV, intV, cmpV, ofV_bool]
theorem gtrD (k : IntKind) (x y : Int) : binD .gtr (.int k x) (.int k y) = some (.bool (decide (y < x))) := by simp [binD, lift2, DV.v1, binV, intV, cmpV, ofV_bool]
theorem geqD (k : IntKind) (x y : Int) : binD .geq (.int k x) (.int k y) = some (.bool (decide (y ≤ x))) := by simp [binD, lift2, DV.v1, binV, intV, cmpV, ofV_bool]
theorem eqbD_b (x y : Bool) : eqbD false (.bool x) (.bool y) = some (.bool (x == y)) := rfl
theorem nebD_b (x y : Bool) : eqbD true (.bool x) (.bool y) = some (.bool (!(x == y))) := rfl
theorem eqsStr (x y : ByteArray) : binD .eql (.str x) (.str y) = some (.bool (x.toList == y.toList)) := rfl
theorem nesStr (x y : ByteArray) : binD .neq (.str x) (.str y) = some (.bool (!(x.toList == y.toList))) := rfl
theorem notD (x : Bool) : unD .not (.bool x) = some (.bool !x) := rfl
theorem negD (x : Int) : unD .neg (.int .i64 x) = some (.int .i64 (wr64 (0 - x))) := by simp [wr64_eq, unD, lift1, DV.v1, unV, IntKind.wrap_i64, wrap64, ofV_int]
theorem cvtI64 (k' : IntKind) (x : Int) : cvtD .i64 (.int k' x) = some (.int .i64 (wr64 x)) := by simp [wr64_eq, cvtD, lift1, DV.v1, cvtV, IntKind.wrap_i64, wrap64, ofV_int]
theorem cvtU64 (k' : IntKind) (x : Int) : cvtD .u64 (.int k' x) = some (.int .u64 (x % 18446744073709551616)) := by simp [cvtD, lift1, DV.v1, cvtV, IntKind.wrap_u64, ofV_int]
theorem cvtU8 (k' : IntKind) (x : Int) : cvtD .u8 (.int k' x) = some (.int .u8 (x % 256)) := by simp [cvtD, lift1, DV.v1, cvtV, IntKind.wrap_u8, ofV_int]
theorem cvtU32 (k' : IntKind) (x : Int) : cvtD .u32 (.int k' x) = some (.int .u32 (x % 4294967296)) := by simp [cvtD, lift1, DV.v1, cvtV, IntKind.wrap_u32, ofV_int]
theorem cvtI32 (k' : IntKind) (x : Int) : cvtD .i32 (.int k' x) = some (.int .i32 (wrap32 x)) := by simp [cvtD, lift1, DV.v1, cvtV, IntKind.wrap_i32, wrap32, ofV_int]
theorem pickB (c : Bool) (x y : DV) : pickD (.bool c) x y = some (if c then x else y) := rfl
theorem andB (x y : Bool) : andD (.bool x) (some (.bool y)) = some (.bool (x && y)) := by cases x <;> rfl
theorem orB (x y : Bool) : orD (.bool x) (some (.bool y)) = some (.bool (x || y)) := by cases x <;> rfl
theorem andT (e : Option DV) : andD (.bool true) e = e := rfl
theorem andF (e : Option DV) : andD (.bool false) e = some (.bool false) := rfl
theorem orT (e : Option DV) : orD (.bool true) e = some (.bool true) := rfl
theorem orF (e : Option DV) : orD (.bool false) e = e := rfl
theorem eqnI (ne : Bool) (cs : List DV) : eqnD ne (.ip cs) .nilp = some (.bool ne) := rfl
theorem eqnM (ne : Bool) (b o : Nat) : eqnD ne (.mp b o) .nilp = some (.bool ne) := rfl
theorem eqnN (ne : Bool) : eqnD ne .nilp .nilp = some (.bool !ne) := rfl
theorem mpOf_mp (b i : Nat) : mpOf (.mp b i) = some (b, i) := rfl
theorem intOf_int (k : IntKind) (x : Int) : intOf (.int k x) = some x := rfl
theorem mslOf_msl (b o n c : Nat) : mslOf (.msl b o n c) = some (b, o, n, c) := rfl
theorem lenN_isl (n : Nat) (cs : List DV) : lenN (.isl n cs) = some n := rfl
theorem lenN_msl (b o n c : Nat) : lenN (.msl b o n c) = some n := rfl
theorem lenN_zsl : lenN .zsl = some 0 := rfl
theorem lenI (n : Nat) (cs : List DV) : lenD (.isl n cs) = some (.int .i64 n) := rfl
theorem lenM (b o n c : Nat) : lenD (.msl b o n c) = some (.int .i64 n) := rfl
theorem lenZ : lenD .zsl = some (.int .i64 0) := rfl
theorem nckI (cs : List DV) : nckD (.ip cs) = some (.ip cs) := rfl
theorem nckM (b o : Nat) : nckD (.mp b o) = some (.mp b o) := rfl
theorem faI (n : Nat) (cs : List DV) : faD n (.ip cs) = some (.ip (cs.drop n)) := rfl
theorem faM (n b o : Nat) : faD n (.mp b o) = some (.mp b (o + n)) := rfl
theorem ldI (M : DMem) (d : DV) (cs : List DV) : ldD M (.ip (d :: cs)) = some d := rfl
theorem ldM (M : DMem) (b o : Nat) : ldD M (.mp b o) = (M b).bind fun B => B.cs[o]? := rfl
theorem ldnI2 (M : DMem) (a b : DV) (cs : List DV) : ldnD M 2 (.ip (a :: b :: cs)) = some (.agg [a, b]) := by simp [ldnD]
theorem ldnI3 (M : DMem) (a b c : DV) (cs : List DV) : ldnD M 3 (.ip (a :: b :: c :: cs)) = some (.agg [a, b, c]) := by simp [ldnD]
theorem ldnM (M : DMem) (n b o : Nat) : ldnD M n (.mp b o) = (M b).bind fun B => if o + n ≤ B.cs.length then some (.agg ((B.cs.drop o).take n)) else none := rfl
theorem extT (n : Nat) (cs : List DV) : extD n (.tup cs) = cs[n]? := rfl
theorem csT (d : DV) (ds : List DV) : csD d (.tup ds) = some (.tup (d :: ds)) := rfl
theorem fldA (n : Nat) (cs : List DV) : fldD n (.agg cs) = cs[n]? := rfl
theorem tupT (ds : List DV) : tupD (.tup ds) = some ds := rfl
theorem mkfT (f : Fn) (a b : List DV) : mkfD f (.tup a) (.tup b) = some (.fn f a b) := rfl
theorem bldT (z : List Value) (pl : List (Nat × Nat)) (ds : List DV) : bldD z pl (.tup ds) = (bldLD (z.map of0) pl ds).map .agg := rfl
theorem cellsA (cs : List DV) : cellsD (.agg cs) = some cs := rfl
theorem cellsI (k : IntKind) (x : Int) : cellsD (.int k x) = some [.int k x] := rfl
theorem cellsB (b : Bool) : cellsD (.bool b) = some [.bool b] := rfl
theorem cellsS (s : ByteArray) : cellsD (.str s) = some [.str s] := rfl
theorem cellsP (cs : List DV) : cellsD (.ip cs) = some [.ip cs] := rfl
theorem cellsMp (b o : Nat) : cellsD (.mp b o) = some [.mp b o] := rfl
theorem cellsNp : cellsD .nilp = some [.nilp] := rfl
theorem cellsL (n : Nat) (cs : List DV) : cellsD (.isl n cs) = some [.isl n cs] := rfl
theorem cellsZ : cellsD .zsl = some [.zsl] := rfl
theorem cellsM (b o n c : Nat) : cellsD (.msl b o n c) = some [.msl b o n c] := rfl
theorem cellsF (f : Fn) (a b : List DV) : cellsD (.fn f a b) = some [.fn f a b] := rfl
theorem ixM {sz b o n c : Nat} {k : IntKind} {i : Nat} (h : i < n) : ixD sz (.msl b o n c) (.int k (i : Int)) = some (.mp b (o + i * sz)) := by
  simp only [ixD]; rw [if_pos ⟨by omega, by omega⟩]; simp
theorem bnd0 : boundD (.tup []) = some none := rfl
theorem bnd1 (k : IntKind) (i : Int) : boundD (.tup [.int k i]) = some (some i) := rfl
theorem Froz.int (k : IntKind) (x : Int) : Froz (.int k x) := fun _ => rfl
theorem Froz.bool (b : Bool) : Froz (.bool b) := fun _ => rfl
theorem Froz.str (s : ByteArray) : Froz (.str s) := fun _ => rfl
theorem Froz.nilp : Froz .nilp := fun _ => rfl
theorem Froz.raw (v : Value) : Froz (.raw v) := fun _ => rfl
theorem FrozL.nil : FrozL [] := fun _ => rfl
theorem FrozL.cons {d : DV} {ds : List DV} (h : Froz d) (k : FrozL ds) : FrozL (d :: ds) := fun f => by simp only [fzL]; rw [h f, k f]
theorem FrozL.append {ds es : List DV} (h : FrozL ds) (k : FrozL es) : FrozL (ds ++ es) := by
  induction ds with
  | nil => exact k
  | cons d ds ih =>
    have h1 : ∀ f, fzS f d = d ∧ fzL f ds = ds := fun f => by have := h f; simpa [fzL] using this
    exact FrozL.cons (fun f => (h1 f).1) (ih fun f => (h1 f).2)
theorem FrozL.flatMap {α : Type} {g : α → List DV} (h : ∀ x, FrozL (g x)) : ∀ l : List α, FrozL (l.flatMap g)
  | [] => FrozL.nil
  | x :: l => by rw [List.flatMap_cons]; exact (h x).append (FrozL.flatMap h l)
theorem FrozL.map {α : Type} {g : α → DV} (h : ∀ x, Froz (g x)) : ∀ l : List α, FrozL (l.map g)
  | [] => FrozL.nil
  | x :: l => FrozL.cons (h x) (FrozL.map h l)
theorem Froz.agg {cs : List DV} (h : FrozL cs) : Froz (.agg cs) := fun f => by simp only [fzS]; rw [h f]
theorem Froz.tup {cs : List DV} (h : FrozL cs) : Froz (.tup cs) := fun f => by simp only [fzS]; rw [h f]
theorem Froz.ip {cs : List DV} (h : FrozL cs) : Froz (.ip cs) := fun f => by simp only [fzS]; rw [h f]
theorem Froz.isl {cs : List DV} {n : Nat} (h : FrozL cs) : Froz (.isl n cs) := fun f => by simp only [fzS]; rw [h f]
theorem Froz.fn {g : Fn} {a b : List DV} (h : FrozL a) (k : FrozL b) : Froz (.fn g a b) := fun f => by simp only [fzS]; rw [h f, k f]
theorem FrozL.drop {ds : List DV} (h : FrozL ds) : ∀ n, FrozL (ds.drop n) := by
  induction ds with
  | nil => intro n; simpa using h
  | cons d ds ih =>
    have h1 : ∀ f, fzS f d = d ∧ fzL f ds = ds := fun f => by have := h f; simpa [fzL] using this
    intro n
    cases n with
    | zero => exact h
    | succ n => exact ih (fun f => (h1 f).2) n
theorem fz_int (M : DMem) (k : Nat) (x : IntKind) (y : Int) : fz M k (.int x y) = .int x y := (Froz.int x y).fz M k
theorem fz_bool (M : DMem) (k : Nat) (b : Bool) : fz M k (.bool b) = .bool b := (Froz.bool b).fz M k
theorem fz_str (M : DMem) (k : Nat) (s : ByteArray) : fz M k (.str s) = .str s := (Froz.str s).fz M k
theorem fz_nilp (M : DMem) (k : Nat) : fz M k .nilp = .nilp := Froz.nilp.fz M k
theorem fz_zsl (M : DMem) (k : Nat) : fz M k .zsl = .isl 0 [] := by cases k <;> rfl
theorem fz_tup (M : DMem) (k : Nat) (ds : List DV) : fz M k (.tup ds) = .tup (ds.map (fz M k)) := by
  have : ∀ f ds, fzL f ds = ds.map (fzS f) := fun f ds => by
    induction ds with
    | nil => rfl
    | cons d ds ih => simp only [fzL, List.map_cons, ih]
  cases k <;> simp only [fz, fzS, this] <;> rfl
theorem fz_agg (M : DMem) (k : Nat) (ds : List DV) : fz M k (.agg ds) = .agg (ds.map (fz M k)) := by
  have : ∀ f ds, fzL f ds = ds.map (fzS f) := fun f ds => by
    induction ds with
    | nil => rfl
    | cons d ds ih => simp only [fzL, List.map_cons, ih]
  cases k <;> simp only [fz, fzS, this] <;> rfl
theorem fz_ip (M : DMem) (k : Nat) (ds : List DV) : fz M k (.ip ds) = .ip (ds.map (fz M k)) := by
  have : ∀ f ds, fzL f ds = ds.map (fzS f) := fun f ds => by
    induction ds with
    | nil => rfl
    | cons d ds ih => simp only [fzL, List.map_cons, ih]
  cases k <;> simp only [fz, fzS, this] <;> rfl
theorem fz_isl (M : DMem) (k n : Nat) (ds : List DV) : fz M k (.isl n ds) = .isl n (ds.map (fz M k)) := by
  have : ∀ f ds, fzL f ds = ds.map (fzS f) := fun f ds => by
    induction ds with
    | nil => rfl
    | cons d ds ih => simp only [fzL, List.map_cons, ih]
  cases k <;> simp only [fz, fzS, this] <;> rfl
theorem fz_fn (M : DMem) (k : Nat) (g : Fn) (a b : List DV) : fz M k (.fn g a b) = .fn g (a.map (fz M k)) (b.map (fz M k)) := by
  have : ∀ f ds, fzL f ds = ds.map (fzS f) := fun f ds => by
    induction ds with
    | nil => rfl
    | cons d ds ih => simp only [fzL, List.map_cons, ih]
  cases k <;> simp only [fz, fzS, this] <;> rfl
theorem fz_msl {M : DMem} {b : Nat} {B : DBlk} (h : M b = some B) (k o n c : Nat) (hn : n ≤ c) : fz M (k + 1) (.msl b o n c) = .isl n ((B.cs.map (fz M k)).drop o) := by simp only [fz, fzS, fzF, h, hn, if_true]
theorem fzmap_froz {ds : List DV} (h : FrozL ds) (M : DMem) (k : Nat) : ds.map (fz M k) = ds := by
  induction ds with
  | nil => rfl
  | cons d ds ih =>
    have h1 : ∀ f, fzS f d = d ∧ fzL f ds = ds := fun f => by have := h f; simpa [fzL] using this
    rw [List.map_cons, ih fun f => (h1 f).2, Froz.fz (fun f => (h1 f).1)]
def slI (l : List Int) : DV := .isl l.length (l.map (.int .i64))
def slB (l : List Bool) : DV := .isl l.length (l.map .bool)
def slD {α : Type} (c : α → List DV) (l : List α) : DV := .isl l.length (l.flatMap c)
theorem Froz.slI (l : List Int) : Froz (slI l) := Froz.isl (FrozL.map (fun x => Froz.int _ x) l)
theorem Froz.slB (l : List Bool) : Froz (slB l) := Froz.isl (FrozL.map (fun x => Froz.bool x) l)
theorem Froz.slD {α : Type} {c : α → List DV} (h : ∀ x, FrozL (c x)) (l : List α) : Froz (slD c l) := Froz.isl (FrozL.flatMap h l)
theorem fz_slI (M : DMem) (k : Nat) (l : List Int) : fz M k (slI l) = slI l := (Froz.slI l).fz M k
theorem fz_slB (M : DMem) (k : Nat) (l : List Bool) : fz M k (slB l) = slB l := (Froz.slB l).fz M k
theorem plain_int (k : IntKind) (x : Int) : plainD (.int k x) = true := rfl
theorem plain_bool (b : Bool) : plainD (.bool b) = true := rfl
theorem plain_str (s : ByteArray) : plainD (.str s) = true := rfl
theorem plain_nilp : plainD .nilp = true := rfl
theorem plain_mp (b o : Nat) : plainD (.mp b o) = true := rfl
theorem plain_ip (cs : List DV) : plainD (.ip cs) = true := rfl
theorem plain_isl (n : Nat) (cs : List DV) : plainD (.isl n cs) = true := rfl
theorem plain_zsl : plainD .zsl = true := rfl
theorem plain_msl (b o n c : Nat) : plainD (.msl b o n c) = true := rfl
theorem plain_fn (f : Fn) (a b : List DV) : plainD (.fn f a b) = true := rfl
theorem plain_ifc (t : TypeId) (d : DV) : plainD (.ifc t d) = true := rfl
theorem plain_slI (l : List Int) : plainD (slI l) = true := rfl
theorem plain_slB (l : List Bool) : plainD (slB l) = true := rfl
theorem plain_slD {α : Type} (c : α → List DV) (l : List α) : plainD (slD c l) = true := rfl
theorem len_slI (l : List Int) : lenD (slI l) = some (.int .i64 l.length) := rfl
theorem len_slB (l : List Bool) : lenD (slB l) = some (.int .i64 l.length) := rfl
theorem len_slD {α : Type} (c : α → List DV) (l : List α) : lenD (slD c l) = some (.int .i64 l.length) := rfl
theorem cells_slI (l : List Int) : cellsD (slI l) = some [slI l] := rfl
theorem cells_slB (l : List Bool) : cellsD (slB l) = some [slB l] := rfl
theorem cells_slD {α : Type} (c : α → List DV) (l : List α) : cellsD (slD c l) = some [slD c l] := rfl
theorem lenN_slI (l : List Int) : lenN (slI l) = some l.length := rfl
theorem lenN_slB (l : List Bool) : lenN (slB l) = some l.length := rfl
theorem lenN_slD {α : Type} (c : α → List DV) (l : List α) : lenN (slD c l) = some l.length := rfl
theorem zeros_one (v : Value) (n : Nat) : zeros [v] n = List.replicate n v := by
  apply List.ext_getElem
  · simp [zeros]
  · intro i h1 h2
    simp [zeros, Nat.mod_one]
theorem zerosD_int (k : IntKind) (x : Int) (n : Nat) : (zeros (Value.cells (.int k x)).toList n).map of0 = List.replicate n (.int k x) := by
  rw [show (Value.cells (.int k x)).toList = [.int k x] from rfl, zeros_one, List.map_replicate, of0_int]
theorem zerosD_bool (b : Bool) (n : Nat) : (zeros (Value.cells (.bool b)).toList n).map of0 = List.replicate n (.bool b) := by
  rw [show (Value.cells (.bool b)).toList = [.bool b] from rfl, zeros_one, List.map_replicate, of0_bool]
theorem SubD.ins {M : DMem} {b : Nat} (B : DBlk) (h : M b = Option.none) : SubD M (M.ins b B) := fun x C hx => by
  have e : x ≠ b := by rintro rfl; rw [h] at hx; cases hx
  rw [DMem.ins_ne _ _ e]; exact hx
theorem OwnD.zsl (M : DMem) (sz : Nat) : OwnD M sz .zsl 0 [] := ⟨by simp, .inl ⟨rfl, rfl⟩⟩
theorem OwnD.cell {M : DMem} {sz n : Nat} {d : DV} {cs : List DV} (h : OwnD M sz d n cs) : cellsD d = some [d] := by
  obtain ⟨_, ⟨rfl, _⟩ | ⟨b, c, ty, rfl, _⟩⟩ := h <;> rfl
theorem OwnD.plain {M : DMem} {sz n : Nat} {d : DV} {cs : List DV} (h : OwnD M sz d n cs) : plainD d = true := by
  obtain ⟨_, ⟨rfl, _⟩ | ⟨b, c, ty, rfl, _⟩⟩ := h <;> rfl
theorem OwnD.len {M : DMem} {sz n : Nat} {d : DV} {cs : List DV} (h : OwnD M sz d n cs) : lenD d = some (.int .i64 n) := by
  obtain ⟨_, ⟨rfl, rfl⟩ | ⟨b, c, ty, rfl, _⟩⟩ := h <;> rfl
theorem OwnD.at {M : DMem} {sz n : Nat} {d : DV} {cs : List DV} (h : OwnD M sz d n cs) (h0 : 0 < n) : ∃ b c ty, d = .msl b 0 n c ∧ blkD d = some b ∧ M b = some ⟨ty, c * sz, cs⟩ ∧ n ≤ c := by
  obtain ⟨_, ⟨rfl, rfl⟩ | ⟨b, c, ty, rfl, h1, h2, h3⟩⟩ := h
  · omega
  · exact ⟨b, c, ty, rfl, by simp only [blkD]; rw [if_neg (by omega)], h1, h2⟩
theorem OwnD.keep {M M' : DMem} {sz n : Nat} {d : DV} {cs : List DV} (h : OwnD M sz d n cs) (hk : ∀ b, blkD d = some b → M' b = M b) : OwnD M' sz d n cs := by
  obtain ⟨hl, ⟨rfl, rfl⟩ | ⟨b, c, ty, rfl, h1, h2, h3⟩⟩ := h
  · exact ⟨hl, .inl ⟨rfl, rfl⟩⟩
  · exact ⟨hl, .inr ⟨b, c, ty, rfl, by rw [hk b (by simp only [blkD]; rw [if_neg (by omega)])]; exact h1, h2, h3⟩⟩
theorem OwnD.ins {M : DMem} {sz n b : Nat} {d : DV} {cs : List DV} (h : OwnD M sz d n cs) (hb : blkD d ≠ some b) (B : DBlk) : OwnD (M.ins b B) sz d n cs :=
  h.keep fun x hx => DMem.ins_ne _ _ (by rintro rfl; exact hb hx)
theorem OwnD.fz {M : DMem} {sz n : Nat} {d : DV} {cs : List DV} (h : OwnD M sz d n cs) (k : Nat) : Mw.fz M (k + 1) d = .isl n (cs.map (Mw.fz M k)) := by
  obtain ⟨hl, ⟨rfl, rfl⟩ | ⟨b, c, ty, rfl, h1, h2, h3⟩⟩ := h
  · have : cs = [] := by cases cs with | nil => rfl | cons => simp at hl
    subst this; exact fz_zsl _ _
  · rw [fz_msl h1 k 0 n c h2]; rfl
theorem OwnD.app {M : DMem} {e : TypeId} {sz n k : Nat} {d : DV} {cs news : List DV} {Post : DV → DMem → Prop} (h : OwnD M sz d n cs) (hl : news.length = k * sz)
    (hP : ∀ d' M', OwnD M' sz d' (n + k) (cs ++ news) → GrewD M M' d d' → Post d' M') : AppD M e sz d n k news Post := by
  obtain ⟨h0, ⟨rfl, rfl⟩ | ⟨b, c, ty, rfl, h1, h2, h3⟩⟩ := h
  · have hc : cs = [] := by cases cs with | nil => rfl | cons => simp at h0
    subst hc
    refine ⟨rfl, fun hk => ?_, fun hk b c M' hb hc hM => ?_⟩
    · subst hk
      have hn : news = [] := by cases news with | nil => rfl | cons => simp at hl
      subst hn
      exact hP _ _ ⟨by simp, .inl ⟨rfl, rfl⟩⟩ ⟨fun _ _ h _ => h, .inl rfl, fun _ h => .inl h⟩
    · subst hM
      have hbk : blkD (.msl b 0 k c) = some b := by simp only [blkD]; rw [if_neg (by omega)]
      refine hP _ _ ⟨by simp [hl], .inr ⟨b, c, e, by rw [Nat.zero_add], DMem.ins_same _ _ _, by omega, by omega⟩⟩ ⟨fun x B hx _ => (SubD.ins _ hb) x B hx, .inr ⟨b, hbk, hb⟩, fun x hx => ?_⟩
      by_cases hxb : x = b
      · subst hxb; exact .inr hbk
      · rw [DMem.ins_ne _ _ hxb] at hx; exact .inl hx
  · refine ⟨rfl, _, h1, by simp only; omega, by simp only; omega, h2, fun hk M' hM => ?_, fun hk b' c' M' hb hc hM => ?_⟩
    · subst hM
      have hs : splD cs (0 + n * sz) news = cs ++ news := by
        unfold splD
        rw [List.take_of_length_le (by omega), List.drop_eq_nil_of_le (by omega), List.append_nil]
      simp only [hs]
      refine hP _ _ ⟨by rw [List.length_append, h0, hl, Nat.add_mul], .inr ⟨b, c, ty, rfl, DMem.ins_same _ _ _, hk, h3⟩⟩ ⟨fun x B hx hne => ?_, .inl rfl, fun x hx => ?_⟩
      · rw [DMem.ins_ne]; exact hx
        rintro rfl; exact hne (by simp only [blkD]; rw [if_neg (by omega)])
      · by_cases hxb : x = b
        · subst hxb; exact .inr (by simp only [blkD]; rw [if_neg (by omega)])
        · rw [DMem.ins_ne _ _ hxb] at hx; exact .inl hx
    · subst hM
      have hs : (cs.drop 0).take (n * sz) = cs := by rw [List.drop_zero, List.take_of_length_le (by omega)]
      simp only [hs]
      have hbk : blkD (.msl b' 0 (n + k) c') = some b' := by simp only [blkD]; rw [if_neg (by omega)]
      refine hP _ _ ⟨by rw [List.length_append, h0, hl, Nat.add_mul], .inr ⟨b', c', e, rfl, DMem.ins_same _ _ _, hc, by omega⟩⟩ ⟨fun x B hx _ => (SubD.ins _ hb) x B hx, .inr ⟨b', hbk, hb⟩, fun x hx => ?_⟩
      by_cases hxb : x = b'
      · subst hxb; exact .inr hbk
      · rw [DMem.ins_ne _ _ hxb] at hx; exact .inl hx
theorem GrewD.blk {M M' : DMem} {d d' : DV} (h : GrewD M M' d d') {b : Nat} {B : DBlk} (hM : M b = some B) (hb : blkD d ≠ some b) : M' b = some B ∧ blkD d' ≠ some b := by
  refine ⟨h.keep b B hM hb, ?_⟩
  rcases h.here with e | ⟨q, e, hq⟩
  · rw [e]; exact hb
  · rw [e]; rintro hh; cases hh; rw [hM] at hq; cases hq
theorem GrewD.sub {M0 M M' : DMem} {d d' : DV} (h : GrewD M M' d d') (hs : SubD M0 M) (hf : ∀ p, blkD d = some p → M0 p = none) : SubD M0 M' ∧ ∀ p, blkD d' = some p → M0 p = none := by
  refine ⟨fun b B hb => h.keep b B (hs b B hb) (fun hh => by rw [hf b hh] at hb; cases hb), fun p hp => ?_⟩
  rcases h.here with e | ⟨q, e, hq⟩
  · exact hf p (by rw [← e]; exact hp)
  · rw [e] at hp; cases hp; exact hs.none hq
theorem and_low (x : Int) (i : Nat) (hi : i ≤ 62) : bits .and .i64 x ((2 ^ i - 1 : Nat) : Int) = (((BitVec.ofInt 64 x).toNat % 2 ^ i : Nat) : Int) := by
  have hp : 2 ^ i ≤ 2 ^ 62 := Nat.pow_le_pow_right (by decide) hi
  have hpos : 0 < 2 ^ i := Nat.two_pow_pos i
  have h2 : (BitVec.ofInt 64 ((2 ^ i - 1 : Nat) : Int)).toNat = 2 ^ i - 1 := by
    rw [BitVec.ofInt_natCast, BitVec.toNat_ofNat]; exact Nat.mod_eq_of_lt (by omega)
  show IntKind.i64.wrap ((BitVec.ofInt 64 x &&& BitVec.ofInt 64 ((2 ^ i - 1 : Nat) : Int)).toNat : Int) = _
  rw [BitVec.toNat_and, h2, Nat.and_two_pow_sub_one_eq_mod, IntKind.wrap_i64]
  have := Nat.mod_lt (BitVec.ofInt 64 x).toNat hpos
  omega
theorem and_bnd (x : Int) (i : Nat) (hi : i ≤ 62) : 0 ≤ bits .and .i64 x ((2 ^ i - 1 : Nat) : Int) ∧ bits .and .i64 x ((2 ^ i - 1 : Nat) : Int) < 2 ^ i := by
  rw [and_low x i hi]
  have := Nat.mod_lt (BitVec.ofInt 64 x).toNat (Nat.two_pow_pos i)
  refine ⟨by omega, ?_⟩
  exact_mod_cast this
theorem RepP.front {m : Mem} : ∀ {cs rest : List DV} {vs : List Value}, RepP m (cs ++ rest) vs → RepP m cs vs
  | [], _, _, _ => by simp [RepP]
  | _ :: _, _, [], h => by simp only [List.cons_append, RepP] at h
  | d :: cs, rest, v :: vs, h => by
    simp only [List.cons_append, RepP] at h ⊢
    exact ⟨h.1, RepP.front h.2⟩
theorem rep_isl {m : Mem} {n : Nat} {cs rest : List DV} {v : Value} (h : Rep m (.isl n (cs ++ rest)) v) : Rep m (.isl n cs) v := by
  simp only [Rep] at h ⊢
  obtain ⟨a, c, h1, h2, h3⟩ := h
  exact ⟨a, c, h1, h2, fun h0 => let ⟨b, o, ty, N, full, e1, e2, e3⟩ := h3 h0; ⟨b, o, ty, N, full, e1, e2, e3.front⟩⟩
theorem nilsK : isNils (.k (.slice none 0 0)) = true := rfl
theorem eqzM (ne : Bool) (b o n c : Nat) : eqzD ne (.msl b o n c) = some (.bool ne) := rfl
theorem eqzR (ne : Bool) (a : Option Addr) (n c : Nat) : eqzD ne (.raw (.slice a n c)) = some (.bool (if ne then a.isSome else a.isNone)) := rfl
end Go.Proofs.YtbiejiangdbcmaaDoor.Mw
namespace Go.Proofs.YtbiejiangdbcmaaDoor.Mw
open Go Go.RowKit
set_option linter.unusedVariables false
set_option linter.unusedSimpArgs false
def DMem.or (M M' : DMem) : DMem := fun b => match M b with
  | some B => some B
  | none => M' b
theorem DMem.or_left {M M' : DMem} {b : Nat} {B : DBlk} (h : M b = some B) : (M.or M') b = some B := by simp [DMem.or, h]
theorem DMem.or_right {M M' : DMem} {b : Nat} (h : M b = none) : (M.or M') b = M' b := by simp [DMem.or, h]
theorem SubD.or_left (M M' : DMem) : SubD M (M.or M') := fun b B h => DMem.or_left h
theorem SubD.or_right {M M' : DMem} (h : ∀ b, M b ≠ Option.none → M' b = Option.none) : SubD M' (M.or M') := fun b B hb => by
  cases hM : M b with
  | none => rw [DMem.or_right hM]; exact hb
  | some C => have := h b (by rw [hM]; simp); rw [this] at hb; cases hb
theorem PC.frame {P : Program} {f : FuncId} {ds : List DV} {R R' : DV → DMem → Prop} {M : DMem} (h : PC P f ds R DMem.mt)
    (hR : ∀ d M2, R d M2 → (∀ b, M b ≠ none → M2 b = none) → R' d (M.or M2)) : PC P f ds R' M := by
  intro F m vals hM hr hF ho
  refine (h m m vals (RepM.mt hM.glob) hr (Grows.refl m) (fun b hb => rfl)).mono ?_
  rintro v m' ⟨d, M2, h1, h2, h3, h4, h5, h6⟩
  have hdis : ∀ b, M b ≠ none → M2 b = none := fun b hb => h5 b (by
    obtain ⟨B, hB⟩ := Option.ne_none_iff_exists'.1 hb
    obtain ⟨vs, e, _⟩ := hM b B hB
    rw [e]; simp)
  refine ⟨d, M.or M2, h1, ⟨h2.glob, fun b B hb => ?_⟩, h3, hF.trans h4, fun b hb => ?_, hR d M2 h6 hdis⟩
  · cases hMb : M b with
    | none => rw [DMem.or_right hMb] at hb; exact h2 b B hb
    | some C =>
      rw [DMem.or_left hMb] at hb; cases hb
      obtain ⟨vs, e1, e2⟩ := hM b _ hMb
      exact ⟨vs, h4 _ _ e1, e2.mono h3⟩
  · have hMb := ho b hb
    obtain ⟨B, hB⟩ := Option.ne_none_iff_exists'.1 hb
    rw [DMem.or_right hMb]
    exact h5 b (by rw [hF b B hB]; simp)
mutual
def thawed : DV → Bool
  | .ip _ => false
  | .isl _ _ => false
  | .csl _ _ => false
  | .agg cs => thawedL cs
  | .tup cs => thawedL cs
  | .fn _ a b => thawedL a && thawedL b
  | .ifc _ d => thawed d
  | _ => true
def thawedL : List DV → Bool
  | [] => true
  | d :: ds => thawed d && thawedL ds
end
mutual
theorem thawed_ok {m m' : Mem} : ∀ {d : DV} {v : Value}, thawed d = true → Rep m d v → Rep m' d v
  | .int .., _, _, r | .bool .., _, _, r | .str .., _, _, r | .nilp, _, _, r | .mp .., _, _, r | .zsl, _, _, r | .msl .., _, _, r | .raw .., _, _, r => by simpa only [Rep] using r
  | .ip cs, v, h, r => by simp [thawed] at h
  | .isl n cs, v, h, r => by simp [thawed] at h
  | .csl n cs, v, h, r => by simp [thawed] at h
  | .agg cs, v, h, r => by
    simp only [Rep] at r ⊢
    obtain ⟨vs, h1, h2, h3⟩ := r
    exact ⟨vs, h1, thawedL_ok (by simpa [thawed] using h) h2, h3⟩
  | .tup cs, v, h, r => by
    simp only [Rep] at r ⊢
    obtain ⟨vs, h1, h2, h3⟩ := r
    exact ⟨vs, h1, thawedL_ok (by simpa [thawed] using h) h2, h3⟩
  | .fn f a b, v, h, r => by
    simp only [thawed, Bool.and_eq_true] at h
    simp only [Rep] at r ⊢
    obtain ⟨x, y, h1, h2, h3, h4, h5⟩ := r
    exact ⟨x, y, h1, thawedL_ok h.1 h2, h3, thawedL_ok h.2 h4, h5⟩
  | .ifc t d, v, h, r => by
    simp only [Rep] at r ⊢
    obtain ⟨x, h1, h2⟩ := r
    exact ⟨x, h1, thawed_ok (by simpa [thawed] using h) h2⟩
theorem thawedL_ok {m m' : Mem} : ∀ {ds : List DV} {vs : List Value}, thawedL ds = true → RepP m ds vs → RepP m' ds vs
  | [], _, _, _ => by simp only [RepP]
  | _ :: _, [], _, r => by simp only [RepP] at r
  | d :: ds, v :: vs, h, r => by
    simp only [thawedL, Bool.and_eq_true] at h
    simp only [RepP] at r ⊢
    exact ⟨thawed_ok h.1 r.1, thawedL_ok h.2 r.2⟩
end
theorem Blk.fits.low {lo lo' b : Nat} {B : Blk} {o : Option Obj} (h : B.fits lo b o) (hl : lo' ≤ lo) : B.fits lo' b o := by
  cases B with
  | cells ty n fin cs =>
    rcases h with ⟨h0, arr, fz, h1, h2, h3, h4, h5⟩ | ⟨h1, h2, q, h3, h4, h5⟩
    · exact .inl ⟨h0, arr, fz, h1, h2, h3, h4, fun hh => ⟨(h5 hh).1, Nat.le_trans hl (h5 hh).2⟩⟩
    · exact .inr ⟨h1, h2, q, h3, h4, fun hh => Nat.le_trans hl (h5 hh)⟩
  | obj x => exact ⟨h.1, Nat.le_trans hl h.2⟩
def Thaw (d : DV) (M : DMem) : Prop := thawed d = true ∧ ∀ b B, M b = some B → thawedL B.cs = true
theorem PC.seal {P : Program} {f : FuncId} {ds : List DV} {R R' : DV → DMem → Prop} {M : DMem} (h : PC P f (ds.map (fz M 4)) R DMem.mt) (ht : ∀ d M2, R d M2 → Thaw d M2)
    (hR : ∀ d M2, R d M2 → (∀ b, M b ≠ none → M2 b = none) → R' d (M.or M2)) : PC P f ds R' M := by
  intro F m vals hM hr hF ho
  have h1 := h (finA m) (finA m) vals (RepM.mt (hM.glob.mono ((sealM_fin M m).trans (finA_fin M m)))) ((fzL_map_ok hM 4 hr).mono (finA_fin M m)) (Grows.refl _) (fun b hb => rfl)
  refine ⟨h1.1, fun w0 w hs => ?_⟩
  have hs2 : Sat w w (finA m) := by
    refine ⟨Below.refl _ _, fun b B hb => ?_⟩
    unfold finA at hb
    split at hb
    · rename_i ty n fin cs hb'
      cases hb
      exact (hs.blk _ _ hb').tofin
    · cases hb
  refine (h1.2 w w hs2).mono ?_
  rintro e w' ⟨v, m', he, hs', d, M2, g1, g2, g3, g4, g5, g6⟩
  obtain ⟨t1, t2⟩ := ht d M2 g6
  have hnew : ∀ b, M2 b ≠ none → m b = none := fun b hb => by
    obtain ⟨B, hB⟩ := Option.ne_none_iff_exists'.1 hb
    obtain ⟨vs, e1, _⟩ := g2 b B hB
    have hge := (hs'.blk _ _ e1).lo
    cases hm : m b with
    | none => rfl
    | some C => have := hs.lt hm; omega
  have hMm : ∀ b, M b ≠ none → m b ≠ none := fun b hb => by
    obtain ⟨B, hB⟩ := Option.ne_none_iff_exists'.1 hb
    obtain ⟨vs, e, _⟩ := hM b B hB
    rw [e]; simp
  have hdis : ∀ b, M b ≠ none → M2 b = none := fun b hb => by
    cases h2 : M2 b with
    | none => rfl
    | some C => exact absurd (hnew b (by rw [h2]; simp)) (hMm b hb)
  let m2 : Mem := fun b => match m b with
    | some B => some B
    | none => m' b
  have hl : ∀ b B, m b = some B → m2 b = some B := fun b B hb => by simp only [m2, hb]
  have hr2 : ∀ b, m b = none → m2 b = m' b := fun b hb => by simp only [m2, hb]
  refine ⟨v, m2, he, ⟨hs.below.trans (hs'.below.mono hs.le), fun b B hb => ?_⟩, d, M.or M2, thawed_ok t1 g1, ⟨hM.glob.mono (show Grows m m2 from hl).toFin, fun b B hb => ?_⟩, (show Grows m m2 from hl).toFin, hF.trans hl, fun b hb => ?_, hR d M2 g6 hdis⟩
  · cases hm : m b with
    | some C =>
      rw [hl b C hm] at hb; cases hb
      rw [hs'.below.block b (hs.lt hm)]
      exact hs.blk b _ hm
    | none =>
      rw [hr2 b hm] at hb
      exact (hs'.blk b B hb).low hs.le
  · cases hMb : M b with
    | some C =>
      rw [DMem.or_left hMb] at hb; cases hb
      obtain ⟨vs, e1, e2⟩ := hM b _ hMb
      exact ⟨vs, hl _ _ e1, e2.mono (show Grows m m2 from hl).toFin⟩
    | none =>
      rw [DMem.or_right hMb] at hb
      obtain ⟨vs, e1, e2⟩ := g2 b B hb
      refine ⟨vs, by rw [hr2 b (hnew b (by rw [hb]; simp))]; exact e1, thawedL_ok (t2 b B hb) e2.1, e2.2⟩
  · obtain ⟨B, hB⟩ := Option.ne_none_iff_exists'.1 hb
    have hmb := hF b B hB
    rw [DMem.or_right (ho b hb)]
    cases h2 : M2 b with
    | none => rfl
    | some C => have := hnew b (by rw [h2]; simp); rw [hmb] at this; cases this
theorem PC.fin {P : Program} {f : FuncId} {ds : List DV} {R R' : DV → DMem → Prop} {M : DMem} (h : PC P f ds R M)
    (hR : ∀ d M1, R d M1 → ∃ M0 M2, SubD M0 M1 ∧ SubD M2 M1 ∧ (∀ b, M0 b ≠ none → M2 b = none) ∧ ∃ d', (∀ m v, Rep m (fz M2 4 d) v → Rep m d' v) ∧ R' d' M0) : PC P f ds R' M := by
  intro F m vals hM hr hF ho
  have h1 := h F m vals hM hr hF ho
  refine ⟨h1.1, fun w0 w hs => (h1.2 w0 w hs).mono ?_⟩
  rintro e w' ⟨v, m', he, hs', d, M1, g1, g2, g3, g4, g5, g6⟩
  obtain ⟨M0, M2, s0, s2, hdis, d', hd, hR'⟩ := hR d M1 g6
  have hM2 : RepM M2 m' := ⟨g2.glob, fun b B hb => g2 b B (s2 b B hb)⟩
  have hfin := sealM_fin M2 m'
  have hout : ∀ b, M2 b = none → sealM M2 m' b = m' b := fun b hb => by unfold sealM; rw [hb]
  refine ⟨v, sealM M2 m', he, hs'.sealM M2, d', M0, hd _ _ (fz_ok hM2 4 d v g1), ⟨g2.glob.mono hfin, fun b B hb => ?_⟩, g3.trans hfin, fun b B hb => ?_, fun b hb => s0.none (g5 b hb), hR'⟩
  · obtain ⟨vs, e1, e2⟩ := g2 b B (s0 b B hb)
    exact ⟨vs, by rw [hout b (hdis b (by rw [hb]; simp))]; exact e1, e2.mono hfin⟩
  · rw [hout b (s2.none (g5 b (by rw [hb]; simp)))]
    exact g4 b B hb
def Pt (P : Program) (f : FuncId) (ds : List DV) (d : DV) : Prop := PC P f ds (fun d0 M2 => Thaw d0 M2 ∧ ∀ m v, Rep m (fz M2 4 d0) v → Rep m d v) DMem.mt
theorem Pt.pc {P : Program} {f : FuncId} {ds : List DV} {d : DV} {M : DMem} (h : Pt P f (ds.map (fz M 4)) d) {R : DV → DMem → Prop} (hR : R d M) : PC P f ds R M := by
  refine PC.fin (R := fun d0 M1 => ∃ M2, SubD M M1 ∧ SubD M2 M1 ∧ (∀ b, M b ≠ none → M2 b = none) ∧ ∀ m v, Rep m (fz M2 4 d0) v → Rep m d v) ?_ fun d0 M1 ⟨M2, a, b, c, e⟩ => ⟨M, M2, a, b, c, d, e, hR⟩
  refine PC.seal h (fun d0 M2 hh => hh.1) fun d0 M2 hh hdis => ⟨M2, SubD.or_left _ _, SubD.or_right hdis, hdis, hh.2⟩
theorem app_isl {M : DMem} {e : TypeId} {sz bytes n k : Nat} {d : DV} {cs xs : List DV} {Post : DV → DMem → Prop} (h : OwnD M sz d n cs) (h0 : 0 < sz) (hx : xs.length = k * sz) (hp : xs.all plainD = true) (hb : (n + k) * bytes ≤ 140737488355328) (hn : n + k ≤ 9223372036854775807)
    (hP : ∀ d' M', OwnD M' sz d' (n + k) (cs ++ xs) → GrewD M M' d d' → Post d' M') :
    ∃ k' news, RowD M sz (.isl k xs) k' news ∧ news.all plainD = true ∧ ∃ n', (n' + k') * bytes ≤ 140737488355328 ∧ n' + k' ≤ 9223372036854775807 ∧ AppD M e sz d n' k' news Post :=
  ⟨k, xs, ⟨rfl, h0, by omega, by rw [List.take_of_length_le (by omega)]⟩, hp, n, hb, hn, h.app hx hP⟩
theorem OwnD.ix {M : DMem} {sz n i : Nat} {k : IntKind} {d : DV} {cs : List DV} (h : OwnD M sz d n cs) (hi : i < n) : ∃ b ty c, ixD sz d (.int k (i : Int)) = some (.mp b (i * sz)) ∧ M b = some ⟨ty, c * sz, cs⟩ ∧ blkD d = some b := by
  obtain ⟨b, c, ty, rfl, h1, h2, h3⟩ := h.at (by omega)
  exact ⟨b, ty, c, by rw [ixM hi]; simp, h2, h1⟩
theorem Pt.of {P : Program} {f : FuncId} {ds : List DV} {d : DV} (h : PC P f ds (fun d0 M' => ∃ M2, SubD M2 M' ∧ Thaw d0 M2 ∧ ∀ m v, Rep m (fz M2 4 d0) v → Rep m d v) DMem.mt) : Pt P f ds d :=
  PC.drop h fun d0 M' ⟨M2, h1, h2, h3⟩ => ⟨M2, h1, h2, h3⟩
theorem Thaw.one {d : DV} {b : Nat} {B : DBlk} (hd : thawed d = true) (hB : thawedL B.cs = true) : Thaw d (DMem.mt.ins b B) := by
  refine ⟨hd, fun x C hx => ?_⟩
  by_cases e : x = b
  · subst e; rw [DMem.ins_same] at hx; cases hx; exact hB
  · rw [DMem.ins_ne _ _ e] at hx; cases hx
theorem SubD.one {M : DMem} {b : Nat} {B : DBlk} (h : M b = some B) : SubD (DMem.mt.ins b B) M := fun x C hx => by
  by_cases e : x = b
  · subst e; rw [DMem.ins_same] at hx; cases hx; exact h
  · rw [DMem.ins_ne _ _ e] at hx; cases hx
def StoreD (M : DMem) (k : Nat) (a y : DV) (Post : DV → DMem → Prop) : Prop :=
  ∃ q, mpOf a = some q ∧ ∃ B, M q.1 = some B ∧ ∃ cs, cellsD y = some cs ∧ cs.length = k ∧ q.2 ≤ B.cs.length ∧ q.2 + k ≤ B.n ∧ cs.all plainD = true ∧
      ∀ M', M' = M.ins q.1 ⟨B.ty, B.n, splD B.cs q.2 cs⟩ → Post (.raw undef) M'
theorem wpDE_store {P : Program} {mu : Nat → Bool} {d : Option Nat} {k : Nat} {x y : Operand} {δ : DEnv} {Post : DV → DMem → Prop} {M : DMem} :
    wpDE P mu d (.store k x y) δ Post M = StoreD M k (δ.of x) (δ.of y) Post := rfl
def MakeD (M : DMem) (e : TypeId) (sz bytes : Nat) (z : Value) (x y : DV) (Post : DV → DMem → Prop) : Prop :=
  ∃ l, intOf x = some l ∧ ∃ c, intOf y = some c ∧ 0 ≤ l ∧ l ≤ c ∧ (bytes : Int) * c ≤ 281474976710656 ∧ c ≤ 9223372036854775807 ∧
      ∀ b M', M b = none → M' = M.ins b ⟨e, c.toNat * sz, (zeros z.cells.toList (l.toNat * sz)).map of0⟩ → Post (.msl b 0 l.toNat c.toNat) M'
theorem wpDE_make {P : Program} {mu : Nat → Bool} {d : Option Nat} {e : TypeId} {sz bytes : Nat} {z : Value} {x y : Operand} {δ : DEnv} {Post : DV → DMem → Prop} {M : DMem} :
    wpDE P mu d (.make e sz bytes z x y) δ Post M = MakeD M e sz bytes z (δ.of x) (δ.of y) Post := rfl
theorem grdTT (x : Option DV) : grdD true (.bool true) x = x := rfl
theorem grdFF (x : Option DV) : grdD false (.bool false) x = x := rfl
theorem grdTF (x : Option DV) : grdD true (.bool false) x = some (.raw undef) := rfl
theorem grdFT (x : Option DV) : grdD false (.bool true) x = some (.raw undef) := rfl
theorem grdU (w : Bool) (x : Option DV) : grdD w (.raw undef) x = some (.raw undef) := rfl
end Go.Proofs.YtbiejiangdbcmaaDoor.Mw
namespace Go.Proofs.YtbiejiangdbcmaaDoor.Mw
open Go Go.RowKit
theorem SW : type_of% (And.intro (And.intro (And.intro (And.intro (And.intro (And.intro (And.intro @wpDE.eq_1 (And.intro @wpDE.eq_2 @wpDE_store)) (And.intro @wpDE.eq_4 (And.intro @wpDE_make @wpDE.eq_6))) (And.intro (And.intro @wpDE.eq_7 (And.intro @wpDE.eq_8 @wpDE.eq_9)) (And.intro (And.intro @wpDE.eq_10 @wpDE.eq_11) (And.intro @dupds_nil @dupds_cons)))) (And.intro (And.intro (And.intro @dupdO_some (And.intro @dupdO_none @DEnv.upd_eq)) (And.intro @argD_0 (And.intro @argD_1 @argD_2))) (And.intro (And.intro @argD_3 (And.intro @argD_4 @argD_5)) (And.intro (And.intro @dof_tmp @dof_const) (And.intro @dof_func @ofV_int))))) (And.intro (And.intro (And.intro (And.intro @ofV_bool (And.intro @ofV_str @ofV_nilp)) (And.intro @ofV_nils (And.intro @ofV_func @ofV_agg))) (And.intro (And.intro @of0_int (And.intro @of0_bool @of0_str)) (And.intro (And.intro @of0_nilp @of0_nils) (And.intro @andI @orI)))) (And.intro (And.intro (And.intro @xorI (And.intro @shrI @shlI)) (And.intro @addU (And.intro @mulU @addD))) (And.intro (And.intro @subD (And.intro @mulD @remD)) (And.intro (And.intro @quoD @eqlD) (And.intro @neqD @lssD)))))) (And.intro (And.intro (And.intro (And.intro (And.intro @leqD (And.intro @gtrD @geqD)) (And.intro @eqbD_b (And.intro @nebD_b @eqsStr))) (And.intro (And.intro @nesStr (And.intro @notD @negD)) (And.intro (And.intro @cvtI64 @cvtU64) (And.intro @cvtU8 @cvtU32)))) (And.intro (And.intro (And.intro @cvtI32 (And.intro @pickB @andB)) (And.intro @orB (And.intro @andT @andF))) (And.intro (And.intro @orT (And.intro @orF @lenI)) (And.intro (And.intro @lenM @lenZ) (And.intro @plain_int @plain_bool))))) (And.intro (And.intro (And.intro (And.intro @plain_str (And.intro @plain_nilp @plain_mp)) (And.intro @plain_ip (And.intro @plain_isl @plain_zsl))) (And.intro (And.intro @plain_msl (And.intro @plain_fn @plain_ifc)) (And.intro (And.intro @plain_slI @plain_slB) (And.intro @plain_slD @mpOf_mp)))) (And.intro (And.intro (And.intro @intOf_int (And.intro @mslOf_msl @lenN_slI)) (And.intro @lenN_slB (And.intro @lenN_slD @zerosD_int))) (And.intro (And.intro @zerosD_bool (And.intro @lenN_isl @lenN_msl)) (And.intro (And.intro @lenN_zsl @eqnI) (And.intro @eqnM @eqnN))))))) (And.intro (And.intro (And.intro (And.intro (And.intro (And.intro @nckI (And.intro @nckM @faI)) (And.intro @faM (And.intro @ldI @ldM))) (And.intro (And.intro @ldnI2 (And.intro @ldnI3 @ldnM)) (And.intro (And.intro @extT @csT) (And.intro @fldA @tupT)))) (And.intro (And.intro (And.intro @mkfT (And.intro @bldT @cellsA)) (And.intro @cellsI (And.intro @cellsB @cellsS))) (And.intro (And.intro @cellsP (And.intro @cellsMp @cellsNp)) (And.intro (And.intro @cellsL @cellsZ) (And.intro @cellsM @cellsF))))) (And.intro (And.intro (And.intro (And.intro @bnd0 (And.intro @bnd1 @fz_int)) (And.intro @fz_bool (And.intro @fz_str @fz_nilp))) (And.intro (And.intro @fz_zsl (And.intro @fz_tup @fz_agg)) (And.intro (And.intro @fz_ip @fz_isl) (And.intro @fz_fn @fz_slI)))) (And.intro (And.intro (And.intro @fz_slB (And.intro @len_slI @len_slB)) (And.intro @len_slD (And.intro @cells_slI @cells_slB))) (And.intro (And.intro @cells_slD (And.intro @DMem.ins_none @DMem.ins_same)) (And.intro (And.intro @grdTT @grdFF) (And.intro @grdTF @grdFT)))))) (And.intro (And.intro (And.intro (And.intro (And.intro @grdU (And.intro @gOnT @gOnF)) (And.intro @gOnU (And.intro @nilsK @eqzM))) (And.intro (And.intro @eqzR (And.intro @List.all_cons.{0} @List.all_nil.{0})) (And.intro (And.intro @Int.toNat_natCast @List.take_zero.{0}) (And.intro @List.take_succ_cons.{0} @List.take_nil.{0})))) (And.intro (And.intro (And.intro @List.drop_nil.{0} (And.intro @List.append_nil.{0} @Nat.le_refl)) (And.intro @Nat.zero_le (And.intro @and_self @Nat.mul_one))) (And.intro (And.intro @Bool.not_false (And.intro @Bool.not_true @Option.map_some.{0,0})) (And.intro (And.intro @Option.isSome_some.{0} @Option.map_none.{0,0}) (And.intro @Option.getD_some.{0} @Option.getD_none.{0}))))) (And.intro (And.intro (And.intro (And.intro @true_and (And.intro @and_true @Bool.false_eq_true)) (And.intro @not_false_eq_true (And.intro @not_true_eq_false @Bool.or_false))) (And.intro (And.intro @Bool.or_true (And.intro @Bool.and_true @Bool.and_false)) (And.intro (And.intro @Bool.true_or @Bool.false_or) (And.intro @Bool.true_and @Bool.false_and)))) (And.intro (And.intro (And.intro @List.map_cons.{0,0} (And.intro @List.map_nil.{0,0} @List.drop_zero.{0})) (And.intro (And.intro @List.drop_succ_cons.{0} @List.cons_append.{0}) (And.intro @List.nil_append.{0} @List.getElem?_cons_zero.{0}))) (And.intro (And.intro @List.getElem?_cons_succ.{0} (And.intro @and_assoc @false_implies)) (And.intro (And.intro @Nat.add_zero @Nat.zero_add) (And.intro @List.length_cons.{0} @List.length_nil.{0})))))))) := (And.intro (And.intro (And.intro (And.intro (And.intro (And.intro (And.intro @wpDE.eq_1 (And.intro @wpDE.eq_2 @wpDE_store)) (And.intro @wpDE.eq_4 (And.intro @wpDE_make @wpDE.eq_6))) (And.intro (And.intro @wpDE.eq_7 (And.intro @wpDE.eq_8 @wpDE.eq_9)) (And.intro (And.intro @wpDE.eq_10 @wpDE.eq_11) (And.intro @dupds_nil @dupds_cons)))) (And.intro (And.intro (And.intro @dupdO_some (And.intro @dupdO_none @DEnv.upd_eq)) (And.intro @argD_0 (And.intro @argD_1 @argD_2))) (And.intro (And.intro @argD_3 (And.intro @argD_4 @argD_5)) (And.intro (And.intro @dof_tmp @dof_const) (And.intro @dof_func @ofV_int))))) (And.intro (And.intro (And.intro (And.intro @ofV_bool (And.intro @ofV_str @ofV_nilp)) (And.intro @ofV_nils (And.intro @ofV_func @ofV_agg))) (And.intro (And.intro @of0_int (And.intro @of0_bool @of0_str)) (And.intro (And.intro @of0_nilp @of0_nils) (And.intro @andI @orI)))) (And.intro (And.intro (And.intro @xorI (And.intro @shrI @shlI)) (And.intro @addU (And.intro @mulU @addD))) (And.intro (And.intro @subD (And.intro @mulD @remD)) (And.intro (And.intro @quoD @eqlD) (And.intro @neqD @lssD)))))) (And.intro (And.intro (And.intro (And.intro (And.intro @leqD (And.intro @gtrD @geqD)) (And.intro @eqbD_b (And.intro @nebD_b @eqsStr))) (And.intro (And.intro @nesStr (And.intro @notD @negD)) (And.intro (And.intro @cvtI64 @cvtU64) (And.intro @cvtU8 @cvtU32)))) (And.intro (And.intro (And.intro @cvtI32 (And.intro @pickB @andB)) (And.intro @orB (And.intro @andT @andF))) (And.intro (And.intro @orT (And.intro @orF @lenI)) (And.intro (And.intro @lenM @lenZ) (And.intro @plain_int @plain_bool))))) (And.intro (And.intro (And.intro (And.intro @plain_str (And.intro @plain_nilp @plain_mp)) (And.intro @plain_ip (And.intro @plain_isl @plain_zsl))) (And.intro (And.intro @plain_msl (And.intro @plain_fn @plain_ifc)) (And.intro (And.intro @plain_slI @plain_slB) (And.intro @plain_slD @mpOf_mp)))) (And.intro (And.intro (And.intro @intOf_int (And.intro @mslOf_msl @lenN_slI)) (And.intro @lenN_slB (And.intro @lenN_slD @zerosD_int))) (And.intro (And.intro @zerosD_bool (And.intro @lenN_isl @lenN_msl)) (And.intro (And.intro @lenN_zsl @eqnI) (And.intro @eqnM @eqnN))))))) (And.intro (And.intro (And.intro (And.intro (And.intro (And.intro @nckI (And.intro @nckM @faI)) (And.intro @faM (And.intro @ldI @ldM))) (And.intro (And.intro @ldnI2 (And.intro @ldnI3 @ldnM)) (And.intro (And.intro @extT @csT) (And.intro @fldA @tupT)))) (And.intro (And.intro (And.intro @mkfT (And.intro @bldT @cellsA)) (And.intro @cellsI (And.intro @cellsB @cellsS))) (And.intro (And.intro @cellsP (And.intro @cellsMp @cellsNp)) (And.intro (And.intro @cellsL @cellsZ) (And.intro @cellsM @cellsF))))) (And.intro (And.intro (And.intro (And.intro @bnd0 (And.intro @bnd1 @fz_int)) (And.intro @fz_bool (And.intro @fz_str @fz_nilp))) (And.intro (And.intro @fz_zsl (And.intro @fz_tup @fz_agg)) (And.intro (And.intro @fz_ip @fz_isl) (And.intro @fz_fn @fz_slI)))) (And.intro (And.intro (And.intro @fz_slB (And.intro @len_slI @len_slB)) (And.intro @len_slD (And.intro @cells_slI @cells_slB))) (And.intro (And.intro @cells_slD (And.intro @DMem.ins_none @DMem.ins_same)) (And.intro (And.intro @grdTT @grdFF) (And.intro @grdTF @grdFT)))))) (And.intro (And.intro (And.intro (And.intro (And.intro @grdU (And.intro @gOnT @gOnF)) (And.intro @gOnU (And.intro @nilsK @eqzM))) (And.intro (And.intro @eqzR (And.intro @List.all_cons.{0} @List.all_nil.{0})) (And.intro (And.intro @Int.toNat_natCast @List.take_zero.{0}) (And.intro @List.take_succ_cons.{0} @List.take_nil.{0})))) (And.intro (And.intro (And.intro @List.drop_nil.{0} (And.intro @List.append_nil.{0} @Nat.le_refl)) (And.intro @Nat.zero_le (And.intro @and_self @Nat.mul_one))) (And.intro (And.intro @Bool.not_false (And.intro @Bool.not_true @Option.map_some.{0,0})) (And.intro (And.intro @Option.isSome_some.{0} @Option.map_none.{0,0}) (And.intro @Option.getD_some.{0} @Option.getD_none.{0}))))) (And.intro (And.intro (And.intro (And.intro @true_and (And.intro @and_true @Bool.false_eq_true)) (And.intro @not_false_eq_true (And.intro @not_true_eq_false @Bool.or_false))) (And.intro (And.intro @Bool.or_true (And.intro @Bool.and_true @Bool.and_false)) (And.intro (And.intro @Bool.true_or @Bool.false_or) (And.intro @Bool.true_and @Bool.false_and)))) (And.intro (And.intro (And.intro @List.map_cons.{0,0} (And.intro @List.map_nil.{0,0} @List.drop_zero.{0})) (And.intro (And.intro @List.drop_succ_cons.{0} @List.cons_append.{0}) (And.intro @List.nil_append.{0} @List.getElem?_cons_zero.{0}))) (And.intro (And.intro @List.getElem?_cons_succ.{0} (And.intro @and_assoc @false_implies)) (And.intro (And.intro @Nat.add_zero @Nat.zero_add) (And.intro @List.length_cons.{0} @List.length_nil.{0}))))))))
theorem SV : type_of% (And.intro (And.intro (And.intro (And.intro @List.contains_cons.{0} @List.contains_nil.{0}) (And.intro @Option.bind_some.{0,0} (And.intro @Option.some.injEq.{0} @exists_eq_left'.{1}))) (And.intro (And.intro @exists_eq_left.{1} @if_false.{1}) (And.intro @if_true.{1} (And.intro decide_true decide_false)))) (And.intro (And.intro (And.intro @DV.bool.injEq @DV.int.injEq) (And.intro @DV.mp.injEq (And.intro @DV.msl.injEq @DV.tup.injEq))) (And.intro (And.intro @DV.agg.injEq (And.intro @DV.fn.injEq @true_implies)) (And.intro @forall_const.{1} (And.intro @implies_true.{1} @ne_eq.{1}))))) := (And.intro (And.intro (And.intro (And.intro @List.contains_cons.{0} @List.contains_nil.{0}) (And.intro @Option.bind_some.{0,0} (And.intro @Option.some.injEq.{0} @exists_eq_left'.{1}))) (And.intro (And.intro @exists_eq_left.{1} @if_false.{1}) (And.intro @if_true.{1} (And.intro decide_true decide_false)))) (And.intro (And.intro (And.intro @DV.bool.injEq @DV.int.injEq) (And.intro @DV.mp.injEq (And.intro @DV.msl.injEq @DV.tup.injEq))) (And.intro (And.intro @DV.agg.injEq (And.intro @DV.fn.injEq @true_implies)) (And.intro @forall_const.{1} (And.intro @implies_true.{1} @ne_eq.{1})))))
end Go.Proofs.YtbiejiangdbcmaaDoor.Mw
namespace Go.Proofs.YtbiejiangdbcmaaDoor.Mw
open Go Go.RowKit
set_option linter.unusedVariables false
set_option linter.unusedSimpArgs false
def ImpL (ds es : List DV) : Prop := ∀ m vs, RepL m ds vs → RepL m es vs
def Imp (d e : DV) : Prop := ∀ m v, Rep m d v → Rep m e v
theorem Imp.refl (d : DV) : Imp d d := fun _ _ h => h
theorem ImpL.refl (ds : List DV) : ImpL ds ds := fun _ _ h => h
theorem ImpL.cons {d e : DV} {ds es : List DV} (h : Imp d e) (k : ImpL ds es) : ImpL (d :: ds) (e :: es) := fun m vs r => by
  cases vs with
  | nil => have := r.2; simp at this
  | cons v vs =>
    have r1 := r.1
    simp only [RepP] at r1
    exact (k m vs ⟨r1.2, by simpa using r.2⟩).cons (h m v r1.1)
theorem Imp.agg {ds es : List DV} (h : ImpL ds es) : Imp (.agg ds) (.agg es) := fun m v r => by
  simp only [Rep] at r ⊢
  obtain ⟨vs, h1, h2, h3⟩ := r
  obtain ⟨g1, g2⟩ := h m vs ⟨h2, h3⟩
  exact ⟨vs, h1, g1, g2⟩
theorem Imp.tup {ds es : List DV} (h : ImpL ds es) : Imp (.tup ds) (.tup es) := fun m v r => by
  simp only [Rep] at r ⊢
  obtain ⟨vs, h1, h2, h3⟩ := r
  obtain ⟨g1, g2⟩ := h m vs ⟨h2, h3⟩
  exact ⟨vs, h1, g1, g2⟩
theorem Imp.isl {n : Nat} {cs rest : List DV} : Imp (.isl n (cs ++ rest)) (.isl n cs) := fun m v h => rep_isl h
theorem Pf.weak {P : Program} {f : FuncId} {ds es : List DV} {v : Value} (h : Pf P f es v) (hi : ImpL ds es) : Pf P f ds v := fun m vals g r => h m vals g (hi m vals r)
theorem PC.weak {P : Program} {f : FuncId} {ds es : List DV} {R : DV → DMem → Prop} {M : DMem} (h : PC P f es R M) (hi : ImpL ds es) : PC P f ds R M :=
  fun F m vals h1 h2 h3 h4 => h F m vals h1 (hi m vals h2) h3 h4
theorem Pu.weak {P : Program} {f : FuncId} {ds es : List DV} {d : DV} (h : Pu P f es d) (hi : ImpL ds es) : Pu P f ds d := fun m vals g r => h m vals g (hi m vals r)
theorem Pt.weak {P : Program} {f : FuncId} {ds es : List DV} {d : DV} (h : Pt P f es d) (hi : ImpL ds es) : Pt P f ds d := PC.weak h hi
end Go.Proofs.YtbiejiangdbcmaaDoor.Mw
namespace Go.Proofs.YtbiejiangdbcmaaDoor.Mw
open Go Go.RowKit
set_option linter.unusedVariables false
set_option linter.unusedSimpArgs false
structure El (α : Type) where
  sz : Nat
  c : α → List DV
  k : Nat
  rep : DMem → α → List DV → List Nat → Prop
structure El.Ok {α : Type} (E : El α) : Prop where
  pos : 0 < E.sz
  len : ∀ {M x cs S}, E.rep M x cs S → cs.length = E.sz
  clen : ∀ x, (E.c x).length = E.sz
  frame : ∀ {M M' x cs S}, E.rep M x cs S → (∀ b ∈ S, M' b = M b) → E.rep M' x cs S
  fz : ∀ {M x cs S k}, E.rep M x cs S → E.k ≤ k → cs.map (fz M k) = E.c x
  plain : ∀ {M x cs S}, E.rep M x cs S → cs.all plainD = true
  here : ∀ {M x cs S}, E.rep M x cs S → ∀ b ∈ S, M b ≠ none
variable {α : Type} {E : El α}
def RowAt (E : El α) (M : DMem) : List α → List DV → List Nat → Prop
  | [], cs, S => cs = [] ∧ S = []
  | x :: xs, cs, S => ∃ c1 c2 S1 S2, cs = c1 ++ c2 ∧ S = S1 ++ S2 ∧ E.rep M x c1 S1 ∧ RowAt E M xs c2 S2
theorem RowAt.len (hE : E.Ok) {M : DMem} : ∀ {xs : List α} {cs : List DV} {S : List Nat}, RowAt E M xs cs S → cs.length = xs.length * E.sz
  | [], cs, S, h => by rw [h.1]; simp
  | x :: xs, cs, S, ⟨c1, c2, S1, S2, e1, e2, h1, h2⟩ => by
    rw [e1, List.length_append, hE.len h1, RowAt.len hE h2, List.length_cons, Nat.add_mul]; omega
theorem RowAt.frame (hE : E.Ok) {M M' : DMem} : ∀ {xs : List α} {cs : List DV} {S : List Nat}, RowAt E M xs cs S → (∀ b ∈ S, M' b = M b) → RowAt E M' xs cs S
  | [], cs, S, h, _ => h
  | x :: xs, cs, S, ⟨c1, c2, S1, S2, e1, e2, h1, h2⟩, hk => ⟨c1, c2, S1, S2, e1, e2, hE.frame h1 fun b hb => hk b (by rw [e2]; exact List.mem_append_left _ hb), RowAt.frame hE h2 fun b hb => hk b (by rw [e2]; exact List.mem_append_right _ hb)⟩
theorem RowAt.fz (hE : E.Ok) {M : DMem} {k : Nat} (hk : E.k ≤ k) : ∀ {xs : List α} {cs : List DV} {S : List Nat}, RowAt E M xs cs S → cs.map (fz M k) = xs.flatMap E.c
  | [], cs, S, h => by rw [h.1]; rfl
  | x :: xs, cs, S, ⟨c1, c2, S1, S2, e1, e2, h1, h2⟩ => by
    rw [e1, List.map_append, hE.fz h1 hk, RowAt.fz hE hk h2]; rfl
theorem RowAt.plain (hE : E.Ok) {M : DMem} : ∀ {xs : List α} {cs : List DV} {S : List Nat}, RowAt E M xs cs S → cs.all plainD = true
  | [], cs, S, h => by rw [h.1]; rfl
  | x :: xs, cs, S, ⟨c1, c2, S1, S2, e1, e2, h1, h2⟩ => by
    rw [e1, List.all_append, hE.plain h1, RowAt.plain hE h2]; rfl
theorem RowAt.here (hE : E.Ok) {M : DMem} : ∀ {xs : List α} {cs : List DV} {S : List Nat}, RowAt E M xs cs S → ∀ b ∈ S, M b ≠ none
  | [], cs, S, h, b, hb => by rw [h.2] at hb; simp at hb
  | x :: xs, cs, S, ⟨c1, c2, S1, S2, e1, e2, h1, h2⟩, b, hb => by
    rw [e2] at hb
    rcases List.mem_append.1 hb with hb | hb
    · exact hE.here h1 b hb
    · exact RowAt.here hE h2 b hb
theorem RowAt.append {M : DMem} : ∀ {xs ys : List α} {cs ds : List DV} {S T : List Nat}, RowAt E M xs cs S → RowAt E M ys ds T → RowAt E M (xs ++ ys) (cs ++ ds) (S ++ T)
  | [], ys, cs, ds, S, T, h, h' => by rw [h.1, h.2]; simpa using h'
  | x :: xs, ys, cs, ds, S, T, ⟨c1, c2, S1, S2, e1, e2, h1, h2⟩, h' =>
    ⟨c1, c2 ++ ds, S1, S2 ++ T, by rw [e1, List.append_assoc], by rw [e2, List.append_assoc], h1, RowAt.append h2 h'⟩
theorem RowAt.nil {M : DMem} : RowAt E M [] [] [] := ⟨rfl, rfl⟩
theorem RowAt.one {M : DMem} {x : α} {cs : List DV} {S : List Nat} (h : E.rep M x cs S) : RowAt E M [x] cs S := ⟨cs, [], S, [], by simp, by simp, h, rfl, rfl⟩
theorem RowAt.get (hE : E.Ok) {M : DMem} : ∀ {xs : List α} {cs : List DV} {S : List Nat} {i : Nat}, RowAt E M xs cs S → (hi : i < xs.length) →
    ∃ c1 cx c2 S1 Sx S2, cs = c1 ++ cx ++ c2 ∧ S = S1 ++ Sx ++ S2 ∧ c1.length = i * E.sz ∧ E.rep M xs[i] cx Sx ∧ RowAt E M (xs.take i) c1 S1 ∧ RowAt E M (xs.drop (i + 1)) c2 S2
  | [], _, _, _, _, hi => absurd hi (by simp)
  | x :: xs, cs, S, 0, ⟨c1, c2, S1, S2, e1, e2, h1, h2⟩, _ => ⟨[], c1, c2, [], S1, S2, by simpa using e1, by simpa using e2, by simp, h1, RowAt.nil, h2⟩
  | x :: xs, cs, S, i + 1, ⟨c1, c2, S1, S2, e1, e2, h1, h2⟩, hi => by
    obtain ⟨d1, dx, d2, T1, Tx, T2, f1, f2, f3, f4, f5, f6⟩ := RowAt.get hE (i := i) h2 (by simpa using hi)
    exact ⟨c1 ++ d1, dx, d2, S1 ++ T1, Tx, T2, by rw [e1, f1]; simp only [List.append_assoc], by rw [e2, f2]; simp only [List.append_assoc], by rw [List.length_append, f3, hE.len h1, Nat.add_mul]; omega, f4, ⟨c1, d1, S1, T1, rfl, rfl, h1, f5⟩, f6⟩
theorem RowAt.put {M : DMem} {xs : List α} {i : Nat} (hi : i < xs.length) {y : α} {c1 cy c2 : List DV} {S1 Sy S2 : List Nat} (h1 : RowAt E M (xs.take i) c1 S1) (hy : E.rep M y cy Sy) (h2 : RowAt E M (xs.drop (i + 1)) c2 S2) : RowAt E M (xs.set i y) (c1 ++ cy ++ c2) (S1 ++ Sy ++ S2) := by
  have e : xs.set i y = xs.take i ++ [y] ++ xs.drop (i + 1) := by rw [List.set_eq_take_append_cons_drop, if_pos hi]; simp
  rw [e]
  exact (h1.append (RowAt.one hy)).append h2
def SlAt (E : El α) (M : DMem) (d : DV) (xs : List α) (S : List Nat) : Prop :=
  (d = .zsl ∧ xs = [] ∧ S = []) ∨ ∃ b c ty cs S', d = .msl b 0 xs.length c ∧ M b = some ⟨ty, c * E.sz, cs⟩ ∧ RowAt E M xs cs S' ∧ S = b :: S' ∧ xs.length ≤ c ∧ 0 < c
theorem SlAt.nil {M : DMem} : SlAt E M .zsl [] [] := .inl ⟨rfl, rfl, rfl⟩
theorem SlAt.lenD {M : DMem} {d : DV} {xs : List α} {S : List Nat} (h : SlAt E M d xs S) : Mw.lenD d = some (.int .i64 xs.length) := by
  obtain ⟨rfl, rfl, _⟩ | ⟨b, c, ty, cs, S', rfl, _⟩ := h <;> rfl
theorem SlAt.lenN {M : DMem} {d : DV} {xs : List α} {S : List Nat} (h : SlAt E M d xs S) : Mw.lenN d = some xs.length := by
  obtain ⟨rfl, rfl, _⟩ | ⟨b, c, ty, cs, S', rfl, _⟩ := h <;> rfl
theorem SlAt.cell {M : DMem} {d : DV} {xs : List α} {S : List Nat} (h : SlAt E M d xs S) : cellsD d = some [d] := by
  obtain ⟨rfl, rfl, _⟩ | ⟨b, c, ty, cs, S', rfl, _⟩ := h <;> rfl
theorem SlAt.plain {M : DMem} {d : DV} {xs : List α} {S : List Nat} (h : SlAt E M d xs S) : plainD d = true := by
  obtain ⟨rfl, rfl, _⟩ | ⟨b, c, ty, cs, S', rfl, _⟩ := h <;> rfl
theorem SlAt.frame (hE : E.Ok) {M M' : DMem} {d : DV} {xs : List α} {S : List Nat} (h : SlAt E M d xs S) (hk : ∀ b ∈ S, M' b = M b) : SlAt E M' d xs S := by
  obtain ⟨h1, h2, h3⟩ | ⟨b, c, ty, cs, S', h1, h2, h3, h4, h5, h6⟩ := h
  · exact .inl ⟨h1, h2, h3⟩
  · refine .inr ⟨b, c, ty, cs, S', h1, by rw [hk b (by simp [h4])]; exact h2, h3.frame hE fun x hx => hk x (by simp [h4, hx]), h4, h5, h6⟩
theorem SlAt.fz (hE : E.Ok) {M : DMem} {d : DV} {xs : List α} {S : List Nat} (h : SlAt E M d xs S) {k : Nat} (hk : E.k ≤ k) : Mw.fz M (k + 1) d = slD E.c xs := by
  obtain ⟨rfl, rfl, _⟩ | ⟨b, c, ty, cs, S', rfl, h2, h3, h4, h5, h6⟩ := h
  · exact fz_zsl _ _
  · rw [fz_msl h2 k 0 _ _ h5, List.drop_zero, h3.fz hE hk]; rfl
theorem SlAt.here (hE : E.Ok) {M : DMem} {d : DV} {xs : List α} {S : List Nat} (h : SlAt E M d xs S) : ∀ b ∈ S, M b ≠ none := by
  obtain ⟨_, _, rfl⟩ | ⟨b, c, ty, cs, S', rfl, h2, h3, rfl, h5, h6⟩ := h
  · intro b hb; simp at hb
  · intro x hx
    rcases List.mem_cons.1 hx with rfl | hx
    · rw [h2]; simp
    · exact h3.here hE x hx
theorem SlAt.at {M : DMem} {d : DV} {xs : List α} {S : List Nat} (h : SlAt E M d xs S) (h0 : 0 < xs.length) : ∃ b c ty cs S', d = .msl b 0 xs.length c ∧ M b = some ⟨ty, c * E.sz, cs⟩ ∧ RowAt E M xs cs S' ∧ S = b :: S' ∧ xs.length ≤ c := by
  obtain ⟨_, rfl, _⟩ | ⟨b, c, ty, cs, S', h1, h2, h3, h4, h5, h6⟩ := h
  · simp at h0
  · exact ⟨b, c, ty, cs, S', h1, h2, h3, h4, h5⟩
theorem SlAt.own (hE : E.Ok) {M : DMem} {d : DV} {xs : List α} {S : List Nat} (h : SlAt E M d xs S) : ∃ cs S', OwnD M E.sz d xs.length cs ∧ RowAt E M xs cs S' ∧ ((blkD d = none ∧ S = S') ∨ ∃ b, blkD d = some b ∧ S = b :: S') := by
  obtain ⟨rfl, rfl, rfl⟩ | ⟨b, c, ty, cs, S', rfl, h2, h3, h4, h5, h6⟩ := h
  · exact ⟨[], [], OwnD.zsl _ _, RowAt.nil, .inl ⟨rfl, rfl⟩⟩
  · exact ⟨cs, S', ⟨h3.len hE, .inr ⟨b, c, ty, rfl, h2, h5, h6⟩⟩, h3, .inr ⟨b, by simp only [blkD]; rw [if_neg (by omega)], h4⟩⟩
theorem SlAt.app (hE : E.Ok) {M : DMem} {d : DV} {xs ys : List α} {S T : List Nat} {e : TypeId} {bytes k : Nat} {ds : List DV} {Post : DV → DMem → Prop} (h : SlAt E M d xs S) (hS : S.Nodup)
    (hy : RowAt E M ys ds T) (hT : ∀ b ∈ T, b ∉ S) (hk : ys.length = k) (hb : (xs.length + k) * bytes ≤ 140737488355328) (hn : xs.length + k ≤ 9223372036854775807)
    (hP : ∀ d' M' S', SlAt E M' d' (xs ++ ys) S' → (∀ b B, M b = some B → b ∉ S → M' b = some B) → (∀ b ∈ S', b ∈ S ∨ b ∈ T ∨ M b = none) → (T.Nodup → S'.Nodup) → Post d' M') :
    ∃ k' news, RowD M E.sz (.isl k ds) k' news ∧ news.all plainD = true ∧ ∃ n', (n' + k') * bytes ≤ 140737488355328 ∧ n' + k' ≤ 9223372036854775807 ∧ AppD M e E.sz d n' k' news Post := by
  obtain ⟨cs, S0, ho, hr, hbl⟩ := h.own hE
  have hyl := hy.len hE
  rw [hk] at hyl
  refine app_isl ho hE.pos hyl (hy.plain hE) hb hn fun d' M' ho' hg => ?_
  have hS0 : ∀ b ∈ S0, b ∈ S ∧ blkD d ≠ some b := by
    rcases hbl with ⟨e1, e2⟩ | ⟨b0, e1, e2⟩
    · intro b hb; exact ⟨by rw [e2]; exact hb, by rw [e1]; simp⟩
    · intro b hb
      refine ⟨by rw [e2]; exact List.mem_cons_of_mem _ hb, fun hh => ?_⟩
      rw [e1] at hh; cases hh
      rw [e2] at hS
      exact (List.nodup_cons.1 hS).1 hb
  have hTb : ∀ b ∈ T, blkD d ≠ some b := fun b hb hh => by
    rcases hbl with ⟨e1, e2⟩ | ⟨b0, e1, e2⟩
    · rw [e1] at hh; cases hh
    · rw [e1] at hh; cases hh
      exact hT b hb (by rw [e2]; simp)
  have keepS : ∀ b ∈ S0, M' b = M b := fun b hb => by
    obtain ⟨B, hB⟩ := Option.ne_none_iff_exists'.1 (hr.here hE b hb)
    rw [hB]; exact hg.keep b B hB (hS0 b hb).2
  have keepT : ∀ b ∈ T, M' b = M b := fun b hb => by
    obtain ⟨B, hB⟩ := Option.ne_none_iff_exists'.1 (hy.here hE b hb)
    rw [hB]; exact hg.keep b B hB (hTb b hb)
  have hrow := (hr.frame hE keepS).append (hy.frame hE keepT)
  have hkeep : ∀ b B, M b = some B → b ∉ S → M' b = some B := fun b B hB hb => hg.keep b B hB fun hh => by
    rcases hbl with ⟨e1, e2⟩ | ⟨b0, e1, e2⟩
    · rw [e1] at hh; cases hh
    · rw [e1] at hh; cases hh
      exact hb (by rw [e2]; simp)
  have hndS0 : S0.Nodup := by
    rcases hbl with ⟨_, e2⟩ | ⟨b0, _, e2⟩
    · rw [e2] at hS; exact hS
    · rw [e2] at hS; exact (List.nodup_cons.1 hS).2
  have hnd : T.Nodup → (S0 ++ T).Nodup := fun ht => List.nodup_append.2 ⟨hndS0, ht, fun a ha b hb => by
    rintro rfl; exact hT a hb (hS0 a ha).1⟩
  obtain ⟨hcl, ⟨rfl, hz⟩ | ⟨b', c', ty', rfl, hM', hle, hpos⟩⟩ := ho'
  · have h0 : xs.length = 0 ∧ k = 0 := by omega
    have ex : xs = [] := List.eq_nil_of_length_eq_zero h0.1
    have ey : ys = [] := List.eq_nil_of_length_eq_zero (by omega)
    subst ex; subst ey
    exact hP _ _ [] (.inl ⟨rfl, rfl, rfl⟩) hkeep (fun b hb => by simp at hb) (fun _ => List.nodup_nil)
  · have hbk : blkD (.msl b' 0 (xs.length + k) c') = some b' := by simp only [blkD]; rw [if_neg (by omega)]
    have hb' : b' ∉ S0 ++ T ∧ (b' ∈ S ∨ M b' = none) := by
      rcases hg.here with e | ⟨q, e, hq⟩
      · rw [hbk] at e
        refine ⟨fun hh => ?_, .inl ?_⟩
        · rcases List.mem_append.1 hh with hh | hh
          · exact (hS0 b' hh).2 e.symm
          · exact hTb b' hh e.symm
        · rcases hbl with ⟨e1, _⟩ | ⟨b0, e1, e2⟩
          · rw [e1] at e; cases e
          · rw [e1] at e; cases e; rw [e2]; simp
      · rw [hbk] at e; cases e
        refine ⟨fun hh => ?_, .inr hq⟩
        rcases List.mem_append.1 hh with hh | hh
        · exact hr.here hE b' hh hq
        · exact hy.here hE b' hh hq
    refine hP _ _ (b' :: (S0 ++ T)) (.inr ⟨b', c', ty', cs ++ ds, S0 ++ T, by rw [List.length_append, hk], hM', hrow, rfl, by rw [List.length_append, hk]; exact hle, hpos⟩) hkeep (fun b hb => ?_) (fun ht => List.nodup_cons.2 ⟨hb'.1, hnd ht⟩)
    rcases List.mem_cons.1 hb with rfl | hb
    · rcases hb'.2 with h | h
      · exact .inl h
      · exact .inr (.inr h)
    · rcases List.mem_append.1 hb with hb | hb
      · exact .inl (hS0 b hb).1
      · exact .inr (.inl hb)
def intE : El Int := ⟨1, fun x => [.int .i64 x], 0, fun _ x cs S => cs = [.int .i64 x] ∧ S = []⟩
def flatE (c : α → List DV) (sz : Nat) : El α := ⟨sz, c, 0, fun _ x cs S => cs = c x ∧ S = []⟩
theorem RowAt.flat {c : α → List DV} {sz : Nat} {M : DMem} : ∀ {xs : List α}, RowAt (flatE c sz) M xs (xs.flatMap c) []
  | [] => ⟨rfl, rfl⟩
  | x :: xs => ⟨c x, xs.flatMap c, [], [], rfl, rfl, ⟨rfl, rfl⟩, RowAt.flat⟩
theorem SlAt.or (hE : E.Ok) {M M2 : DMem} {d : DV} {xs : List α} {S : List Nat} (h : SlAt E M2 d xs S) (hd : ∀ b, M b ≠ none → M2 b = none) : SlAt E (M.or M2) d xs S ∧ ∀ b ∈ S, M b = none := by
  have hn : ∀ b ∈ S, M b = none := fun b hb => by
    cases hM : M b with
    | none => rfl
    | some C => exact absurd (hd b (by rw [hM]; simp)) (h.here hE b hb)
  exact ⟨h.frame hE fun b hb => DMem.or_right (hn b hb), hn⟩
theorem SlAt.sub (hE : E.Ok) {M M' : DMem} {d : DV} {xs : List α} {S : List Nat} (h : SlAt E M d xs S) (hs : SubD M M') : SlAt E M' d xs S :=
  h.frame hE fun b hb => by
    obtain ⟨B, hB⟩ := Option.ne_none_iff_exists'.1 (h.here hE b hb)
    rw [hs b B hB, hB]
end Go.Proofs.YtbiejiangdbcmaaDoor.Mw
namespace Go.Proofs.YtbiejiangdbcmaaDoor.Mw
open Go Go.RowKit
set_option linter.unusedVariables false
set_option linter.unusedSimpArgs false
section
variable {P : Program} {K : DV → DMem → Prop} {δ : DEnv} {M : DMem}
theorem effPure {o : Oper} (h : ∀ (ρ : Env) (m : Mem) (w0 w : World) (a : Act), (∀ i, Rep m (δ i) (ρ i)) → RepM M m → Sat w0 w m → (∀ x ∈ o.op.operands, a.eval x = ρ.of x) → ∃ v d, (execOp a.eval o).run P w = .ok (.value v) w ∧ Rep m d v ∧ K d M) : EffD P o K δ M := by
  intro F m0 ρ m hI
  refine EffM.of fun w0 w a hs ha => ?_
  obtain ⟨v, d, h1, h2, h3⟩ := h ρ m w0 w a hI.env hI.mem hs ha
  exact ⟨v, w, m, h1, hs, d, M, ⟨h2, hI.mem, Fin.refl m, hI.keep, hI.own⟩, h3⟩
theorem effEqNil {o : Oper} {x : Nat} {s t : TypeId} (ho : o.op = .binOp .eql t (.tmp x) (.const .nilIface) s) (hu : P.underlying t = some (.interface (P.methodsAt t))) {b : Bool} (hb : (b = true ∧ δ x = .raw .nilIface) ∨ (b = false ∧ ∃ t d, δ x = .ifc t d)) (hK : K (.bool b) M) : EffD P o K δ M := by
  refine effPure fun ρ m w0 w a hr hM hs ha => ⟨.bool b, .bool b, ?_, by simp only [Rep], hK⟩
  have h41 : a.eval (.tmp x) = ρ x := ha _ (by simp [ho, Op.operands])
  replace hr := hr x
  rcases hb with ⟨rfl, h⟩ | ⟨rfl, t', d, h⟩
  · rw [h] at hr
    simp only [Rep] at hr
    rw [hr] at h41
    have h2 := run_eql_nil_nil (P := P) (w := w) t hu
    simp only [Act.eval] at h41
    simp [execOp, ho, h41, Act.eval, h2, Result.andThen, eqGuard]
  · rw [h] at hr
    simp only [Rep] at hr
    obtain ⟨y, hy, _⟩ := hr
    rw [hy] at h41
    have h2 := run_eql_held_nil (P := P) (w := w) t t' y hu
    simp only [Act.eval] at h41
    simp [execOp, ho, h41, Act.eval, h2, Result.andThen, eqGuard]
theorem effNeNil {o : Oper} {x : Nat} {s t : TypeId} (ho : o.op = .binOp .neq t (.tmp x) (.const .nilIface) s) (hu : P.underlying t = some (.interface (P.methodsAt t))) {b : Bool} (hb : (b = false ∧ δ x = .raw .nilIface) ∨ (b = true ∧ ∃ t d, δ x = .ifc t d)) (hK : K (.bool b) M) : EffD P o K δ M := by
  refine effPure fun ρ m w0 w a hr hM hs ha => ⟨.bool b, .bool b, ?_, by simp only [Rep], hK⟩
  have h41 : a.eval (.tmp x) = ρ x := ha _ (by simp [ho, Op.operands])
  replace hr := hr x
  rcases hb with ⟨rfl, h⟩ | ⟨rfl, t', d, h⟩
  · rw [h] at hr
    simp only [Rep] at hr
    rw [hr] at h41
    have h2 := run_neq_nil_nil (P := P) (w := w) t hu
    simp only [Act.eval] at h41
    simp [execOp, ho, h41, Act.eval, h2, Result.andThen, eqGuard]
  · rw [h] at hr
    simp only [Rep] at hr
    obtain ⟨y, hy, _⟩ := hr
    rw [hy] at h41
    have h2 := run_neq_held_nil (P := P) (w := w) t t' y hu
    simp only [Act.eval] at h41
    simp [execOp, ho, h41, Act.eval, h2, Result.andThen, eqGuard]
end
end Go.Proofs.YtbiejiangdbcmaaDoor.Mw
