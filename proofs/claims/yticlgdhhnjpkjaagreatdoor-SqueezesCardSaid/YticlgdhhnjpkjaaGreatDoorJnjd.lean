/- Dd Dg Dw Qa: joined texts of this claim. No condition. -/
import Derived.Test.YticlgdhhnjpkjaaGreatDoorJnjb
import Derived.Test.YticlgdhhnjpkjaaGreatDoorJnjc
namespace Go.Proofs.YticlgdhhnjpkjaaGreatDoor.Mw
open Go Go.RowKit
set_option linter.unusedVariables false
set_option linter.unusedSimpArgs false
theorem dupdO_some (δ : DEnv) (i : Nat) (v : DV) : δ.updO (some i) v = δ.upd i v := rfl
theorem dupdO_none (δ : DEnv) (v : DV) : δ.updO none v = δ := rfl
theorem dupds_nil (δ : DEnv) : δ.upds [] = δ := rfl
theorem dupds_cons (δ : DEnv) (i : Nat) (v : DV) (l : List (Nat × DV)) : δ.upds ((i, v) :: l) = (δ.upd i v).upds l := rfl
theorem argD_0 (a : DV) (l : List DV) : argD (a :: l) 0 = a := rfl
theorem argD_1 (a b : DV) (l : List DV) : argD (a :: b :: l) 1 = b := rfl
theorem argD_2 (a b c : DV) (l : List DV) : argD (a :: b :: c :: l) 2 = c := rfl
theorem argD_3 (a b c d : DV) (l : List DV) : argD (a :: b :: c :: d :: l) 3 = d := rfl
theorem argD_4 (a b c d e : DV) (l : List DV) : argD (a :: b :: c :: d :: e :: l) 4 = e := rfl
theorem argD_5 (a b c d e f : DV) (l : List DV) : argD (a :: b :: c :: d :: e :: f :: l) 5 = f := rfl
theorem dof_tmp (δ : DEnv) (t : Nat) : δ.of (.tmp t) = δ t := rfl
theorem dof_const (δ : DEnv) (v : Value) : δ.of (.const v) = ofV v := rfl
theorem dof_func (δ : DEnv) (f : Nat) : δ.of (.func f) = .fn (.func f) [] [] := rfl
theorem ofV_int (k : IntKind) (x : Int) : ofV (.int k x) = .int k x := rfl
theorem ofV_bool (b : Bool) : ofV (.bool b) = .bool b := rfl
theorem ofV_str (s : ByteArray) : ofV (.string s) = .str s := rfl
theorem ofV_nilp : ofV (.pointer none) = .nilp := rfl
theorem ofV_nils : ofV (.slice none 0 0) = .zsl := rfl
theorem ofV_func (f : Fn) : ofV (.func f #[] #[]) = .fn f [] [] := rfl
theorem ofV_agg (cs : List Value) : ofV (.agg ⟨cs⟩) = .agg (cs.map of0) := rfl
theorem of0_int (k : IntKind) (x : Int) : of0 (.int k x) = .int k x := rfl
theorem of0_bool (b : Bool) : of0 (.bool b) = .bool b := rfl
theorem of0_str (s : ByteArray) : of0 (.string s) = .str s := rfl
theorem of0_nilp : of0 (.pointer none) = .nilp := rfl
theorem of0_nils : of0 (.slice none 0 0) = .zsl := rfl
theorem wr64_ex : ∃ f : Int → Int, ∀ x, f x = wrap64 x := ⟨_, fun _ => rfl⟩
noncomputable def wr64 : Int → Int := Classical.choose wr64_ex
theorem wr64_eq (x : Int) : wr64 x = wrap64 x := Classical.choose_spec wr64_ex x
theorem w64 {x : Int} (h : -9223372036854775808 ≤ x ∧ x ≤ 9223372036854775807) : wr64 x = x := by rw [wr64_eq]; unfold wrap64; omega
theorem w64n (n : Nat) (h : (n : Int) ≤ 9223372036854775807) : wr64 (n : Int) = n := by rw [wr64_eq]; unfold wrap64; omega
theorem addD (x y : Int) : binD .add (.int .i64 x) (.int .i64 y) = some (.int .i64 (wr64 (x + y))) := by simp [wr64_eq, binD, lift2, DV.v1, binV, intV, IntKind.wrap_i64, wrap64, ofV_int]
theorem subD (x y : Int) : binD .sub (.int .i64 x) (.int .i64 y) = some (.int .i64 (wr64 (x - y))) := by simp [wr64_eq, binD, lift2, DV.v1, binV, intV, IntKind.wrap_i64, wrap64, ofV_int]
theorem mulD (x y : Int) : binD .mul (.int .i64 x) (.int .i64 y) = some (.int .i64 (wr64 (x * y))) := by simp [wr64_eq, binD, lift2, DV.v1, binV, intV, IntKind.wrap_i64, wrap64, ofV_int]
theorem remD (k : IntKind) (x y : Int) : binD .rem (.int k x) (.int k y) = if y = 0 then none else some (.int k (x.tmod y)) := by
  simp only [binD, lift2, DV.v1, binV, intV, Option.bind_some, if_true]; split <;> rfl
theorem quoD (x y : Int) : binD .quo (.int .i64 x) (.int .i64 y) = if y = 0 then none else some (.int .i64 (wr64 (x.tdiv y))) := by
  simp only [binD, lift2, DV.v1, binV, intV, Option.bind_some, if_true, IntKind.wrap_i64]; split
  · rfl
  · simp [ofV_int, wr64_eq, wrap64]
theorem andI (k : IntKind) (x y : Int) : binD .and (.int k x) (.int k y) = some (.int k (bits .and k x y)) := by simp [binD, lift2, DV.v1, binV, intV, ofV_int]
theorem orI (k : IntKind) (x y : Int) : binD .or (.int k x) (.int k y) = some (.int k (bits .or k x y)) := by simp [binD, lift2, DV.v1, binV, intV, ofV_int]
theorem xorI (k : IntKind) (x y : Int) : binD .xor (.int k x) (.int k y) = some (.int k (bits .xor k x y)) := by simp [binD, lift2, DV.v1, binV, intV, ofV_int]
theorem shrI (k k' : IntKind) (x y : Int) : binD .shr (.int k x) (.int k' y) = if y < 0 then none else some (.int k (x.fdiv (2 ^ (min y.toNat k.bits)))) := by
  simp only [binD, lift2, DV.v1, binV, Option.bind_some]; split <;> rfl
theorem shlI (k k' : IntKind) (x y : Int) : binD .shl (.int k x) (.int k' y) = if y < 0 then none else some (.int k (k.wrap (x * 2 ^ (min y.toNat k.bits)))) := by
  simp only [binD, lift2, DV.v1, binV, Option.bind_some]; split <;> rfl
theorem addU (x y : Int) : binD .add (.int .u64 x) (.int .u64 y) = some (.int .u64 ((x + y) % 18446744073709551616)) := by simp [binD, lift2, DV.v1, binV, intV, IntKind.wrap_u64, ofV_int]
theorem mulU (x y : Int) : binD .mul (.int .u64 x) (.int .u64 y) = some (.int .u64 ((x * y) % 18446744073709551616)) := by simp [binD, lift2, DV.v1, binV, intV, IntKind.wrap_u64, ofV_int]
theorem eqlD (k : IntKind) (x y : Int) : binD .eql (.int k x) (.int k y) = some (.bool (decide (x = y))) := by simp [binD, lift2, DV.v1, binV, intV, cmpV]; rfl
theorem neqD (k : IntKind) (x y : Int) : binD .neq (.int k x) (.int k y) = some (.bool (decide (¬ x = y))) := by
  simp [binD, lift2, DV.v1, binV, intV, cmpV]; by_cases h : x = y <;> simp [h, ofV_bool]
theorem lssD (k : IntKind) (x y : Int) : binD .lss (.int k x) (.int k y) = some (.bool (decide (x < y))) := by simp [binD, lift2, DV.v1, binV, intV, cmpV, ofV_bool]
theorem leqD (k : IntKind) (x y : Int) : binD .leq (.int k x) (.int k y) = some (.bool (decide (x ≤ y))) := by simp [binD, lift2, DV.v1, binV, intV, cmpV, ofV_bool]
theorem gtrD (k : IntKind) (x y : Int) : binD .gtr (.int k x) (.int k y) = some (.bool (decide (y < x))) := by simp [binD, lift2, DV.v1, binV, intV, cmpV, ofV_bool]
theorem geqD (k : IntKind) (x y : Int) : binD .geq (.int k x) (.int k y) = some (.bool (decide (y ≤ x))) := by simp [binD, lift2, DV.v1, binV, intV, cmpV, ofV_bool]
theorem eqbD_b (x y : Bool) : eqbD false (.bool x) (.bool y) = some (.bool (x == y)) := rfl
theorem nebD_b (x y : Bool) : eqbD true (.bool x) (.bool y) = some (.bool (!(x == y))) := rfl
theorem eqsStr (x y : ByteArray) : binD .eql (.str x) (.str y) = some (.bool (x.toList == y.toList)) := rfl
theorem nesStr (x y : ByteArray) : binD .neq (.str x) (.str y) = some (.bool (!(x.toList == y.toList))) := rfl
theorem notD (x : Bool) : unD .not (.bool x) = some (.bool !x) := rfl
theorem negD (x : Int) : unD .neg (.int .i64 x) = some (.int .i64 (wr64 (0 - x))) := by simp [wr64_eq, unD, lift1, DV.v1, unV, IntKind.wrap_i64, wrap64, ofV_int]
theorem cvtI64 (k' : IntKind) (x : Int) : cvtD .i64 (.int k' x) = some (.int .i64 (wr64 x)) := by simp [wr64_eq, cvtD, lift1, DV.v1, cvtV, IntKind.wrap_i64, wrap64, ofV_int]
theorem cvtU64 (k' : IntKind) (x : Int) : cvtD .u64 (.int k' x) = some (.int .u64 (x % 18446744073709551616)) := by simp [cvtD, lift1, DV.v1, cvtV, IntKind.wrap_u64, ofV_int]
theorem cvtU8 (k' : IntKind) (x : Int) : cvtD .u8 (.int k' x) = some (.int .u8 (x % 256)) := by simp [cvtD, lift1, DV.v1, cvtV, IntKind.wrap_u8, ofV_int]
theorem cvtU32 (k' : IntKind) (x : Int) : cvtD .u32 (.int k' x) = some (.int .u32 (x % 4294967296)) := by simp [cvtD, lift1, DV.v1, cvtV, IntKind.wrap_u32, ofV_int]
theorem cvtI32 (k' : IntKind) (x : Int) : cvtD .i32 (.int k' x) = some (.int .i32 (wrap32 x)) := by simp [cvtD, lift1, DV.v1, cvtV, IntKind.wrap_i32, wrap32, ofV_int]
theorem pickB (c : Bool) (x y : DV) : pickD (.bool c) x y = some (if c then x else y) := rfl
theorem andB (x y : Bool) : andD (.bool x) (some (.bool y)) = some (.bool (x && y)) := by cases x <;> rfl
theorem orB (x y : Bool) : orD (.bool x) (some (.bool y)) = some (.bool (x || y)) := by cases x <;> rfl
theorem andT (e : Option DV) : andD (.bool true) e = e := rfl
theorem andF (e : Option DV) : andD (.bool false) e = some (.bool false) := rfl
theorem orT (e : Option DV) : orD (.bool true) e = some (.bool true) := rfl
theorem orF (e : Option DV) : orD (.bool false) e = e := rfl
theorem eqnI (ne : Bool) (cs : List DV) : eqnD ne (.ip cs) .nilp = some (.bool ne) := rfl
theorem eqnM (ne : Bool) (b o : Nat) : eqnD ne (.mp b o) .nilp = some (.bool ne) := rfl
theorem eqnN (ne : Bool) : eqnD ne .nilp .nilp = some (.bool !ne) := rfl
theorem mpOf_mp (b i : Nat) : mpOf (.mp b i) = some (b, i) := rfl
theorem intOf_int (k : IntKind) (x : Int) : intOf (.int k x) = some x := rfl
theorem mslOf_msl (b o n c : Nat) : mslOf (.msl b o n c) = some (b, o, n, c) := rfl
theorem lenN_isl (n : Nat) (cs : List DV) : lenN (.isl n cs) = some n := rfl
theorem lenN_msl (b o n c : Nat) : lenN (.msl b o n c) = some n := rfl
theorem lenN_zsl : lenN .zsl = some 0 := rfl
theorem lenI (n : Nat) (cs : List DV) : lenD (.isl n cs) = some (.int .i64 n) := rfl
theorem lenM (b o n c : Nat) : lenD (.msl b o n c) = some (.int .i64 n) := rfl
theorem lenZ : lenD .zsl = some (.int .i64 0) := rfl
theorem nckI (cs : List DV) : nckD (.ip cs) = some (.ip cs) := rfl
theorem nckM (b o : Nat) : nckD (.mp b o) = some (.mp b o) := rfl
theorem faI (n : Nat) (cs : List DV) : faD n (.ip cs) = some (.ip (cs.drop n)) := rfl
theorem faM (n b o : Nat) : faD n (.mp b o) = some (.mp b (o + n)) := rfl
theorem ldI (M : DMem) (d : DV) (cs : List DV) : ldD M (.ip (d :: cs)) = some d := rfl
theorem ldM (M : DMem) (b o : Nat) : ldD M (.mp b o) = (M b).bind fun B => B.cs[o]? := rfl
theorem ldnI2 (M : DMem) (a b : DV) (cs : List DV) : ldnD M 2 (.ip (a :: b :: cs)) = some (.agg [a, b]) := by simp [ldnD]
theorem ldnI3 (M : DMem) (a b c : DV) (cs : List DV) : ldnD M 3 (.ip (a :: b :: c :: cs)) = some (.agg [a, b, c]) := by simp [ldnD]
theorem ldnM (M : DMem) (n b o : Nat) : ldnD M n (.mp b o) = (M b).bind fun B => if o + n ≤ B.cs.length then some (.agg ((B.cs.drop o).take n)) else none := rfl
theorem extT (n : Nat) (cs : List DV) : extD n (.tup cs) = cs[n]? := rfl
theorem csT (d : DV) (ds : List DV) : csD d (.tup ds) = some (.tup (d :: ds)) := rfl
theorem fldA (n : Nat) (cs : List DV) : fldD n (.agg cs) = cs[n]? := rfl
theorem tupT (ds : List DV) : tupD (.tup ds) = some ds := rfl
theorem mkfT (f : Fn) (a b : List DV) : mkfD f (.tup a) (.tup b) = some (.fn f a b) := rfl
theorem bldT (z : List Value) (pl : List (Nat × Nat)) (ds : List DV) : bldD z pl (.tup ds) = (bldLD (z.map of0) pl ds).map .agg := rfl
theorem cellsA (cs : List DV) : cellsD (.agg cs) = some cs := rfl
theorem cellsI (k : IntKind) (x : Int) : cellsD (.int k x) = some [.int k x] := rfl
theorem cellsB (b : Bool) : cellsD (.bool b) = some [.bool b] := rfl
theorem cellsS (s : ByteArray) : cellsD (.str s) = some [.str s] := rfl
theorem cellsP (cs : List DV) : cellsD (.ip cs) = some [.ip cs] := rfl
theorem cellsMp (b o : Nat) : cellsD (.mp b o) = some [.mp b o] := rfl
theorem cellsNp : cellsD .nilp = some [.nilp] := rfl
theorem cellsL (n : Nat) (cs : List DV) : cellsD (.isl n cs) = some [.isl n cs] := rfl
theorem cellsZ : cellsD .zsl = some [.zsl] := rfl
theorem cellsM (b o n c : Nat) : cellsD (.msl b o n c) = some [.msl b o n c] := rfl
theorem cellsF (f : Fn) (a b : List DV) : cellsD (.fn f a b) = some [.fn f a b] := rfl
theorem ixM {sz b o n c : Nat} {k : IntKind} {i : Nat} (h : i < n) : ixD sz (.msl b o n c) (.int k (i : Int)) = some (.mp b (o + i * sz)) := by
  simp only [ixD]; rw [if_pos ⟨by omega, by omega⟩]; simp
theorem bnd0 : boundD (.tup []) = some none := rfl
theorem bnd1 (k : IntKind) (i : Int) : boundD (.tup [.int k i]) = some (some i) := rfl
theorem w64s {i : Nat} (h : i < 4611686018427387905) : wr64 ((i : Int) + 1) = ((i + 1 : Nat) : Int) := by rw [wr64_eq]; unfold wrap64; omega
theorem Froz.int (k : IntKind) (x : Int) : Froz (.int k x) := fun _ => rfl
theorem Froz.bool (b : Bool) : Froz (.bool b) := fun _ => rfl
theorem Froz.str (s : ByteArray) : Froz (.str s) := fun _ => rfl
theorem Froz.nilp : Froz .nilp := fun _ => rfl
theorem Froz.raw (v : Value) : Froz (.raw v) := fun _ => rfl
theorem FrozL.nil : FrozL [] := fun _ => rfl
theorem FrozL.cons {d : DV} {ds : List DV} (h : Froz d) (k : FrozL ds) : FrozL (d :: ds) := fun f => by simp only [fzL]; rw [h f, k f]
theorem FrozL.append {ds es : List DV} (h : FrozL ds) (k : FrozL es) : FrozL (ds ++ es) := by
  induction ds with
  | nil => exact k
  | cons d ds ih =>
    have h1 : ∀ f, fzS f d = d ∧ fzL f ds = ds := fun f => by have := h f; simpa [fzL] using this
    exact FrozL.cons (fun f => (h1 f).1) (ih fun f => (h1 f).2)
theorem FrozL.flatMap {α : Type} {g : α → List DV} (h : ∀ x, FrozL (g x)) : ∀ l : List α, FrozL (l.flatMap g)
  | [] => FrozL.nil
  | x :: l => by rw [List.flatMap_cons]; exact (h x).append (FrozL.flatMap h l)
theorem FrozL.map {α : Type} {g : α → DV} (h : ∀ x, Froz (g x)) : ∀ l : List α, FrozL (l.map g)
  | [] => FrozL.nil
  | x :: l => FrozL.cons (h x) (FrozL.map h l)
theorem Froz.agg {cs : List DV} (h : FrozL cs) : Froz (.agg cs) := fun f => by simp only [fzS]; rw [h f]
theorem Froz.tup {cs : List DV} (h : FrozL cs) : Froz (.tup cs) := fun f => by simp only [fzS]; rw [h f]
theorem Froz.ip {cs : List DV} (h : FrozL cs) : Froz (.ip cs) := fun f => by simp only [fzS]; rw [h f]
theorem Froz.isl {cs : List DV} {n : Nat} (h : FrozL cs) : Froz (.isl n cs) := fun f => by simp only [fzS]; rw [h f]
theorem Froz.fn {g : Fn} {a b : List DV} (h : FrozL a) (k : FrozL b) : Froz (.fn g a b) := fun f => by simp only [fzS]; rw [h f, k f]
theorem FrozL.drop {ds : List DV} (h : FrozL ds) : ∀ n, FrozL (ds.drop n) := by
  induction ds with
  | nil => intro n; simpa using h
  | cons d ds ih =>
    have h1 : ∀ f, fzS f d = d ∧ fzL f ds = ds := fun f => by have := h f; simpa [fzL] using this
    intro n
    cases n with
    | zero => exact h
    | succ n => exact ih (fun f => (h1 f).2) n
theorem fz_int (M : DMem) (k : Nat) (x : IntKind) (y : Int) : fz M k (.int x y) = .int x y := (Froz.int x y).fz M k
theorem fz_bool (M : DMem) (k : Nat) (b : Bool) : fz M k (.bool b) = .bool b := (Froz.bool b).fz M k
theorem fz_str (M : DMem) (k : Nat) (s : ByteArray) : fz M k (.str s) = .str s := (Froz.str s).fz M k
theorem fz_nilp (M : DMem) (k : Nat) : fz M k .nilp = .nilp := Froz.nilp.fz M k
theorem fz_zsl (M : DMem) (k : Nat) : fz M k .zsl = .isl 0 [] := by cases k <;> rfl
theorem fz_tup (M : DMem) (k : Nat) (ds : List DV) : fz M k (.tup ds) = .tup (ds.map (fz M k)) := by
  have : ∀ f ds, fzL f ds = ds.map (fzS f) := fun f ds => by
    induction ds with
    | nil => rfl
    | cons d ds ih => simp only [fzL, List.map_cons, ih]
  cases k <;> simp only [fz, fzS, this] <;> rfl
theorem fz_agg (M : DMem) (k : Nat) (ds : List DV) : fz M k (.agg ds) = .agg (ds.map (fz M k)) := by
  have : ∀ f ds, fzL f ds = ds.map (fzS f) := fun f ds => by
    induction ds with
    | nil => rfl
    | cons d ds ih => simp only [fzL, List.map_cons, ih]
  cases k <;> simp only [fz, fzS, this] <;> rfl
theorem fz_ip (M : DMem) (k : Nat) (ds : List DV) : fz M k (.ip ds) = .ip (ds.map (fz M k)) := by
  have : ∀ f ds, fzL f ds = ds.map (fzS f) := fun f ds => by
    induction ds with
    | nil => rfl
    | cons d ds ih => simp only [fzL, List.map_cons, ih]
  cases k <;> simp only [fz, fzS, this] <;> rfl
theorem fz_isl (M : DMem) (k n : Nat) (ds : List DV) : fz M k (.isl n ds) = .isl n (ds.map (fz M k)) := by
  have : ∀ f ds, fzL f ds = ds.map (fzS f) := fun f ds => by
    induction ds with
    | nil => rfl
    | cons d ds ih => simp only [fzL, List.map_cons, ih]
  cases k <;> simp only [fz, fzS, this] <;> rfl
theorem fz_fn (M : DMem) (k : Nat) (g : Fn) (a b : List DV) : fz M k (.fn g a b) = .fn g (a.map (fz M k)) (b.map (fz M k)) := by
  have : ∀ f ds, fzL f ds = ds.map (fzS f) := fun f ds => by
    induction ds with
    | nil => rfl
    | cons d ds ih => simp only [fzL, List.map_cons, ih]
  cases k <;> simp only [fz, fzS, this] <;> rfl
theorem fz_mp {M : DMem} {b : Nat} {B : DBlk} (h : M b = some B) (k o : Nat) : fz M (k + 1) (.mp b o) = .ip ((B.cs.map (fz M k)).drop o) := by simp only [fz, fzS, fzF, h]
theorem fz_msl {M : DMem} {b : Nat} {B : DBlk} (h : M b = some B) (k o n c : Nat) (hn : n ≤ c) : fz M (k + 1) (.msl b o n c) = .isl n ((B.cs.map (fz M k)).drop o) := by simp only [fz, fzS, fzF, h, hn, if_true]
theorem fzmap_froz {ds : List DV} (h : FrozL ds) (M : DMem) (k : Nat) : ds.map (fz M k) = ds := by
  induction ds with
  | nil => rfl
  | cons d ds ih =>
    have h1 : ∀ f, fzS f d = d ∧ fzL f ds = ds := fun f => by have := h f; simpa [fzL] using this
    rw [List.map_cons, ih fun f => (h1 f).2, Froz.fz (fun f => (h1 f).1)]
def slI (l : List Int) : DV := .isl l.length (l.map (.int .i64))
def slB (l : List Bool) : DV := .isl l.length (l.map .bool)
def slD {α : Type} (c : α → List DV) (l : List α) : DV := .isl l.length (l.flatMap c)
theorem Froz.slI (l : List Int) : Froz (slI l) := Froz.isl (FrozL.map (fun x => Froz.int _ x) l)
theorem Froz.slB (l : List Bool) : Froz (slB l) := Froz.isl (FrozL.map (fun x => Froz.bool x) l)
theorem Froz.slD {α : Type} {c : α → List DV} (h : ∀ x, FrozL (c x)) (l : List α) : Froz (slD c l) := Froz.isl (FrozL.flatMap h l)
theorem fz_slI (M : DMem) (k : Nat) (l : List Int) : fz M k (slI l) = slI l := (Froz.slI l).fz M k
theorem fz_slB (M : DMem) (k : Nat) (l : List Bool) : fz M k (slB l) = slB l := (Froz.slB l).fz M k
theorem plain_int (k : IntKind) (x : Int) : plainD (.int k x) = true := rfl
theorem plain_bool (b : Bool) : plainD (.bool b) = true := rfl
theorem plain_str (s : ByteArray) : plainD (.str s) = true := rfl
theorem plain_nilp : plainD .nilp = true := rfl
theorem plain_mp (b o : Nat) : plainD (.mp b o) = true := rfl
theorem plain_ip (cs : List DV) : plainD (.ip cs) = true := rfl
theorem plain_isl (n : Nat) (cs : List DV) : plainD (.isl n cs) = true := rfl
theorem plain_zsl : plainD .zsl = true := rfl
theorem plain_msl (b o n c : Nat) : plainD (.msl b o n c) = true := rfl
theorem plain_fn (f : Fn) (a b : List DV) : plainD (.fn f a b) = true := rfl
theorem plain_ifc (t : TypeId) (d : DV) : plainD (.ifc t d) = true := rfl
theorem plain_slI (l : List Int) : plainD (slI l) = true := rfl
theorem plain_slB (l : List Bool) : plainD (slB l) = true := rfl
theorem plain_slD {α : Type} (c : α → List DV) (l : List α) : plainD (slD c l) = true := rfl
theorem len_slI (l : List Int) : lenD (slI l) = some (.int .i64 l.length) := rfl
theorem len_slB (l : List Bool) : lenD (slB l) = some (.int .i64 l.length) := rfl
theorem len_slD {α : Type} (c : α → List DV) (l : List α) : lenD (slD c l) = some (.int .i64 l.length) := rfl
theorem cells_slI (l : List Int) : cellsD (slI l) = some [slI l] := rfl
theorem cells_slB (l : List Bool) : cellsD (slB l) = some [slB l] := rfl
theorem cells_slD {α : Type} (c : α → List DV) (l : List α) : cellsD (slD c l) = some [slD c l] := rfl
theorem drop_map1 {α : Type} (g : α → DV) (l : List α) {i : Nat} (h : i < l.length) : (l.map g).drop (i * 1) = g l[i] :: (l.drop (i + 1)).map g := by
  rw [Nat.mul_one, ← List.map_drop, List.drop_eq_getElem_cons h]; rfl
theorem ix_slI {l : List Int} {k : IntKind} {i : Nat} (h : i < l.length) : ixD 1 (slI l) (.int k (i : Int)) = some (.ip (.int .i64 l[i] :: (l.drop (i + 1)).map (.int .i64))) := by
  simp only [slI, ixD]; rw [if_pos ⟨by omega, by omega⟩, Int.toNat_natCast, drop_map1 _ _ h]
theorem ix_slB {l : List Bool} {k : IntKind} {i : Nat} (h : i < l.length) : ixD 1 (slB l) (.int k (i : Int)) = some (.ip (.bool l[i] :: (l.drop (i + 1)).map .bool)) := by
  simp only [slB, ixD]; rw [if_pos ⟨by omega, by omega⟩, Int.toNat_natCast, drop_map1 _ _ h]
theorem drop_flat {α : Type} {c : α → List DV} {sz : Nat} (hc : ∀ x, (c x).length = sz) : ∀ (l : List α) (i : Nat) (h : i < l.length), (l.flatMap c).drop (i * sz) = c l[i] ++ (l.drop (i + 1)).flatMap c
  | [], i, h => by simp at h
  | x :: l, 0, h => by simp
  | x :: l, i + 1, h => by
    have := drop_flat hc l i (by simpa using h)
    rw [List.flatMap_cons, List.drop_append, hc, List.drop_eq_nil_of_le (by rw [hc, Nat.add_mul]; omega), show (i + 1) * sz - sz = i * sz by rw [Nat.add_mul]; omega, this]
    rfl
theorem ix_slD {α : Type} {c : α → List DV} {sz : Nat} (hc : ∀ x, (c x).length = sz) {l : List α} {k : IntKind} {i : Nat} (h : i < l.length) :
    ixD sz (slD c l) (.int k (i : Int)) = some (.ip (c l[i] ++ (l.drop (i + 1)).flatMap c)) := by
  simp only [slD, ixD]; rw [if_pos ⟨by omega, by omega⟩, Int.toNat_natCast, drop_flat hc l i h]
theorem lenN_slI (l : List Int) : lenN (slI l) = some l.length := rfl
theorem lenN_slB (l : List Bool) : lenN (slB l) = some l.length := rfl
theorem lenN_slD {α : Type} (c : α → List DV) (l : List α) : lenN (slD c l) = some l.length := rfl
theorem zeros_one (v : Value) (n : Nat) : zeros [v] n = List.replicate n v := by
  apply List.ext_getElem
  · simp [zeros]
  · intro i h1 h2
    simp [zeros, Nat.mod_one]
theorem zerosD_int (k : IntKind) (x : Int) (n : Nat) : (zeros (Value.cells (.int k x)).toList n).map of0 = List.replicate n (.int k x) := by
  rw [show (Value.cells (.int k x)).toList = [.int k x] from rfl, zeros_one, List.map_replicate, of0_int]
theorem zerosD_bool (b : Bool) (n : Nat) : (zeros (Value.cells (.bool b)).toList n).map of0 = List.replicate n (.bool b) := by
  rw [show (Value.cells (.bool b)).toList = [.bool b] from rfl, zeros_one, List.map_replicate, of0_bool]
theorem slcB_lo {n c i : Nat} (hi : i ≤ n) : slcB n c (some (i : Int)) none none = some (i, n, c) := by
  simp only [slcB, Option.bind_some, Option.isSome_none, Bool.false_eq_true, if_false]
  rw [if_pos ⟨by omega, by omega⟩]; simp
theorem slcB_hi {n c j : Nat} (hj : j ≤ c) : slcB n c none (some (j : Int)) none = some (0, j, c) := by
  simp only [slcB, Option.bind_some, Option.isSome_none, Bool.false_eq_true, if_false]
  rw [if_pos ⟨by omega, by omega⟩]; simp
theorem slcM_lo {sz b o n c i : Nat} {k : IntKind} (hi : i ≤ n) (hn : n ≤ c) : slcD sz (.msl b o n c) (.tup [.int k (i : Int)]) (.tup []) (.tup []) = some (if c = i then .zsl else .msl b (o + i * sz) (n - i) (c - i)) := by
  simp only [slcD, bnd0, bnd1, Option.bind_some, hn, if_true, slcB_lo hi, Option.map_some]
theorem slcM_hi {sz b o n c j : Nat} {k : IntKind} (hj : j ≤ c) (hn : n ≤ c) : slcD sz (.msl b o n c) (.tup []) (.tup [.int k (j : Int)]) (.tup []) = some (if c = 0 then .zsl else .msl b o j c) := by
  simp only [slcD, bnd0, bnd1, Option.bind_some, hn, if_true, slcB_hi hj, Option.map_some, Nat.zero_mul, Nat.add_zero, Nat.sub_zero]
theorem SubD.ins {M : DMem} {b : Nat} (B : DBlk) (h : M b = Option.none) : SubD M (M.ins b B) := fun x C hx => by
  have e : x ≠ b := by rintro rfl; rw [h] at hx; cases hx
  rw [DMem.ins_ne _ _ e]; exact hx
theorem OwnD.zsl (M : DMem) (sz : Nat) : OwnD M sz .zsl 0 [] := ⟨by simp, .inl ⟨rfl, rfl⟩⟩
theorem OwnD.cell {M : DMem} {sz n : Nat} {d : DV} {cs : List DV} (h : OwnD M sz d n cs) : cellsD d = some [d] := by
  obtain ⟨_, ⟨rfl, _⟩ | ⟨b, c, ty, rfl, _⟩⟩ := h <;> rfl
theorem OwnD.plain {M : DMem} {sz n : Nat} {d : DV} {cs : List DV} (h : OwnD M sz d n cs) : plainD d = true := by
  obtain ⟨_, ⟨rfl, _⟩ | ⟨b, c, ty, rfl, _⟩⟩ := h <;> rfl
theorem OwnD.len {M : DMem} {sz n : Nat} {d : DV} {cs : List DV} (h : OwnD M sz d n cs) : lenD d = some (.int .i64 n) := by
  obtain ⟨_, ⟨rfl, rfl⟩ | ⟨b, c, ty, rfl, _⟩⟩ := h <;> rfl
theorem OwnD.at {M : DMem} {sz n : Nat} {d : DV} {cs : List DV} (h : OwnD M sz d n cs) (h0 : 0 < n) : ∃ b c ty, d = .msl b 0 n c ∧ blkD d = some b ∧ M b = some ⟨ty, c * sz, cs⟩ ∧ n ≤ c := by
  obtain ⟨_, ⟨rfl, rfl⟩ | ⟨b, c, ty, rfl, h1, h2, h3⟩⟩ := h
  · omega
  · exact ⟨b, c, ty, rfl, by simp only [blkD]; rw [if_neg (by omega)], h1, h2⟩
theorem OwnD.keep {M M' : DMem} {sz n : Nat} {d : DV} {cs : List DV} (h : OwnD M sz d n cs) (hk : ∀ b, blkD d = some b → M' b = M b) : OwnD M' sz d n cs := by
  obtain ⟨hl, ⟨rfl, rfl⟩ | ⟨b, c, ty, rfl, h1, h2, h3⟩⟩ := h
  · exact ⟨hl, .inl ⟨rfl, rfl⟩⟩
  · exact ⟨hl, .inr ⟨b, c, ty, rfl, by rw [hk b (by simp only [blkD]; rw [if_neg (by omega)])]; exact h1, h2, h3⟩⟩
theorem OwnD.ins {M : DMem} {sz n b : Nat} {d : DV} {cs : List DV} (h : OwnD M sz d n cs) (hb : blkD d ≠ some b) (B : DBlk) : OwnD (M.ins b B) sz d n cs :=
  h.keep fun x hx => DMem.ins_ne _ _ (by rintro rfl; exact hb hx)
theorem OwnD.fz {M : DMem} {sz n : Nat} {d : DV} {cs : List DV} (h : OwnD M sz d n cs) (k : Nat) : Mw.fz M (k + 1) d = .isl n (cs.map (Mw.fz M k)) := by
  obtain ⟨hl, ⟨rfl, rfl⟩ | ⟨b, c, ty, rfl, h1, h2, h3⟩⟩ := h
  · have : cs = [] := by cases cs with | nil => rfl | cons => simp at hl
    subst this; exact fz_zsl _ _
  · rw [fz_msl h1 k 0 n c h2]; rfl
theorem OwnD.app {M : DMem} {e : TypeId} {sz n k : Nat} {d : DV} {cs news : List DV} {Post : DV → DMem → Prop} (h : OwnD M sz d n cs) (hl : news.length = k * sz)
    (hP : ∀ d' M', OwnD M' sz d' (n + k) (cs ++ news) → GrewD M M' d d' → Post d' M') : AppD M e sz d n k news Post := by
  obtain ⟨h0, ⟨rfl, rfl⟩ | ⟨b, c, ty, rfl, h1, h2, h3⟩⟩ := h
  · have hc : cs = [] := by cases cs with | nil => rfl | cons => simp at h0
    subst hc
    refine ⟨rfl, fun hk => ?_, fun hk b c M' hb hc hM => ?_⟩
    · subst hk
      have hn : news = [] := by cases news with | nil => rfl | cons => simp at hl
      subst hn
      exact hP _ _ ⟨by simp, .inl ⟨rfl, rfl⟩⟩ ⟨fun _ _ h _ => h, .inl rfl, fun _ h => .inl h⟩
    · subst hM
      have hbk : blkD (.msl b 0 k c) = some b := by simp only [blkD]; rw [if_neg (by omega)]
      refine hP _ _ ⟨by simp [hl], .inr ⟨b, c, e, by rw [Nat.zero_add], DMem.ins_same _ _ _, by omega, by omega⟩⟩ ⟨fun x B hx _ => (SubD.ins _ hb) x B hx, .inr ⟨b, hbk, hb⟩, fun x hx => ?_⟩
      by_cases hxb : x = b
      · subst hxb; exact .inr hbk
      · rw [DMem.ins_ne _ _ hxb] at hx; exact .inl hx
  · refine ⟨rfl, _, h1, by simp only; omega, by simp only; omega, h2, fun hk M' hM => ?_, fun hk b' c' M' hb hc hM => ?_⟩
    · subst hM
      have hs : splD cs (0 + n * sz) news = cs ++ news := by
        unfold splD
        rw [List.take_of_length_le (by omega), List.drop_eq_nil_of_le (by omega), List.append_nil]
      simp only [hs]
      refine hP _ _ ⟨by rw [List.length_append, h0, hl, Nat.add_mul], .inr ⟨b, c, ty, rfl, DMem.ins_same _ _ _, hk, h3⟩⟩ ⟨fun x B hx hne => ?_, .inl rfl, fun x hx => ?_⟩
      · rw [DMem.ins_ne]; exact hx
        rintro rfl; exact hne (by simp only [blkD]; rw [if_neg (by omega)])
      · by_cases hxb : x = b
        · subst hxb; exact .inr (by simp only [blkD]; rw [if_neg (by omega)])
        · rw [DMem.ins_ne _ _ hxb] at hx; exact .inl hx
    · subst hM
      have hs : (cs.drop 0).take (n * sz) = cs := by rw [List.drop_zero, List.take_of_length_le (by omega)]
      simp only [hs]
      have hbk : blkD (.msl b' 0 (n + k) c') = some b' := by simp only [blkD]; rw [if_neg (by omega)]
      refine hP _ _ ⟨by rw [List.length_append, h0, hl, Nat.add_mul], .inr ⟨b', c', e, rfl, DMem.ins_same _ _ _, hc, by omega⟩⟩ ⟨fun x B hx _ => (SubD.ins _ hb) x B hx, .inr ⟨b', hbk, hb⟩, fun x hx => ?_⟩
      by_cases hxb : x = b'
      · subst hxb; exact .inr hbk
      · rw [DMem.ins_ne _ _ hxb] at hx; exact .inl hx
theorem GrewD.blk {M M' : DMem} {d d' : DV} (h : GrewD M M' d d') {b : Nat} {B : DBlk} (hM : M b = some B) (hb : blkD d ≠ some b) : M' b = some B ∧ blkD d' ≠ some b := by
  refine ⟨h.keep b B hM hb, ?_⟩
  rcases h.here with e | ⟨q, e, hq⟩
  · rw [e]; exact hb
  · rw [e]; rintro hh; cases hh; rw [hM] at hq; cases hq
theorem GrewD.sub {M0 M M' : DMem} {d d' : DV} (h : GrewD M M' d d') (hs : SubD M0 M) (hf : ∀ p, blkD d = some p → M0 p = none) : SubD M0 M' ∧ ∀ p, blkD d' = some p → M0 p = none := by
  refine ⟨fun b B hb => h.keep b B (hs b B hb) (fun hh => by rw [hf b hh] at hb; cases hb), fun p hp => ?_⟩
  rcases h.here with e | ⟨q, e, hq⟩
  · exact hf p (by rw [← e]; exact hp)
  · rw [e] at hp; cases hp; exact hs.none hq
theorem RepP.front {m : Mem} : ∀ {cs rest : List DV} {vs : List Value}, RepP m (cs ++ rest) vs → RepP m cs vs
  | [], _, _, _ => by simp [RepP]
  | _ :: _, _, [], h => by simp only [List.cons_append, RepP] at h
  | d :: cs, rest, v :: vs, h => by
    simp only [List.cons_append, RepP] at h ⊢
    exact ⟨h.1, RepP.front h.2⟩
theorem rep_isl {m : Mem} {n : Nat} {cs rest : List DV} {v : Value} (h : Rep m (.isl n (cs ++ rest)) v) : Rep m (.isl n cs) v := by
  simp only [Rep] at h ⊢
  obtain ⟨a, c, h1, h2, h3⟩ := h
  exact ⟨a, c, h1, h2, fun h0 => let ⟨b, o, ty, N, full, e1, e2, e3⟩ := h3 h0; ⟨b, o, ty, N, full, e1, e2, e3.front⟩⟩
theorem Pu.of_le {P : Program} {f : FuncId} {ds : List DV} {d : DV} (h : PC P f ds (fun d' M' => ∀ m v, Rep m (fz M' 4 d') v → Rep m d v) DMem.mt) : Pu P f ds d := by
  intro m vals hgl hv
  have := h m m vals (RepM.mt hgl) hv (Grows.refl m) (fun b hb => rfl)
  refine ⟨this.1, fun w0 w hs => (this.2 w0 w hs).mono ?_⟩
  rintro e w' ⟨v, m', he, hs', d', M', hr, hM, _, hg, ho, hle⟩
  refine ⟨v, sealM M' m', he, hs'.sealM M', hle _ _ (fz_ok hM 4 d' v hr), fun b B hb => ?_⟩
  have := hg b B hb
  unfold sealM
  have hn := ho b (by rw [hb]; simp)
  simp only [hn]; exact this
theorem nilsK : isNils (.k (.slice none 0 0)) = true := rfl
theorem eqzI {ne : Bool} {n : Nat} {cs : List DV} (h : 0 < n) : eqzD ne (.isl n cs) = some (.bool ne) := by
  obtain ⟨k, rfl⟩ : ∃ k, n = k + 1 := ⟨n - 1, by omega⟩
  rfl
theorem eqzM (ne : Bool) (b o n c : Nat) : eqzD ne (.msl b o n c) = some (.bool ne) := rfl
theorem eqzR (ne : Bool) (a : Option Addr) (n c : Nat) : eqzD ne (.raw (.slice a n c)) = some (.bool (if ne then a.isSome else a.isNone)) := rfl
end Go.Proofs.YticlgdhhnjpkjaaGreatDoor.Mw
namespace Go.Proofs.YticlgdhhnjpkjaaGreatDoor.Mw
open Go Go.RowKit
set_option linter.unusedVariables false
set_option linter.unusedSimpArgs false
def DMem.or (M M' : DMem) : DMem := fun b => match M b with
  | some B => some B
  | none => M' b
theorem DMem.or_left {M M' : DMem} {b : Nat} {B : DBlk} (h : M b = some B) : (M.or M') b = some B := by simp [DMem.or, h]
theorem DMem.or_right {M M' : DMem} {b : Nat} (h : M b = none) : (M.or M') b = M' b := by simp [DMem.or, h]
theorem SubD.or_left (M M' : DMem) : SubD M (M.or M') := fun b B h => DMem.or_left h
theorem SubD.or_right {M M' : DMem} (h : ∀ b, M b ≠ Option.none → M' b = Option.none) : SubD M' (M.or M') := fun b B hb => by
  cases hM : M b with
  | none => rw [DMem.or_right hM]; exact hb
  | some C => have := h b (by rw [hM]; simp); rw [this] at hb; cases hb
theorem PC.frame {P : Program} {f : FuncId} {ds : List DV} {R R' : DV → DMem → Prop} {M : DMem} (h : PC P f ds R DMem.mt)
    (hR : ∀ d M2, R d M2 → (∀ b, M b ≠ none → M2 b = none) → R' d (M.or M2)) : PC P f ds R' M := by
  intro F m vals hM hr hF ho
  refine (h m m vals (RepM.mt hM.glob) hr (Grows.refl m) (fun b hb => rfl)).mono ?_
  rintro v m' ⟨d, M2, h1, h2, h3, h4, h5, h6⟩
  have hdis : ∀ b, M b ≠ none → M2 b = none := fun b hb => h5 b (by
    obtain ⟨B, hB⟩ := Option.ne_none_iff_exists'.1 hb
    obtain ⟨vs, e, _⟩ := hM b B hB
    rw [e]; simp)
  refine ⟨d, M.or M2, h1, ⟨h2.glob, fun b B hb => ?_⟩, h3, hF.trans h4, fun b hb => ?_, hR d M2 h6 hdis⟩
  · cases hMb : M b with
    | none => rw [DMem.or_right hMb] at hb; exact h2 b B hb
    | some C =>
      rw [DMem.or_left hMb] at hb; cases hb
      obtain ⟨vs, e1, e2⟩ := hM b _ hMb
      exact ⟨vs, h4 _ _ e1, e2.mono h3⟩
  · have hMb := ho b hb
    obtain ⟨B, hB⟩ := Option.ne_none_iff_exists'.1 hb
    rw [DMem.or_right hMb]
    exact h5 b (by rw [hF b B hB]; simp)
mutual
def thawed : DV → Bool
  | .ip _ => false
  | .isl _ _ => false
  | .csl _ _ => false
  | .agg cs => thawedL cs
  | .tup cs => thawedL cs
  | .fn _ a b => thawedL a && thawedL b
  | .ifc _ d => thawed d
  | _ => true
def thawedL : List DV → Bool
  | [] => true
  | d :: ds => thawed d && thawedL ds
end
mutual
theorem thawed_ok {m m' : Mem} : ∀ {d : DV} {v : Value}, thawed d = true → Rep m d v → Rep m' d v
  | .int .., _, _, r | .bool .., _, _, r | .str .., _, _, r | .nilp, _, _, r | .mp .., _, _, r | .zsl, _, _, r | .msl .., _, _, r | .raw .., _, _, r => by simpa only [Rep] using r
  | .ip cs, v, h, r => by simp [thawed] at h
  | .isl n cs, v, h, r => by simp [thawed] at h
  | .csl n cs, v, h, r => by simp [thawed] at h
  | .agg cs, v, h, r => by
    simp only [Rep] at r ⊢
    obtain ⟨vs, h1, h2, h3⟩ := r
    exact ⟨vs, h1, thawedL_ok (by simpa [thawed] using h) h2, h3⟩
  | .tup cs, v, h, r => by
    simp only [Rep] at r ⊢
    obtain ⟨vs, h1, h2, h3⟩ := r
    exact ⟨vs, h1, thawedL_ok (by simpa [thawed] using h) h2, h3⟩
  | .fn f a b, v, h, r => by
    simp only [thawed, Bool.and_eq_true] at h
    simp only [Rep] at r ⊢
    obtain ⟨x, y, h1, h2, h3, h4, h5⟩ := r
    exact ⟨x, y, h1, thawedL_ok h.1 h2, h3, thawedL_ok h.2 h4, h5⟩
  | .ifc t d, v, h, r => by
    simp only [Rep] at r ⊢
    obtain ⟨x, h1, h2⟩ := r
    exact ⟨x, h1, thawed_ok (by simpa [thawed] using h) h2⟩
theorem thawedL_ok {m m' : Mem} : ∀ {ds : List DV} {vs : List Value}, thawedL ds = true → RepP m ds vs → RepP m' ds vs
  | [], _, _, _ => by simp only [RepP]
  | _ :: _, [], _, r => by simp only [RepP] at r
  | d :: ds, v :: vs, h, r => by
    simp only [thawedL, Bool.and_eq_true] at h
    simp only [RepP] at r ⊢
    exact ⟨thawed_ok h.1 r.1, thawedL_ok h.2 r.2⟩
end
theorem Blk.fits.low {lo lo' b : Nat} {B : Blk} {o : Option Obj} (h : B.fits lo b o) (hl : lo' ≤ lo) : B.fits lo' b o := by
  cases B with
  | cells ty n fin cs =>
    rcases h with ⟨h0, arr, fz, h1, h2, h3, h4, h5⟩ | ⟨h1, h2, q, h3, h4, h5⟩
    · exact .inl ⟨h0, arr, fz, h1, h2, h3, h4, fun hh => ⟨(h5 hh).1, Nat.le_trans hl (h5 hh).2⟩⟩
    · exact .inr ⟨h1, h2, q, h3, h4, fun hh => Nat.le_trans hl (h5 hh)⟩
  | obj x => exact ⟨h.1, Nat.le_trans hl h.2⟩
def Thaw (d : DV) (M : DMem) : Prop := thawed d = true ∧ ∀ b B, M b = some B → thawedL B.cs = true
theorem PC.seal {P : Program} {f : FuncId} {ds : List DV} {R R' : DV → DMem → Prop} {M : DMem} (h : PC P f (ds.map (fz M 4)) R DMem.mt) (ht : ∀ d M2, R d M2 → Thaw d M2)
    (hR : ∀ d M2, R d M2 → (∀ b, M b ≠ none → M2 b = none) → R' d (M.or M2)) : PC P f ds R' M := by
  intro F m vals hM hr hF ho
  have h1 := h (finA m) (finA m) vals (RepM.mt (hM.glob.mono ((sealM_fin M m).trans (finA_fin M m)))) ((fzL_map_ok hM 4 hr).mono (finA_fin M m)) (Grows.refl _) (fun b hb => rfl)
  refine ⟨h1.1, fun w0 w hs => ?_⟩
  have hs2 : Sat w w (finA m) := by
    refine ⟨Below.refl _ _, fun b B hb => ?_⟩
    unfold finA at hb
    split at hb
    · rename_i ty n fin cs hb'
      cases hb
      exact (hs.blk _ _ hb').tofin
    · cases hb
  refine (h1.2 w w hs2).mono ?_
  rintro e w' ⟨v, m', he, hs', d, M2, g1, g2, g3, g4, g5, g6⟩
  obtain ⟨t1, t2⟩ := ht d M2 g6
  have hnew : ∀ b, M2 b ≠ none → m b = none := fun b hb => by
    obtain ⟨B, hB⟩ := Option.ne_none_iff_exists'.1 hb
    obtain ⟨vs, e1, _⟩ := g2 b B hB
    have hge := (hs'.blk _ _ e1).lo
    cases hm : m b with
    | none => rfl
    | some C => have := hs.lt hm; omega
  have hMm : ∀ b, M b ≠ none → m b ≠ none := fun b hb => by
    obtain ⟨B, hB⟩ := Option.ne_none_iff_exists'.1 hb
    obtain ⟨vs, e, _⟩ := hM b B hB
    rw [e]; simp
  have hdis : ∀ b, M b ≠ none → M2 b = none := fun b hb => by
    cases h2 : M2 b with
    | none => rfl
    | some C => exact absurd (hnew b (by rw [h2]; simp)) (hMm b hb)
  let m2 : Mem := fun b => match m b with
    | some B => some B
    | none => m' b
  have hl : ∀ b B, m b = some B → m2 b = some B := fun b B hb => by simp only [m2, hb]
  have hr2 : ∀ b, m b = none → m2 b = m' b := fun b hb => by simp only [m2, hb]
  refine ⟨v, m2, he, ⟨hs.below.trans (hs'.below.mono hs.le), fun b B hb => ?_⟩, d, M.or M2, thawed_ok t1 g1, ⟨hM.glob.mono (show Grows m m2 from hl).toFin, fun b B hb => ?_⟩, (show Grows m m2 from hl).toFin, hF.trans hl, fun b hb => ?_, hR d M2 g6 hdis⟩
  · cases hm : m b with
    | some C =>
      rw [hl b C hm] at hb; cases hb
      rw [hs'.below.block b (hs.lt hm)]
      exact hs.blk b _ hm
    | none =>
      rw [hr2 b hm] at hb
      exact (hs'.blk b B hb).low hs.le
  · cases hMb : M b with
    | some C =>
      rw [DMem.or_left hMb] at hb; cases hb
      obtain ⟨vs, e1, e2⟩ := hM b _ hMb
      exact ⟨vs, hl _ _ e1, e2.mono (show Grows m m2 from hl).toFin⟩
    | none =>
      rw [DMem.or_right hMb] at hb
      obtain ⟨vs, e1, e2⟩ := g2 b B hb
      refine ⟨vs, by rw [hr2 b (hnew b (by rw [hb]; simp))]; exact e1, thawedL_ok (t2 b B hb) e2.1, e2.2⟩
  · obtain ⟨B, hB⟩ := Option.ne_none_iff_exists'.1 hb
    have hmb := hF b B hB
    rw [DMem.or_right (ho b hb)]
    cases h2 : M2 b with
    | none => rfl
    | some C => have := hnew b (by rw [h2]; simp); rw [hmb] at this; cases this
theorem PC.fin {P : Program} {f : FuncId} {ds : List DV} {R R' : DV → DMem → Prop} {M : DMem} (h : PC P f ds R M)
    (hR : ∀ d M1, R d M1 → ∃ M0 M2, SubD M0 M1 ∧ SubD M2 M1 ∧ (∀ b, M0 b ≠ none → M2 b = none) ∧ ∃ d', (∀ m v, Rep m (fz M2 4 d) v → Rep m d' v) ∧ R' d' M0) : PC P f ds R' M := by
  intro F m vals hM hr hF ho
  have h1 := h F m vals hM hr hF ho
  refine ⟨h1.1, fun w0 w hs => (h1.2 w0 w hs).mono ?_⟩
  rintro e w' ⟨v, m', he, hs', d, M1, g1, g2, g3, g4, g5, g6⟩
  obtain ⟨M0, M2, s0, s2, hdis, d', hd, hR'⟩ := hR d M1 g6
  have hM2 : RepM M2 m' := ⟨g2.glob, fun b B hb => g2 b B (s2 b B hb)⟩
  have hfin := sealM_fin M2 m'
  have hout : ∀ b, M2 b = none → sealM M2 m' b = m' b := fun b hb => by unfold sealM; rw [hb]
  refine ⟨v, sealM M2 m', he, hs'.sealM M2, d', M0, hd _ _ (fz_ok hM2 4 d v g1), ⟨g2.glob.mono hfin, fun b B hb => ?_⟩, g3.trans hfin, fun b B hb => ?_, fun b hb => s0.none (g5 b hb), hR'⟩
  · obtain ⟨vs, e1, e2⟩ := g2 b B (s0 b B hb)
    exact ⟨vs, by rw [hout b (hdis b (by rw [hb]; simp))]; exact e1, e2.mono hfin⟩
  · rw [hout b (s2.none (g5 b (by rw [hb]; simp)))]
    exact g4 b B hb
def Pt (P : Program) (f : FuncId) (ds : List DV) (d : DV) : Prop := PC P f ds (fun d0 M2 => Thaw d0 M2 ∧ ∀ m v, Rep m (fz M2 4 d0) v → Rep m d v) DMem.mt
theorem Pt.pc {P : Program} {f : FuncId} {ds : List DV} {d : DV} {M : DMem} (h : Pt P f (ds.map (fz M 4)) d) {R : DV → DMem → Prop} (hR : R d M) : PC P f ds R M := by
  refine PC.fin (R := fun d0 M1 => ∃ M2, SubD M M1 ∧ SubD M2 M1 ∧ (∀ b, M b ≠ none → M2 b = none) ∧ ∀ m v, Rep m (fz M2 4 d0) v → Rep m d v) ?_ fun d0 M1 ⟨M2, a, b, c, e⟩ => ⟨M, M2, a, b, c, d, e, hR⟩
  refine PC.seal h (fun d0 M2 hh => hh.1) fun d0 M2 hh hdis => ⟨M2, SubD.or_left _ _, SubD.or_right hdis, hdis, hh.2⟩
theorem Pt.pu {P : Program} {f : FuncId} {ds : List DV} {d : DV} (h : Pt P f ds d) : Pu P f ds d := Pu.of_le (h.mono fun d M' hh => hh.2)
theorem app_isl {M : DMem} {e : TypeId} {sz bytes n k : Nat} {d : DV} {cs xs : List DV} {Post : DV → DMem → Prop} (h : OwnD M sz d n cs) (h0 : 0 < sz) (hx : xs.length = k * sz) (hp : xs.all plainD = true) (hb : (n + k) * bytes ≤ 140737488355328) (hn : n + k ≤ 9223372036854775807)
    (hP : ∀ d' M', OwnD M' sz d' (n + k) (cs ++ xs) → GrewD M M' d d' → Post d' M') :
    ∃ k' news, RowD M sz (.isl k xs) k' news ∧ news.all plainD = true ∧ ∃ n', (n' + k') * bytes ≤ 140737488355328 ∧ n' + k' ≤ 9223372036854775807 ∧ AppD M e sz d n' k' news Post :=
  ⟨k, xs, ⟨rfl, h0, by omega, by rw [List.take_of_length_le (by omega)]⟩, hp, n, hb, hn, h.app hx hP⟩
theorem app_one {M : DMem} {e : TypeId} {bytes n : Nat} {d x : DV} {cs : List DV} {Post : DV → DMem → Prop} (h : OwnD M 1 d n cs) (hp : plainD x = true) (hb : (n + 1) * bytes ≤ 140737488355328) (hn : n + 1 ≤ 9223372036854775807)
    (hP : ∀ d' M', OwnD M' 1 d' (n + 1) (cs ++ [x]) → GrewD M M' d d' → Post d' M') :
    ∃ k' news, RowD M 1 (.isl 1 [x]) k' news ∧ news.all plainD = true ∧ ∃ n', (n' + k') * bytes ≤ 140737488355328 ∧ n' + k' ≤ 9223372036854775807 ∧ AppD M e 1 d n' k' news Post :=
  app_isl h (by decide) rfl (by simp [hp]) hb hn hP
theorem OwnD.ix {M : DMem} {sz n i : Nat} {k : IntKind} {d : DV} {cs : List DV} (h : OwnD M sz d n cs) (hi : i < n) : ∃ b ty c, ixD sz d (.int k (i : Int)) = some (.mp b (i * sz)) ∧ M b = some ⟨ty, c * sz, cs⟩ ∧ blkD d = some b := by
  obtain ⟨b, c, ty, rfl, h1, h2, h3⟩ := h.at (by omega)
  exact ⟨b, ty, c, by rw [ixM hi]; simp, h2, h1⟩
theorem OwnD.ix0 {M : DMem} {sz n : Nat} {k : IntKind} {d : DV} {cs : List DV} (h : OwnD M sz d n cs) (hi : 0 < n) : ∃ b ty c, ixD sz d (.int k 0) = some (.mp b 0) ∧ M b = some ⟨ty, c * sz, cs⟩ ∧ blkD d = some b := by
  obtain ⟨b, ty, c, h1, h2, h3⟩ := h.ix (k := k) hi
  exact ⟨b, ty, c, by simpa using h1, h2, h3⟩
theorem cast1 : ((1 : Nat) : Int) = 1 := rfl
theorem Pt.of {P : Program} {f : FuncId} {ds : List DV} {d : DV} (h : PC P f ds (fun d0 M' => ∃ M2, SubD M2 M' ∧ Thaw d0 M2 ∧ ∀ m v, Rep m (fz M2 4 d0) v → Rep m d v) DMem.mt) : Pt P f ds d :=
  PC.drop h fun d0 M' ⟨M2, h1, h2, h3⟩ => ⟨M2, h1, h2, h3⟩
theorem Thaw.one {d : DV} {b : Nat} {B : DBlk} (hd : thawed d = true) (hB : thawedL B.cs = true) : Thaw d (DMem.mt.ins b B) := by
  refine ⟨hd, fun x C hx => ?_⟩
  by_cases e : x = b
  · subst e; rw [DMem.ins_same] at hx; cases hx; exact hB
  · rw [DMem.ins_ne _ _ e] at hx; cases hx
theorem SubD.one {M : DMem} {b : Nat} {B : DBlk} (h : M b = some B) : SubD (DMem.mt.ins b B) M := fun x C hx => by
  by_cases e : x = b
  · subst e; rw [DMem.ins_same] at hx; cases hx; exact h
  · rw [DMem.ins_ne _ _ e] at hx; cases hx
theorem thawedL_map {α : Type} {g : α → DV} (hg : ∀ x, thawed (g x) = true) (l : List α) : thawedL (l.map g) = true := by
  induction l with
  | nil => rfl
  | cons x l ih => simp only [List.map_cons, thawedL, hg, ih]; rfl
theorem splD_set {α : Type} (g : α → DV) (l : List α) {i : Nat} (hi : i < l.length) (x : α) : splD (l.map g) i [g x] = (l.set i x).map g := by
  unfold splD
  rw [List.set_eq_take_append_cons_drop, if_pos hi]
  simp
theorem get_map {α : Type} (g : α → DV) (l : List α) {i : Nat} (hi : i < l.length) : (l.map g)[i]? = some (g l[i]) := by simp [hi]
def StoreD (M : DMem) (k : Nat) (a y : DV) (Post : DV → DMem → Prop) : Prop :=
  ∃ q, mpOf a = some q ∧ ∃ B, M q.1 = some B ∧ ∃ cs, cellsD y = some cs ∧ cs.length = k ∧ q.2 ≤ B.cs.length ∧ q.2 + k ≤ B.n ∧ cs.all plainD = true ∧
      ∀ M', M' = M.ins q.1 ⟨B.ty, B.n, splD B.cs q.2 cs⟩ → Post (.raw undef) M'
theorem wpDE_store {P : Program} {mu : Nat → Bool} {d : Option Nat} {k : Nat} {x y : Operand} {δ : DEnv} {Post : DV → DMem → Prop} {M : DMem} :
    wpDE P mu d (.store k x y) δ Post M = StoreD M k (δ.of x) (δ.of y) Post := rfl
theorem stD {M : DMem} {b i k n : Nat} {ty : TypeId} {y : DV} {full cs : List DV} {Post : DV → DMem → Prop} (hB : M b = some ⟨ty, n, full⟩) (hc : cellsD y = some cs) (hk : cs.length = k) (h1 : i ≤ full.length) (h2 : i + k ≤ n) (hp : cs.all plainD = true)
    (hP : ∀ M', M' = M.ins b ⟨ty, n, splD full i cs⟩ → Post (.raw undef) M') : StoreD M k (.mp b i) y Post :=
  ⟨(b, i), rfl, _, hB, cs, hc, hk, h1, h2, hp, hP⟩
theorem stMap {α : Type} (g : α → DV) {M : DMem} {b i n : Nat} {ty : TypeId} {l : List α} (x : α) {Post : DV → DMem → Prop} (hB : M b = some ⟨ty, n, l.map g⟩) (hi : i < l.length) (hn : l.length ≤ n) (hc : cellsD (g x) = some [g x]) (hp : plainD (g x) = true)
    (hP : ∀ M', M' = M.ins b ⟨ty, n, (l.set i x).map g⟩ → Post (.raw undef) M') : StoreD M 1 (.mp b i) (g x) Post :=
  stD hB hc rfl (by simp; omega) (by omega) (by simp [hp]) fun M' hM' => hP M' (by rw [hM', splD_set g l hi x])
theorem stB {M : DMem} {b i n : Nat} {ty : TypeId} {l : List Bool} {x : Bool} {Post : DV → DMem → Prop} (hB : M b = some ⟨ty, n, l.map .bool⟩) (hi : i < l.length) (hn : l.length ≤ n)
    (hP : ∀ M', M' = M.ins b ⟨ty, n, (l.set i x).map .bool⟩ → Post (.raw undef) M') : StoreD M 1 (.mp b i) (.bool x) Post := stMap .bool x hB hi hn rfl rfl hP
theorem stI {M : DMem} {b i n : Nat} {ty : TypeId} {l : List Int} {x : Int} {Post : DV → DMem → Prop} (hB : M b = some ⟨ty, n, l.map (.int .i64)⟩) (hi : i < l.length) (hn : l.length ≤ n)
    (hP : ∀ M', M' = M.ins b ⟨ty, n, (l.set i x).map (.int .i64)⟩ → Post (.raw undef) M') : StoreD M 1 (.mp b i) (.int .i64 x) Post := stMap (.int .i64) x hB hi hn rfl rfl hP
def MakeD (M : DMem) (e : TypeId) (sz bytes : Nat) (z : Value) (x y : DV) (Post : DV → DMem → Prop) : Prop :=
  ∃ l, intOf x = some l ∧ ∃ c, intOf y = some c ∧ 0 ≤ l ∧ l ≤ c ∧ (bytes : Int) * c ≤ 281474976710656 ∧ c ≤ 9223372036854775807 ∧
      ∀ b M', M b = none → M' = M.ins b ⟨e, c.toNat * sz, (zeros z.cells.toList (l.toNat * sz)).map of0⟩ → Post (.msl b 0 l.toNat c.toNat) M'
theorem wpDE_make {P : Program} {mu : Nat → Bool} {d : Option Nat} {e : TypeId} {sz bytes : Nat} {z : Value} {x y : Operand} {δ : DEnv} {Post : DV → DMem → Prop} {M : DMem} :
    wpDE P mu d (.make e sz bytes z x y) δ Post M = MakeD M e sz bytes z (δ.of x) (δ.of y) Post := rfl
theorem mkD {M : DMem} {e : TypeId} {sz bytes : Nat} {z : Value} {n : Nat} {Post : DV → DMem → Prop} (hn : bytes * n ≤ 281474976710656) (hn' : n ≤ 9223372036854775807)
    (hP : ∀ b M', M b = none → M' = M.ins b ⟨e, n * sz, (zeros z.cells.toList (n * sz)).map of0⟩ → Post (.msl b 0 n n) M') : MakeD M e sz bytes z (.int .i64 n) (.int .i64 n) Post := by
  refine ⟨n, rfl, n, rfl, by omega, by omega, ?_, by omega, ?_⟩
  · have : ((bytes * n : Nat) : Int) ≤ 281474976710656 := by omega
    rwa [Int.natCast_mul] at this
  · simpa only [Int.toNat_natCast] using hP
theorem mkB {M : DMem} {e : TypeId} {n : Nat} {Post : DV → DMem → Prop} (hn : n ≤ 281474976710656) (hP : ∀ b M', M b = none → M' = M.ins b ⟨e, n, (List.replicate n false).map .bool⟩ → Post (.msl b 0 n n) M') :
    MakeD M e 1 1 (.bool false) (.int .i64 n) (.int .i64 n) Post :=
  mkD (by omega) (by omega) fun b M' h1 h2 => hP b M' h1 (by rw [h2, Nat.mul_one, zerosD_bool, List.map_replicate])
theorem mkI {M : DMem} {e : TypeId} {n : Nat} {Post : DV → DMem → Prop} (hn : n ≤ 35184372088832) (hP : ∀ b M', M b = none → M' = M.ins b ⟨e, n, (List.replicate n (0 : Int)).map (.int .i64)⟩ → Post (.msl b 0 n n) M') :
    MakeD M e 1 8 (.int .i64 0) (.int .i64 n) (.int .i64 n) Post :=
  mkD (by omega) (by omega) fun b M' h1 h2 => hP b M' h1 (by rw [h2, Nat.mul_one, zerosD_int, List.map_replicate])
theorem ixM0 {sz b o n c : Nat} {k : IntKind} (h : 0 < n) : ixD sz (.msl b o n c) (.int k 0) = some (.mp b o) := by
  have := @ixM sz b o n c k 0 h
  simpa using this
theorem grdTT (x : Option DV) : grdD true (.bool true) x = x := rfl
theorem grdFF (x : Option DV) : grdD false (.bool false) x = x := rfl
theorem grdTF (x : Option DV) : grdD true (.bool false) x = some (.raw undef) := rfl
theorem grdFT (x : Option DV) : grdD false (.bool true) x = some (.raw undef) := rfl
theorem grdU (w : Bool) (x : Option DV) : grdD w (.raw undef) x = some (.raw undef) := rfl
end Go.Proofs.YticlgdhhnjpkjaaGreatDoor.Mw
namespace Go.Proofs.YticlgdhhnjpkjaaGreatDoor.Mw
open Go Go.RowKit
theorem SW : type_of% (And.intro (And.intro (And.intro (And.intro (And.intro (And.intro (And.intro @wpDE.eq_1 (And.intro @wpDE.eq_2 @wpDE_store)) (And.intro @wpDE.eq_4 (And.intro @wpDE_make @wpDE.eq_6))) (And.intro (And.intro @wpDE.eq_7 (And.intro @wpDE.eq_8 @wpDE.eq_9)) (And.intro (And.intro @wpDE.eq_10 @wpDE.eq_11) (And.intro @dupds_nil @dupds_cons)))) (And.intro (And.intro (And.intro @dupdO_some (And.intro @dupdO_none @DEnv.upd_eq)) (And.intro @argD_0 (And.intro @argD_1 @argD_2))) (And.intro (And.intro @argD_3 (And.intro @argD_4 @argD_5)) (And.intro (And.intro @dof_tmp @dof_const) (And.intro @dof_func @ofV_int))))) (And.intro (And.intro (And.intro (And.intro @ofV_bool (And.intro @ofV_str @ofV_nilp)) (And.intro @ofV_nils (And.intro @ofV_func @ofV_agg))) (And.intro (And.intro @of0_int (And.intro @of0_bool @of0_str)) (And.intro (And.intro @of0_nilp @of0_nils) (And.intro @andI @orI)))) (And.intro (And.intro (And.intro @xorI (And.intro @shrI @shlI)) (And.intro @addU (And.intro @mulU @addD))) (And.intro (And.intro @subD (And.intro @mulD @remD)) (And.intro (And.intro @quoD @eqlD) (And.intro @neqD @lssD)))))) (And.intro (And.intro (And.intro (And.intro (And.intro @leqD (And.intro @gtrD @geqD)) (And.intro @eqbD_b (And.intro @nebD_b @eqsStr))) (And.intro (And.intro @nesStr (And.intro @notD @negD)) (And.intro (And.intro @cvtI64 @cvtU64) (And.intro @cvtU8 @cvtU32)))) (And.intro (And.intro (And.intro @cvtI32 (And.intro @pickB @andB)) (And.intro @orB (And.intro @andT @andF))) (And.intro (And.intro @orT (And.intro @orF @lenI)) (And.intro (And.intro @lenM @lenZ) (And.intro @plain_int @plain_bool))))) (And.intro (And.intro (And.intro (And.intro @plain_str (And.intro @plain_nilp @plain_mp)) (And.intro @plain_ip (And.intro @plain_isl @plain_zsl))) (And.intro (And.intro @plain_msl (And.intro @plain_fn @plain_ifc)) (And.intro (And.intro @plain_slI @plain_slB) (And.intro @plain_slD @mpOf_mp)))) (And.intro (And.intro (And.intro @intOf_int (And.intro @mslOf_msl @lenN_slI)) (And.intro @lenN_slB (And.intro @lenN_slD @zerosD_int))) (And.intro (And.intro @zerosD_bool (And.intro @lenN_isl @lenN_msl)) (And.intro (And.intro @lenN_zsl @eqnI) (And.intro @eqnM @eqnN))))))) (And.intro (And.intro (And.intro (And.intro (And.intro (And.intro @nckI (And.intro @nckM @faI)) (And.intro @faM (And.intro @ldI @ldM))) (And.intro (And.intro @ldnI2 (And.intro @ldnI3 @ldnM)) (And.intro (And.intro @extT @csT) (And.intro @fldA @tupT)))) (And.intro (And.intro (And.intro @mkfT (And.intro @bldT @cellsA)) (And.intro @cellsI (And.intro @cellsB @cellsS))) (And.intro (And.intro @cellsP (And.intro @cellsMp @cellsNp)) (And.intro (And.intro @cellsL @cellsZ) (And.intro @cellsM @cellsF))))) (And.intro (And.intro (And.intro (And.intro @bnd0 (And.intro @bnd1 @fz_int)) (And.intro @fz_bool (And.intro @fz_str @fz_nilp))) (And.intro (And.intro @fz_zsl (And.intro @fz_tup @fz_agg)) (And.intro (And.intro @fz_ip @fz_isl) (And.intro @fz_fn @fz_slI)))) (And.intro (And.intro (And.intro @fz_slB (And.intro @len_slI @len_slB)) (And.intro @len_slD (And.intro @cells_slI @cells_slB))) (And.intro (And.intro @cells_slD (And.intro @DMem.ins_none @DMem.ins_same)) (And.intro (And.intro @grdTT @grdFF) (And.intro @grdTF @grdFT)))))) (And.intro (And.intro (And.intro (And.intro (And.intro @grdU (And.intro @gOnT @gOnF)) (And.intro @gOnU (And.intro @nilsK @eqzM))) (And.intro (And.intro @eqzR (And.intro @List.all_cons.{0} @List.all_nil.{0})) (And.intro (And.intro @Int.toNat_natCast @List.take_zero.{0}) (And.intro @List.take_succ_cons.{0} @List.take_nil.{0})))) (And.intro (And.intro (And.intro @List.drop_nil.{0} (And.intro @List.append_nil.{0} @Nat.le_refl)) (And.intro @Nat.zero_le (And.intro @and_self @Nat.mul_one))) (And.intro (And.intro @Bool.not_false (And.intro @Bool.not_true @Option.map_some.{0,0})) (And.intro (And.intro @Option.isSome_some.{0} @Option.map_none.{0,0}) (And.intro @Option.getD_some.{0} @Option.getD_none.{0}))))) (And.intro (And.intro (And.intro (And.intro @true_and (And.intro @and_true @Bool.false_eq_true)) (And.intro @not_false_eq_true (And.intro @not_true_eq_false @Bool.or_false))) (And.intro (And.intro @Bool.or_true (And.intro @Bool.and_true @Bool.and_false)) (And.intro (And.intro @Bool.true_or @Bool.false_or) (And.intro @Bool.true_and @Bool.false_and)))) (And.intro (And.intro (And.intro @List.map_cons.{0,0} (And.intro @List.map_nil.{0,0} @List.drop_zero.{0})) (And.intro (And.intro @List.drop_succ_cons.{0} @List.cons_append.{0}) (And.intro @List.nil_append.{0} @List.getElem?_cons_zero.{0}))) (And.intro (And.intro @List.getElem?_cons_succ.{0} (And.intro @and_assoc @false_implies)) (And.intro (And.intro @Nat.add_zero @Nat.zero_add) (And.intro @List.length_cons.{0} @List.length_nil.{0})))))))) := (And.intro (And.intro (And.intro (And.intro (And.intro (And.intro (And.intro @wpDE.eq_1 (And.intro @wpDE.eq_2 @wpDE_store)) (And.intro @wpDE.eq_4 (And.intro @wpDE_make @wpDE.eq_6))) (And.intro (And.intro @wpDE.eq_7 (And.intro @wpDE.eq_8 @wpDE.eq_9)) (And.intro (And.intro @wpDE.eq_10 @wpDE.eq_11) (And.intro @dupds_nil @dupds_cons)))) (And.intro (And.intro (And.intro @dupdO_some (And.intro @dupdO_none @DEnv.upd_eq)) (And.intro @argD_0 (And.intro @argD_1 @argD_2))) (And.intro (And.intro @argD_3 (And.intro @argD_4 @argD_5)) (And.intro (And.intro @dof_tmp @dof_const) (And.intro @dof_func @ofV_int))))) (And.intro (And.intro (And.intro (And.intro @ofV_bool (And.intro @ofV_str @ofV_nilp)) (And.intro @ofV_nils (And.intro @ofV_func @ofV_agg))) (And.intro (And.intro @of0_int (And.intro @of0_bool @of0_str)) (And.intro (And.intro @of0_nilp @of0_nils) (And.intro @andI @orI)))) (And.intro (And.intro (And.intro @xorI (And.intro @shrI @shlI)) (And.intro @addU (And.intro @mulU @addD))) (And.intro (And.intro @subD (And.intro @mulD @remD)) (And.intro (And.intro @quoD @eqlD) (And.intro @neqD @lssD)))))) (And.intro (And.intro (And.intro (And.intro (And.intro @leqD (And.intro @gtrD @geqD)) (And.intro @eqbD_b (And.intro @nebD_b @eqsStr))) (And.intro (And.intro @nesStr (And.intro @notD @negD)) (And.intro (And.intro @cvtI64 @cvtU64) (And.intro @cvtU8 @cvtU32)))) (And.intro (And.intro (And.intro @cvtI32 (And.intro @pickB @andB)) (And.intro @orB (And.intro @andT @andF))) (And.intro (And.intro @orT (And.intro @orF @lenI)) (And.intro (And.intro @lenM @lenZ) (And.intro @plain_int @plain_bool))))) (And.intro (And.intro (And.intro (And.intro @plain_str (And.intro @plain_nilp @plain_mp)) (And.intro @plain_ip (And.intro @plain_isl @plain_zsl))) (And.intro (And.intro @plain_msl (And.intro @plain_fn @plain_ifc)) (And.intro (And.intro @plain_slI @plain_slB) (And.intro @plain_slD @mpOf_mp)))) (And.intro (And.intro (And.intro @intOf_int (And.intro @mslOf_msl @lenN_slI)) (And.intro @lenN_slB (And.intro @lenN_slD @zerosD_int))) (And.intro (And.intro @zerosD_bool (And.intro @lenN_isl @lenN_msl)) (And.intro (And.intro @lenN_zsl @eqnI) (And.intro @eqnM @eqnN))))))) (And.intro (And.intro (And.intro (And.intro (And.intro (And.intro @nckI (And.intro @nckM @faI)) (And.intro @faM (And.intro @ldI @ldM))) (And.intro (And.intro @ldnI2 (And.intro @ldnI3 @ldnM)) (And.intro (And.intro @extT @csT) (And.intro @fldA @tupT)))) (And.intro (And.intro (And.intro @mkfT (And.intro @bldT @cellsA)) (And.intro @cellsI (And.intro @cellsB @cellsS))) (And.intro (And.intro @cellsP (And.intro @cellsMp @cellsNp)) (And.intro (And.intro @cellsL @cellsZ) (And.intro @cellsM @cellsF))))) (And.intro (And.intro (And.intro (And.intro @bnd0 (And.intro @bnd1 @fz_int)) (And.intro @fz_bool (And.intro @fz_str @fz_nilp))) (And.intro (And.intro @fz_zsl (And.intro @fz_tup @fz_agg)) (And.intro (And.intro @fz_ip @fz_isl) (And.intro @fz_fn @fz_slI)))) (And.intro (And.intro (And.intro @fz_slB (And.intro @len_slI @len_slB)) (And.intro @len_slD (And.intro @cells_slI @cells_slB))) (And.intro (And.intro @cells_slD (And.intro @DMem.ins_none @DMem.ins_same)) (And.intro (And.intro @grdTT @grdFF) (And.intro @grdTF @grdFT)))))) (And.intro (And.intro (And.intro (And.intro (And.intro @grdU (And.intro @gOnT @gOnF)) (And.intro @gOnU (And.intro @nilsK @eqzM))) (And.intro (And.intro @eqzR (And.intro @List.all_cons.{0} @List.all_nil.{0})) (And.intro (And.intro @Int.toNat_natCast @List.take_zero.{0}) (And.intro @List.take_succ_cons.{0} @List.take_nil.{0})))) (And.intro (And.intro (And.intro @List.drop_nil.{0} (And.intro @List.append_nil.{0} @Nat.le_refl)) (And.intro @Nat.zero_le (And.intro @and_self @Nat.mul_one))) (And.intro (And.intro @Bool.not_false (And.intro @Bool.not_true @Option.map_some.{0,0})) (And.intro (And.intro @Option.isSome_some.{0} @Option.map_none.{0,0}) (And.intro @Option.getD_some.{0} @Option.getD_none.{0}))))) (And.intro (And.intro (And.intro (And.intro @true_and (And.intro @and_true @Bool.false_eq_true)) (And.intro @not_false_eq_true (And.intro @not_true_eq_false @Bool.or_false))) (And.intro (And.intro @Bool.or_true (And.intro @Bool.and_true @Bool.and_false)) (And.intro (And.intro @Bool.true_or @Bool.false_or) (And.intro @Bool.true_and @Bool.false_and)))) (And.intro (And.intro (And.intro @List.map_cons.{0,0} (And.intro @List.map_nil.{0,0} @List.drop_zero.{0})) (And.intro (And.intro @List.drop_succ_cons.{0} @List.cons_append.{0}) (And.intro @List.nil_append.{0} @List.getElem?_cons_zero.{0}))) (And.intro (And.intro @List.getElem?_cons_succ.{0} (And.intro @and_assoc @false_implies)) (And.intro (And.intro @Nat.add_zero @Nat.zero_add) (And.intro @List.length_cons.{0} @List.length_nil.{0}))))))))
theorem SV : type_of% (And.intro (And.intro (And.intro (And.intro @List.contains_cons.{0} @List.contains_nil.{0}) (And.intro @Option.bind_some.{0,0} (And.intro @Option.some.injEq.{0} @exists_eq_left'.{1}))) (And.intro (And.intro @exists_eq_left.{1} @if_false.{1}) (And.intro @if_true.{1} (And.intro decide_true decide_false)))) (And.intro (And.intro (And.intro @DV.bool.injEq @DV.int.injEq) (And.intro @DV.mp.injEq (And.intro @DV.msl.injEq @DV.tup.injEq))) (And.intro (And.intro @DV.agg.injEq (And.intro @DV.fn.injEq @true_implies)) (And.intro @forall_const.{1} (And.intro @implies_true.{1} @ne_eq.{1}))))) := (And.intro (And.intro (And.intro (And.intro @List.contains_cons.{0} @List.contains_nil.{0}) (And.intro @Option.bind_some.{0,0} (And.intro @Option.some.injEq.{0} @exists_eq_left'.{1}))) (And.intro (And.intro @exists_eq_left.{1} @if_false.{1}) (And.intro @if_true.{1} (And.intro decide_true decide_false)))) (And.intro (And.intro (And.intro @DV.bool.injEq @DV.int.injEq) (And.intro @DV.mp.injEq (And.intro @DV.msl.injEq @DV.tup.injEq))) (And.intro (And.intro @DV.agg.injEq (And.intro @DV.fn.injEq @true_implies)) (And.intro @forall_const.{1} (And.intro @implies_true.{1} @ne_eq.{1})))))
end Go.Proofs.YticlgdhhnjpkjaaGreatDoor.Mw
namespace Go.Proofs.YticlgdhhnjpkjaaGreatDoor.Pf
open Go Go.RowKit Go.Proofs Go.Proofs.YticlgdhhnjpkjaaGreatDoor.Mw Go.Proofs.YticlgdhhnjpkjaaGreatDoor.Sx
set_option linter.unusedVariables false
set_option linter.unusedSimpArgs false
set_option maxRecDepth 4000
structure Ins where
  kind : Int
  a : Int
deriving DecidableEq
abbrev Ins.c (x : Ins) : List DV := [.int .i64 x.kind, .int .i64 x.a]
structure Fnc where
  args : Int
  locals : Int
  code : List Ins
abbrev Fnc.c (f : Fnc) : List DV := [.int .i64 f.args, .int .i64 f.locals, slD Ins.c f.code]
theorem Ins.len (x : Ins) : x.c.length = 2 := rfl
theorem Ins.froz (x : Ins) : FrozL x.c := (FrozL.nil.cons (Froz.int _ _)).cons (Froz.int _ _)
theorem Fnc.froz (f : Fnc) : FrozL f.c := ((FrozL.nil.cons (Froz.slD Ins.froz _)).cons (Froz.int _ _)).cons (Froz.int _ _)
theorem fz_ins (M : DMem) (k : Nat) (l : List Ins) : fz M k (slD Ins.c l) = slD Ins.c l := (Froz.slD Ins.froz l).fz M k

theorem Number_pf (x : Int) : pf Tryz.prog F_swageref1_Number [.int .i64 x] = some (.bool (decide (-2147483648 ≤ x) && decide (x ≤ 2147483647))) := by
  refine pf_of (v := .bool _) (pc_swageref1_Number (by simp) ?_) (FrozL.nil.cons (Froz.int _ _)) rfl rfl
  simp only [S_swageref1_Number, R_swageref1_Number, MU_swageref1_Number, MU_swageref1_Number, SW, SV, wpD, evDL, evDM, evD, bldLD, wpSp, DMem.mt, beq_self_eq_true, seval]
theorem wrapIs_pf (x : Int) : pf Tryz.prog F_wrap_Is [.int .i64 x] = some (.bool (decide (-2147483648 ≤ x) && decide (x ≤ 2147483647))) := by
  refine pf_of (v := .bool _) (pc_wrap_Is (by simp) ?_) (FrozL.nil.cons (Froz.int _ _)) rfl rfl
  simp only [S_wrap_Is, R_wrap_Is, MU_wrap_Is, MU_wrap_Is, SW, SV, wpD, evDL, evDM, evD, bldLD, wpSp, DMem.mt, beq_self_eq_true, seval]
  simp only [wr64_eq]; unfold wrap32 wrap64
  rw [Bool.eq_iff_iff]
  simp only [Bool.and_eq_true, decide_eq_true_eq]
  omega
def isB (x : Int) : Bool := decide (-2147483648 ≤ x) && decide (x ≤ 2147483647)
def belowF (k : Int) : Int := if k = 1 ∨ k = 2 then 8 else if k = 12 ∨ k = 13 then 64 else if k = 14 then 8 else 1
def mayB (x : Ins) : Bool := if x.kind < 0 ∨ 16 < x.kind then false else if x.kind = 0 then isB x.a else decide (0 ≤ x.a) && decide (x.a < belowF x.kind)
theorem below_pf (k : Int) : pf Tryz.prog F_ins_below [.int .i64 k] = some (.int .i64 (belowF k)) := by
  refine pf_of (v := .int _ _) (pc_ins_below (by simp) ?_) (FrozL.nil.cons (Froz.int _ _)) rfl rfl
  simp only [S_ins_below, R_ins_below, MU_ins_below, MU_ins_below, SW, SV, wpD, evDL, evDM, evD, bldLD, wpSp, DMem.mt, beq_self_eq_true, seval, belowF]
  grind
theorem May_pf (x : Ins) : pf Tryz.prog F_ins_May [.agg x.c] = some (.bool (mayB x)) := by
  refine pf_of (v := .bool _) (pc_ins_May (by simp) ?_) (FrozL.nil.cons (Froz.agg x.froz)) rfl rfl
  simp only [S_ins_May, R_ins_May, MU_ins_May, MU_ins_May, SW, SV, wpD, evDL, evDM, evD, bldLD, wpSp, DMem.mt, beq_self_eq_true, seval, wrapIs_pf, below_pf]
  simp only [mayB, isB]
  grind
theorem InsMay_pf (x : Ins) : pf Tryz.prog F_swageref1_InsMay [.agg x.c] = some (.bool (mayB x)) := by
  refine pf_of (v := .bool _) (pc_swageref1_InsMay (by simp) ?_) (FrozL.nil.cons (Froz.agg x.froz)) rfl rfl
  simp only [S_swageref1_InsMay, R_swageref1_InsMay, MU_swageref1_InsMay, MU_swageref1_InsMay, SW, SV, wpD, evDL, evDM, evD, bldLD, wpSp, DMem.mt, beq_self_eq_true, seval, Number_pf]
  simp only [mayB, isB, belowF]
  grind
def idxF {α : Type} (p : α → Bool) (l : List α) : Int := match l.findIdx? p with | some i => i | none => -1
theorem idxF_hit {α : Type} {p : α → Bool} {l : List α} (i : Nat) (h : i < l.length) (hp : p l[i] = true) (hj : ∀ j (h : j < l.length), j < i → p l[j] = false) : idxF p l = i := by
  have : l.findIdx? p = some i := by
    rw [List.findIdx?_eq_some_iff_getElem]
    exact ⟨h, hp, fun j hji => by simp [hj j (by omega) hji]⟩
  simp only [idxF, this]
theorem idxF_miss {α : Type} {p : α → Bool} {l : List α} (hj : ∀ j (h : j < l.length), p l[j] = false) : idxF p l = -1 := by
  have : l.findIdx? p = none := by
    rw [List.findIdx?_eq_none_iff]
    intro x hx
    obtain ⟨j, h, rfl⟩ := List.getElem_of_mem hx
    exact hj j h
  simp only [idxF, this]
theorem idxF_any {α : Type} (p : α → Bool) (l : List α) : decide (0 ≤ idxF p l) = l.any p := by
  unfold idxF
  cases h : l.findIdx? p with
  | none =>
    rw [List.findIdx?_eq_none_iff] at h
    have : l.any p = false := List.any_eq_false.2 fun x hx => by simp [h x hx]
    rw [this] <;> rfl
  | some i =>
    rw [List.findIdx?_eq_some_iff_getElem] at h
    obtain ⟨h1, h2, _⟩ := h
    have : l.any p = true := List.any_eq_true.2 ⟨l[i], List.getElem_mem h1, h2⟩
    rw [this]; simp
theorem IndexFunc_ins (g : Nat) (a b : List DV) (ha : FrozL a) (hb : FrozL b) (p : Ins → Bool) (l : List Ins) (hl : l.length ≤ 4611686018427387904)
    (hp : ∀ i (h : i < l.length), pf Tryz.prog g (a ++ .agg l[i].c :: b) = some (.bool (p l[i]))) :
    pf Tryz.prog F_slices_IndexFunc_api_Ins_api_Ins [slD Ins.c l, .fn (.func g) a b] = some (.int .i64 (idxF p l)) := by
  refine pf_of (v := .int _ _) (pc_slices_IndexFunc_api_Ins_api_Ins (by simp) ?_) ((FrozL.nil.cons (Froz.fn ha hb)).cons (Froz.slD Ins.froz _)) rfl rfl
  simp only [S_slices_IndexFunc_api_Ins_api_Ins, R_slices_IndexFunc_api_Ins_api_Ins, MU_slices_IndexFunc_api_Ins_api_Ins, MU_slices_IndexFunc_api_Ins_api_Ins, S1_slices_IndexFunc_api_Ins_api_Ins, SW, SV, wpD, evDL, evDM, evD, bldLD, wpSp, DMem.mt, beq_self_eq_true, seval]
  refine ⟨fun k δ M => ∃ i, i ≤ l.length ∧ k = l.length - i ∧ M = DMem.mt ∧ δ 0 = slD Ins.c l ∧ δ 1 = .fn (.func g) a b ∧ δ 7 = .int .i64 l.length ∧ δ 8 = .int .i64 i ∧ (∀ j (h : j < l.length), j < i → p l[j] = false),
    l.length, ⟨0, Nat.zero_le _, rfl, rfl, rfl, rfl, rfl, rfl, fun j h hj => absurd hj (by omega)⟩, ?_⟩
  rintro k δ M ⟨i, hi, rfl, rfl, h0, h1, h7, h8, hj⟩
  simp only [h0, h1, h7, h8, SW, SV, wpD, evDL, evDM, evD, bldLD, wpSp, DMem.mt, beq_self_eq_true, seval, decide_eq_true_eq, decide_eq_false_iff_not]
  refine ⟨fun h => ?_, fun h => ?_⟩
  · have hlt : i < l.length := by omega
    simp only [ix_slD Ins.len hlt, h0, h1, h7, h8, SW, SV, wpD, evDL, evDM, evD, bldLD, wpSp, DMem.mt, beq_self_eq_true, seval, w64s (show i < 4611686018427387905 by omega)]
    refine ⟨g, a, b, rfl, rfl, rfl, PC.of_pf (d := .bool (p l[i])) ?_ ?_⟩
    · rw [fzmap_froz (by simpa using ha.append (hb.cons (Froz.agg l[i].froz)))]; simpa using hp i hlt
    · simp only [SW, SV, wpD, evDL, evDM, evD, bldLD, wpSp, DMem.mt, beq_self_eq_true, seval]
      refine ⟨fun hpi => ?_, fun hpi => ⟨l.length - (i + 1), DMem.mt, by omega, SubD.refl _, i + 1, by omega, rfl, rfl, rfl, fun j h' hji => ?_⟩⟩
      · rw [idxF_hit i hlt hpi hj]
      · rcases Nat.lt_or_ge j i with h2 | h2
        · exact hj j h' h2
        · have : j = i := by omega
          subst this; exact hpi
  · rw [idxF_miss fun j h' => hj j h' (by omega)]
theorem may1_pf (x : Ins) : pf Tryz.prog F_flow_may_1 [.agg x.c] = some (.bool (!mayB x)) := by
  refine pf_of (v := .bool _) (pc_flow_may_1 (by simp) ?_) (FrozL.nil.cons (Froz.agg x.froz)) rfl rfl
  simp only [S_flow_may_1, R_flow_may_1, MU_flow_may_1, MU_flow_may_1, SW, SV, wpD, evDL, evDM, evD, bldLD, wpSp, DMem.mt, beq_self_eq_true, seval, May_pf]
theorem Contains_ins (g : Nat) (p : Ins → Bool) (l : List Ins) (hl : l.length ≤ 4611686018427387904) (hp : ∀ i (h : i < l.length), pf Tryz.prog g [.agg l[i].c] = some (.bool (p l[i]))) :
    pf Tryz.prog F_slices_ContainsFunc_api_Ins_api_Ins [slD Ins.c l, .fn (.func g) [] []] = some (.bool (l.any p)) := by
  refine pf_of (v := .bool _) (pc_slices_ContainsFunc_api_Ins_api_Ins (by simp) ?_) ((FrozL.nil.cons (Froz.fn FrozL.nil FrozL.nil)).cons (Froz.slD Ins.froz _)) rfl rfl
  simp only [S_slices_ContainsFunc_api_Ins_api_Ins, R_slices_ContainsFunc_api_Ins_api_Ins, MU_slices_ContainsFunc_api_Ins_api_Ins, MU_slices_ContainsFunc_api_Ins_api_Ins, fz_ins, SW, SV, wpD, evDL, evDM, evD, bldLD, wpSp, DMem.mt, beq_self_eq_true, seval, IndexFunc_ins g [] [] FrozL.nil FrozL.nil p l hl (by simpa using hp), idxF_any]
def fmayB (l : List Ins) : Bool := decide (1 ≤ l.length) && decide (l.length ≤ 64) && l.all mayB
theorem not_mayB (l : List Ins) : (!(l.any fun x => !mayB x)) = l.all mayB := by
  induction l with
  | nil => rfl
  | cons x l ih => simp only [List.any_cons, List.all_cons, ← ih, Bool.not_or, Bool.not_not]
theorem fmay_pf (f : Fnc) : pf Tryz.prog F_flow_may [.ip f.c] = some (.bool (fmayB f.code)) := by
  refine pf_of (v := .bool _) (pc_flow_may (by simp) ?_) (FrozL.nil.cons (Froz.ip f.froz)) rfl rfl
  simp only [S_flow_may, R_flow_may, MU_flow_may, MU_flow_may, fz_ins, SW, SV, wpD, evDL, evDM, evD, bldLD, wpSp, DMem.mt, beq_self_eq_true, seval]
  cases hb : (decide (1 ≤ (f.code.length : Int)) && decide ((f.code.length : Int) ≤ 64)) with
  | false =>
    have e : fmayB f.code = false := by
      simp only [fmayB]
      have : (decide (1 ≤ f.code.length) && decide (f.code.length ≤ 64)) = false := by
        rw [← hb]; congr 1 <;> (rw [decide_eq_decide]; omega)
      rw [this] <;> rfl
    simp only [e, SW, SV, wpD, evDL, evDM, evD, bldLD, wpSp, DMem.mt, beq_self_eq_true, seval]
  | true =>
    have hr : 1 ≤ f.code.length ∧ f.code.length ≤ 64 := by
      simp only [Bool.and_eq_true, decide_eq_true_eq] at hb; omega
    have e : fmayB f.code = f.code.all mayB := by
      simp only [fmayB]
      rw [decide_eq_true hr.1, decide_eq_true hr.2] <;> rfl
    simp only [e, Contains_ins F_flow_may_1 (fun x => !mayB x) f.code (by omega) (fun i h => may1_pf _), SW, SV, wpD, evDL, evDM, evD, bldLD, wpSp, DMem.mt, beq_self_eq_true, seval, not_mayB]
theorem FuncMay_pf (f : Fnc) : pf Tryz.prog F_swageref1_FuncMay [.agg f.c] = some (.bool (fmayB f.code)) := by
  refine pf_of (v := .bool _) (pc_swageref1_FuncMay (by simp) ?_) (FrozL.nil.cons (Froz.agg f.froz)) rfl rfl
  simp only [S_swageref1_FuncMay, R_swageref1_FuncMay, MU_swageref1_FuncMay, SW, SV, wpD, evDL, evDM, evD, bldLD, wpSp, DMem.mt, beq_self_eq_true, seval]
  refine ⟨fun hr => ?_, fun hr => ?_⟩
  · simp only [Bool.or_eq_true, decide_eq_true_eq] at hr
    have : (decide (1 ≤ f.code.length) && decide (f.code.length ≤ 64)) = false := by
      rw [Bool.and_eq_false_iff, decide_eq_false_iff_not, decide_eq_false_iff_not]; omega
    simp only [fmayB, this, Bool.false_and]
  · simp only [Bool.or_eq_false_iff, decide_eq_false_iff_not] at hr
    have e : fmayB f.code = f.code.all mayB := by
      simp only [fmayB]
      rw [decide_eq_true (show 1 ≤ f.code.length by omega), decide_eq_true (show f.code.length ≤ 64 by omega)] <;> rfl
    rw [e]
    refine ⟨fun k δ M => ∃ i, i ≤ f.code.length ∧ k = f.code.length - i ∧ M = DMem.mt ∧ δ 1 = .ip f.c ∧ δ 3 = .int .i64 i ∧ (∀ j (h : j < f.code.length), j < i → mayB f.code[j] = true),
      f.code.length, ⟨0, Nat.zero_le _, rfl, rfl, rfl, rfl, fun j h hj => absurd hj (by omega)⟩, ?_⟩
    rintro k δ M ⟨i, hi, rfl, rfl, h1, h3, hj⟩
    simp only [S1_swageref1_FuncMay, h1, h3, SW, SV, wpD, evDL, evDM, evD, bldLD, wpSp, DMem.mt, beq_self_eq_true, seval, decide_eq_true_eq, decide_eq_false_iff_not]
    refine ⟨fun h => ?_, fun h => ?_⟩
    · have hlt : i < f.code.length := by omega
      simp only [ix_slD Ins.len hlt, h1, h3, SW, SV, wpD, evDL, evDM, evD, bldLD, wpSp, DMem.mt, beq_self_eq_true, seval, InsMay_pf, w64s (show i < 4611686018427387905 by omega)]
      refine ⟨fun hm => ?_, fun hm => ⟨f.code.length - (i + 1), DMem.mt, by omega, SubD.refl _, i + 1, by omega, rfl, rfl, rfl, fun j h' hji => ?_⟩⟩
      · have : f.code.all mayB = false := List.all_eq_false.2 ⟨_, List.getElem_mem hlt, by simpa using hm⟩
        exact this.symm
      · rcases Nat.lt_or_ge j i with h2 | h2
        · exact hj j h' h2
        · have : j = i := by omega
          subst this; simpa using hm
    · exact (List.all_eq_true.2 fun x hx => by obtain ⟨j, h', rfl⟩ := List.getElem_of_mem hx; exact hj j h' (by omega)).symm
theorem fz_fnca (M : DMem) (k : Nat) (f : Fnc) : fz M k (.agg f.c) = .agg f.c := (Froz.agg f.froz).fz M k
theorem fmay_le {l : List Ins} (h : fmayB l = true) : 1 ≤ l.length ∧ l.length ≤ 64 := by
  simp only [fmayB, Bool.and_eq_true, decide_eq_true_eq] at h
  exact h.1
theorem fmay_ins {l : List Ins} (h : fmayB l = true) {k : Nat} (hk : k < l.length) : mayB l[k] = true := by
  simp only [fmayB, Bool.and_eq_true, List.all_eq_true] at h
  exact h.2 _ (List.getElem_mem hk)
theorem may_jump {x : Ins} (h : mayB x = true) (hk : x.kind = 12 ∨ x.kind = 13) : 0 ≤ x.a ∧ x.a < 64 := by
  unfold mayB belowF at h
  rcases hk with hk | hk <;> simp only [hk] at h <;> simp at h <;> omega
theorem ldnI1 (M : DMem) (a : DV) (cs : List DV) : ldnD M 1 (.ip (a :: cs)) = some (.agg [a]) := by simp [ldnD]
end Go.Proofs.YticlgdhhnjpkjaaGreatDoor.Pf
