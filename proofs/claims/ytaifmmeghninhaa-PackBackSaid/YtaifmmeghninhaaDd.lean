/- Words for proofs over deep values. No condition. -/
import Derived.Test.YtaifmmeghninhaaDf
namespace Go.Proofs.Ytaifmmeghninhaa.Mw
open Go Go.RowKit
set_option linter.unusedVariables false
set_option linter.unusedSimpArgs false
theorem dupdO_some (δ : DEnv) (i : Nat) (v : DV) : δ.updO (some i) v = δ.upd i v := rfl
theorem dupdO_none (δ : DEnv) (v : DV) : δ.updO none v = δ := rfl
theorem dupds_nil (δ : DEnv) : δ.upds [] = δ := rfl
theorem dupds_cons (δ : DEnv) (i : Nat) (v : DV) (l : List (Nat × DV)) : δ.upds ((i, v) :: l) = (δ.upd i v).upds l := rfl
theorem argD_0 (a : DV) (l : List DV) : argD (a :: l) 0 = a := rfl
theorem argD_1 (a b : DV) (l : List DV) : argD (a :: b :: l) 1 = b := rfl
theorem argD_2 (a b c : DV) (l : List DV) : argD (a :: b :: c :: l) 2 = c := rfl
theorem argD_3 (a b c d : DV) (l : List DV) : argD (a :: b :: c :: d :: l) 3 = d := rfl
theorem argD_4 (a b c d e : DV) (l : List DV) : argD (a :: b :: c :: d :: e :: l) 4 = e := rfl
theorem argD_5 (a b c d e f : DV) (l : List DV) : argD (a :: b :: c :: d :: e :: f :: l) 5 = f := rfl
theorem dof_tmp (δ : DEnv) (t : Nat) : δ.of (.tmp t) = δ t := rfl
theorem dof_const (δ : DEnv) (v : Value) : δ.of (.const v) = ofV v := rfl
theorem dof_func (δ : DEnv) (f : Nat) : δ.of (.func f) = .fn (.func f) [] [] := rfl
theorem ofV_int (k : IntKind) (x : Int) : ofV (.int k x) = .int k x := rfl
theorem ofV_bool (b : Bool) : ofV (.bool b) = .bool b := rfl
theorem ofV_str (s : ByteArray) : ofV (.string s) = .str s := rfl
theorem ofV_nilp : ofV (.pointer none) = .nilp := rfl
theorem ofV_nils : ofV (.slice none 0 0) = .zsl := rfl
theorem ofV_func (f : Fn) : ofV (.func f #[] #[]) = .fn f [] [] := rfl
theorem ofV_agg (cs : List Value) : ofV (.agg ⟨cs⟩) = .agg (cs.map of0) := rfl
theorem of0_int (k : IntKind) (x : Int) : of0 (.int k x) = .int k x := rfl
theorem of0_bool (b : Bool) : of0 (.bool b) = .bool b := rfl
theorem of0_str (s : ByteArray) : of0 (.string s) = .str s := rfl
theorem of0_nilp : of0 (.pointer none) = .nilp := rfl
theorem of0_nils : of0 (.slice none 0 0) = .zsl := rfl
/-! ### Values -/
/-- As wrap64, but nothing unfolds it. -/
theorem wr64_ex : ∃ f : Int → Int, ∀ x, f x = wrap64 x := ⟨_, fun _ => rfl⟩
noncomputable def wr64 : Int → Int := Classical.choose wr64_ex
theorem wr64_eq (x : Int) : wr64 x = wrap64 x := Classical.choose_spec wr64_ex x
theorem w64 {x : Int} (h : -9223372036854775808 ≤ x ∧ x ≤ 9223372036854775807) : wr64 x = x := by rw [wr64_eq]; unfold wrap64; omega
theorem w64n (n : Nat) (h : (n : Int) ≤ 9223372036854775807) : wr64 (n : Int) = n := by rw [wr64_eq]; unfold wrap64; omega
theorem addD (x y : Int) : binD .add (.int .i64 x) (.int .i64 y) = some (.int .i64 (wr64 (x + y))) := by simp [wr64_eq, binD, lift2, DV.v1, binV, intV, IntKind.wrap_i64, wrap64, ofV_int]
theorem subD (x y : Int) : binD .sub (.int .i64 x) (.int .i64 y) = some (.int .i64 (wr64 (x - y))) := by simp [wr64_eq, binD, lift2, DV.v1, binV, intV, IntKind.wrap_i64, wrap64, ofV_int]
theorem mulD (x y : Int) : binD .mul (.int .i64 x) (.int .i64 y) = some (.int .i64 (wr64 (x * y))) := by simp [wr64_eq, binD, lift2, DV.v1, binV, intV, IntKind.wrap_i64, wrap64, ofV_int]
theorem remD (k : IntKind) (x y : Int) : binD .rem (.int k x) (.int k y) = if y = 0 then none else some (.int k (x.tmod y)) := by
  simp only [binD, lift2, DV.v1, binV, intV, Option.bind_some, if_true]; split <;> rfl
theorem quoD (x y : Int) : binD .quo (.int .i64 x) (.int .i64 y) = if y = 0 then none else some (.int .i64 (wr64 (x.tdiv y))) := by
  simp only [binD, lift2, DV.v1, binV, intV, Option.bind_some, if_true, IntKind.wrap_i64]; split
  · rfl
  · simp [ofV_int, wr64_eq, wrap64]
theorem andI (k : IntKind) (x y : Int) : binD .and (.int k x) (.int k y) = some (.int k (bits .and k x y)) := by simp [binD, lift2, DV.v1, binV, intV, ofV_int]
theorem orI (k : IntKind) (x y : Int) : binD .or (.int k x) (.int k y) = some (.int k (bits .or k x y)) := by simp [binD, lift2, DV.v1, binV, intV, ofV_int]
theorem xorI (k : IntKind) (x y : Int) : binD .xor (.int k x) (.int k y) = some (.int k (bits .xor k x y)) := by simp [binD, lift2, DV.v1, binV, intV, ofV_int]
theorem shrI (k k' : IntKind) (x y : Int) : binD .shr (.int k x) (.int k' y) = if y < 0 then none else some (.int k (x.fdiv (2 ^ (min y.toNat k.bits)))) := by
  simp only [binD, lift2, DV.v1, binV, Option.bind_some]; split <;> rfl
theorem shlI (k k' : IntKind) (x y : Int) : binD .shl (.int k x) (.int k' y) = if y < 0 then none else some (.int k (k.wrap (x * 2 ^ (min y.toNat k.bits)))) := by
  simp only [binD, lift2, DV.v1, binV, Option.bind_some]; split <;> rfl
theorem addU (x y : Int) : binD .add (.int .u64 x) (.int .u64 y) = some (.int .u64 ((x + y) % 18446744073709551616)) := by simp [binD, lift2, DV.v1, binV, intV, IntKind.wrap_u64, ofV_int]
theorem mulU (x y : Int) : binD .mul (.int .u64 x) (.int .u64 y) = some (.int .u64 ((x * y) % 18446744073709551616)) := by simp [binD, lift2, DV.v1, binV, intV, IntKind.wrap_u64, ofV_int]
theorem eqlD (k : IntKind) (x y : Int) : binD .eql (.int k x) (.int k y) = some (.bool (decide (x = y))) := by simp [binD, lift2, DV.v1, binV, intV, cmpV]; rfl
theorem neqD (k : IntKind) (x y : Int) : binD .neq (.int k x) (.int k y) = some (.bool (decide (¬ x = y))) := by
  simp [binD, lift2, DV.v1, binV, intV, cmpV]; by_cases h : x = y <;> simp [h, ofV_bool]
theorem lssD (k : IntKind) (x y : Int) : binD .lss (.int k x) (.int k y) = some (.bool (decide (x < y))) := by simp [binD, lift2, DV.v1, binV, intV, cmpV, ofV_bool]
theorem leqD (k : IntKind) (x y : Int) : binD .leq (.int k x) (.int k y) = some (.bool (decide (x ≤ y))) := by simp [binD, lift2, DV.v1, binV, intV, cmpV, ofV_bool]
theorem gtrD (k : IntKind) (x y : Int) : binD .gtr (.int k x) (.int k y) = some (.bool (decide (y < x))) := by simp [binD, lift2, DV.v1, binV, intV, cmpV, ofV_bool]
theorem geqD (k : IntKind) (x y : Int) : binD .geq (.int k x) (.int k y) = some (.bool (decide (y ≤ x))) := by simp [binD, lift2, DV.v1, binV, intV, cmpV, ofV_bool]
theorem eqbD_b (x y : Bool) : eqbD false (.bool x) (.bool y) = some (.bool (x == y)) := rfl
theorem nebD_b (x y : Bool) : eqbD true (.bool x) (.bool y) = some (.bool (!(x == y))) := rfl
theorem eqsStr (x y : ByteArray) : binD .eql (.str x) (.str y) = some (.bool (x.toList == y.toList)) := rfl
theorem nesStr (x y : ByteArray) : binD .neq (.str x) (.str y) = some (.bool (!(x.toList == y.toList))) := rfl
theorem notD (x : Bool) : unD .not (.bool x) = some (.bool !x) := rfl
theorem negD (x : Int) : unD .neg (.int .i64 x) = some (.int .i64 (wr64 (0 - x))) := by simp [wr64_eq, unD, lift1, DV.v1, unV, IntKind.wrap_i64, wrap64, ofV_int]
theorem cvtI64 (k' : IntKind) (x : Int) : cvtD .i64 (.int k' x) = some (.int .i64 (wr64 x)) := by simp [wr64_eq, cvtD, lift1, DV.v1, cvtV, IntKind.wrap_i64, wrap64, ofV_int]
theorem cvtU64 (k' : IntKind) (x : Int) : cvtD .u64 (.int k' x) = some (.int .u64 (x % 18446744073709551616)) := by simp [cvtD, lift1, DV.v1, cvtV, IntKind.wrap_u64, ofV_int]
theorem cvtU8 (k' : IntKind) (x : Int) : cvtD .u8 (.int k' x) = some (.int .u8 (x % 256)) := by simp [cvtD, lift1, DV.v1, cvtV, IntKind.wrap_u8, ofV_int]
theorem cvtU32 (k' : IntKind) (x : Int) : cvtD .u32 (.int k' x) = some (.int .u32 (x % 4294967296)) := by simp [cvtD, lift1, DV.v1, cvtV, IntKind.wrap_u32, ofV_int]
theorem cvtI32 (k' : IntKind) (x : Int) : cvtD .i32 (.int k' x) = some (.int .i32 (wrap32 x)) := by simp [cvtD, lift1, DV.v1, cvtV, IntKind.wrap_i32, wrap32, ofV_int]
theorem pickB (c : Bool) (x y : DV) : pickD (.bool c) x y = some (if c then x else y) := rfl
theorem andB (x y : Bool) : andD (.bool x) (some (.bool y)) = some (.bool (x && y)) := by cases x <;> rfl
theorem orB (x y : Bool) : orD (.bool x) (some (.bool y)) = some (.bool (x || y)) := by cases x <;> rfl
theorem andT (e : Option DV) : andD (.bool true) e = e := rfl
theorem andF (e : Option DV) : andD (.bool false) e = some (.bool false) := rfl
theorem orT (e : Option DV) : orD (.bool true) e = some (.bool true) := rfl
theorem orF (e : Option DV) : orD (.bool false) e = e := rfl
theorem grdB (w x : Bool) (e : Option DV) : grdD w (.bool x) e = if x = w then e else some (.raw undef) := rfl
/-- A test that need hold only where the first one does. -/
theorem and_of {x y : Bool} {e : Option DV} (h : x = true → e = some (.bool y)) : andD (.bool x) e = some (.bool (x && y)) := by
  cases x
  · rfl
  · rw [h rfl]; rfl
theorem or_of {x y : Bool} {e : Option DV} (h : x = false → e = some (.bool y)) : orD (.bool x) e = some (.bool (x || y)) := by
  cases x
  · rw [h rfl]; rfl
  · rfl
theorem eqnI (ne : Bool) (cs : List DV) : eqnD ne (.ip cs) .nilp = some (.bool ne) := rfl
theorem eqnM (ne : Bool) (b o : Nat) : eqnD ne (.mp b o) .nilp = some (.bool ne) := rfl
theorem eqnN (ne : Bool) : eqnD ne .nilp .nilp = some (.bool !ne) := rfl
theorem mpOf_mp (b i : Nat) : mpOf (.mp b i) = some (b, i) := rfl
theorem intOf_int (k : IntKind) (x : Int) : intOf (.int k x) = some x := rfl
theorem mslOf_msl (b o n c : Nat) : mslOf (.msl b o n c) = some (b, o, n, c) := rfl
theorem lenN_isl (n : Nat) (cs : List DV) : lenN (.isl n cs) = some n := rfl
theorem lenN_msl (b o n c : Nat) : lenN (.msl b o n c) = some n := rfl
theorem lenN_zsl : lenN .zsl = some 0 := rfl
theorem lenI (n : Nat) (cs : List DV) : lenD (.isl n cs) = some (.int .i64 n) := rfl
theorem lenM (b o n c : Nat) : lenD (.msl b o n c) = some (.int .i64 n) := rfl
theorem lenZ : lenD .zsl = some (.int .i64 0) := rfl
theorem nckI (cs : List DV) : nckD (.ip cs) = some (.ip cs) := rfl
theorem nckM (b o : Nat) : nckD (.mp b o) = some (.mp b o) := rfl
theorem faI (n : Nat) (cs : List DV) : faD n (.ip cs) = some (.ip (cs.drop n)) := rfl
theorem faM (n b o : Nat) : faD n (.mp b o) = some (.mp b (o + n)) := rfl
theorem ldI (M : DMem) (d : DV) (cs : List DV) : ldD M (.ip (d :: cs)) = some d := rfl
theorem ldM (M : DMem) (b o : Nat) : ldD M (.mp b o) = (M b).bind fun B => B.cs[o]? := rfl
theorem ldnI2 (M : DMem) (a b : DV) (cs : List DV) : ldnD M 2 (.ip (a :: b :: cs)) = some (.agg [a, b]) := by simp [ldnD]
theorem ldnI3 (M : DMem) (a b c : DV) (cs : List DV) : ldnD M 3 (.ip (a :: b :: c :: cs)) = some (.agg [a, b, c]) := by simp [ldnD]
theorem ldnM (M : DMem) (n b o : Nat) : ldnD M n (.mp b o) = (M b).bind fun B => if o + n ≤ B.cs.length then some (.agg ((B.cs.drop o).take n)) else none := rfl
theorem extT (n : Nat) (cs : List DV) : extD n (.tup cs) = cs[n]? := rfl
theorem csT (d : DV) (ds : List DV) : csD d (.tup ds) = some (.tup (d :: ds)) := rfl
theorem fldA (n : Nat) (cs : List DV) : fldD n (.agg cs) = cs[n]? := rfl
theorem tupT (ds : List DV) : tupD (.tup ds) = some ds := rfl
theorem mkfT (f : Fn) (a b : List DV) : mkfD f (.tup a) (.tup b) = some (.fn f a b) := rfl
theorem bldT (z : List Value) (pl : List (Nat × Nat)) (ds : List DV) : bldD z pl (.tup ds) = (bldLD (z.map of0) pl ds).map .agg := rfl
theorem cellsA (cs : List DV) : cellsD (.agg cs) = some cs := rfl
theorem cellsI (k : IntKind) (x : Int) : cellsD (.int k x) = some [.int k x] := rfl
theorem cellsB (b : Bool) : cellsD (.bool b) = some [.bool b] := rfl
theorem cellsS (s : ByteArray) : cellsD (.str s) = some [.str s] := rfl
theorem cellsP (cs : List DV) : cellsD (.ip cs) = some [.ip cs] := rfl
theorem cellsMp (b o : Nat) : cellsD (.mp b o) = some [.mp b o] := rfl
theorem cellsNp : cellsD .nilp = some [.nilp] := rfl
theorem cellsL (n : Nat) (cs : List DV) : cellsD (.isl n cs) = some [.isl n cs] := rfl
theorem cellsZ : cellsD .zsl = some [.zsl] := rfl
theorem cellsM (b o n c : Nat) : cellsD (.msl b o n c) = some [.msl b o n c] := rfl
theorem cellsF (f : Fn) (a b : List DV) : cellsD (.fn f a b) = some [.fn f a b] := rfl
theorem ixM {sz b o n c : Nat} {k : IntKind} {i : Nat} (h : i < n) : ixD sz (.msl b o n c) (.int k (i : Int)) = some (.mp b (o + i * sz)) := by
  simp only [ixD]; rw [if_pos ⟨by omega, by omega⟩]; simp
theorem bnd0 : boundD (.tup []) = some none := rfl
theorem bnd1 (k : IntKind) (i : Int) : boundD (.tup [.int k i]) = some (some i) := rfl
theorem w64s {i : Nat} (h : i < 4611686018427387905) : wr64 ((i : Int) + 1) = ((i + 1 : Nat) : Int) := by rw [wr64_eq]; unfold wrap64; omega
/-! ### What is frozen -/
theorem Froz.int (k : IntKind) (x : Int) : Froz (.int k x) := fun _ => rfl
theorem Froz.bool (b : Bool) : Froz (.bool b) := fun _ => rfl
theorem Froz.str (s : ByteArray) : Froz (.str s) := fun _ => rfl
theorem Froz.nilp : Froz .nilp := fun _ => rfl
theorem Froz.raw (v : Value) : Froz (.raw v) := fun _ => rfl
theorem FrozL.nil : FrozL [] := fun _ => rfl
theorem FrozL.cons {d : DV} {ds : List DV} (h : Froz d) (k : FrozL ds) : FrozL (d :: ds) := fun f => by simp only [fzL]; rw [h f, k f]
theorem FrozL.append {ds es : List DV} (h : FrozL ds) (k : FrozL es) : FrozL (ds ++ es) := by
  induction ds with
  | nil => exact k
  | cons d ds ih =>
    have h1 : ∀ f, fzS f d = d ∧ fzL f ds = ds := fun f => by have := h f; simpa [fzL] using this
    exact FrozL.cons (fun f => (h1 f).1) (ih fun f => (h1 f).2)
theorem FrozL.flatMap {α : Type} {g : α → List DV} (h : ∀ x, FrozL (g x)) : ∀ l : List α, FrozL (l.flatMap g)
  | [] => FrozL.nil
  | x :: l => by rw [List.flatMap_cons]; exact (h x).append (FrozL.flatMap h l)
theorem FrozL.map {α : Type} {g : α → DV} (h : ∀ x, Froz (g x)) : ∀ l : List α, FrozL (l.map g)
  | [] => FrozL.nil
  | x :: l => FrozL.cons (h x) (FrozL.map h l)
theorem Froz.agg {cs : List DV} (h : FrozL cs) : Froz (.agg cs) := fun f => by simp only [fzS]; rw [h f]
theorem Froz.tup {cs : List DV} (h : FrozL cs) : Froz (.tup cs) := fun f => by simp only [fzS]; rw [h f]
theorem Froz.ip {cs : List DV} (h : FrozL cs) : Froz (.ip cs) := fun f => by simp only [fzS]; rw [h f]
theorem Froz.isl {cs : List DV} {n : Nat} (h : FrozL cs) : Froz (.isl n cs) := fun f => by simp only [fzS]; rw [h f]
theorem Froz.fn {g : Fn} {a b : List DV} (h : FrozL a) (k : FrozL b) : Froz (.fn g a b) := fun f => by simp only [fzS]; rw [h f, k f]
theorem FrozL.drop {ds : List DV} (h : FrozL ds) : ∀ n, FrozL (ds.drop n) := by
  induction ds with
  | nil => intro n; simpa using h
  | cons d ds ih =>
    have h1 : ∀ f, fzS f d = d ∧ fzL f ds = ds := fun f => by have := h f; simpa [fzL] using this
    intro n
    cases n with
    | zero => exact h
    | succ n => exact ih (fun f => (h1 f).2) n
theorem fz_int (M : DMem) (k : Nat) (x : IntKind) (y : Int) : fz M k (.int x y) = .int x y := (Froz.int x y).fz M k
theorem fz_bool (M : DMem) (k : Nat) (b : Bool) : fz M k (.bool b) = .bool b := (Froz.bool b).fz M k
theorem fz_str (M : DMem) (k : Nat) (s : ByteArray) : fz M k (.str s) = .str s := (Froz.str s).fz M k
theorem fz_nilp (M : DMem) (k : Nat) : fz M k .nilp = .nilp := Froz.nilp.fz M k
theorem fz_zsl (M : DMem) (k : Nat) : fz M k .zsl = .isl 0 [] := by cases k <;> rfl
theorem fz_tup (M : DMem) (k : Nat) (ds : List DV) : fz M k (.tup ds) = .tup (ds.map (fz M k)) := by
  have : ∀ f ds, fzL f ds = ds.map (fzS f) := fun f ds => by
    induction ds with
    | nil => rfl
    | cons d ds ih => simp only [fzL, List.map_cons, ih]
  cases k <;> simp only [fz, fzS, this] <;> rfl
theorem fz_agg (M : DMem) (k : Nat) (ds : List DV) : fz M k (.agg ds) = .agg (ds.map (fz M k)) := by
  have : ∀ f ds, fzL f ds = ds.map (fzS f) := fun f ds => by
    induction ds with
    | nil => rfl
    | cons d ds ih => simp only [fzL, List.map_cons, ih]
  cases k <;> simp only [fz, fzS, this] <;> rfl
theorem fz_ip (M : DMem) (k : Nat) (ds : List DV) : fz M k (.ip ds) = .ip (ds.map (fz M k)) := by
  have : ∀ f ds, fzL f ds = ds.map (fzS f) := fun f ds => by
    induction ds with
    | nil => rfl
    | cons d ds ih => simp only [fzL, List.map_cons, ih]
  cases k <;> simp only [fz, fzS, this] <;> rfl
theorem fz_isl (M : DMem) (k n : Nat) (ds : List DV) : fz M k (.isl n ds) = .isl n (ds.map (fz M k)) := by
  have : ∀ f ds, fzL f ds = ds.map (fzS f) := fun f ds => by
    induction ds with
    | nil => rfl
    | cons d ds ih => simp only [fzL, List.map_cons, ih]
  cases k <;> simp only [fz, fzS, this] <;> rfl
theorem fz_fn (M : DMem) (k : Nat) (g : Fn) (a b : List DV) : fz M k (.fn g a b) = .fn g (a.map (fz M k)) (b.map (fz M k)) := by
  have : ∀ f ds, fzL f ds = ds.map (fzS f) := fun f ds => by
    induction ds with
    | nil => rfl
    | cons d ds ih => simp only [fzL, List.map_cons, ih]
  cases k <;> simp only [fz, fzS, this] <;> rfl
theorem fz_mp {M : DMem} {b : Nat} {B : DBlk} (h : M b = some B) (k o : Nat) : fz M (k + 1) (.mp b o) = .ip ((B.cs.map (fz M k)).drop o) := by simp only [fz, fzS, fzF, h]
theorem fz_msl {M : DMem} {b : Nat} {B : DBlk} (h : M b = some B) (k o n c : Nat) (hn : n ≤ c) : fz M (k + 1) (.msl b o n c) = .isl n ((B.cs.map (fz M k)).drop o) := by simp only [fz, fzS, fzF, h, hn, if_true]
theorem fzmap_froz {ds : List DV} (h : FrozL ds) (M : DMem) (k : Nat) : ds.map (fz M k) = ds := by
  induction ds with
  | nil => rfl
  | cons d ds ih =>
    have h1 : ∀ f, fzS f d = d ∧ fzL f ds = ds := fun f => by have := h f; simpa [fzL] using this
    rw [List.map_cons, ih fun f => (h1 f).2, Froz.fz (fun f => (h1 f).1)]
/-! ### Lists in memory -/
def slI (l : List Int) : DV := .isl l.length (l.map (.int .i64))
def slB (l : List Bool) : DV := .isl l.length (l.map .bool)
def slD {α : Type} (c : α → List DV) (l : List α) : DV := .isl l.length (l.flatMap c)
theorem Froz.slI (l : List Int) : Froz (slI l) := Froz.isl (FrozL.map (fun x => Froz.int _ x) l)
theorem Froz.slB (l : List Bool) : Froz (slB l) := Froz.isl (FrozL.map (fun x => Froz.bool x) l)
theorem Froz.slD {α : Type} {c : α → List DV} (h : ∀ x, FrozL (c x)) (l : List α) : Froz (slD c l) := Froz.isl (FrozL.flatMap h l)
theorem fz_slI (M : DMem) (k : Nat) (l : List Int) : fz M k (slI l) = slI l := (Froz.slI l).fz M k
theorem fz_slB (M : DMem) (k : Nat) (l : List Bool) : fz M k (slB l) = slB l := (Froz.slB l).fz M k
theorem plain_int (k : IntKind) (x : Int) : plainD (.int k x) = true := rfl
theorem plain_bool (b : Bool) : plainD (.bool b) = true := rfl
theorem plain_str (s : ByteArray) : plainD (.str s) = true := rfl
theorem plain_nilp : plainD .nilp = true := rfl
theorem plain_mp (b o : Nat) : plainD (.mp b o) = true := rfl
theorem plain_ip (cs : List DV) : plainD (.ip cs) = true := rfl
theorem plain_isl (n : Nat) (cs : List DV) : plainD (.isl n cs) = true := rfl
theorem plain_zsl : plainD .zsl = true := rfl
theorem plain_msl (b o n c : Nat) : plainD (.msl b o n c) = true := rfl
theorem plain_fn (f : Fn) (a b : List DV) : plainD (.fn f a b) = true := rfl
theorem plain_ifc (t : TypeId) (d : DV) : plainD (.ifc t d) = true := rfl
theorem plain_slI (l : List Int) : plainD (slI l) = true := rfl
theorem plain_slB (l : List Bool) : plainD (slB l) = true := rfl
theorem plain_slD {α : Type} (c : α → List DV) (l : List α) : plainD (slD c l) = true := rfl
theorem len_slI (l : List Int) : lenD (slI l) = some (.int .i64 l.length) := rfl
theorem len_slB (l : List Bool) : lenD (slB l) = some (.int .i64 l.length) := rfl
theorem len_slD {α : Type} (c : α → List DV) (l : List α) : lenD (slD c l) = some (.int .i64 l.length) := rfl
theorem cells_slI (l : List Int) : cellsD (slI l) = some [slI l] := rfl
theorem cells_slB (l : List Bool) : cellsD (slB l) = some [slB l] := rfl
theorem cells_slD {α : Type} (c : α → List DV) (l : List α) : cellsD (slD c l) = some [slD c l] := rfl
theorem drop_map1 {α : Type} (g : α → DV) (l : List α) {i : Nat} (h : i < l.length) : (l.map g).drop (i * 1) = g l[i] :: (l.drop (i + 1)).map g := by
  rw [Nat.mul_one, ← List.map_drop, List.drop_eq_getElem_cons h]; rfl
theorem ix_slI {l : List Int} {k : IntKind} {i : Nat} (h : i < l.length) : ixD 1 (slI l) (.int k (i : Int)) = some (.ip (.int .i64 l[i] :: (l.drop (i + 1)).map (.int .i64))) := by
  simp only [slI, ixD]; rw [if_pos ⟨by omega, by omega⟩, Int.toNat_natCast, drop_map1 _ _ h]
theorem ix_slB {l : List Bool} {k : IntKind} {i : Nat} (h : i < l.length) : ixD 1 (slB l) (.int k (i : Int)) = some (.ip (.bool l[i] :: (l.drop (i + 1)).map .bool)) := by
  simp only [slB, ixD]; rw [if_pos ⟨by omega, by omega⟩, Int.toNat_natCast, drop_map1 _ _ h]
theorem drop_flat {α : Type} {c : α → List DV} {sz : Nat} (hc : ∀ x, (c x).length = sz) : ∀ (l : List α) (i : Nat) (h : i < l.length), (l.flatMap c).drop (i * sz) = c l[i] ++ (l.drop (i + 1)).flatMap c
  | [], i, h => by simp at h
  | x :: l, 0, h => by simp
  | x :: l, i + 1, h => by
    have := drop_flat hc l i (by simpa using h)
    rw [List.flatMap_cons, List.drop_append, hc, List.drop_eq_nil_of_le (by rw [hc, Nat.add_mul]; omega), show (i + 1) * sz - sz = i * sz by rw [Nat.add_mul]; omega, this]
    rfl
theorem ix_slD {α : Type} {c : α → List DV} {sz : Nat} (hc : ∀ x, (c x).length = sz) {l : List α} {k : IntKind} {i : Nat} (h : i < l.length) :
    ixD sz (slD c l) (.int k (i : Int)) = some (.ip (c l[i] ++ (l.drop (i + 1)).flatMap c)) := by
  simp only [slD, ixD]; rw [if_pos ⟨by omega, by omega⟩, Int.toNat_natCast, drop_flat hc l i h]
theorem flat_len {α : Type} {c : α → List DV} {sz : Nat} (hc : ∀ x, (c x).length = sz) (l : List α) : (l.flatMap c).length = l.length * sz := by
  induction l with
  | nil => simp
  | cons x l ih => rw [List.flatMap_cons, List.length_append, hc, ih, List.length_cons, Nat.add_mul]; omega
theorem lenN_slI (l : List Int) : lenN (slI l) = some l.length := rfl
theorem lenN_slB (l : List Bool) : lenN (slB l) = some l.length := rfl
theorem lenN_slD {α : Type} (c : α → List DV) (l : List α) : lenN (slD c l) = some l.length := rfl
theorem zeros_one (v : Value) (n : Nat) : zeros [v] n = List.replicate n v := by
  apply List.ext_getElem
  · simp [zeros]
  · intro i h1 h2
    simp [zeros, Nat.mod_one]
theorem zeros_rep {zs : List Value} {sz : Nat} (hz : zs.length = sz) (h0 : 0 < sz) (n : Nat) : zeros zs (n * sz) = (List.replicate n zs).flatten := by
  induction n with
  | zero => simp [zeros]
  | succ n ih =>
    rw [List.replicate_succ', List.flatten_append, ← ih]
    apply List.ext_getElem
    · simp [zeros, hz, Nat.add_mul]
    · intro i h1 h2
      simp only [zeros, List.length_map, List.length_range] at h1 ⊢
      rw [List.getElem_append]
      split
      · rename_i h; simp
      · rename_i h
        simp only [List.length_map, List.length_range] at h
        have hi : i < n * sz + sz := by rw [← Nat.succ_mul]; exact h1
        simp only [List.getElem_map, List.getElem_range, List.length_map, List.length_range]
        have e : i % zs.length = i - n * sz := by
          rw [hz]
          have : i = (i - n * sz) + sz * n := by rw [Nat.mul_comm sz n]; omega
          rw [this, Nat.add_mul_mod_self_left, Nat.mod_eq_of_lt (by omega)]; omega
        rw [e, List.getD_eq_getElem?_getD, List.getElem?_eq_getElem (by omega)]
        simp
theorem zerosD_int (k : IntKind) (x : Int) (n : Nat) : (zeros (Value.cells (.int k x)).toList n).map of0 = List.replicate n (.int k x) := by
  rw [show (Value.cells (.int k x)).toList = [.int k x] from rfl, zeros_one, List.map_replicate, of0_int]
theorem zerosD_bool (b : Bool) (n : Nat) : (zeros (Value.cells (.bool b)).toList n).map of0 = List.replicate n (.bool b) := by
  rw [show (Value.cells (.bool b)).toList = [.bool b] from rfl, zeros_one, List.map_replicate, of0_bool]
/-! ### Slices of slices -/
theorem slcB_lo {n c i : Nat} (hi : i ≤ n) : slcB n c (some (i : Int)) none none = some (i, n, c) := by
  simp only [slcB, Option.bind_some, Option.isSome_none, Bool.false_eq_true, if_false]
  rw [if_pos ⟨by omega, by omega⟩]; simp
theorem slcB_hi {n c j : Nat} (hj : j ≤ c) : slcB n c none (some (j : Int)) none = some (0, j, c) := by
  simp only [slcB, Option.bind_some, Option.isSome_none, Bool.false_eq_true, if_false]
  rw [if_pos ⟨by omega, by omega⟩]; simp
theorem slcB_no {n c : Nat} : slcB n c none none none = some (0, n, c) := rfl
theorem slcB_lohi {n c i j : Nat} (hi : i ≤ j) (hj : j ≤ c) : slcB n c (some (i : Int)) (some (j : Int)) none = some (i, j, c) := by
  simp only [slcB, Option.bind_some, Option.isSome_none, Bool.false_eq_true, if_false]
  rw [if_pos ⟨by omega, by omega⟩]
  simp only [Option.bind_some]
  rw [if_pos ⟨by omega, by omega⟩]; simp
theorem slcM_lo {sz b o n c i : Nat} {k : IntKind} (hi : i ≤ n) (hn : n ≤ c) : slcD sz (.msl b o n c) (.tup [.int k (i : Int)]) (.tup []) (.tup []) = some (if c = i then .zsl else .msl b (o + i * sz) (n - i) (c - i)) := by
  simp only [slcD, bnd0, bnd1, Option.bind_some, hn, if_true, slcB_lo hi, Option.map_some]
theorem slcM_hi {sz b o n c j : Nat} {k : IntKind} (hj : j ≤ c) (hn : n ≤ c) : slcD sz (.msl b o n c) (.tup []) (.tup [.int k (j : Int)]) (.tup []) = some (if c = 0 then .zsl else .msl b o j c) := by
  simp only [slcD, bnd0, bnd1, Option.bind_some, hn, if_true, slcB_hi hj, Option.map_some, Nat.zero_mul, Nat.add_zero, Nat.sub_zero]
theorem slcI_lo {l : List Int} {i : Nat} {k : IntKind} (hi : i ≤ l.length) : slcD 1 (slI l) (.tup [.int k (i : Int)]) (.tup []) (.tup []) = some (slI (l.drop i)) := by
  simp only [slI, slcD, bnd0, bnd1, Option.bind_some, slcB_lo hi, Option.map_some, Option.isSome_none, Bool.false_eq_true, false_and, if_false, Nat.mul_one]
  rw [List.take_of_length_le (by simp), List.length_drop, List.map_drop]
theorem slcI_hi {l : List Int} {j : Nat} {k : IntKind} (hj : j ≤ l.length) : slcD 1 (slI l) (.tup []) (.tup [.int k (j : Int)]) (.tup []) = some (slI (l.take j)) := by
  simp only [slI, slcD, bnd0, bnd1, Option.bind_some, slcB_hi hj, Option.map_some, Option.isSome_none, Bool.false_eq_true, false_and, if_false, Nat.mul_one, Nat.zero_mul, List.drop_zero, Nat.sub_zero]
  rw [List.length_take, Nat.min_eq_left hj, List.map_take]
theorem SubD.ins {M : DMem} {b : Nat} (B : DBlk) (h : M b = Option.none) : SubD M (M.ins b B) := fun x C hx => by
  have e : x ≠ b := by rintro rfl; rw [h] at hx; cases hx
  rw [DMem.ins_ne _ _ e]; exact hx
theorem ins_eq_ne {M M1 : DMem} {p b : Nat} {B : DBlk} (hM : M1 = M.ins p B) (hb : M1 b = none) : b ≠ p ∧ M b = none := by
  rw [hM, DMem.ins_none] at hb; exact hb
/-! ### What grows by append -/
theorem OwnD.zsl (M : DMem) (sz : Nat) : OwnD M sz .zsl 0 [] := ⟨by simp, .inl ⟨rfl, rfl⟩⟩
theorem OwnD.cell {M : DMem} {sz n : Nat} {d : DV} {cs : List DV} (h : OwnD M sz d n cs) : cellsD d = some [d] := by
  obtain ⟨_, ⟨rfl, _⟩ | ⟨b, c, ty, rfl, _⟩⟩ := h <;> rfl
theorem OwnD.plain {M : DMem} {sz n : Nat} {d : DV} {cs : List DV} (h : OwnD M sz d n cs) : plainD d = true := by
  obtain ⟨_, ⟨rfl, _⟩ | ⟨b, c, ty, rfl, _⟩⟩ := h <;> rfl
theorem OwnD.len {M : DMem} {sz n : Nat} {d : DV} {cs : List DV} (h : OwnD M sz d n cs) : lenD d = some (.int .i64 n) := by
  obtain ⟨_, ⟨rfl, rfl⟩ | ⟨b, c, ty, rfl, _⟩⟩ := h <;> rfl
theorem OwnD.at {M : DMem} {sz n : Nat} {d : DV} {cs : List DV} (h : OwnD M sz d n cs) (h0 : 0 < n) : ∃ b c ty, d = .msl b 0 n c ∧ blkD d = some b ∧ M b = some ⟨ty, c * sz, cs⟩ ∧ n ≤ c := by
  obtain ⟨_, ⟨rfl, rfl⟩ | ⟨b, c, ty, rfl, h1, h2, h3⟩⟩ := h
  · omega
  · exact ⟨b, c, ty, rfl, by simp only [blkD]; rw [if_neg (by omega)], h1, h2⟩
/-- Another memory in which its block is as it was. -/
theorem OwnD.keep {M M' : DMem} {sz n : Nat} {d : DV} {cs : List DV} (h : OwnD M sz d n cs) (hk : ∀ b, blkD d = some b → M' b = M b) : OwnD M' sz d n cs := by
  obtain ⟨hl, ⟨rfl, rfl⟩ | ⟨b, c, ty, rfl, h1, h2, h3⟩⟩ := h
  · exact ⟨hl, .inl ⟨rfl, rfl⟩⟩
  · exact ⟨hl, .inr ⟨b, c, ty, rfl, by rw [hk b (by simp only [blkD]; rw [if_neg (by omega)])]; exact h1, h2, h3⟩⟩
theorem OwnD.ins {M : DMem} {sz n b : Nat} {d : DV} {cs : List DV} (h : OwnD M sz d n cs) (hb : blkD d ≠ some b) (B : DBlk) : OwnD (M.ins b B) sz d n cs :=
  h.keep fun x hx => DMem.ins_ne _ _ (by rintro rfl; exact hb hx)
/-- As it reads when nobody writes it any more. -/
theorem OwnD.fz {M : DMem} {sz n : Nat} {d : DV} {cs : List DV} (h : OwnD M sz d n cs) (k : Nat) : Mw.fz M (k + 1) d = .isl n (cs.map (Mw.fz M k)) := by
  obtain ⟨hl, ⟨rfl, rfl⟩ | ⟨b, c, ty, rfl, h1, h2, h3⟩⟩ := h
  · have : cs = [] := by cases cs with | nil => rfl | cons => simp at hl
    subst this; exact fz_zsl _ _
  · rw [fz_msl h1 k 0 n c h2]; rfl
theorem OwnD.app {M : DMem} {e : TypeId} {sz n k : Nat} {d : DV} {cs news : List DV} {Post : DV → DMem → Prop} (h : OwnD M sz d n cs) (hl : news.length = k * sz)
    (hP : ∀ d' M', OwnD M' sz d' (n + k) (cs ++ news) → GrewD M M' d d' → Post d' M') : AppD M e sz d n k news Post := by
  obtain ⟨h0, ⟨rfl, rfl⟩ | ⟨b, c, ty, rfl, h1, h2, h3⟩⟩ := h
  · have hc : cs = [] := by cases cs with | nil => rfl | cons => simp at h0
    subst hc
    refine ⟨rfl, fun hk => ?_, fun hk b c M' hb hc hM => ?_⟩
    · subst hk
      have hn : news = [] := by cases news with | nil => rfl | cons => simp at hl
      subst hn
      exact hP _ _ ⟨by simp, .inl ⟨rfl, rfl⟩⟩ ⟨fun _ _ h _ => h, .inl rfl, fun _ h => .inl h⟩
    · subst hM
      have hbk : blkD (.msl b 0 k c) = some b := by simp only [blkD]; rw [if_neg (by omega)]
      refine hP _ _ ⟨by simp [hl], .inr ⟨b, c, e, by rw [Nat.zero_add], DMem.ins_same _ _ _, by omega, by omega⟩⟩ ⟨fun x B hx _ => (SubD.ins _ hb) x B hx, .inr ⟨b, hbk, hb⟩, fun x hx => ?_⟩
      by_cases hxb : x = b
      · subst hxb; exact .inr hbk
      · rw [DMem.ins_ne _ _ hxb] at hx; exact .inl hx
  · refine ⟨rfl, _, h1, by simp only; omega, by simp only; omega, h2, fun hk M' hM => ?_, fun hk b' c' M' hb hc hM => ?_⟩
    · subst hM
      have hs : splD cs (0 + n * sz) news = cs ++ news := by
        unfold splD
        rw [List.take_of_length_le (by omega), List.drop_eq_nil_of_le (by omega), List.append_nil]
      simp only [hs]
      refine hP _ _ ⟨by rw [List.length_append, h0, hl, Nat.add_mul], .inr ⟨b, c, ty, rfl, DMem.ins_same _ _ _, hk, h3⟩⟩ ⟨fun x B hx hne => ?_, .inl rfl, fun x hx => ?_⟩
      · rw [DMem.ins_ne]; exact hx
        rintro rfl; exact hne (by simp only [blkD]; rw [if_neg (by omega)])
      · by_cases hxb : x = b
        · subst hxb; exact .inr (by simp only [blkD]; rw [if_neg (by omega)])
        · rw [DMem.ins_ne _ _ hxb] at hx; exact .inl hx
    · subst hM
      have hs : (cs.drop 0).take (n * sz) = cs := by rw [List.drop_zero, List.take_of_length_le (by omega)]
      simp only [hs]
      have hbk : blkD (.msl b' 0 (n + k) c') = some b' := by simp only [blkD]; rw [if_neg (by omega)]
      refine hP _ _ ⟨by rw [List.length_append, h0, hl, Nat.add_mul], .inr ⟨b', c', e, rfl, DMem.ins_same _ _ _, hc, by omega⟩⟩ ⟨fun x B hx _ => (SubD.ins _ hb) x B hx, .inr ⟨b', hbk, hb⟩, fun x hx => ?_⟩
      by_cases hxb : x = b'
      · subst hxb; exact .inr hbk
      · rw [DMem.ins_ne _ _ hxb] at hx; exact .inl hx
theorem appD_zsl {M : DMem} {e : TypeId} {sz n k : Nat} {news : List DV} {Post : DV → DMem → Prop} : AppD M e sz .zsl n k news Post = (n = 0 ∧ (k = 0 → Post .zsl M) ∧ (0 < k → ∀ b c M', M b = none → k ≤ c → M' = M.ins b ⟨e, c * sz, news⟩ → Post (.msl b 0 k c) M')) := rfl
theorem appD_msl {M : DMem} {e : TypeId} {sz n k b o n' c : Nat} {news : List DV} {Post : DV → DMem → Prop} : AppD M e sz (.msl b o n' c) n k news Post = (n' = n ∧ ∃ B, M b = some B ∧ o + n * sz ≤ B.cs.length ∧ o + c * sz ≤ B.n ∧ n ≤ c ∧
      (n + k ≤ c → ∀ M', M' = M.ins b ⟨B.ty, B.n, splD B.cs (o + n * sz) news⟩ → Post (.msl b o (n + k) c) M') ∧
      (c < n + k → ∀ b' c' M', M b' = none → n + k ≤ c' → M' = M.ins b' ⟨e, c' * sz, (B.cs.drop o).take (n * sz) ++ news⟩ → Post (.msl b' 0 (n + k) c') M')) := rfl
theorem GrewD.blk {M M' : DMem} {d d' : DV} (h : GrewD M M' d d') {b : Nat} {B : DBlk} (hM : M b = some B) (hb : blkD d ≠ some b) : M' b = some B ∧ blkD d' ≠ some b := by
  refine ⟨h.keep b B hM hb, ?_⟩
  rcases h.here with e | ⟨q, e, hq⟩
  · rw [e]; exact hb
  · rw [e]; rintro hh; cases hh; rw [hM] at hq; cases hq
theorem GrewD.sub {M0 M M' : DMem} {d d' : DV} (h : GrewD M M' d d') (hs : SubD M0 M) (hf : ∀ p, blkD d = some p → M0 p = none) : SubD M0 M' ∧ ∀ p, blkD d' = some p → M0 p = none := by
  refine ⟨fun b B hb => h.keep b B (hs b B hb) (fun hh => by rw [hf b hh] at hb; cases hb), fun p hp => ?_⟩
  rcases h.here with e | ⟨q, e, hq⟩
  · exact hf p (by rw [← e]; exact hp)
  · rw [e] at hp; cases hp; exact hs.none hq
/-! ### Low bits, remainders -/
theorem and_low (x : Int) (i : Nat) (hi : i ≤ 62) : bits .and .i64 x ((2 ^ i - 1 : Nat) : Int) = (((BitVec.ofInt 64 x).toNat % 2 ^ i : Nat) : Int) := by
  have hp : 2 ^ i ≤ 2 ^ 62 := Nat.pow_le_pow_right (by decide) hi
  have hpos : 0 < 2 ^ i := Nat.two_pow_pos i
  have h2 : (BitVec.ofInt 64 ((2 ^ i - 1 : Nat) : Int)).toNat = 2 ^ i - 1 := by
    rw [BitVec.ofInt_natCast, BitVec.toNat_ofNat]; exact Nat.mod_eq_of_lt (by omega)
  show IntKind.i64.wrap ((BitVec.ofInt 64 x &&& BitVec.ofInt 64 ((2 ^ i - 1 : Nat) : Int)).toNat : Int) = _
  rw [BitVec.toNat_and, h2, Nat.and_two_pow_sub_one_eq_mod, IntKind.wrap_i64]
  have := Nat.mod_lt (BitVec.ofInt 64 x).toNat hpos
  omega
theorem and_bnd (x : Int) (i : Nat) (hi : i ≤ 62) : 0 ≤ bits .and .i64 x ((2 ^ i - 1 : Nat) : Int) ∧ bits .and .i64 x ((2 ^ i - 1 : Nat) : Int) < 2 ^ i := by
  rw [and_low x i hi]
  have := Nat.mod_lt (BitVec.ofInt 64 x).toNat (Nat.two_pow_pos i)
  refine ⟨by omega, ?_⟩
  exact_mod_cast this
theorem tmod_bnd (k n : Int) (h0 : 0 < n) : 0 ≤ (k % 18446744073709551616).tmod n ∧ (k % 18446744073709551616).tmod n < n := by
  have h2 : 0 ≤ k % 18446744073709551616 := by omega
  rw [Int.tmod_eq_emod_of_nonneg h2]
  exact ⟨Int.emod_nonneg _ (by omega), Int.emod_lt_of_pos _ h0⟩
/-! ### A result known in part -/
theorem RepP.front {m : Mem} : ∀ {cs rest : List DV} {vs : List Value}, RepP m (cs ++ rest) vs → RepP m cs vs
  | [], _, _, _ => by simp [RepP]
  | _ :: _, _, [], h => by simp only [List.cons_append, RepP] at h
  | d :: cs, rest, v :: vs, h => by
    simp only [List.cons_append, RepP] at h ⊢
    exact ⟨h.1, RepP.front h.2⟩
theorem rep_isl {m : Mem} {n : Nat} {cs rest : List DV} {v : Value} (h : Rep m (.isl n (cs ++ rest)) v) : Rep m (.isl n cs) v := by
  simp only [Rep] at h ⊢
  obtain ⟨a, c, h1, h2, h3⟩ := h
  exact ⟨a, c, h1, h2, fun h0 => let ⟨b, o, ty, N, full, e1, e2, e3⟩ := h3 h0; ⟨b, o, ty, N, full, e1, e2, e3.front⟩⟩
theorem rep_zsl {m : Mem} {v : Value} (h : Rep m (.isl 0 []) v) (cs : List DV) : Rep m (.isl 0 cs) v := by
  simp only [Rep] at h ⊢
  obtain ⟨a, c, h1, h2, h3⟩ := h
  exact ⟨a, c, h1, h2, fun h0 => absurd h0 (by omega)⟩
theorem Pu.of_le {P : Program} {f : FuncId} {ds : List DV} {d : DV} (h : PC P f ds (fun d' M' => ∀ m v, Rep m (fz M' 4 d') v → Rep m d v) DMem.mt) : Pu P f ds d := by
  intro m vals hgl hv
  have := h m m vals (RepM.mt hgl) hv (Grows.refl m) (fun b hb => rfl)
  refine ⟨this.1, fun w0 w hs => (this.2 w0 w hs).mono ?_⟩
  rintro e w' ⟨v, m', he, hs', d', M', hr, hM, _, hg, ho, hle⟩
  refine ⟨v, sealM M' m', he, hs'.sealM M', hle _ _ (fz_ok hM 4 d' v hr), fun b B hb => ?_⟩
  have := hg b B hb
  unfold sealM
  have hn := ho b (by rw [hb]; simp)
  simp only [hn]; exact this
end Go.Proofs.Ytaifmmeghninhaa.Mw
