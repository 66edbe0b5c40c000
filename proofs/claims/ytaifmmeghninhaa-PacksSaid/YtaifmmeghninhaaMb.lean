/- Expressions over slots and a partial memory, statements over them, and what they come to. No condition. -/
import Derived.Test.YtaifmmeghninhaaMa
namespace Go.Proofs.Ytaifmmeghninhaa.Mw
open Go Go.RowKit
set_option linter.unusedVariables false

abbrev Env := Nat → Value
def Env.upd (ρ : Env) (i : Nat) (v : Value) : Env := fun j => if j = i then v else ρ j
theorem Env.upd_eq (ρ : Env) (i j : Nat) (v : Value) : ρ.upd i v j = if j = i then v else ρ j := rfl
def Env.updO (ρ : Env) : Option Nat → Value → Env
  | some i, v => ρ.upd i v
  | none, _ => ρ
def Env.upds (ρ : Env) : List (Nat × Value) → Env
  | [] => ρ
  | (i, v) :: r => (ρ.upd i v).upds r
def Env.of (ρ : Env) : Operand → Value
  | .tmp t => ρ t
  | .const v => v
  | .global g => .pointer (some ⟨g, 0, none⟩)
  | .func f => .func (.func f) #[] #[]

inductive Ex where
  | s (i : Nat)
  | k (v : Value)
  | bin (op : BinOp) (a b : Ex)
  | eqs (ne : Bool) (n : Nat) (a b : Ex)
  | eqn (ne : Bool) (a b : Ex)
  | eqz (ne : Bool) (a b : Ex)
  | eqb (ne : Bool) (a b : Ex)
  | un (op : UnOp) (a : Ex)
  | cvt (k : IntKind) (a : Ex)
  | pick (c a b : Ex)
  | and (c e : Ex)
  | or (c e : Ex)
  | grd (c : Ex) (want : Bool) (e : Ex)
  | ld (a : Ex)
  | ldn (n : Nat) (a : Ex)
  | fa (off : Nat) (a : Ex)
  | nck (a : Ex)
  | ix (sz : Nat) (a i : Ex)
  | sidx (a i : Ex)
  | len (a : Ex)
  | slen (a : Ex)
  | fld (off : Nat) (a : Ex)
  | fldn (off n : Nat) (a : Ex)
  | ext (n : Nat) (a : Ex)
  | slc (sz : Nat) (a lo hi mx : Ex)
  | sslc (a lo hi : Ex)
  | ifc (ty : TypeId) (a : Ex)
  | nl
  | cs (a t : Ex)
  | bld (z : List Value) (pl : List (Nat × Nat)) (parts : Ex)
  | mkf (fn : Fn) (first caps : Ex)
  | call (f : Nat) (args : Ex)

abbrev Spec := FuncId → List Value → Mem → Option Value

def cmpV (op : BinOp) (x y : Int) : Option Value :=
  match op with
  | .eql => some (.bool (x == y))
  | .neq => some (.bool (x != y))
  | .lss => some (.bool (x < y))
  | .leq => some (.bool (x ≤ y))
  | .gtr => some (.bool (x > y))
  | .geq => some (.bool (x ≥ y))
  | _ => none
def intV (op : BinOp) (k : IntKind) (x y : Int) : Option Value :=
  match op with
  | .add => some (.int k (k.wrap (x + y)))
  | .sub => some (.int k (k.wrap (x - y)))
  | .mul => some (.int k (k.wrap (x * y)))
  | .quo => if y = 0 then none else some (.int k (k.wrap (x.tdiv y)))
  | .rem => if y = 0 then none else some (.int k (x.tmod y))
  | .and | .or | .xor | .andNot => some (.int k (bits op k x y))
  | _ => cmpV op x y
def binV (op : BinOp) : Value → Value → Option Value
  | .int k x, .int k' y =>
    match op with
    | .shl => if y < 0 then none else some (.int k (k.wrap (x * 2 ^ (min y.toNat k.bits))))
    | .shr => if y < 0 then none else some (.int k (x.fdiv (2 ^ (min y.toNat k.bits))))
    | _ => if k = k' then intV op k x y else none
  | .string x, .string y =>
    match op with
    | .eql => some (.bool (x.toList == y.toList))
    | .neq => some (.bool (!(x.toList == y.toList)))
    | .add => if ((x.size + y.size : Nat) : Int) > IntKind.i64.max then none else some (.string (x ++ y))
    | _ => none
  | _, _ => none
/-- Equality of two rows of whole numbers. -/
def eqRows : List Value → List Value → Option Bool
  | [], [] => some true
  | .int k x :: r, .int k' y :: t => if k = k' then (eqRows r t).map (fun b => (x == y) && b) else none
  | _, _ => none
def eqsV (ne : Bool) (n : Nat) : Value → Value → Option Value
  | .agg xs, .agg ys => if xs.size = n ∧ ys.size = n then (eqRows xs.toList ys.toList).map fun b => .bool (if ne then !b else b) else none
  | _, _ => none
/-- A pointer held against nil. -/
def eqnV (ne : Bool) : Value → Value → Option Value
  | .pointer a, .pointer none => some (.bool (if ne then a.isSome else a.isNone))
  | _, _ => none
/-- A slice held against nil. -/
def eqzV (ne : Bool) : Value → Value → Option Value
  | .slice a _ _, .slice none _ _ => some (.bool (if ne then a.isSome else a.isNone))
  | _, _ => none
def eqbV (ne : Bool) : Value → Value → Option Value
  | .bool x, .bool y => some (.bool (if ne then !(x == y) else x == y))
  | _, _ => none
def unV : UnOp → Value → Option Value
  | .not, .bool b => some (.bool !b)
  | .neg, .int k n => some (.int k (k.wrap (0 - n)))
  | _, _ => none
def cvtV (k : IntKind) : Value → Option Value
  | .int _ n => some (.int k (k.wrap n))
  | _ => none
def pickV : Value → Value → Value → Option Value
  | .bool c, a, b => some (if c then a else b)
  | _, _, _ => none
def ldV (m : Mem) : Value → Option Value
  | .pointer (some a) => m.get a
  | _ => none
def ldnV (m : Mem) (n : Nat) : Value → Option Value
  | .pointer (some a) => (m.row a n).map fun l => .agg l.toArray
  | _ => none
def faV (off : Nat) : Value → Option Value
  | .pointer (some a) => some (.pointer (some (a.add off)))
  | _ => none
def nckV : Value → Option Value
  | .pointer (some a) => some (.pointer (some a))
  | .iface t v => some (.iface t v)
  | _ => none
def ixV (sz : Nat) : Value → Value → Option Value
  | .slice (some a) n _, .int _ i => if 0 ≤ i ∧ i < n then some (.pointer (some (a.add (i.toNat * sz)))) else none
  | _, _ => none
def sidxV : Value → Value → Option Value
  | .string s, .int _ i => if 0 ≤ i then (s[i.toNat]?).map fun b => .int .u8 b.toNat else none
  | _, _ => none
def lenV : Value → Option Value
  | .slice _ n _ => some (.int .i64 n)
  | _ => none
def slenV : Value → Option Value
  | .string s => some (.int .i64 s.size)
  | _ => none
def fldV (off : Nat) : Value → Option Value
  | .agg cs => cs[off]?
  | _ => none
def fldnV (off n : Nat) : Value → Option Value
  | .agg cs => some (.agg (cs.extract off (off + n)))
  | _ => none
def extV (n : Nat) : Value → Option Value
  | .tuple vs => vs[n]?
  | _ => none
def csV : Value → Value → Option Value
  | v, .tuple vs => some (.tuple (#[v] ++ vs))
  | _, _ => none
/-- A bound of a slice expression, or none. -/
def bound? : Value → Option (Option Int)
  | .tuple vs => match vs.toList with
    | [] => some none
    | [.int _ i] => some (some i)
    | _ => none
  | _ => none
def slcB (len cap : Nat) (lo hi mx : Option Int) : Option (Nat × Nat × Nat) :=
  let m : Option Nat := match mx with | some i => if 0 ≤ i ∧ i ≤ cap then some i.toNat else none | none => some cap
  m.bind fun m =>
  let h : Option Nat := match hi with | some i => if 0 ≤ i ∧ i ≤ (if mx.isSome then (m : Int) else cap) then some i.toNat else none | none => if mx.isSome then none else some len
  h.bind fun h =>
  let l : Option Nat := match lo with | some i => if 0 ≤ i ∧ i ≤ h then some i.toNat else none | none => some 0
  l.map fun l => (l, h, m)
def slcV (sz : Nat) (v lo hi mx : Value) : Option Value :=
  (bound? lo).bind fun lo => (bound? hi).bind fun hi => (bound? mx).bind fun mx =>
  match v with
  | .slice a len cap => (slcB len cap lo hi mx).map fun (l, h, m) => .slice (if m = l then a else a.map (·.add (l * sz))) (h - l) (m - l)
  | _ => none
def sslcV (v lo hi : Value) : Option Value :=
  (bound? lo).bind fun lo => (bound? hi).bind fun hi =>
  match v with
  | .string s => (slcB s.size s.size lo hi none).map fun (l, h, _) => .string (s.extract l h)
  | _ => none
def bldL : List Value → List (Nat × Nat) → List Value → Option (List Value)
  | z, [], [] => some z
  | z, (off, n) :: pl, v :: vs => if v.cells.size = n ∧ off + n ≤ z.length then bldL (z.take off ++ v.cells.toList ++ z.drop (off + n)) pl vs else none
  | _, _, _ => none
def bldV (z : List Value) (pl : List (Nat × Nat)) : Value → Option Value
  | .tuple vs => (bldL z pl vs.toList).map fun l => .agg l.toArray
  | _ => none
def mkfV (fn : Fn) : Value → Value → Option Value
  | .tuple f, .tuple c => some (.func fn f c)
  | _, _ => none

def andK : Value → Option Value → Option Value
  | .bool x, e => if x then e else some (.bool false)
  | _, _ => none
def orK : Value → Option Value → Option Value
  | .bool x, e => if x then some (.bool true) else e
  | _, _ => none
def grdK (want : Bool) : Value → Option Value → Option Value
  | .bool b, e => if b = want then e else some undef
  | _, _ => some undef

def ev (sp : Spec) (m : Mem) (ρ : Env) : Ex → Option Value
  | .s i => some (ρ i)
  | .k v => some v
  | .bin op a b => (ev sp m ρ a).bind fun x => (ev sp m ρ b).bind fun y => binV op x y
  | .eqs ne n a b => (ev sp m ρ a).bind fun x => (ev sp m ρ b).bind fun y => eqsV ne n x y
  | .eqn ne a b => (ev sp m ρ a).bind fun x => (ev sp m ρ b).bind fun y => eqnV ne x y
  | .eqz ne a b => (ev sp m ρ a).bind fun x => (ev sp m ρ b).bind fun y => eqzV ne x y
  | .eqb ne a b => (ev sp m ρ a).bind fun x => (ev sp m ρ b).bind fun y => eqbV ne x y
  | .un op a => (ev sp m ρ a).bind (unV op)
  | .cvt k a => (ev sp m ρ a).bind (cvtV k)
  | .pick c a b => (ev sp m ρ c).bind fun z => (ev sp m ρ a).bind fun x => (ev sp m ρ b).bind fun y => pickV z x y
  | .and c e => (ev sp m ρ c).bind fun x => andK x (ev sp m ρ e)
  | .or c e => (ev sp m ρ c).bind fun x => orK x (ev sp m ρ e)
  | .grd c want e => (ev sp m ρ c).bind fun x => grdK want x (ev sp m ρ e)
  | .ld a => (ev sp m ρ a).bind (ldV m)
  | .ldn n a => (ev sp m ρ a).bind (ldnV m n)
  | .fa off a => (ev sp m ρ a).bind (faV off)
  | .nck a => (ev sp m ρ a).bind nckV
  | .ix sz a i => (ev sp m ρ a).bind fun x => (ev sp m ρ i).bind fun y => ixV sz x y
  | .sidx a i => (ev sp m ρ a).bind fun x => (ev sp m ρ i).bind fun y => sidxV x y
  | .len a => (ev sp m ρ a).bind lenV
  | .slen a => (ev sp m ρ a).bind slenV
  | .fld off a => (ev sp m ρ a).bind (fldV off)
  | .fldn off n a => (ev sp m ρ a).bind (fldnV off n)
  | .ext n a => (ev sp m ρ a).bind (extV n)
  | .slc sz a lo hi mx => (ev sp m ρ a).bind fun x => (ev sp m ρ lo).bind fun l => (ev sp m ρ hi).bind fun h => (ev sp m ρ mx).bind fun q => slcV sz x l h q
  | .sslc a lo hi => (ev sp m ρ a).bind fun x => (ev sp m ρ lo).bind fun l => (ev sp m ρ hi).bind fun h => sslcV x l h
  | .ifc ty a => (ev sp m ρ a).bind fun x => some (.iface ty x)
  | .nl => some (.tuple #[])
  | .cs a t => (ev sp m ρ a).bind fun x => (ev sp m ρ t).bind fun y => csV x y
  | .bld z pl parts => (ev sp m ρ parts).bind (bldV z pl)
  | .mkf fn first caps => (ev sp m ρ first).bind fun x => (ev sp m ρ caps).bind fun y => mkfV fn x y
  | .call f args => (ev sp m ρ args).bind fun
    | .tuple vs => sp f vs.toList m
    | _ => none

/-! ### Calls and code over a memory -/
def Callable (P : Program) (f : FuncId) : Prop := ∃ fn, P.funcs[f]? = some fn ∧ fn.body.isNone = false ∧ (fn.name == "runtime.NumGoroutine") = false ∧ P.inits.idxOf? f = none

/-- The call returns a value, in a memory of which R holds. -/
def MC (P : Program) (f : FuncId) (args : List Value) (R : Value → Mem → Prop) (m : Mem) : Prop :=
  Callable P f ∧ ∀ w0 w, Sat w0 w m → Calls P f args.toArray w fun e w' => ∃ v m', e = .returned v ∧ Sat w0 w' m' ∧ R v m'

theorem MC.mono {P : Program} {f : FuncId} {args : List Value} {R R' : Value → Mem → Prop} {m : Mem} (h : MC P f args R m) (hr : ∀ v m', R v m' → R' v m') : MC P f args R' m :=
  ⟨h.1, fun w0 w hw => (h.2 w0 w hw).mono fun e w' ⟨v, m', he, hs, hR⟩ => ⟨v, m', he, hs, hr v m' hR⟩⟩
/-- What need not be known any more is let go. -/
theorem MC.drop {P : Program} {f : FuncId} {args : List Value} {R R' : Value → Mem → Prop} {m : Mem} (h : MC P f args R m) (hr : ∀ v m', R v m' → ∃ m'', Grows m'' m' ∧ R' v m'') : MC P f args R' m :=
  ⟨h.1, fun w0 w hw => (h.2 w0 w hw).mono fun e w' ⟨v, m', he, hs, hR⟩ => let ⟨m'', hg, hR'⟩ := hr v m' hR; ⟨v, m'', he, hs.sub hg, hR'⟩⟩
theorem MC.pre {P : Program} {f : FuncId} {args : List Value} {R : Value → Mem → Prop} {m m' : Mem} (h : MC P f args R m) (hg : Grows m m') : MC P f args R m' :=
  ⟨h.1, fun w0 w hw => h.2 w0 w (hw.sub hg)⟩

/-- It only reads: the value, and the memory as it was. -/
abbrev RO (P : Program) (f : FuncId) (args : List Value) (v : Value) (m : Mem) : Prop := MC P f args (fun v' m' => v' = v ∧ m' = m) m
/-- Some world carries it. -/
def Inh (m : Mem) : Prop := ∃ w0 w, Sat w0 w m
def Spec.Sound (P : Program) (sp : Spec) : Prop := ∀ f args m v, sp f args m = some v → RO P f args v m

def MW (P : Program) (c : Code) (Q : Exit → Act → Mem → Prop) (a : Act) (m : Mem) : Prop :=
  ∀ w0 w, Sat w0 w m → c.wp P (fun e a' w' => ∃ m', Sat w0 w' m' ∧ Q e a' m') a w

/-- What an operation does with a memory. -/
def EffM (P : Program) (o : Oper) (ρ : Env) (Post : Value → Mem → Prop) (m : Mem) : Prop :=
  ∀ w0 w a, Sat w0 w m → (∀ x ∈ o.op.operands, a.eval x = ρ.of x) →
    o.wp P a w (fun a' w' => ∃ v m', a' = a.put o.dst v ∧ Sat w0 w' m' ∧ Post v m') (fun _ _ _ => False)

theorem MC.of_inh {P : Program} {f : FuncId} {args : List Value} {R : Value → Mem → Prop} {m : Mem} (hc : Callable P f) (h : Inh m → MC P f args R m) : MC P f args R m :=
  ⟨hc, fun w0 w hs => (h ⟨w0, w, hs⟩).2 w0 w hs⟩

theorem runN_ended {P : Program} {n : Nat} {m : Machine} {o : Outcome} {w : World} (h : runN P n m = .ended o w) (k : Nat) : runN P (n + k) m = .ended o w := by
  rw [runN_add, h]
theorem Calls.unique {P : Program} {f : FuncId} {args : Array Value} {w : World} (hf : P.inits.idxOf? f = none) {v1 v2 : Value} {R1 R2 : World → Prop}
    (h1 : Calls P f args w fun e w' => e = .returned v1 ∧ R1 w') (h2 : Calls P f args w fun e w' => e = .returned v2 ∧ R2 w') : v1 = v2 := by
  obtain ⟨e1, w1, fr1, ⟨rfl, _⟩, s1, f1, l1⟩ := h1 []
  obtain ⟨e2, w2, fr2, ⟨rfl, _⟩, s2, f2, l2⟩ := h2 []
  obtain ⟨n1, r1⟩ := s1
  obtain ⟨n2, r2⟩ := s2
  have d1 : runN P (n1 + 1) (lone (Frame.enter P f args .normal) [] w) = .ended (.done v1) w1 := by
    rw [runN_add, r1]; simp [runN, step_leave_done l1 (by rw [f1]; exact hf)]
  have d2 : runN P (n2 + 1) (lone (Frame.enter P f args .normal) [] w) = .ended (.done v2) w2 := by
    rw [runN_add, r2]; simp [runN, step_leave_done l2 (by rw [f2]; exact hf)]
  have e1 := runN_ended d1 (n2 + 1)
  have e2 := runN_ended d2 (n1 + 1)
  rw [show n2 + 1 + (n1 + 1) = n1 + 1 + (n2 + 1) from by omega, e1] at e2
  injection e2 with e2 _
  injection e2
theorem RO.unique {P : Program} {f : FuncId} {args : List Value} {v v' : Value} {m : Mem} (hi : Inh m) (h : RO P f args v m) (h' : RO P f args v' m) : v = v' := by
  obtain ⟨w0, w, hs⟩ := hi
  obtain ⟨⟨fn, _, _, _, hin⟩, h1⟩ := h
  refine Calls.unique (R1 := fun _ => True) (R2 := fun _ => True) hin ((h1 w0 w hs).mono ?_) ((h'.2 w0 w hs).mono ?_)
  · rintro e w' ⟨u, m', rfl, _, rfl, _⟩; exact ⟨rfl, trivial⟩
  · rintro e w' ⟨u, m', rfl, _, rfl, _⟩; exact ⟨rfl, trivial⟩
open Classical in
/-- What a call that only reads comes to. -/
noncomputable def spRO (P : Program) : Spec := fun f args m => if h : Inh m ∧ ∃ v, RO P f args v m then some (Classical.choose h.2) else none
theorem spRO_sound (P : Program) : (spRO P).Sound P := by
  intro f args m v h
  unfold spRO at h
  split at h
  · rename_i hh; cases h; exact Classical.choose_spec hh.2
  · cases h
theorem spRO_eq {P : Program} {f : FuncId} {args : List Value} {v : Value} {m : Mem} (hi : Inh m) (h : RO P f args v m) : spRO P f args m = some v := by
  unfold spRO
  have hh : Inh m ∧ ∃ v, RO P f args v m := ⟨hi, v, h⟩
  rw [dif_pos hh]
  exact congrArg some (RO.unique hi (Classical.choose_spec hh.2) h)

/-! ### Statements -/
/-- What makes or writes memory, or calls. -/
inductive Eff where
  | box (ty : TypeId) (x : Operand)
  | alloc (ty : TypeId) (z : Value)
  | store (k : Nat) (x y : Operand)
  | bslice (e : TypeId) (sz : Nat) (zs : List Value) (len : Nat) (parts : List (Nat × Operand))
  | make (e : TypeId) (sz bytes : Nat) (z : Value) (x y : Operand)
  | app (e : TypeId) (sz bytes : Nat) (x y : Operand)
  | call (f : FuncId) (args : List Operand)
  | callv (q : Nat) (args : List Operand)
  | var (ty : TypeId) (k : Nat) (y : Operand)
  | clr (sz : Nat) (z : Value) (x : Operand)
  | cpy (sz : Nat) (x y : Operand)

def plainV : Value → Bool
  | .agg _ | .tuple _ => false
  | _ => true
/-- A row with some of its cells written anew. -/
def spl (cs : List Value) (i : Nat) (vs : List Value) : List Value := cs.take i ++ vs ++ cs.drop (i + vs.length)
/-- A slice that has grown by append alone: it is nil, or the whole of a block that is its own. -/
def OwnS (m : Mem) (sz : Nat) (v : Value) (n : Nat) (cs : List Value) : Prop :=
  cs.length = n * sz ∧ (((∃ a, v = .slice a 0 0) ∧ n = 0) ∨ ∃ b cap e, v = .slice (some ⟨b, 0, none⟩) n cap ∧ m b = some (.cells e (cap * sz) false cs) ∧ n ≤ cap)
/-- A slice of k elements that can be read. -/
def RowS (m : Mem) (sz : Nat) (v : Value) (k : Nat) (cs : List Value) : Prop :=
  ∃ a c, v = .slice a k c ∧ cs.length = k * sz ∧ (0 < k → ∃ ad, a = some ad ∧ m.row ad (k * sz) = some cs)
def blockOf : Value → Option Nat
  | .slice (some a) _ c => if c = 0 then none else some a.block
  | _ => none
/-- Nothing has turned but the block of a slice; the new slice has the same block, or a new one. -/
structure Grew (m m' : Mem) (v v' : Value) : Prop where
  keep : ∀ b B, m b = some B → blockOf v ≠ some b → m' b = some B
  fin : ∀ b B, m b = some B → B.isFin = true → m' b = some B
  here : blockOf v' = blockOf v ∨ ∃ b, blockOf v' = some b ∧ m b = none
def zeros (z : List Value) (n : Nat) : List Value := (List.range n).map fun i => z.getD (i % z.length) default

/-- What append comes to, exactly: in place where there is room, else a new block. -/
def AppS (m : Mem) (e : TypeId) (sz : Nat) (v : Value) (n k : Nat) (news : List Value) (Post : Value → Mem → Prop) : Prop :=
  (n = 0 ∧ (∃ a, v = .slice a 0 0) ∧ (k = 0 → Post v m) ∧ (0 < k → ∀ b cap m', m b = none → k ≤ cap → m' = m.ins b (.cells e (cap * sz) false news) → Post (.slice (some ⟨b, 0, none⟩) k cap) m')) ∨
  (∃ b o cap ty N full, v = .slice (some ⟨b, o, none⟩) n cap ∧ m b = some (.cells ty N false full) ∧ o + n * sz ≤ full.length ∧ o + cap * sz ≤ N ∧ n ≤ cap ∧
    (n + k ≤ cap → ∀ m', m' = m.ins b (.cells ty N false (spl full (o + n * sz) news)) → Post (.slice (some ⟨b, o, none⟩) (n + k) cap) m') ∧
    (cap < n + k → ∀ b' cap' m', m b' = none → n + k ≤ cap' → m' = m.ins b' (.cells e (cap' * sz) false ((full.drop o).take (n * sz) ++ news)) → Post (.slice (some ⟨b', 0, none⟩) (n + k) cap') m')) ∨
  (∃ b o ty N fin full, v = .slice (some ⟨b, o, none⟩) n n ∧ m b = some (.cells ty N fin full) ∧ 0 < k ∧ n * sz + o ≤ full.length + (if n * sz = 0 then o else 0) ∧
    (∀ b' cap' m', m b' = none → n + k ≤ cap' → m' = m.ins b' (.cells e (cap' * sz) false ((full.drop o).take (n * sz) ++ news)) → Post (.slice (some ⟨b', 0, none⟩) (n + k) cap') m'))
theorem AppS.mono {m : Mem} {e : TypeId} {sz : Nat} {v : Value} {n k : Nat} {news : List Value} {Post Post' : Value → Mem → Prop} (h : AppS m e sz v n k news Post) (hP : ∀ v m, Post v m → Post' v m) : AppS m e sz v n k news Post' := by
  rcases h with ⟨h1, h2, h3, h4⟩ | ⟨b, o, cap, ty, N, full, h1, h2, h3, h4, h5, h6, h7⟩ | ⟨b, o, ty, N, fin, full, h1, h2, h3, h4, h7⟩
  · exact .inl ⟨h1, h2, fun hk => hP _ _ (h3 hk), fun hk b c m' a b' c' => hP _ _ (h4 hk b c m' a b' c')⟩
  · exact .inr (.inl ⟨b, o, cap, ty, N, full, h1, h2, h3, h4, h5, fun hk m' a => hP _ _ (h6 hk m' a), fun hk b' c' m' a b'' d => hP _ _ (h7 hk b' c' m' a b'' d)⟩)
  · exact .inr (.inr ⟨b, o, ty, N, fin, full, h1, h2, h3, h4, fun b' c' m' a b'' d => hP _ _ (h7 b' c' m' a b'' d)⟩)

def wpE (P : Program) : Eff → Env → (Value → Mem → Prop) → Mem → Prop
  | .box ty x, ρ, Post, m => ∃ fin, ∀ b m', m b = none → m' = m.ins b (.cells ty (ρ.of x).cells.size fin (ρ.of x).cells.toList) → Post (.pointer (some ⟨b, 0, none⟩)) m'
  | .alloc ty z, ρ, Post, m => ∀ b m', m b = none → m' = m.ins b (.cells ty z.cells.size false z.cells.toList) → Post (.pointer (some ⟨b, 0, none⟩)) m'
  | .store k x y, ρ, Post, m => ∃ b i n ty cs, ρ.of x = .pointer (some ⟨b, i, none⟩) ∧ m b = some (.cells ty n false cs) ∧ (ρ.of y).cells.size = k ∧ i ≤ cs.length ∧ i + k ≤ n ∧ (ρ.of y).cells.toList.all plainV = true ∧
      ∀ m', m' = m.ins b (.cells ty n false (spl cs i (ρ.of y).cells.toList)) → Post undef m'
  | .bslice e sz zs len parts, ρ, Post, m => ∃ l, bldL zs (parts.map fun p => (p.1 * sz, sz)) (parts.map fun p => ρ.of p.2) = some l ∧ ∃ fin, ∀ b m', m b = none → m' = m.ins b (.cells e (len * sz) fin l) → Post (.slice (some ⟨b, 0, none⟩) len len) m'
  | .make e sz bytes z x y, ρ, Post, m => ∃ kl kc l c, ρ.of x = .int kl l ∧ ρ.of y = .int kc c ∧ 0 ≤ l ∧ l ≤ c ∧ (bytes : Int) * c ≤ 281474976710656 ∧ c ≤ 9223372036854775807 ∧
      ∀ b m', m b = none → m' = m.ins b (.cells e (c.toNat * sz) false (zeros z.cells.toList (l.toNat * sz))) → Post (.slice (some ⟨b, 0, none⟩) l.toNat c.toNat) m'
  | .app e sz bytes x y, ρ, Post, m => ∃ n k news, RowS m sz (ρ.of y) k news ∧ news.all plainV = true ∧ (n + k) * bytes ≤ 140737488355328 ∧ n + k ≤ 9223372036854775807 ∧ AppS m e sz (ρ.of x) n k news Post
  | .call f args, ρ, Post, m => MC P f (args.map ρ.of) Post m
  | .callv q args, ρ, Post, m => ∃ f first caps, ρ q = .func (.func f) first caps ∧ MC P f (first.toList ++ args.map ρ.of ++ caps.toList) Post m
  | .var ty k y, ρ, Post, m => (ρ.of y).cells.size = k ∧ (ρ.of y).cells.toList.all plainV = true ∧ ∃ fin, ∀ b m', m b = none → m' = m.ins b (.cells ty k fin (ρ.of y).cells.toList) → Post (.pointer (some ⟨b, 0, none⟩)) m'
  | .clr sz z x, ρ, Post, m => ∃ a n c, ρ.of x = .slice a n c ∧ ((n = 0 ∧ Post (.tuple #[]) m) ∨
      ∃ b i N ty cs, a = some ⟨b, i, none⟩ ∧ m b = some (.cells ty N false cs) ∧ i ≤ cs.length ∧ i + n * sz ≤ N ∧ (zeros z.cells.toList (n * sz)).all plainV = true ∧
        ∀ m', m' = m.ins b (.cells ty N false (spl cs i (zeros z.cells.toList (n * sz)))) → Post (.tuple #[]) m')
  | .cpy sz x y, ρ, Post, m => ∃ a n c a' n' c', ρ.of x = .slice a n c ∧ ρ.of y = .slice a' n' c' ∧ ((min n' n = 0 ∧ Post (.int .i64 0) m) ∨
      ∃ b i N ty cs ad news, a = some ⟨b, i, none⟩ ∧ m b = some (.cells ty N false cs) ∧ i ≤ cs.length ∧ i + min n' n * sz ≤ N ∧ a' = some ad ∧ m.row ad (min n' n * sz) = some news ∧ news.all plainV = true ∧
        ∀ m', m' = m.ins b (.cells ty N false (spl cs i news)) → Post (.int .i64 (min n' n : Nat)) m')

inductive St where
  | act (d : Option Nat) (e : Eff)
  | nop
  | sets (outs : List (Nat × Ex)) (must : List Ex)
  | eff (o : Oper)
  | seq (a b : St)
  | ite (c : Ex) (a b : St)
  | block (id : Nat) (a : St)
  | loop (a : St)
  | exit (id : Nat)
  | ret
  | raw (c : Code)

def evL (sp : Spec) (m : Mem) (ρ : Env) : List (Nat × Ex) → Option (List (Nat × Value))
  | [] => some []
  | (i, e) :: r => (ev sp m ρ e).bind fun v => (evL sp m ρ r).map fun l => (i, v) :: l
def evM (sp : Spec) (m : Mem) (ρ : Env) : List Ex → Prop
  | [] => True
  | e :: r => (ev sp m ρ e).isSome = true ∧ evM sp m ρ r

variable (P : Program) (sp : Spec) (G : Nat → Bool)
/-- The slots that are told agree. -/
def Agree (N : Nat) (a : Act) (ρ : Env) : Prop := a.tmps.size = N ∧ a.defers = [] ∧ ∀ t, G t = true → a.eval (.tmp t) = ρ t

def Lift (N : Nat) (K : Env → Mem → Prop) (X : Nat → Env → Mem → Prop) (R : Env → Mem → Prop) : Exit → Act → Mem → Prop
  | .normal, a, m => ∃ ρ, Agree G N a ρ ∧ K ρ m
  | .exit i, a, m => ∃ ρ, Agree G N a ρ ∧ X i ρ m
  | .ret, a, m => ∃ ρ, Agree G N a ρ ∧ R ρ m
  | _, _, _ => False

def wpS (N : Nat) : St → (Env → Mem → Prop) → (Nat → Env → Mem → Prop) → (Env → Mem → Prop) → Env → Mem → Prop
  | .nop, K, _, _, ρ, m => K ρ m
  | .sets outs must, K, _, _, ρ, m => Inh m → evM sp m ρ must ∧ ∃ l, evL sp m ρ outs = some l ∧ K (ρ.upds l) m
  | .act d e, K, _, _, ρ, m => wpE P e ρ (fun v m' => K (ρ.updO d v) m') m
  | .eff o, K, _, _, ρ, m => EffM P o ρ (fun v m' => K (ρ.updO o.dst v) m') m
  | .seq a b, K, X, R, ρ, m => wpS N a (fun ρ' m' => wpS N b K X R ρ' m') X R ρ m
  | .ite c a b, K, X, R, ρ, m => Inh m → ∃ t, ev sp m ρ c = some (.bool t) ∧ (t = true → wpS N a K X R ρ m) ∧ (t = false → wpS N b K X R ρ m)
  | .block id a, K, X, R, ρ, m => wpS N a K (fun i => if i = id then K else X i) R ρ m
  | .loop a, K, X, R, ρ, m => ∃ (I : Nat → Env → Mem → Prop) (n : Nat), I n ρ m ∧ ∀ k ρ' m', I k ρ' m' → wpS N a (fun ρ'' m'' => ∃ k', k' < k ∧ I k' ρ'' m'') X R ρ' m'
  | .exit id, _, X, _, ρ, m => X id ρ m
  | .ret, _, _, R, ρ, m => R ρ m
  | .raw c, K, X, R, ρ, m => ∀ a, Agree G N a ρ → MW P c (Lift G N K X R) a m
end Go.Proofs.Ytaifmmeghninhaa.Mw
