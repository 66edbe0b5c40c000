/- Regions whose order is open and that write or call: one order serves for all, where what is read stays as it is. No condition. -/
import Derived.Test.YtaifmmeghninhaaDc
namespace Go.Proofs.Ytaifmmeghninhaa.Mw
open Go Go.RowKit
set_option linter.unusedVariables false
set_option linter.unusedSimpArgs false

inductive PK where
  | rd (e : Ex)
  | fr (e : Eff)
  | va (ty : TypeId) (z : Value)
  | hv (ia dv : Nat) (ty : TypeId) (k : Nat) (y : Operand)
  | hd (e : Eff)
  | as (e : Ex)
def PK.hard : PK → Bool
  | .hv .. | .hd _ | .as _ => true
  | _ => false
section plan
variable (P : Program) (ro : FuncId → Bool) (G : Nat → Bool) (N : Nat) (mu : Nat → Bool)
def usedBefore (ops : Array Oper) (i d : Nat) : Bool := (List.range i).any fun j => match ops[j]? with | some o => usesT ops d o | none => false
def storeOf (ops : Array Oper) (d : Nat) (ty : TypeId) : Bool := ops.any fun o => match o.op with | .store ty' (.tmp d') _ => d' == d && ty' == ty && o.guard.isNone | _ => false
def allocOf (ops : Array Oper) (d : Nat) (ty : TypeId) : Option Nat := (List.range ops.size).find? fun j => match ops[j]? with
  | some o => o.dst == some d && (match o.op with | .alloc ty' => ty' == ty | _ => false) && o.guard.isNone
  | none => false
def kindOf (ops : Array Oper) (i : Nat) : Option PK :=
  (ops[i]?).bind fun o => (guardDst ops o).bind fun gd =>
    match low P ro (opd []) o.op with
    | some e => o.dst.bind fun d => some (if usedBefore ops i d then .as (wrapG [] gd e) else .rd (wrapG [] gd e))
    | none => if gd.isSome then none else match o.op, o.dst with
      | .alloc ty, some d => if storeOf ops d ty then (P.info? ty).bind fun inf => inf.zero.bind fun z => if z.cells.size = inf.size then some (.va ty z) else none else (effOf P o).map .hd
      | .store ty (.tmp dv) y, none => match allocOf ops dv ty with
        | some ia => (P.info? ty).map fun inf => .hv ia dv ty inf.size y
        | none => (effOf P o).map .hd
      | .box ty x, some d => if mu d then some (.hd (.box ty x)) else some (.fr (.box ty x))
      | .buildSlice .., some d => if mu d then (effOf P o).map .hd else (effOf P o).map .fr
      | _, _ => (effOf P o).map .hd
def ordOf (ks : List PK) (i : Nat) : Nat := ((ks.take i).filter PK.hard).length
def hardI (ks : List PK) (i : Nat) : Bool := match ks[i]? with | some k => k.hard | none => false
def isVa : Option PK → Bool
  | some (.va ..) => true
  | _ => false
def hvIa : Option PK → Option Nat
  | some (.hv ia ..) => some ia
  | _ => none
/-- Two operations of a region: the slots that the second one sets. -/
def pairOk2 (ops : Array Oper) (ks : List PK) (i j : Nat) : Bool :=
  (match ops[i]?, ops[j]? with
    | some oi, some oj => match oj.dst with
      | some d => if i = j then !usesT ops d oi else (oi.dst != some d) && (!usesT ops d oi || ((if j < i then hasEdge oi j else (hasEdge oj i && hardI ks j)) && (!isVa ks[j]? || (match ks[i]? with | some (.hv ia dv _ _ y) => ia == j && dv == d && notTmp d y | _ => false))))
      | none => true
    | _, _ => false) && (i == j || (hvIa ks[i]?).isNone || hvIa ks[i]? != hvIa ks[j]?)
def stOk (ops : Array Oper) (ks : List PK) (st : List Nat) (i : Nat) : Bool :=
  hardI ks i || st.getD i 0 == 0 || (List.range i).any fun j => (match ops[i]? with | some o => hasEdge o j | none => false) && (if hardI ks j then ordOf ks j + 1 == st.getD i 0 else st.getD j 0 == st.getD i 0)
def foOk (ops : Array Oper) (ks : List PK) (fo : List Nat) (i : Nat) : Bool :=
  hardI ks i || fo.getD i 0 == ordOf ks ks.length || (List.range ops.size).any fun j => decide (i < j) && (match ops[j]? with | some o => hasEdge o i | none => false) && (if hardI ks j then ordOf ks j == fo.getD i 0 else fo.getD j 0 == fo.getD i 0)
def chainOk (ops : Array Oper) (ks : List PK) (st : List Nat) (i : Nat) : Bool :=
  !hardI ks i || ordOf ks i == 0 || (List.range i).any fun j => (if hardI ks j then (ordOf ks j + 1 == ordOf ks i) else st.getD j 0 == ordOf ks i) && (match ops[i]? with | some o => hasEdge o j | none => false)
def exSlots : Ex → List Nat
  | .s i => [i]
  | .k _ | .nl => []
  | .bin _ a b | .eqs _ _ a b | .eqn _ a b | .eqz _ a b | .eqb _ a b | .and a b | .or a b | .grd a _ b | .ix _ a b | .sidx a b | .cs a b | .mkf _ a b => exSlots a ++ exSlots b
  | .un _ a | .cvt _ a | .ld a | .ldn _ a | .fa _ a | .nck a | .len a | .slen a | .fld _ a | .fldn _ _ a | .ext _ a | .ifc _ a | .bld _ _ a | .call _ a => exSlots a
  | .pick a b c | .sslc a b c => exSlots a ++ exSlots b ++ exSlots c
  | .slc _ a b c d => exSlots a ++ exSlots b ++ exSlots c ++ exSlots d
theorem exSlots_uses {t : Nat} : ∀ {e : Ex}, uses t e = true → t ∈ exSlots e := by
  intro e
  induction e <;> intro h <;> simp_all [uses, exSlots] <;> grind
def opOk (ops : Array Oper) (ks : List PK) (i : Nat) : Bool :=
  match ops[i]?, ks[i]? with
  | some o, some k => dstOk N o.dst && o.op.operands.all (fun | .tmp t => G t || (List.range i).any (fun j => match ops[j]? with | some o' => o'.dst == some t | none => false) | _ => true) &&
      (match guardDst ops o with | some (some (dj, _)) => (G dj || (List.range i).any (fun j => match ops[j]? with | some o' => o'.dst == some dj | none => false)) && decide (dj < N) | some none => true | none => false) &&
      (match k with | .rd e | .as e => (exSlots e).all fun t => usesT ops t o | _ => true) && (match k with | .hv ia dv _ _ _ => hasEdge o ia && decide (dv < N) && isVa ks[ia]? && (match ops[ia]? with | some o' => o'.dst == some dv | none => false) | .va .. => (List.range ops.size).any (fun j => hvIa ks[j]? == some i) | _ => true)
  | _, _ => false
def drawOk (ops : Array Oper) (ks : List PK) (st fo : List Nat) : Bool :=
  P.follows .mixedOrders && (ks.length == ops.size) && (List.range ops.size).all fun i => backOk ops i && opOk G N ops ks i && stOk ops ks st i && foOk ops ks fo i && chainOk ops ks st i && (List.range ops.size).all fun j => pairOk2 ops ks i j

inductive Sp where
  | rd (d : Nat) (e : Ex)
  | fr (d : Nat) (e : Eff)
  | ck (d : Nat) (e : Ex)
  | cf (d : Nat) (e : Eff)
  | hd (d : Option Nat) (e : Eff)
def itemOf (ops : Array Oper) (ks : List PK) (i : Nat) : Option Sp :=
  match (ops[i]?).bind (·.dst), ks[i]? with
  | some d, some (.rd e) => some (.rd d e)
  | some d, some (.fr e) => some (.fr d e)
  | _, _ => none
def ckOf (ops : Array Oper) (ks : List PK) (i : Nat) : Option Sp :=
  match (ops[i]?).bind (·.dst), ks[i]? with
  | some d, some (.rd e) => some (.ck d e)
  | some d, some (.fr e) => some (.cf d e)
  | _, _ => none
def hardOf (ops : Array Oper) (ks : List PK) (i : Nat) : Option Sp :=
  match (ops[i]?).map (·.dst), ks[i]? with
  | some d, some (.hd e) => some (.hd d e)
  | some d, some (.hv _ dv ty k y) => some (.hd (some dv) (.var ty k y))
  | some (some d), some (.as e) => some (.rd d e)
  | _, _ => none
def itemsAt (ops : Array Oper) (ks : List PK) (st : List Nat) (s : Nat) : List Sp := (List.range ops.size).filterMap fun i => if st.getD i 0 == s then itemOf ops ks i else none
def cksAt (ops : Array Oper) (ks : List PK) (st fo : List Nat) (s : Nat) : List Sp := (List.range ops.size).filterMap fun i => if st.getD i 0 ≤ s ∧ s ≤ fo.getD i 0 then ckOf ops ks i else none
def hardAt (ks : List PK) (s : Nat) : Option Nat := (List.range ks.length).find? fun i => hardI ks i && ordOf ks i == s
def stepsFrom (ops : Array Oper) (ks : List PK) (st fo : List Nat) : Nat → Nat → List Sp
  | 0, s => itemsAt ops ks st s ++ cksAt ops ks st fo s
  | n + 1, s => itemsAt ops ks st s ++ cksAt ops ks st fo s ++ ((hardAt ks s).bind (hardOf ops ks)).toList ++ stepsFrom ops ks st fo n (s + 1)
def kinds (ops : Array Oper) : Option (List PK) := (List.range ops.size).mapM (kindOf P ro mu ops)
/-- The stages, reckoned. -/
def stages (ops : Array Oper) (ks : List PK) : List Nat := (List.range ops.size).foldl (fun st i => st ++ [match ops[i]? with
  | some o => if hardI ks i then 0 else o.after.foldl (fun m e => if Region.binds .any e then max m (if hardI ks e.on then ordOf ks e.on + 1 else st.getD e.on 0) else m) 0
  | none => 0]) []
def forced (ops : Array Oper) (ks : List PK) : List Nat := ((List.range ops.size).reverse.foldl (fun fo i => ((List.range ops.size).foldl (fun m j => match ops[j]? with
  | some o => if i < j ∧ hasEdge o i = true then min m (if hardI ks j then ordOf ks j else fo.getD (j - (i + 1)) 0) else m
  | none => m) (ordOf ks ks.length)) :: fo) [])
/-- What a region whose order is open comes to. -/
def planD (ops : Array Oper) : Option (List Sp) :=
  (kinds P ro mu ops).bind fun ks => if drawOk P G N ops ks (stages ops ks) (forced ops ks) = true then some (stepsFrom ops ks (stages ops ks) (forced ops ks) (ordOf ks ks.length) 0) else none
end plan
section wp
variable (P : Program) (mu : Nat → Bool)
/-- New memory that nobody writes. -/
def freshI (δ : DEnv) : Eff → Option DV
  | .box ty x => (cellsD (δ.of x)).map .ip
  | .bslice e sz zs len parts => (bldLD (zs.map of0) (parts.map fun p => (p.1 * sz, sz)) (parts.map fun p => δ.of p.2)).map fun l => if len = 0 then .zsl else .isl len l
  | _ => none
def wpSp (K : DEnv → DMem → Prop) : List Sp → DEnv → DMem → Prop
  | [], δ, M => K δ M
  | .rd d e :: r, δ, M => ∃ v, evD P M δ e = some v ∧ wpSp K r (δ.upd d v) M
  | .fr d e :: r, δ, M => ∃ v, freshI δ e = some v ∧ wpSp K r (δ.upd d v) M
  | .ck d e :: r, δ, M => evD P M δ e = some (δ d) ∧ wpSp K r δ M
  | .cf d e :: r, δ, M => freshI δ e = some (δ d) ∧ wpSp K r δ M
  | .hd d e :: r, δ, M => wpDE P mu d e δ (fun v M' => wpSp K r (δ.updO d v) M') M
end wp

/-! ### It serves for all orders -/
def effOps : Eff → List Operand
  | .box _ x => [x]
  | .alloc .. => []
  | .store _ x y => [x, y]
  | .bslice _ _ _ _ parts => parts.map (·.2)
  | .make _ _ _ _ x y => [x, y]
  | .app _ _ _ x y => [x, y]
  | .call _ args => args
  | .callv q args => .tmp q :: args
  | .var _ _ y => [y]
  | .clr _ _ x => [x]
  | .cpy _ x y => [x, y]
theorem effOps_sub {P : Program} {o : Oper} {e : Eff} (h : effOf P o = some e) : ∀ x ∈ effOps e, x ∈ o.op.operands := by
  obtain ⟨d, op, t, pos, after, guard⟩ := o
  simp only at *
  cases op with
  | box ty x => cases h; simp [effOps, Op.operands]
  | alloc ty => simp only [effOf, Option.map_eq_some_iff] at h; obtain ⟨z, hz, rfl⟩ := h; simp [effOps]
  | store ty x y => simp only [effOf, Option.map_eq_some_iff] at h; obtain ⟨i, hi, rfl⟩ := h; simp [effOps, Op.operands]
  | buildSlice ty len parts =>
    simp only [effOf] at h
    split at h
    · simp only [Option.bind_eq_some_iff] at h
      obtain ⟨inf, hi, z, hz, h⟩ := h
      split at h
      · cases h; simp [effOps, Op.operands]
      · cases h
    · cases h
  | makeSlice ty x y =>
    simp only [effOf] at h
    split at h
    · simp only [Option.bind_eq_some_iff] at h
      obtain ⟨inf, hi, z, hz, h⟩ := h
      split at h
      · cases h; simp [effOps, Op.operands]
      · cases h
    · cases h
  | call c =>
    obtain ⟨callee, args, argTypes⟩ := c
    cases callee with
    | builtin b =>
      cases b with
      | append =>
        simp only [effOf] at h
        split at h
        · rename_i x y ty ty' ha ht
          have ha' : args = #[x, y] := by cases args; simp_all
          subst ha'
          split at h
          · split at h
            · simp only [Option.bind_eq_some_iff] at h
              obtain ⟨inf, hi, z, hz, h⟩ := h
              split at h
              · cases h; simp [effOps, Op.operands, Call.operands]
              · cases h
            · cases h
          · cases h
        · cases h
      | clear =>
        simp only [effOf] at h
        split at h
        · rename_i x ty ha ht
          have ha' : args = #[x] := by cases args; simp_all
          subst ha'
          split at h
          · simp only [Option.bind_eq_some_iff] at h
            obtain ⟨inf, hi, z, hz, h⟩ := h
            split at h
            · cases h; simp [effOps, Op.operands, Call.operands]
            · cases h
          · cases h
        · cases h
      | copy =>
        simp only [effOf] at h
        split at h
        · rename_i x y ty ty' ha ht
          have ha' : args = #[x, y] := by cases args; simp_all
          subst ha'
          split at h
          · split at h
            · simp only [Option.bind_eq_some_iff, Option.some.injEq] at h
              obtain ⟨inf, hi, rfl⟩ := h
              simp [effOps, Op.operands, Call.operands]
            · cases h
          · cases h
        · cases h
      | _ => simp [effOf] at h
    | value f =>
      cases f with
      | func f => cases h; intro x hx; simp only [effOps] at hx; simp only [Op.operands, Call.operands]; simp; exact .inr (by simpa using hx)
      | tmp q =>
        cases h
        intro x hx
        simp only [effOps, List.mem_cons] at hx
        simp only [Op.operands, Call.operands]
        rcases hx with rfl | hx
        · simp
        · simp; exact .inr (by simpa using hx)
      | _ => simp [effOf] at h
    | invoke r n => simp [effOf] at h
  | _ => simp [effOf] at h
theorem wpDE_congr {P : Program} {mu : Nat → Bool} {d : Option Nat} {δ δ' : DEnv} {Post : DV → DMem → Prop} {M : DMem} : ∀ {e : Eff}, (∀ x ∈ effOps e, δ.of x = δ'.of x) → wpDE P mu d e δ Post M → wpDE P mu d e δ' Post M
  | .box ty x, h, hw => by simp only [effOps, List.mem_singleton, forall_eq] at h; simp only [wpDE, h] at hw ⊢; exact hw
  | .alloc ty z, h, hw => hw
  | .store k x y, h, hw => by simp only [effOps, List.mem_cons, List.not_mem_nil, or_false, forall_eq_or_imp, forall_eq] at h; simp only [wpDE, h] at hw ⊢; exact hw
  | .bslice e sz zs len parts, h, hw => by
    have e1 : parts.map (fun p => δ.of p.2) = parts.map (fun p => δ'.of p.2) := List.map_congr_left fun p hp => h p.2 (by simp only [effOps, List.mem_map]; exact ⟨p, hp, rfl⟩)
    simp only [wpDE, e1] at hw ⊢; exact hw
  | .make e sz bytes z x y, h, hw => by simp only [effOps, List.mem_cons, List.not_mem_nil, or_false, forall_eq_or_imp, forall_eq] at h; simp only [wpDE, h] at hw ⊢; exact hw
  | .app e sz bytes x y, h, hw => by simp only [effOps, List.mem_cons, List.not_mem_nil, or_false, forall_eq_or_imp, forall_eq] at h; simp only [wpDE, h] at hw ⊢; exact hw
  | .call f args, h, hw => by
    have e1 : args.map δ.of = args.map δ'.of := List.map_congr_left h
    simp only [wpDE, e1] at hw ⊢; exact hw
  | .callv q args, h, hw => by
    have e1 : args.map δ.of = args.map δ'.of := List.map_congr_left fun x hx => h x (by simp [effOps, hx])
    have e2 : δ q = δ' q := h (.tmp q) (by simp [effOps])
    simp only [wpDE, e1, e2] at hw ⊢; exact hw
  | .var ty k y, h, hw => by simp only [effOps, List.mem_singleton, forall_eq] at h; simp only [wpDE, h] at hw ⊢; exact hw
  | .clr sz z x, h, hw => by simp only [effOps, List.mem_singleton, forall_eq] at h; simp only [wpDE, h] at hw ⊢; exact hw
  | .cpy sz x y, h, hw => by simp only [effOps, List.mem_cons, List.not_mem_nil, or_false, forall_eq_or_imp, forall_eq] at h; simp only [wpDE, h] at hw ⊢; exact hw
theorem freshI_wp {P : Program} {mu : Nat → Bool} {d : Nat} (hmu : mu d = false) {δ : DEnv} {e : Eff} {v : DV} {M : DMem} (h : freshI δ e = some v) : wpDE P mu (some d) e δ (fun v' M' => v' = v ∧ M' = M) M := by
  cases e <;> simp only [freshI, reduceCtorEq, Option.map_eq_some_iff] at h
  case box ty x => obtain ⟨cs, h1, rfl⟩ := h; exact ⟨cs, h1, by simp [hmu]⟩
  case bslice e sz zs len parts => obtain ⟨l, h1, rfl⟩ := h; exact ⟨l, h1, by by_cases h0 : len = 0 <;> simp [hmu, h0]⟩
theorem evD_congr {P : Program} {M : DMem} {δ δ' : DEnv} : ∀ {e : Ex}, (∀ t, uses t e = true → δ t = δ' t) → evD P M δ e = evD P M δ' e := by
  intro e
  induction e with
  | s i => intro h; simp only [evD]; rw [h i (by simp [uses])]
  | k v => intro _; rfl
  | nl => intro _; rfl
  | bin op a b iha ihb | eqs ne n a b iha ihb | eqn ne a b iha ihb | eqb ne a b iha ihb | ix sz a b iha ihb | sidx a b iha ihb | cs a b iha ihb | mkf fn a b iha ihb =>
    intro h; simp only [evD]; rw [iha fun t ht => h t (by simp [uses, ht]), ihb fun t ht => h t (by simp [uses, ht])]
  | eqz ne a b iha ihb => intro _; rfl
  | and a b iha ihb | or a b iha ihb =>
    intro h; simp only [evD]; rw [iha fun t ht => h t (by simp [uses, ht]), ihb fun t ht => h t (by simp [uses, ht])]
  | grd a w b iha ihb => intro h; simp only [evD]; rw [iha fun t ht => h t (by simp [uses, ht]), ihb fun t ht => h t (by simp [uses, ht])]
  | un op a ih | cvt k a ih | ld a ih | ldn n a ih | fa n a ih | nck a ih | len a ih | slen a ih | fld n a ih | fldn n q a ih | ext n a ih | ifc t a ih | bld z pl a ih | call f a ih =>
    intro h; simp only [evD]; rw [ih fun t ht => h t (by simp [uses, ht])]
  | pick a b c iha ihb ihc => intro h; simp only [evD]; rw [iha fun t ht => h t (by simp [uses, ht]), ihb fun t ht => h t (by simp [uses, ht]), ihc fun t ht => h t (by simp [uses, ht])]
  | sslc a b c iha ihb ihc => intro h; simp only [evD]; rw [iha fun t ht => h t (by simp [uses, ht]), ihb fun t ht => h t (by simp [uses, ht]), ihc fun t ht => h t (by simp [uses, ht])]
  | slc sz a b c d iha ihb ihc ihd => intro h; simp only [evD]; rw [iha fun t ht => h t (by simp [uses, ht]), ihb fun t ht => h t (by simp [uses, ht]), ihc fun t ht => h t (by simp [uses, ht]), ihd fun t ht => h t (by simp [uses, ht])]

section draw
variable {P : Program} {ro : FuncId → Bool} {G : Nat → Bool} {N : Nat} {mu : Nat → Bool} {ops : Array Oper} {ks : List PK} {st fo : List Nat}
structure OkAt (P : Program) (G : Nat → Bool) (N : Nat) (ops : Array Oper) (ks : List PK) (st fo : List Nat) (i : Nat) : Prop where
  back : backOk ops i = true
  op : opOk G N ops ks i = true
  sta : stOk ops ks st i = true
  fa : foOk ops ks fo i = true
  chain : chainOk ops ks st i = true
  pair : ∀ j, j < ops.size → pairOk2 ops ks i j = true
theorem drawOk_spec (h : drawOk P G N ops ks st fo = true) : P.follows .mixedOrders = true ∧ ks.length = ops.size ∧ ∀ i, i < ops.size → OkAt P G N ops ks st fo i := by
  simp only [drawOk, Bool.and_eq_true, beq_iff_eq, List.all_eq_true, List.mem_range] at h
  obtain ⟨⟨h1, h2⟩, h3⟩ := h
  refine ⟨h1, h2, fun i hi => ?_⟩
  obtain ⟨⟨⟨⟨⟨a, b⟩, c⟩, d⟩, e⟩, f⟩ := h3 i hi
  exact ⟨a, b, c, d, e, f⟩
theorem kinds_spec (h : kinds P ro mu ops = some ks) {i : Nat} (hi : i < ops.size) : ∃ k, ks[i]? = some k ∧ kindOf P ro mu ops i = some k := by
  unfold kinds at h
  have key : ∀ (l : List Nat) (ks : List PK), l.mapM (kindOf P ro mu ops) = some ks → ∀ (i j : Nat), l[i]? = some j → ∃ k, ks[i]? = some k ∧ kindOf P ro mu ops j = some k := by
    intro l
    induction l with
    | nil => intro ks h i j hj; simp at hj
    | cons x l ih =>
      intro ks h i j hj
      simp only [List.mapM_cons, Option.bind_eq_bind, Option.bind_eq_some_iff, Option.pure_def, Option.some.injEq] at h
      obtain ⟨k, h1, ks', h2, rfl⟩ := h
      cases i with
      | zero => simp at hj; subst hj; exact ⟨k, rfl, h1⟩
      | succ i => simp only [List.getElem?_cons_succ] at hj ⊢; exact ih _ h2 i j hj
  exact key _ _ h i i (by simp [hi])
/-- Has the variable that an operation makes been filled? -/
def Filled (ks : List PK) (listed : Array Bool) (i : Nat) : Prop := ∃ j, hvIa ks[j]? = some i ∧ listed.getD j false = true
/-- A slot that holds what it is told to hold. -/
def Live (ops : Array Oper) (ks : List PK) (listed : Array Bool) (t : Nat) : Prop :=
  ∀ (i : Nat) (o : Oper), ops[i]? = some o → o.dst = some t → hardI ks i = false → listed.getD i false = true ∧ (isVa ks[i]? = true → Filled ks listed i)
def ptrV (b : Nat) : Value := .pointer (some ⟨b, 0, none⟩)
structure SI (P : Program) (ops : Array Oper) (ks : List PK) (st : List Nat) (G : Nat → Bool) (N : Nat) (F m0 : Mem) (w0 : World) (s : Nat) (δ : DEnv) (M : DMem) (ρ : Env) (m F' : Mem) (listed : Array Bool) (a : Act) (w : World) : Prop where
  sat : Sat w0 w m
  lsize : listed.size = ops.size
  size : a.tmps.size = N
  defers : a.defers = []
  closed : ∀ (i : Nat) o e, listed.getD i false = true → ops[i]? = some o → e ∈ o.after → Region.binds .any e = true → listed.getD e.on false = true
  env : ∀ t, Live ops ks listed t → Rep m (δ t) (ρ t)
  mem : RepM M m
  fin : Fin m0 m
  keep : Grows F' m
  own : ∀ b, F' b ≠ none → M b = none
  FF : Grows F F'
  hard : ∀ i, i < ops.size → hardI ks i = true → (listed.getD i false = true ↔ ordOf ks i < s)
  val : ∀ t, Live ops ks listed t → (G t = true ∨ ∃ i o, ops[i]? = some o ∧ o.dst = some t ∧ listed.getD i false = true) → a.eval (.tmp t) = ρ t
  vpend : ∀ i o ty z d, ops[i]? = some o → ks[i]? = some (.va ty z) → o.dst = some d → listed.getD i false = true → ¬ Filled ks listed i →
    ∃ b, a.eval (.tmp d) = ptrV b ∧ F' b = some (.cells ty z.cells.size false z.cells.toList) ∧ F b = none
  vdist : ∀ i i' o o' d d' ty z ty' z' b, i ≠ i' → ops[i]? = some o → ops[i']? = some o' → ks[i]? = some (.va ty z) → ks[i']? = some (.va ty' z') → o.dst = some d → o'.dst = some d' → listed.getD i false = true → listed.getD i' false = true →
    ¬ Filled ks listed i → ¬ Filled ks listed i' → a.eval (.tmp d) = ptrV b → a.eval (.tmp d') ≠ ptrV b
/-- What the operations still to come will read is told. -/
def Told (P : Program) (ops : Array Oper) (ks : List PK) (st : List Nat) (s : Nat) (δ : DEnv) (M : DMem) (listed : Array Bool) : Prop :=
  ∀ i o d, ops[i]? = some o → o.dst = some d → listed.getD i false = false → st.getD i 0 ≤ s →
    (∀ e, ks[i]? = some (.rd e) → evD P M δ e = some (δ d)) ∧ (∀ e, ks[i]? = some (.fr e) → freshI δ e = some (δ d))
theorem getD_lt {l : Array Bool} {i : Nat} (h : l.getD i false = true) : i < l.size := by
  rcases Nat.lt_or_ge i l.size with h' | h'
  · exact h'
  · simp [Array.getD_eq_getD_getElem?, Array.getElem?_eq_none h'] at h
theorem hasEdge_listed {o : Oper} {i j : Nat} {listed : Array Bool} (hc : ∀ (i : Nat) o e, listed.getD i false = true → ops[i]? = some o → e ∈ o.after → Region.binds .any e = true → listed.getD e.on false = true)
    (ho : ops[i]? = some o) (hi : listed.getD i false = true) (h : hasEdge o j = true) : listed.getD j false = true := by
  obtain ⟨e, he, hon, hb⟩ := hasEdge_spec h
  have := hc i o e hi ho he hb
  rwa [hon] at this
theorem ordOf_lt {ks : List PK} {i j : Nat} (h : i < j) (hi : hardI ks i = true) : ordOf ks i < ordOf ks j := by
  have hk : ∃ k, ks[i]? = some k ∧ k.hard = true := by
    unfold hardI at hi
    split at hi
    · rename_i k hk; exact ⟨k, hk, hi⟩
    · cases hi
  obtain ⟨k, hk, hh⟩ := hk
  have hlt := (List.getElem?_eq_some_iff.1 hk).1
  unfold ordOf
  have e1 : ks.take j = ks.take i ++ (ks.drop i).take (j - i) := by
    rw [← List.take_add]; congr 1; omega
  have e2 : (ks.drop i).take (j - i) = k :: (ks.drop (i + 1)).take (j - i - 1) := by
    rw [List.drop_eq_getElem_cons hlt]
    obtain ⟨q, hq⟩ : ∃ q, j - i = q + 1 := ⟨j - i - 1, by omega⟩
    rw [hq, List.take_succ_cons, (List.getElem?_eq_some_iff.1 hk).2]
    rfl
  rw [e1, e2, List.filter_append, List.filter_cons_of_pos hh, List.length_append, List.length_cons]
  omega
theorem hardAt_of {ks : List PK} {i : Nat} (hi : hardI ks i = true) : hardAt ks (ordOf ks i) = some i := by
  have hlt : i < ks.length := by
    unfold hardI at hi
    split at hi
    · rename_i k hk; exact (List.getElem?_eq_some_iff.1 hk).1
    · cases hi
  unfold hardAt
  cases hf : (List.range ks.length).find? fun j => hardI ks j && ordOf ks j == ordOf ks i with
  | none =>
    rw [List.find?_eq_none] at hf
    have := hf i (List.mem_range.2 hlt)
    simp [hi] at this
  | some j =>
    have h1 := List.find?_some hf
    simp only [Bool.and_eq_true, beq_iff_eq] at h1
    rcases Nat.lt_trichotomy i j with h | h | h
    · have := ordOf_lt h hi; omega
    · rw [h]
    · have := ordOf_lt h h1.1; omega
theorem hard_ex {ks : List PK} : ∀ {s n : Nat}, s < ordOf ks n → ∃ i, hardI ks i = true ∧ ordOf ks i = s := by
  intro s n
  induction n with
  | zero => intro h; simp [ordOf] at h
  | succ n ih =>
    intro h
    by_cases hs : s < ordOf ks n
    · exact ih hs
    · unfold ordOf at h hs
      rw [List.take_add_one] at h
      cases hk : ks[n]? with
      | none => rw [hk] at h; simp at h; omega
      | some k =>
        rw [hk] at h
        simp only [Option.toList_some, List.filter_append, List.length_append] at h
        cases hh : k.hard with
        | false => simp [hh] at h; omega
        | true =>
          simp [hh] at h
          refine ⟨n, by unfold hardI; rw [hk]; exact hh, ?_⟩
          unfold ordOf; omega
def restAt (ops : Array Oper) (ks : List PK) (st fo : List Nat) (T s : Nat) : List Sp :=
  if s < T then ((hardAt ks s).bind (hardOf ops ks)).toList ++ stepsFrom ops ks st fo (T - (s + 1)) (s + 1) else []
theorem steps_rest {T s : Nat} (h : s ≤ T) : stepsFrom ops ks st fo (T - s) s = itemsAt ops ks st s ++ cksAt ops ks st fo s ++ restAt ops ks st fo T s := by
  unfold restAt
  by_cases hs : s < T
  · rw [if_pos hs, show T - s = (T - (s + 1)) + 1 by omega, stepsFrom]
    simp only [List.append_assoc]
  · rw [if_neg hs, show T - s = 0 by omega, stepsFrom, List.append_nil]
theorem wpSp_append {K : DEnv → DMem → Prop} : ∀ (l r : List Sp) (δ : DEnv) (M : DMem), wpSp P mu K (l ++ r) δ M → wpSp P mu (fun δ M => wpSp P mu K r δ M) l δ M
  | [], r, δ, M, h => h
  | .rd d e :: l, r, δ, M, ⟨v, h1, h2⟩ => ⟨v, h1, wpSp_append l r _ _ h2⟩
  | .fr d e :: l, r, δ, M, ⟨v, h1, h2⟩ => ⟨v, h1, wpSp_append l r _ _ h2⟩
  | .ck d e :: l, r, δ, M, ⟨h1, h2⟩ => ⟨h1, wpSp_append l r _ _ h2⟩
  | .cf d e :: l, r, δ, M, ⟨h1, h2⟩ => ⟨h1, wpSp_append l r _ _ h2⟩
  | .hd d e :: l, r, δ, M, h => by
    simp only [wpSp, List.cons_append] at h ⊢
    have mono : ∀ (e : Eff) {K K' : DV → DMem → Prop}, (∀ v M', K v M' → K' v M') → wpDE P mu d e δ K M → wpDE P mu d e δ K' M := by
      intro e K K' hk h
      cases e <;> simp only [wpDE] at h ⊢
      case box => obtain ⟨cs, h1, h2⟩ := h; refine ⟨cs, h1, ?_⟩; split at h2 <;> rename_i hc <;> simp only [hc, if_true, Bool.false_eq_true, if_false] <;> grind
      case call => exact h.mono hk
      case callv => obtain ⟨f, a, b, h1, h2⟩ := h; exact ⟨f, a, b, h1, h2.mono hk⟩
      case cpy => obtain ⟨q, h1, n, h2, B, h3, nw, h4, h5, h6, h7, h8⟩ := h; exact ⟨q, h1, n, h2, B, h3, nw, h4, h5, h6, h7, fun M' hM => hk _ _ (h8 M' hM)⟩
      case clr => obtain ⟨q, h1, B, h3, h5, h6, h7, h8⟩ := h; exact ⟨q, h1, B, h3, h5, h6, h7, fun M' hM => hk _ _ (h8 M' hM)⟩
      case store => obtain ⟨q, h1, B, h3, cs, h4, h5, h6, h7, h8, h9⟩ := h; exact ⟨q, h1, B, h3, cs, h4, h5, h6, h7, h8, fun M' hM => hk _ _ (h9 M' hM)⟩
      case bslice => obtain ⟨l, h1, h2⟩ := h; refine ⟨l, h1, ?_⟩; by_cases h0 : ‹Nat› = 0 <;> (first | (split at h2 <;> rename_i hc <;> (try split at h2) <;> rename_i hd <;> simp_all) | skip) <;> grind
      case make => obtain ⟨l, h1, c, h3, h4, h5, h6, h7, h8⟩ := h; exact ⟨l, h1, c, h3, h4, h5, h6, h7, fun b M' hb hM => hk _ _ (h8 b M' hb hM)⟩
      case app => obtain ⟨k, nw, h1, h2, n, h3, h4, h5⟩ := h; exact ⟨k, nw, h1, h2, n, h3, h4, h5.mono hk⟩
      all_goals grind
    exact mono e (fun v M' h => wpSp_append l r _ _ h) h
theorem pair_dst (hok : ∀ i, i < ops.size → OkAt P G N ops ks st fo i) {i j : Nat} {oi oj : Oper} {d : Nat} (hi : ops[i]? = some oi) (hj : ops[j]? = some oj) (hdi : oi.dst = some d) (hdj : oj.dst = some d) : i = j := by
  have := (hok i (Array.getElem?_eq_some_iff.1 hi).1).pair j (Array.getElem?_eq_some_iff.1 hj).1
  simp only [pairOk2, hi, hj, hdj, Bool.and_eq_true] at this
  by_cases h : i = j
  · exact h
  · simp [h, hdi] at this
/-- Who sets a slot that an operation reads. -/
theorem pair_use (hok : ∀ i, i < ops.size → OkAt P G N ops ks st fo i) {i j : Nat} {oi oj : Oper} {d : Nat} (hi : ops[i]? = some oi) (hj : ops[j]? = some oj) (hdj : oj.dst = some d) (hu : usesT ops d oi = true) :
    i ≠ j ∧ ((j < i ∧ hasEdge oi j = true) ∨ (i < j ∧ hasEdge oj i = true ∧ hardI ks j = true)) ∧ (isVa ks[j]? = true → ∃ dv ty k y, ks[i]? = some (.hv j dv ty k y) ∧ dv = d ∧ notTmp d y = true) := by
  have := (hok i (Array.getElem?_eq_some_iff.1 hi).1).pair j (Array.getElem?_eq_some_iff.1 hj).1
  simp only [pairOk2, hi, hj, hdj, Bool.and_eq_true] at this
  obtain ⟨this, _⟩ := this
  by_cases h : i = j
  · simp [h] at this
    have e : oi = oj := by subst h; rw [hi] at hj; exact Option.some.inj hj
    rw [hu] at this; cases this
  · simp only [h, if_false, Bool.and_eq_true, Bool.or_eq_true, Bool.not_eq_true'] at this
    refine ⟨h, ?_, fun hv => ?_⟩
    · rcases this.2 with h2 | h2
      · rw [hu] at h2; cases h2
      · by_cases hlt : j < i
        · simp only [hlt, if_true] at h2; exact .inl ⟨hlt, h2.1⟩
        · simp only [hlt, if_false, Bool.and_eq_true] at h2; exact .inr ⟨by omega, h2.1.1, h2.1.2⟩
    · rcases this.2 with h2 | h2
      · rw [hu] at h2; cases h2
      · rcases h2.2 with h3 | h3
        · rw [hv] at h3; cases h3
        · split at h3
          · rename_i ia dv ty k y hk
            simp only [Bool.and_eq_true, beq_iff_eq] at h3
            obtain ⟨⟨rfl, rfl⟩, h4⟩ := h3
            exact ⟨dv, ty, k, y, hk, rfl, h4⟩
          · cases h3
theorem hv_one (hok : ∀ i, i < ops.size → OkAt P G N ops ks st fo i) {i j x : Nat} (hi : i < ops.size) (hj : j < ops.size) (h1 : hvIa ks[i]? = some x) (h2 : hvIa ks[j]? = some x) : i = j := by
  have := (hok i hi).pair j hj
  simp only [pairOk2, Bool.and_eq_true] at this
  by_cases h : i = j
  · exact h
  · simp [h, h1, h2] at this
/-- A slot that an operation that is ready reads holds what it is told to hold. -/
theorem SI.use {F m0 : Mem} {w0 : World} {s : Nat} {δ : DEnv} {M : DMem} {ρ : Env} {m F' : Mem} {listed : Array Bool} {a : Act} {w : World} (hok : ∀ i, i < ops.size → OkAt P G N ops ks st fo i)
    (h : SI P ops ks st G N F m0 w0 s δ M ρ m F' listed a w) {i : Nat} {o : Oper} (ho : ops[i]? = some o) (hun : listed.getD i false = false)
    (hed : ∀ e ∈ o.after, Region.binds .any e = true → listed.getD e.on false = true) {t : Nat} (hu : usesT ops t o = true)
    (hv : ∀ j dv ty k y, ks[i]? = some (.hv j dv ty k y) → t ≠ dv) (hk : G t = true ∨ ∃ j oj, j < i ∧ ops[j]? = some oj ∧ oj.dst = some t) :
    Live ops ks listed t ∧ a.eval (.tmp t) = ρ t := by
  have edge : ∀ {j}, hasEdge o j = true → listed.getD j false = true := fun he => by
    obtain ⟨e, he, hon, hb⟩ := hasEdge_spec he
    have := hed e he hb
    rwa [hon] at this
  have hl : Live ops ks listed t := by
    intro j oj hj hd hnh
    obtain ⟨_, h1, h2⟩ := pair_use hok ho hj hd hu
    rcases h1 with ⟨_, h1⟩ | ⟨_, _, h1⟩
    · refine ⟨edge h1, fun hva => ?_⟩
      obtain ⟨dv, ty, k, y, hk', hdv, _⟩ := h2 hva
      exact absurd hdv.symm (hv _ _ _ _ _ hk')
    · rw [hnh] at h1; cases h1
  refine ⟨hl, h.val t hl ?_⟩
  rcases hk with hk | ⟨j, oj, hlt, hj, hd⟩
  · exact .inl hk
  · obtain ⟨_, h1, _⟩ := pair_use hok ho hj hd hu
    rcases h1 with ⟨_, h1⟩ | ⟨h1, _⟩
    · exact .inr ⟨j, oj, hj, hd, edge h1⟩
    · omega
theorem getD_set_iff {listed : Array Bool} {i j : Nat} (hi : i < listed.size) : (listed.setIfInBounds i true).getD j false = true ↔ j = i ∨ listed.getD j false = true := by
  by_cases h : j = i
  · subst h; simp [Array.getD_eq_getD_getElem?, hi]
  · rw [getD_set_ne false (Ne.symm h)]; simp [h]
theorem Filled.of_set {listed : Array Bool} {i x : Nat} (hi : i < listed.size) (hn : hvIa ks[i]? = none) (h : Filled ks (listed.setIfInBounds i true) x) : Filled ks listed x := by
  obtain ⟨j, h1, h2⟩ := h
  rw [getD_set_iff hi] at h2
  rcases h2 with rfl | h2
  · rw [hn] at h1; cases h1
  · exact ⟨j, h1, h2⟩
theorem Filled.set {listed : Array Bool} {i x : Nat} (h : Filled ks listed x) : Filled ks (listed.setIfInBounds i true) x := by
  obtain ⟨j, h1, h2⟩ := h
  exact ⟨j, h1, getD_set_true h2⟩
/-- An operation that is no variable's has been carried out. -/
theorem SI.put {F m0 : Mem} {w0 : World} {s s' : Nat} {δ δ' : DEnv} {M M' : DMem} {ρ : Env} {m m' F' : Mem} {listed : Array Bool} {a : Act} {w w' : World} (hok : ∀ i, i < ops.size → OkAt P G N ops ks st fo i)
    (h : SI P ops ks st G N F m0 w0 s δ M ρ m F' listed a w) {i : Nat} {o : Oper} (ho : ops[i]? = some o) (hun : listed.getD i false = false)
    (hed : ∀ e ∈ o.after, Region.binds .any e = true → listed.getD e.on false = true) (hva : isVa ks[i]? = false) (hhv : hvIa ks[i]? = none) {v : Value}
    (hs' : Sat w0 w' m') (hM : RepM M' m') (hf : Fin m m') (hk : Grows F' m') (hown : ∀ b, F' b ≠ none → M' b = none)
    (hδ : ∀ t, o.dst ≠ some t → δ' t = δ t) (hδd : ∀ d, o.dst = some d → Rep m' (δ' d) v)
    (hst : (hardI ks i = false ∧ s' = s) ∨ (hardI ks i = true ∧ ordOf ks i = s ∧ s' = s + 1)) :
    SI P ops ks st G N F m0 w0 s' δ' M' (ρ.updO o.dst v) m' F' (listed.setIfInBounds i true) (a.put o.dst v) w' := by
  have hin : i < ops.size := (Array.getElem?_eq_some_iff.1 ho).1
  have hil : i < listed.size := by rw [h.lsize]; exact hin
  have hiff := fun j => getD_set_iff (listed := listed) (i := i) (j := j) hil
  have live : ∀ t, o.dst ≠ some t → Live ops ks (listed.setIfInBounds i true) t → Live ops ks listed t := by
    intro t hne hl j oj hj hd hnh
    obtain ⟨h1, h2⟩ := hl j oj hj hd hnh
    rw [hiff] at h1
    rcases h1 with rfl | h1
    · rw [ho] at hj; cases hj; exact absurd hd hne
    · exact ⟨h1, fun hv => (h2 hv).of_set hil hhv⟩
  have hdN : ∀ d, o.dst = some d → d < N := fun d hd => by
    have := (hok i hin).op
    unfold opOk at this
    rw [ho] at this
    cases hk : ks[i]? with
    | none => rw [hk] at this; cases this
    | some k => rw [hk] at this; simp only [Bool.and_eq_true] at this; have := this.1.1.1.1; rw [hd] at this; simpa [dstOk] using this
  refine ⟨hs', by simp [h.lsize], by rw [size_put]; exact h.size, by rw [defers_put]; exact h.defers, ?_, ?_, hM, h.fin.trans hf, hk, hown, h.FF, ?_, ?_, ?_, ?_⟩
  · intro j oj e hj hoj he hb
    rw [hiff] at hj ⊢
    rcases hj with rfl | hj
    · rw [ho] at hoj; cases hoj; exact .inr (hed e he hb)
    · exact .inr (h.closed j oj e hj hoj he hb)
  · intro t hl
    by_cases hd : o.dst = some t
    · rw [hd]; simp only [Env.updO, Env.upd, if_true]; exact hδd t hd
    · rw [hδ t hd]
      have e : (ρ.updO o.dst v) t = ρ t := by
        cases hdo : o.dst with
        | none => rfl
        | some d => simp only [Env.updO, Env.upd]; rw [if_neg]; rintro rfl; exact hd hdo
      rw [e]; exact (h.env t (live t hd hl)).mono hf
  · intro j hj hhj
    rw [hiff]
    rcases hst with ⟨h1, rfl⟩ | ⟨h1, h2, rfl⟩
    · have hne : j ≠ i := by rintro rfl; rw [h1] at hhj; cases hhj
      simp only [hne, false_or]; exact h.hard j hj hhj
    · have := h.hard j hj hhj
      by_cases hji : j = i
      · subst hji; simp only [true_or, true_iff]; omega
      · simp only [hji, false_or]
        rw [this]
        constructor
        · intro h; omega
        · intro h3
          rcases Nat.lt_trichotomy i j with hl | hl | hl
          · have := ordOf_lt hl h1; omega
          · exact absurd hl.symm hji
          · have := ordOf_lt hl hhj; omega
  · intro t hl hg
    by_cases hd : o.dst = some t
    · rw [hd]
      rw [eval_put_same (by rw [h.size]; exact hdN t hd)]
      simp [Env.updO, Env.upd]
    · have e1 : (ρ.updO o.dst v) t = ρ t := by
        cases hdo : o.dst with
        | none => rfl
        | some d => simp only [Env.updO, Env.upd]; rw [if_neg]; rintro rfl; exact hd hdo
      have e2 : (a.put o.dst v).eval (.tmp t) = a.eval (.tmp t) := by
        cases hdo : o.dst with
        | none => rfl
        | some d => exact eval_put_ne (by rintro rfl; exact hd hdo)
      rw [e1, e2]
      refine h.val t (live t hd hl) ?_
      rcases hg with hg | ⟨j, oj, hj, hdj, hlj⟩
      · exact .inl hg
      · rw [hiff] at hlj
        rcases hlj with rfl | hlj
        · rw [ho] at hj; cases hj; exact absurd hdj hd
        · exact .inr ⟨j, oj, hj, hdj, hlj⟩
  · intro j oj ty z d hj hkj hdj hlj hnf
    rw [hiff] at hlj
    rcases hlj with rfl | hlj
    · rw [hkj] at hva; cases hva
    · obtain ⟨b, h1, h2, h3⟩ := h.vpend j oj ty z d hj hkj hdj hlj (fun hf => hnf hf.set)
      refine ⟨b, ?_, h2, h3⟩
      have hne : o.dst ≠ some d := fun hd => by
        have := pair_dst hok ho hj hd hdj
        subst this
        rw [hkj] at hva; cases hva
      cases hdo : o.dst with
      | none => exact h1
      | some d' => rw [eval_put_ne (by rintro rfl; exact hne hdo)]; exact h1
  · intro j j' oj oj' d d' ty z ty' z' b hne hj hj' hkj hkj' hdj hdj' hlj hlj' hnf hnf' hb
    have put_ne : ∀ (j : Nat) (oj : Oper) (d : Nat) ty z, ops[j]? = some oj → ks[j]? = some (.va ty z) → oj.dst = some d → (a.put o.dst v).eval (.tmp d) = a.eval (.tmp d) := by
      intro j oj d ty z hj hkj hdj
      have hne : o.dst ≠ some d := fun hd => by
        have := pair_dst hok ho hj hd hdj
        subst this
        rw [hkj] at hva; cases hva
      cases hdo : o.dst with
      | none => rfl
      | some d' => exact eval_put_ne (by rintro rfl; exact hne hdo)
    have nl : ∀ (j : Nat) ty z, ks[j]? = some (.va ty z) → (listed.setIfInBounds i true).getD j false = true → listed.getD j false = true := by
      intro j ty z hkj hlj
      rw [hiff] at hlj
      rcases hlj with rfl | hlj
      · rw [hkj] at hva; cases hva
      · exact hlj
    rw [put_ne j oj d ty z hj hkj hdj] at hb
    rw [put_ne j' oj' d' ty' z' hj' hkj' hdj']
    exact h.vdist j j' oj oj' d d' ty z ty' z' b hne hj hj' hkj hkj' hdj hdj' (nl j ty z hkj hlj) (nl j' ty' z' hkj' hlj') (fun hf => hnf hf.set) (fun hf => hnf' hf.set) hb
/-- What is read ahead of a stage is told. -/
theorem items_ok {K : DEnv → DMem → Prop} (S : Nat → Prop) : ∀ (l : List Sp) (δ : DEnv) (M : DMem), (∀ x ∈ l, ∃ d, S d ∧ ((∃ e, x = .rd d e) ∨ ∃ e, x = .fr d e)) → wpSp P mu K l δ M → ∃ δ', (∀ t, ¬ S t → δ' t = δ t) ∧ K δ' M
  | [], δ, M, _, h => ⟨δ, fun _ _ => rfl, h⟩
  | x :: l, δ, M, hx, h => by
    obtain ⟨d, hS, ⟨e, rfl⟩ | ⟨e, rfl⟩⟩ := hx x (by simp)
    · obtain ⟨v, h1, h2⟩ := h
      obtain ⟨δ', h3, h4⟩ := items_ok S l _ M (fun y hy => hx y (by simp [hy])) h2
      exact ⟨δ', fun t ht => by rw [h3 t ht]; simp only [DEnv.upd]; rw [if_neg]; rintro rfl; exact ht hS, h4⟩
    · obtain ⟨v, h1, h2⟩ := h
      obtain ⟨δ', h3, h4⟩ := items_ok S l _ M (fun y hy => hx y (by simp [hy])) h2
      exact ⟨δ', fun t ht => by rw [h3 t ht]; simp only [DEnv.upd]; rw [if_neg]; rintro rfl; exact ht hS, h4⟩
theorem cks_ok {K : DEnv → DMem → Prop} : ∀ (l : List Sp) (δ : DEnv) (M : DMem), (∀ x ∈ l, ∃ d, (∃ e, x = .ck d e) ∨ ∃ e, x = .cf d e) → wpSp P mu K l δ M →
    (∀ d e, .ck d e ∈ l → evD P M δ e = some (δ d)) ∧ (∀ d e, .cf d e ∈ l → freshI δ e = some (δ d)) ∧ K δ M
  | [], δ, M, _, h => ⟨(fun _ _ h => by cases h), (fun _ _ h => by cases h), h⟩
  | x :: l, δ, M, hx, h => by
    obtain ⟨d, ⟨e, rfl⟩ | ⟨e, rfl⟩⟩ := hx x (by simp)
    · obtain ⟨h1, h2⟩ := h
      obtain ⟨h3, h4, h5⟩ := cks_ok l δ M (fun y hy => hx y (by simp [hy])) h2
      refine ⟨fun d' e' hm => ?_, fun d' e' hm => ?_, h5⟩
      · rcases List.mem_cons.1 hm with hm | hm
        · cases hm; exact h1
        · exact h3 d' e' hm
      · rcases List.mem_cons.1 hm with hm | hm
        · cases hm
        · exact h4 d' e' hm
    · obtain ⟨h1, h2⟩ := h
      obtain ⟨h3, h4, h5⟩ := cks_ok l δ M (fun y hy => hx y (by simp [hy])) h2
      refine ⟨fun d' e' hm => ?_, fun d' e' hm => ?_, h5⟩
      · rcases List.mem_cons.1 hm with hm | hm
        · cases hm
        · exact h3 d' e' hm
      · rcases List.mem_cons.1 hm with hm | hm
        · cases hm; exact h1
        · exact h4 d' e' hm
theorem stage_le {F m0 : Mem} {w0 : World} {s : Nat} {δ : DEnv} {M : DMem} {ρ : Env} {m F' : Mem} {listed : Array Bool} {a : Act} {w : World} (hok : ∀ i, i < ops.size → OkAt P G N ops ks st fo i) (hlen : ks.length = ops.size)
    (h : SI P ops ks st G N F m0 w0 s δ M ρ m F' listed a w) : ∀ (n i : Nat) (o : Oper), i < n → ops[i]? = some o → hardI ks i = false → (∀ e ∈ o.after, Region.binds .any e = true → listed.getD e.on false = true) → st.getD i 0 ≤ s := by
  intro n
  induction n with
  | zero => intro i o hi; omega
  | succ n ih =>
    intro i o hi ho hnh hed
    have hin : i < ops.size := (Array.getElem?_eq_some_iff.1 ho).1
    have := (hok i hin).sta
    simp only [stOk, hnh, Bool.false_or, Bool.or_eq_true, beq_iff_eq, ho, List.any_eq_true, List.mem_range, Bool.and_eq_true] at this
    rcases this with h0 | ⟨j, hj, he, hs⟩
    · omega
    · have hlj : listed.getD j false = true := by
        obtain ⟨e, he, hon, hb⟩ := hasEdge_spec he
        have := hed e he hb
        rwa [hon] at this
      by_cases hh : hardI ks j = true
      · rw [if_pos hh] at hs
        have := (h.hard j (by omega) hh).1 hlj
        simp only [beq_iff_eq] at hs
        omega
      · rw [if_neg hh] at hs
        simp only [beq_iff_eq] at hs
        rw [← hs]
        exact ih j ops[j] (by omega) (Array.getElem?_eq_getElem (by omega)) (by simpa using hh) fun e he hb => h.closed j _ e hlj (Array.getElem?_eq_getElem (by omega)) he hb
theorem forced_le {F m0 : Mem} {w0 : World} {s : Nat} {δ : DEnv} {M : DMem} {ρ : Env} {m F' : Mem} {listed : Array Bool} {a : Act} {w : World} (hok : ∀ i, i < ops.size → OkAt P G N ops ks st fo i)
    (h : SI P ops ks st G N F m0 w0 s δ M ρ m F' listed a w) (hT : s ≤ ordOf ks ks.length) : ∀ (n i : Nat), ops.size - i < n → i < ops.size → hardI ks i = false → fo.getD i 0 < s → listed.getD i false = true := by
  intro n
  induction n with
  | zero => intro i hi; omega
  | succ n ih =>
    intro i hn hin hnh hs
    have := (hok i hin).fa
    simp only [foOk, hnh, Bool.false_or, Bool.or_eq_true, beq_iff_eq, List.any_eq_true, List.mem_range, Bool.and_eq_true, decide_eq_true_eq] at this
    rcases this with h0 | ⟨j, hj, ⟨hij, he⟩, hf⟩
    · omega
    · rw [Array.getElem?_eq_getElem hj] at he
      simp only at he
      have hlj : listed.getD j false = true := by
        by_cases hh : hardI ks j = true
        · rw [if_pos hh] at hf
          simp only [beq_iff_eq] at hf
          exact (h.hard j hj hh).2 (by omega)
        · rw [if_neg hh] at hf
          simp only [beq_iff_eq] at hf
          exact ih j (by omega) hj (by simpa using hh) (by omega)
      exact hasEdge_listed h.closed (Array.getElem?_eq_getElem hj) hlj he
/-- A stage begins. -/
theorem advance {K : DEnv → DMem → Prop} {F m0 : Mem} {w0 : World} {s : Nat} {δ : DEnv} {M : DMem} {ρ : Env} {m F' : Mem} {listed : Array Bool} {a : Act} {w : World} (hok : ∀ i, i < ops.size → OkAt P G N ops ks st fo i) (hlen : ks.length = ops.size)
    (h : SI P ops ks st G N F m0 w0 s δ M ρ m F' listed a w) (hT : s ≤ ordOf ks ks.length) (hun : ∀ i, i < ops.size → hardI ks i = false → st.getD i 0 = s → listed.getD i false = false)
    (hw : wpSp P mu K (itemsAt ops ks st s ++ cksAt ops ks st fo s ++ restAt ops ks st fo (ordOf ks ks.length) s) δ M) :
    ∃ δ', SI P ops ks st G N F m0 w0 s δ' M ρ m F' listed a w ∧ Told P ops ks st s δ' M listed ∧ wpSp P mu K (restAt ops ks st fo (ordOf ks ks.length) s) δ' M := by
  rw [List.append_assoc] at hw
  have h1 := wpSp_append _ _ _ _ hw
  obtain ⟨δ', h2, h3⟩ := items_ok (fun t => ∃ i o, ops[i]? = some o ∧ o.dst = some t ∧ hardI ks i = false ∧ listed.getD i false = false) _ _ _ (fun x hx => by
    simp only [itemsAt, List.mem_filterMap, List.mem_range] at hx
    obtain ⟨i, hi, hx⟩ := hx
    split at hx
    · rename_i hs
      simp only [beq_iff_eq] at hs
      unfold itemOf at hx
      rw [Array.getElem?_eq_getElem hi] at hx
      simp only [Option.bind_some] at hx
      split at hx <;> simp only [Option.some.injEq, reduceCtorEq] at hx
      · rename_i d e hd hk
        have hnh : hardI ks i = false := by simp [hardI, hk, PK.hard]
        exact ⟨d, ⟨i, ops[i], Array.getElem?_eq_getElem hi, hd, hnh, hun i hi hnh hs⟩, .inl ⟨e, hx.symm⟩⟩
      · rename_i d e hd hk
        have hnh : hardI ks i = false := by simp [hardI, hk, PK.hard]
        exact ⟨d, ⟨i, ops[i], Array.getElem?_eq_getElem hi, hd, hnh, hun i hi hnh hs⟩, .inr ⟨e, hx.symm⟩⟩
    · cases hx) h1
  have h4 := wpSp_append _ _ _ _ h3
  obtain ⟨h5, h6, h7⟩ := cks_ok _ _ _ (fun x hx => by
    simp only [cksAt, List.mem_filterMap, List.mem_range] at hx
    obtain ⟨i, hi, hx⟩ := hx
    split at hx
    · unfold ckOf at hx
      rw [Array.getElem?_eq_getElem hi] at hx
      simp only [Option.bind_some] at hx
      split at hx <;> simp only [Option.some.injEq, reduceCtorEq] at hx
      · exact ⟨_, .inl ⟨_, hx.symm⟩⟩
      · exact ⟨_, .inr ⟨_, hx.symm⟩⟩
    · cases hx) h4
  refine ⟨δ', { h with env := fun t hl => ?_ }, fun i o d ho hd hli hsi => ?_, h7⟩
  · rw [h2 t]
    · exact h.env t hl
    · rintro ⟨i, o, ho, hd, hnh, hli⟩
      have := (hl i o ho hd hnh).1
      rw [hli] at this; cases this
  · have hin : i < ops.size := (Array.getElem?_eq_some_iff.1 ho).1
    have hck : ∀ k, ks[i]? = some k → k.hard = false → ∀ x, ckOf ops ks i = some x → x ∈ cksAt ops ks st fo s := by
      intro k hk hkh x hx
      simp only [cksAt, List.mem_filterMap, List.mem_range]
      refine ⟨i, hin, ?_⟩
      have hnh : hardI ks i = false := by simp [hardI, hk, hkh]
      have : s ≤ fo.getD i 0 := by
        rcases Nat.lt_or_ge (fo.getD i 0) s with hlt | hge
        · have := forced_le hok h hT _ i (Nat.lt_succ_self _) hin hnh hlt
          rw [hli] at this; cases this
        · exact hge
      rw [if_pos ⟨hsi, this⟩]; exact hx
    constructor
    · intro e hk
      exact h5 d e (hck _ hk rfl _ (by unfold ckOf; rw [ho]; simp only [Option.bind_some, hd, hk]))
    · intro e hk
      exact h6 d e (hck _ hk rfl _ (by unfold ckOf; rw [ho]; simp only [Option.bind_some, hd, hk]))
theorem op_known (hok : ∀ i, i < ops.size → OkAt P G N ops ks st fo i) {i : Nat} {o : Oper} (ho : ops[i]? = some o) :
    (∀ t, Operand.tmp t ∈ o.op.operands → G t = true ∨ ∃ j oj, j < i ∧ ops[j]? = some oj ∧ oj.dst = some t) ∧
    (∀ dj w, guardDst ops o = some (some (dj, w)) → (G dj = true ∨ ∃ j oj, j < i ∧ ops[j]? = some oj ∧ oj.dst = some dj) ∧ dj < N) ∧
    (∀ e, (ks[i]? = some (.rd e) ∨ ks[i]? = some (.as e)) → ∀ t, uses t e = true → usesT ops t o = true) ∧
    (∀ ia dv ty k y, ks[i]? = some (.hv ia dv ty k y) → hasEdge o ia = true ∧ dv < N ∧ isVa ks[ia]? = true ∧ ∃ oa, ops[ia]? = some oa ∧ oa.dst = some dv) ∧ (∀ d, o.dst = some d → d < N) ∧ (isVa ks[i]? = true → ∃ j, j < ops.size ∧ hvIa ks[j]? = some i) := by
  have hin : i < ops.size := (Array.getElem?_eq_some_iff.1 ho).1
  have h := (hok i hin).op
  unfold opOk at h
  rw [ho] at h
  cases hk : ks[i]? with
  | none => rw [hk] at h; cases h
  | some k =>
    rw [hk] at h
    simp only [Bool.and_eq_true] at h
    obtain ⟨⟨⟨⟨h1, h2⟩, h3⟩, h4⟩, h5⟩ := h
    have any_ex : ∀ t, ((List.range i).any fun j => match ops[j]? with | some o' => o'.dst == some t | none => false) = true → ∃ j oj, j < i ∧ ops[j]? = some oj ∧ oj.dst = some t := by
      intro t ht
      obtain ⟨j, hj, hd⟩ := List.any_eq_true.1 ht
      rw [List.mem_range] at hj
      split at hd
      · rename_i oj hoj; exact ⟨j, oj, hj, hoj, by simpa using hd⟩
      · cases hd
    refine ⟨fun t ht => ?_, fun dj w hg => ?_, fun e he t ht => ?_, fun ia dv ty k' y he => ?_, fun d hd => by rw [hd] at h1; simpa [dstOk] using h1, fun hv => ?_⟩
    · have := Array.all_eq_true_iff_forall_mem.1 h2 _ ht
      simp only [Bool.or_eq_true] at this
      exact this.imp id (any_ex t)
    · rw [hg] at h3
      simp only [Bool.and_eq_true, Bool.or_eq_true, decide_eq_true_eq] at h3
      exact ⟨h3.1.imp id (any_ex dj), h3.2⟩
    · rcases he with he | he <;> cases he <;> simp only [List.all_eq_true] at h4 <;> exact h4 t (exSlots_uses ht)
    · cases he
      simp only [Bool.and_eq_true, decide_eq_true_eq] at h5
      obtain ⟨⟨⟨h6, h7⟩, h8⟩, h9⟩ := h5
      refine ⟨h6, h7, h8, ?_⟩
      split at h9
      · rename_i oa hoa; exact ⟨oa, hoa, by simpa using h9⟩
      · cases h9
    · cases k <;> simp only [isVa, Bool.false_eq_true] at hv
      simp only at h5
      obtain ⟨j, hj, he⟩ := List.any_eq_true.1 h5
      exact ⟨j, List.mem_range.1 hj, by simpa using he⟩
section run
variable {F m0 : Mem} {w0 : World} {s : Nat} {δ : DEnv} {M : DMem} {ρ : Env} {m F' : Mem} {listed : Array Bool} {a : Act} {w : World}
open Classical in
/-- The slots that need not hold what they are told. -/
noncomputable def mask (ops : Array Oper) (ks : List PK) (listed : Array Bool) (δ : DEnv) (ρ : Env) : DEnv := fun t => if Live ops ks listed t then δ t else .raw (ρ t)
theorem SI.invD (h : SI P ops ks st G N F m0 w0 s δ M ρ m F' listed a w) : InvD F' m0 (mask ops ks listed δ ρ) M ρ m :=
  ⟨fun t => by
    unfold mask
    split
    · exact h.env t (by assumption)
    · simp only [Rep], h.mem, h.fin, h.keep, h.own⟩
theorem SI.reads (hok : ∀ i, i < ops.size → OkAt P G N ops ks st fo i) (h : SI P ops ks st G N F m0 w0 s δ M ρ m F' listed a w) {i : Nat} {o : Oper} (ho : ops[i]? = some o) (hun : listed.getD i false = false)
    (hed : ∀ e ∈ o.after, Region.binds .any e = true → listed.getD e.on false = true) (hhv : hvIa ks[i]? = none) :
    (∀ t, usesT ops t o = true → Live ops ks listed t ∧ a.eval (.tmp t) = ρ t) ∧ ∀ x ∈ o.op.operands, a.eval x = ρ.of x ∧ δ.of x = (mask ops ks listed δ ρ).of x := by
  obtain ⟨hk1, hk2, _⟩ := op_known hok ho
  have hnv : ∀ t j dv ty k y, ks[i]? = some (.hv j dv ty k y) → t ≠ dv := fun t j dv ty k y hk => by rw [hk] at hhv; cases hhv
  have key : ∀ t, usesT ops t o = true → Live ops ks listed t ∧ a.eval (.tmp t) = ρ t := by
    intro t hu
    refine h.use hok ho hun hed hu (hnv t) ?_
    have hu' := hu
    unfold usesT at hu
    rw [Bool.or_eq_true] at hu
    rcases hu with hu | hu
    · rw [← Array.any_toList, List.any_eq_true] at hu
      obtain ⟨x, hx, hxt⟩ := hu
      have hx' : x = .tmp t := by cases x <;> simp_all
      subst hx'
      exact hk1 t (by simpa using hx)
    · split at hu
      · rename_i d w hg
        have : d = t := by simpa using hu
        subst this
        exact (hk2 d w hg).1
      · cases hu
  refine ⟨key, fun x hx => ?_⟩
  cases x with
  | tmp t =>
    obtain ⟨h1, h2⟩ := key t (uses_operand hx)
    refine ⟨h2, ?_⟩
    show δ t = mask ops ks listed δ ρ t
    unfold mask; rw [if_pos h1]
  | _ => exact ⟨rfl, rfl⟩
/-- An effect in its turn, or one that only makes what nobody writes. -/
theorem SI.eff (hok : ∀ i, i < ops.size → OkAt P G N ops ks st fo i) (h : SI P ops ks st G N F m0 w0 s δ M ρ m F' listed a w) {i : Nat} {o : Oper} (ho : ops[i]? = some o) (hun : listed.getD i false = false)
    (hed : ∀ e ∈ o.after, Region.binds .any e = true → listed.getD e.on false = true) (hhv : hvIa ks[i]? = none) {e : Eff} (he : effOf P o = some e) {Post : DV → DMem → Prop} (hw : wpDE P mu o.dst e δ Post M)
    {next : Act → World → Prop} {Q : Exit → Act → World → Prop} (hn : ∀ v m' w' dv M', StepD F' m M v m' dv M' → Sat w0 w' m' → Post dv M' → next (a.put o.dst v) w') : o.wp P a w next Q := by
  obtain ⟨_, hop⟩ := h.reads hok ho hun hed hhv
  have h1 := wpDE_congr (fun x hx => (hop x (effOps_sub he x hx)).2) hw
  have h2 := wpDE_ok mu o.dst h.invD e _ h1
  have h3 := effOf_sound he h2
  have h4 := h3 w0 w a h.sat fun x hx => (hop x hx).1
  have h5 := Oper.wp_mono2 (Q := Q) (fun a' w' ⟨v, m', he, hs, dv, M', hst, hp⟩ => by
    subst he
    exact hn v m' w' dv M' hst hs hp) h4
  exact h5
theorem SI.expr (hsp : True) (hok : ∀ i, i < ops.size → OkAt P G N ops ks st fo i) (h : SI P ops ks st G N F m0 w0 s δ M ρ m F' listed a w) {i : Nat} {o : Oper} (ho : ops[i]? = some o) (hun : listed.getD i false = false)
    (hed : ∀ e ∈ o.after, Region.binds .any e = true → listed.getD e.on false = true) (hhv : hvIa ks[i]? = none) {gd : Option (Nat × Bool)} {e : Ex} (hg : guardDst ops o = some gd) (hl : low P ro (opd []) o.op = some e)
    (hk : ks[i]? = some (.rd (wrapG [] gd e)) ∨ ks[i]? = some (.as (wrapG [] gd e))) {dv : DV} (hev : evD P M δ (wrapG [] gd e) = some dv)
    {K' : Act → World → Prop} {Q : Exit → Act → World → Prop} (hn : ∀ v w', Rep m dv v → Sat w0 w' m → K' (a.put o.dst v) w') : wpOp P ops Q i K' a w := by
  obtain ⟨hus, hop⟩ := h.reads hok ho hun hed hhv
  obtain ⟨_, hk2, hk3, _⟩ := op_known hok ho
  have h1 : evD P M (mask ops ks listed δ ρ) (wrapG [] gd e) = some dv := by
    rw [← hev]
    refine evD_congr fun t ht => ?_
    unfold mask; rw [if_pos (hus t (hk3 _ hk t ht)).1]
  have hI : Inh m := ⟨w0, w, h.sat⟩
  obtain ⟨v, h2, h3⟩ := evD_ok hI h.invD.mem h.invD.env _ _ h1
  have H : ∀ x ∈ o.op.operands, ∀ u, ev (spRO P) m ρ (opd [] x) = some u → a.eval x = u := by
    intro x hx u hu
    rw [(hop x hx).1]
    cases x with
    | tmp t => show ρ t = u; simpa [opd, ev] using hu
    | const v => cases hu; rfl
    | global g => cases hu; rfl
    | func f => cases hu; rfl
  unfold wpOp
  rw [ho]
  simp only
  have hgw := guardDst_wanted hg a
  cases gd with
  | none =>
    rw [if_pos (hgw.1 rfl)]
    exact .inl (low_wp (spRO_sound P) hl h2 H h.sat fun w' hs' => hn v w' h3 hs')
  | some q =>
    obtain ⟨dj, wt⟩ := q
    have hdj := (hk2 dj wt hg).2
    have hcv := (hus dj (uses_guard hg)).2
    simp only [wrapG] at h2
    rw [Ex.mkGrd_ev] at h2
    simp only [ev, opd, List.lookup_nil, Option.getD_none, Option.bind_some] at h2
    rw [← hcv] at h2
    cases hbv : a.eval (.tmp dj) with
    | bool b =>
      rw [hbv] at h2
      simp only [grdK] at h2
      have hwt := hgw.2 dj wt b rfl (by rw [h.size]; exact hdj) hbv
      by_cases hb : b = wt
      · rw [if_pos hb] at h2
        rw [if_pos (by rw [hwt]; simp [hb])]
        exact .inl (low_wp (spRO_sound P) hl h2 H h.sat fun w' hs' => hn v w' h3 hs')
      · rw [if_neg hb] at h2
        cases h2
        rw [if_neg (by rw [hwt]; simp [hb])]
        exact hn undef w h3 h.sat
    | _ =>
      rw [hbv] at h2
      simp only [grdK] at h2
      cases h2
      rw [if_neg (by rw [guardDst_off (by first | exact hg | (rw [← hg]; exact hg) | (rw [hg] at *; assumption)) a (by rw [hbv]; intro b hh; cases hh)]; simp)]
      exact hn undef w h3 h.sat
end run
theorem kindOf_inv {i : Nat} {o : Oper} {k : PK} (ho : ops[i]? = some o) (h : kindOf P ro mu ops i = some k) :
    (∃ gd e, guardDst ops o = some gd ∧ low P ro (opd []) o.op = some e ∧ (∃ d, o.dst = some d) ∧ (k = .rd (wrapG [] gd e) ∨ k = .as (wrapG [] gd e))) ∨
    (guardDst ops o = some none ∧ ((∃ e, k = .hd e ∧ effOf P o = some e) ∨ (∃ e d, k = .fr e ∧ effOf P o = some e ∧ o.dst = some d ∧ mu d = false) ∨
      (∃ ty d inf z, k = .va ty z ∧ o.op = .alloc ty ∧ o.dst = some d ∧ P.info? ty = some inf ∧ inf.zero = some z ∧ z.cells.size = inf.size) ∨
      (∃ ty dv y ia inf, k = .hv ia dv ty inf.size y ∧ o.op = .store ty (.tmp dv) y ∧ o.dst = none ∧ P.info? ty = some inf ∧ allocOf ops dv ty = some ia))) := by
  unfold kindOf at h
  rw [ho] at h
  simp only [Option.bind_some, Option.bind_eq_some_iff] at h
  obtain ⟨gd, hg, h⟩ := h
  cases hl : low P ro (opd []) o.op with
  | some e =>
    rw [hl] at h
    simp only [Option.bind_eq_some_iff, Option.some.injEq] at h
    obtain ⟨d, hd, h⟩ := h
    refine .inl ⟨gd, e, hg, rfl, ⟨d, hd⟩, ?_⟩
    split at h
    · exact .inr h.symm
    · exact .inl h.symm
  | none =>
    rw [hl] at h
    simp only at h
    split at h
    · cases h
    · rename_i hgn
      have : gd = none := by cases gd <;> simp_all
      subst this
      refine .inr ⟨hg, ?_⟩
      split at h
      · rename_i ty d hop hd
        split at h
        · simp only [Option.bind_eq_some_iff] at h
          obtain ⟨inf, hi, z, hz, h⟩ := h
          split at h
          · rename_i hs; cases h; exact .inr (.inr (.inl ⟨ty, d, inf, z, rfl, hop, hd, hi, hz, hs⟩))
          · cases h
        · simp only [Option.map_eq_some_iff] at h; obtain ⟨e, he, rfl⟩ := h; exact .inl ⟨e, rfl, he⟩
      · rename_i ty dv y hop hd
        split at h
        · rename_i ia hia
          simp only [Option.map_eq_some_iff] at h
          obtain ⟨inf, hi, rfl⟩ := h
          exact .inr (.inr (.inr ⟨ty, dv, y, ia, inf, rfl, hop, hd, hi, hia⟩))
        · simp only [Option.map_eq_some_iff] at h; obtain ⟨e, he, rfl⟩ := h; exact .inl ⟨e, rfl, he⟩
      · rename_i ty x d hop hd
        have he : effOf P o = some (.box ty x) := by simp [effOf, hop]
        split at h
        · cases h; exact .inl ⟨_, rfl, he⟩
        · rename_i hm; cases h; exact .inr (.inl ⟨_, d, rfl, he, hd, by simpa using hm⟩)
      · rename_i ty len parts d hop hd
        split at h
        · simp only [Option.map_eq_some_iff] at h; obtain ⟨e, he, rfl⟩ := h; exact .inl ⟨e, rfl, he⟩
        · rename_i hm; simp only [Option.map_eq_some_iff] at h; obtain ⟨e, he, rfl⟩ := h; exact .inr (.inl ⟨e, d, rfl, he, hd, by simpa using hm⟩)
      · simp only [Option.map_eq_some_iff] at h; obtain ⟨e, he, rfl⟩ := h; exact .inl ⟨e, rfl, he⟩
theorem allocOf_inv {dv : Nat} {ty : TypeId} {ia : Nat} (h : allocOf ops dv ty = some ia) : ∃ o, ops[ia]? = some o ∧ o.dst = some dv ∧ o.op = .alloc ty := by
  have := List.find?_some h
  split at this
  · rename_i o ho
    simp only [Bool.and_eq_true, beq_iff_eq] at this
    refine ⟨o, ho, this.1.1, ?_⟩
    have h2 := this.1.2
    split at h2
    · rename_i hop; rw [hop]; simpa using h2
    · cases h2
  · cases this
section run2
variable {F m0 : Mem} {w0 : World} {s : Nat} {δ : DEnv} {M : DMem} {ρ : Env} {m F' : Mem} {listed : Array Bool} {a : Act} {w : World}
theorem SI.va (hok : ∀ i, i < ops.size → OkAt P G N ops ks st fo i) (h : SI P ops ks st G N F m0 w0 s δ M ρ m F' listed a w) {i : Nat} {o : Oper} (ho : ops[i]? = some o) (hun : listed.getD i false = false)
    (hed : ∀ e ∈ o.after, Region.binds .any e = true → listed.getD e.on false = true) {ty : TypeId} {z : Value} {d : Nat} (hk : ks[i]? = some (.va ty z)) (hd : o.dst = some d) :
    SI P ops ks st G N F m0 w0 s δ M ρ (m.ins w.heap.size (.cells ty z.cells.size false z.cells.toList)) (F'.ins w.heap.size (.cells ty z.cells.size false z.cells.toList)) (listed.setIfInBounds i true) (a.put o.dst (ptrV w.heap.size)) (w.alloc (.cells z.cells ty)) := by
  have hin : i < ops.size := (Array.getElem?_eq_some_iff.1 ho).1
  have hil : i < listed.size := by rw [h.lsize]; exact hin
  have hiff := fun j => getD_set_iff (listed := listed) (i := i) (j := j) hil
  have hhv : hvIa ks[i]? = none := by rw [hk]; rfl
  have hnh : hardI ks i = false := by simp [hardI, hk, PK.hard]
  have hb : m w.heap.size = none := h.sat.fresh
  have hFb : F' w.heap.size = none := by
    cases hF : F' w.heap.size with
    | none => rfl
    | some B => have := h.keep _ _ hF; rw [hb] at this; cases this
  have hFFb : F w.heap.size = none := by
    cases hF : F w.heap.size with
    | none => rfl
    | some B => have := h.FF _ _ hF; rw [hFb] at this; cases this
  have hdN : d < N := (op_known hok ho).2.2.2.2.1 d hd
  have hnf : ¬ Filled ks listed i := by
    rintro ⟨j, hj, hlj⟩
    have hjn : j < ops.size := by rw [← h.lsize]; exact getD_lt hlj
    cases hkj : ks[j]? with
    | none => rw [hkj] at hj; cases hj
    | some k =>
      rw [hkj] at hj
      cases k <;> simp only [hvIa, reduceCtorEq, Option.some.injEq] at hj
      rename_i ia dv ty' k' y
      subst hj
      have := (op_known hok (Array.getElem?_eq_getElem hjn)).2.2.2.1 _ _ _ _ _ hkj
      have := hasEdge_listed h.closed (Array.getElem?_eq_getElem hjn) hlj this.1
      rw [hun] at this; cases this
  have hnf' : ¬ Filled ks (listed.setIfInBounds i true) i := fun hf => hnf (hf.of_set hil hhv)
  have nlive : ¬ Live ops ks (listed.setIfInBounds i true) d := fun hl => hnf' ((hl i o ho hd hnh).2 (by rw [hk]; rfl))
  have live : ∀ t, Live ops ks (listed.setIfInBounds i true) t → t ≠ d ∧ Live ops ks listed t := by
    intro t hl
    have hne : t ≠ d := by rintro rfl; exact nlive hl
    refine ⟨hne, fun j oj hj hdj hh => ?_⟩
    obtain ⟨h1, h2⟩ := hl j oj hj hdj hh
    rw [hiff] at h1
    rcases h1 with rfl | h1
    · rw [ho] at hj; cases hj; rw [hd] at hdj; cases hdj; exact absurd rfl hne
    · exact ⟨h1, fun hv => (h2 hv).of_set hil hhv⟩
  have hg : Grows m (m.ins w.heap.size (.cells ty z.cells.size false z.cells.toList)) := Grows.ins m _ hb
  rw [hd]
  refine ⟨h.sat.new ty z.cells false, by simp [h.lsize], by rw [size_put]; exact h.size, by rw [defers_put]; exact h.defers, ?_, ?_, ?_, h.fin.trans hg.toFin, ?_, ?_, ?_, ?_, ?_, ?_, ?_⟩
  · intro j oj e hj hoj he hbd
    rw [hiff] at hj ⊢
    rcases hj with rfl | hj
    · rw [ho] at hoj; cases hoj; exact .inr (hed e he hbd)
    · exact .inr (h.closed j oj e hj hoj he hbd)
  · intro t hl; exact (h.env t (live t hl).2).mono hg.toFin
  · refine ⟨h.mem.glob.mono hg.toFin, fun b B hB => ?_⟩
    obtain ⟨vs, h1, h2⟩ := h.mem b B hB
    exact ⟨vs, hg _ _ h1, h2.mono hg.toFin⟩
  · intro b B hB
    by_cases e : b = w.heap.size
    · subst e; rw [Mem.ins_same] at hB ⊢; exact hB
    · rw [Mem.ins_ne _ _ e] at hB ⊢; exact h.keep b B hB
  · intro b hB
    by_cases e : b = w.heap.size
    · subst e; exact h.mem.none hb
    · rw [Mem.ins_ne _ _ e] at hB; exact h.own b hB
  · intro b B hB
    have e : b ≠ w.heap.size := by rintro rfl; rw [hFFb] at hB; cases hB
    rw [Mem.ins_ne _ _ e]; exact h.FF b B hB
  · intro j hj hhj
    have hne : j ≠ i := by rintro rfl; rw [hnh] at hhj; cases hhj
    rw [hiff]; simp only [hne, false_or]; exact h.hard j hj hhj
  · intro t hl hgt
    obtain ⟨hne, hl'⟩ := live t hl
    rw [eval_put_ne hne]
    refine h.val t hl' ?_
    rcases hgt with hgt | ⟨j, oj, hj, hdj, hlj⟩
    · exact .inl hgt
    · rw [hiff] at hlj
      rcases hlj with rfl | hlj
      · rw [ho] at hj; cases hj; rw [hd] at hdj; cases hdj; exact absurd rfl hne
      · exact .inr ⟨j, oj, hj, hdj, hlj⟩
  · intro j oj ty' z' d' hj hkj hdj hlj hnfj
    rw [hiff] at hlj
    rcases hlj with rfl | hlj
    · rw [ho] at hj; cases hj
      rw [hk] at hkj; cases hkj
      rw [hd] at hdj; cases hdj
      exact ⟨w.heap.size, eval_put_same (by rw [h.size]; exact hdN), Mem.ins_same _ _ _, hFFb⟩
    · obtain ⟨b, h1, h2, h3⟩ := h.vpend j oj ty' z' d' hj hkj hdj hlj (fun hf => hnfj hf.set)
      have hne : d' ≠ d := by
        rintro rfl
        have := pair_dst hok ho hj hd hdj
        subst this
        rw [hun] at hlj; cases hlj
      refine ⟨b, by rw [eval_put_ne hne]; exact h1, ?_, h3⟩
      rw [Mem.ins_ne]; · exact h2
      rintro rfl; rw [hFb] at h2; cases h2
  · intro j j' oj oj' d1 d2 ty1 z1 ty2 z2 b hne hj hj' hkj hkj' hdj hdj' hlj hlj' hnfj hnfj' hbj hbj'
    rw [hiff] at hlj hlj'
    have fresh : ∀ (j : Nat) (oj : Oper) d1 ty1 z1 b, ops[j]? = some oj → ks[j]? = some (.va ty1 z1) → oj.dst = some d1 → listed.getD j false = true → ¬ Filled ks (listed.setIfInBounds i true) j → a.eval (.tmp d1) = ptrV b → b ≠ w.heap.size := by
      intro j oj d1 ty1 z1 b hj hkj hdj hlj hnfj hbj
      obtain ⟨b', h1, h2, _⟩ := h.vpend j oj ty1 z1 d1 hj hkj hdj hlj (fun hf => hnfj hf.set)
      rw [hbj] at h1
      simp only [ptrV, Value.pointer.injEq, Option.some.injEq, Addr.mk.injEq, and_true] at h1
      subst h1
      rintro rfl; rw [hFb] at h2; cases h2
    have ne_d : ∀ (j : Nat) (oj : Oper) d1, ops[j]? = some oj → oj.dst = some d1 → listed.getD j false = true → d1 ≠ d := by
      rintro j oj d1 hj hdj hlj rfl
      have := pair_dst hok ho hj hd hdj
      subst this
      rw [hun] at hlj; cases hlj
    have same : (a.put (some d) (ptrV w.heap.size)).eval (.tmp d) = ptrV w.heap.size := eval_put_same (by rw [h.size]; exact hdN)
    rcases hlj with rfl | hlj <;> rcases hlj' with rfl | hlj'
    · exact hne rfl
    · rw [ho] at hj; cases hj; rw [hd] at hdj; cases hdj
      rw [same] at hbj
      rw [eval_put_ne (ne_d j' oj' d2 hj' hdj' hlj')] at hbj'
      have := fresh j' oj' d2 ty2 z2 b hj' hkj' hdj' hlj' hnfj' hbj'
      simp only [ptrV, Value.pointer.injEq, Option.some.injEq, Addr.mk.injEq, and_true] at hbj
      exact this hbj.symm
    · rw [ho] at hj'; cases hj'; rw [hd] at hdj'; cases hdj'
      rw [same] at hbj'
      rw [eval_put_ne (ne_d j oj d1 hj hdj hlj)] at hbj
      have := fresh j oj d1 ty1 z1 b hj hkj hdj hlj hnfj hbj
      simp only [ptrV, Value.pointer.injEq, Option.some.injEq, Addr.mk.injEq, and_true] at hbj'
      exact this hbj'.symm
    · rw [eval_put_ne (ne_d j oj d1 hj hdj hlj)] at hbj
      rw [eval_put_ne (ne_d j' oj' d2 hj' hdj' hlj')] at hbj'
      exact h.vdist j j' oj oj' d1 d2 ty1 z1 ty2 z2 b hne hj hj' hkj hkj' hdj hdj' hlj hlj' (fun hf => hnfj hf.set) (fun hf => hnfj' hf.set) hbj hbj'
end run2
section run3
variable {F m0 : Mem} {w0 : World} {s : Nat} {δ : DEnv} {M : DMem} {ρ : Env} {m F' : Mem} {listed : Array Bool} {a : Act} {w : World}
theorem SI.hv (hks : kinds P ro mu ops = some ks) (hok : ∀ i, i < ops.size → OkAt P G N ops ks st fo i) (h : SI P ops ks st G N F m0 w0 s δ M ρ m F' listed a w) {i : Nat} {o : Oper} (ho : ops[i]? = some o) (hun : listed.getD i false = false)
    (hed : ∀ e ∈ o.after, Region.binds .any e = true → listed.getD e.on false = true) {ty : TypeId} {dv ia : Nat} {y : Operand} {inf : TypeInfo} (hk : ks[i]? = some (.hv ia dv ty inf.size y)) (hop : o.op = .store ty (.tmp dv) y) (hd : o.dst = none)
    (hi : P.info? ty = some inf) (hia : allocOf ops dv ty = some ia) (hord : ordOf ks i = s) {Post : DV → DMem → Prop} (hw : wpDE P mu (some dv) (.var ty inf.size y) δ Post M)
    {next : Act → World → Prop} {Q : Exit → Act → World → Prop} (hn : ∀ δ' M' ρ' m' F'' w', SI P ops ks st G N F m0 w0 (s + 1) δ' M' ρ' m' F'' (listed.setIfInBounds i true) (a.put o.dst undef) w' → (∃ v, δ' = δ.upd dv v ∧ Post v M') → next (a.put o.dst undef) w') : o.wp P a w next Q := by
  have hin : i < ops.size := (Array.getElem?_eq_some_iff.1 ho).1
  have hil : i < listed.size := by rw [h.lsize]; exact hin
  have hiff := fun j => getD_set_iff (listed := listed) (i := i) (j := j) hil
  have hhard : hardI ks i = true := by simp [hardI, hk, PK.hard]
  obtain ⟨hk1, _, _, hk4, _⟩ := op_known hok ho
  obtain ⟨heia, hdvN, hva, _⟩ := hk4 _ _ _ _ _ hk
  obtain ⟨oa, hoa, hda, hopa⟩ := allocOf_inv hia
  have hian : ia < ops.size := (Array.getElem?_eq_some_iff.1 hoa).1
  obtain ⟨ka, hka, hkind⟩ := kinds_spec hks hian
  have hzz : ∃ z, ks[ia]? = some (.va ty z) ∧ z.cells.size = inf.size := by
    rw [hka] at hva
    rcases kindOf_inv hoa hkind with ⟨gd, e, _, _, _, rfl | rfl⟩ | ⟨_, ⟨e, rfl, _⟩ | ⟨e, d, rfl, _⟩ | ⟨ty', d, inf', z, rfl, hop', _, hi', _, hz⟩ | ⟨ty', dv', y', ia', inf', rfl, _⟩⟩
    · cases hva
    · cases hva
    · cases hva
    · cases hva
    · rw [hopa] at hop'; cases hop'
      rw [hi] at hi'; cases hi'
      exact ⟨z, hka, hz⟩
    · cases hva
  obtain ⟨z, hkz, hzs⟩ := hzz
  have hlia : listed.getD ia false = true := by
    obtain ⟨e, he, hon, hb⟩ := hasEdge_spec heia
    have := hed e he hb
    rwa [hon] at this
  have hnfia : ¬ Filled ks listed ia := by
    rintro ⟨j, hj, hlj⟩
    have := hv_one hok (by rw [← h.lsize]; exact getD_lt hlj) hin hj (by rw [hk]; rfl)
    subst this
    rw [hun] at hlj; cases hlj
  obtain ⟨b, hab, hFb', hFb⟩ := h.vpend ia oa ty z dv hoa hkz hda hlia hnfia
  have hmb := h.keep _ _ hFb'
  have hMb : M b = none := h.own b (by rw [hFb']; simp)
  -- what is put in
  have hdvu : usesT ops dv o = true := uses_operand (by rw [hop]; simp [Op.operands])
  have hynt : notTmp dv y = true := by
    obtain ⟨_, _, h3⟩ := pair_use hok ho hoa hda hdvu
    obtain ⟨dv', ty', k', y', hk', _, hy⟩ := h3 hva
    rw [hk] at hk'; cases hk'; exact hy
  have hy : a.eval y = ρ.of y ∧ Rep m (δ.of y) (ρ.of y) := by
    cases y with
    | tmp t =>
      have hne : t ≠ dv := by simpa [notTmp] using hynt
      obtain ⟨h1, h2⟩ := h.use hok ho hun hed (uses_operand (by rw [hop]; simp [Op.operands])) (fun j dv' ty' k' y' hk' => by rw [hk] at hk'; cases hk'; exact hne) (hk1 t (by rw [hop]; simp [Op.operands]))
      exact ⟨h2, h.env t h1⟩
    | const v => exact ⟨rfl, ofV_rep m v⟩
    | global g => exact ⟨rfl, by simp only [DEnv.of, Env.of, Rep]⟩
    | func f => exact ⟨rfl, by simp only [DEnv.of, Env.of, Rep]; exact ⟨[], [], rfl, by simp only [RepP], rfl, by simp only [RepP], rfl⟩⟩
  obtain ⟨hya, hyr⟩ := hy
  obtain ⟨cs, hc, hkk, hp, hw⟩ := hw
  have rc := cellsD_ok hc hyr
  have hpl := plainD_all hp rc
  have hylen : (ρ.of y).cells.size = inf.size := by rw [← hkk, rc.2]; simp
  obtain ⟨w2, hr, hs2⟩ := run_storeM (P := P) h.sat hmb (Nat.zero_le _) (vs := (ρ.of y).cells.toList) (by simp; omega) hpl
  have hrun : (execOp a.eval o).run P w = .ok .skip w2 := by
    obtain ⟨d0, op0, t0, p0, f0, g0⟩ := o
    simp only at hop hd
    subst hop
    have hz2 : (Go.sizeOf ty).run P w = .ok inf.size w := by simp [Go.sizeOf, typeInfo, hi]
    simp only [execOp, hab, ptrV, hya, Instr.storeAt, Instr.sureAddr, storeVar, Sem.run_bind, Sem.run_pure, Result.andThen_ok, hz2, hylen]
    simp only [ne_eq, not_true_eq_false, if_false, hr, Result.andThen_ok]
  have hsp : spl z.cells.toList 0 (ρ.of y).cells.toList = (ρ.of y).cells.toList := by
    simp only [spl, List.take_zero, List.nil_append, Nat.zero_add]
    rw [List.drop_eq_nil_of_le (by simp; omega), List.append_nil]
  rw [hsp, hzs] at hs2
  -- the state behind it
  have build : ∀ (fin : Bool) (dv' : DV) (M' : DMem), (∀ x B, M' x = some B → (x = b ∧ fin = false ∧ B = ⟨ty, inf.size, cs⟩) ∨ (x ≠ b ∧ M x = some B)) → Rep (m.ins b (.cells ty inf.size fin (ρ.of y).cells.toList)) dv' (ptrV b) →
      SI P ops ks st G N F m0 w0 (s + 1) (δ.upd dv dv') M' (ρ.upd dv (ptrV b)) (m.ins b (.cells ty inf.size fin (ρ.of y).cells.toList)) (fun x => if x = b then none else F' x) (listed.setIfInBounds i true) (a.put o.dst undef) w2 := by
    intro fin dv' M' hM' hrep
    have hput : a.put o.dst undef = a := by rw [hd]; rfl
    have hf : Fin m (m.ins b (.cells ty inf.size fin (ρ.of y).cells.toList)) := fun x B hx hfx => by
      by_cases e : x = b
      · subst e; rw [hmb] at hx; cases hx; cases hfx
      · rw [Mem.ins_ne _ _ e]; exact hx
    have hvi : hvIa ks[i]? = some ia := by rw [hk]; rfl
    have filled : Filled ks (listed.setIfInBounds i true) ia := ⟨i, hvi, (hiff i).2 (.inl rfl)⟩
    have live : ∀ t, t ≠ dv → Live ops ks (listed.setIfInBounds i true) t → Live ops ks listed t := by
      intro t hne hl j oj hj hdj hnh
      obtain ⟨h1, h2⟩ := hl j oj hj hdj hnh
      rw [hiff] at h1
      rcases h1 with rfl | h1
      · rw [ho] at hj; cases hj; rw [hd] at hdj; cases hdj
      · refine ⟨h1, fun hv => ?_⟩
        obtain ⟨j', h3, h4⟩ := h2 hv
        rw [hiff] at h4
        rcases h4 with rfl | h4
        · rw [hvi] at h3; cases h3
          rw [hoa] at hj; cases hj; rw [hda] at hdj; cases hdj; exact absurd rfl hne
        · exact ⟨j', h3, h4⟩
    have hs3 : Sat w0 w2 (m.ins b (.cells ty inf.size fin (ρ.of y).cells.toList)) := by
      cases fin with
      | false => exact hs2
      | true =>
        have := hs2.seal (Mem.ins_same _ _ _)
        have hii : (m.ins b (.cells ty inf.size false (ρ.of y).cells.toList)).ins b (.cells ty inf.size true (ρ.of y).cells.toList) = m.ins b (.cells ty inf.size true (ρ.of y).cells.toList) := by
          funext x; unfold Mem.ins; split <;> rfl
        rw [hii] at this; exact this
    rw [hput]
    refine ⟨hs3, by simp [h.lsize], h.size, h.defers, ?_, ?_, ?_, h.fin.trans hf, ?_, ?_, ?_, ?_, ?_, ?_, ?_⟩
    · intro j oj e hj hoj he hbd
      rw [hiff] at hj ⊢
      rcases hj with rfl | hj
      · rw [ho] at hoj; cases hoj; exact .inr (hed e he hbd)
      · exact .inr (h.closed j oj e hj hoj he hbd)
    · intro t hl
      simp only [DEnv.upd, Env.upd]
      by_cases e : t = dv
      · rw [if_pos e, if_pos e]; exact hrep
      · rw [if_neg e, if_neg e]; exact (h.env t (live t e hl)).mono hf
    · refine ⟨h.mem.glob.mono hf, fun x B hB => ?_⟩
      rcases hM' x B hB with ⟨rfl, rfl, rfl⟩ | ⟨e, hB'⟩
      · exact ⟨_, Mem.ins_same _ _ _, rc.mono hf⟩
      · obtain ⟨vs, h1, h2⟩ := h.mem x B hB'
        exact ⟨vs, by rw [Mem.ins_ne _ _ e]; exact h1, h2.mono hf⟩
    · intro x B hx
      change (if x = b then none else F' x) = some B at hx
      split at hx
      · cases hx
      · rename_i e; rw [Mem.ins_ne _ _ e]; exact h.keep x B hx
    · intro x hx
      change (if x = b then none else F' x) ≠ none at hx
      split at hx
      · exact absurd rfl hx
      · rename_i e
        cases hMx : M' x with
        | none => rfl
        | some B =>
          rcases hM' x B hMx with ⟨e', _⟩ | ⟨_, h1⟩
          · exact absurd e' e
          · rw [h.own x hx] at h1; cases h1
    · intro x B hx
      have e : x ≠ b := by rintro rfl; rw [hFb] at hx; cases hx
      simp only [if_neg e]; exact h.FF x B hx
    · intro j hj hhj
      rw [hiff]
      have := h.hard j hj hhj
      by_cases hji : j = i
      · subst hji; simp only [true_or, true_iff]; omega
      · simp only [hji, false_or]
        rw [this]
        constructor
        · intro h; omega
        · intro h3
          rcases Nat.lt_trichotomy i j with hl | hl | hl
          · have := ordOf_lt hl hhard; omega
          · exact absurd hl.symm hji
          · have := ordOf_lt hl hhj; omega
    · intro t hl hg
      simp only [Env.upd]
      by_cases e : t = dv
      · rw [if_pos e, e]; exact hab
      · rw [if_neg e]
        refine h.val t (live t e hl) ?_
        rcases hg with hg | ⟨j, oj, hj, hdj, hlj⟩
        · exact .inl hg
        · rw [hiff] at hlj
          rcases hlj with rfl | hlj
          · rw [ho] at hj; cases hj; rw [hd] at hdj; cases hdj
          · exact .inr ⟨j, oj, hj, hdj, hlj⟩
    · intro j oj ty' z' d' hj hkj hdj hlj hnf
      rw [hiff] at hlj
      rcases hlj with rfl | hlj
      · rw [hk] at hkj; cases hkj
      · obtain ⟨b', h1, h2, h3⟩ := h.vpend j oj ty' z' d' hj hkj hdj hlj (fun hf => hnf hf.set)
        refine ⟨b', h1, ?_, h3⟩
        have hne : ia ≠ j := by rintro rfl; exact hnf filled
        have : b' ≠ b := by
          rintro rfl
          exact h.vdist ia j oa oj dv d' ty z ty' z' b' hne hoa hj hkz hkj hda hdj hlia hlj hnfia (fun hf => hnf hf.set) hab h1
        simp only [if_neg this]; exact h2
    · intro j j' oj oj' d1 d2 ty1 z1 ty2 z2 b' hne hj hj' hkj hkj' hdj hdj' hlj hlj' hnfj hnfj' hbj
      have nl : ∀ (j : Nat) ty z, ks[j]? = some (.va ty z) → (listed.setIfInBounds i true).getD j false = true → listed.getD j false = true := by
        intro j ty z hkj hlj
        rw [hiff] at hlj
        rcases hlj with rfl | hlj
        · rw [hk] at hkj; cases hkj
        · exact hlj
      exact h.vdist j j' oj oj' d1 d2 ty1 z1 ty2 z2 b' hne hj hj' hkj hkj' hdj hdj' (nl j ty1 z1 hkj hlj) (nl j' ty2 z2 hkj' hlj') (fun hf => hnfj hf.set) (fun hf => hnfj' hf.set) hbj
  unfold Go.Oper.wp
  rw [hrun]
  show next (a.put o.dst undef) w2
  have rcm : ∀ fin, RepL (m.ins b (.cells ty inf.size fin (ρ.of y).cells.toList)) cs (ρ.of y).cells.toList := fun fin => rc.mono fun x B hx hfx => by
    by_cases e : x = b
    · subst e; rw [hmb] at hx; cases hx; cases hfx
    · rw [Mem.ins_ne _ _ e]; exact hx
  split at hw
  · refine hn _ _ _ _ _ _ (build false (.mp b 0) (M.ins b ⟨ty, inf.size, cs⟩) (fun x B hB => ?_) (by simp only [Rep, ptrV])) ⟨_, rfl, hw b _ hMb rfl⟩
    by_cases e : x = b
    · subst e; rw [DMem.ins_same] at hB; cases hB; exact .inl ⟨rfl, rfl, rfl⟩
    · rw [DMem.ins_ne _ _ e] at hB; exact .inr ⟨e, hB⟩
  · refine hn _ _ _ _ _ _ (build true (.ip cs) M (fun x B hB => .inr ⟨?_, hB⟩) ?_) ⟨_, rfl, hw⟩
    · rintro rfl; rw [hMb] at hB; cases hB
    · simp only [Rep, ptrV]; exact ⟨b, 0, ty, _, _, rfl, Mem.ins_same _ _ _, by simpa using (rcm true).1⟩
end run3
theorem draw_main (hks : kinds P ro mu ops = some ks) (hok : ∀ i, i < ops.size → OkAt P G N ops ks st fo i) (hlen : ks.length = ops.size) {K : DEnv → DMem → Prop} {F m0 : Mem} {w0 : World} {Q : Exit → Act → World → Prop}
    (hQ : ∀ a w m ρ δ M, Sat w0 w m → Agree G N a ρ → InvD F m0 δ M ρ m → K δ M → Q .normal a w) :
    ∀ (fuel s : Nat) (δ : DEnv) (M : DMem) (ρ : Env) (m F' : Mem) (listed : Array Bool) (a : Act) (w : World), SI P ops ks st G N F m0 w0 s δ M ρ m F' listed a w → Told P ops ks st s δ M listed → s ≤ ordOf ks ks.length →
      wpSp P mu K (restAt ops ks st fo (ordOf ks ks.length) s) δ M → cnt (fun i => !listed.getD i true) ops.size ≤ fuel → wpAny P .any ops Q fuel listed a w := by
  have hend : ∀ (s : Nat) (δ : DEnv) (M : DMem) (ρ : Env) (m F' : Mem) (listed : Array Bool) (a : Act) (w : World), SI P ops ks st G N F m0 w0 s δ M ρ m F' listed a w → s ≤ ordOf ks ks.length →
      wpSp P mu K (restAt ops ks st fo (ordOf ks ks.length) s) δ M → (∀ i, i < ops.size → listed.getD i true = true) → Q .normal a w := by
    intro s δ M ρ m F' listed a w h hs hw hall
    have hall' : ∀ i, i < ops.size → listed.getD i false = true := fun i hi => by
      have := hall i hi
      have hil : i < listed.size := by rw [h.lsize]; exact hi
      simp only [Array.getD_eq_getD_getElem?, Array.getElem?_eq_getElem hil, Option.getD_some] at this ⊢
      exact this
    have hsT : s = ordOf ks ks.length := by
      rcases Nat.lt_or_ge s (ordOf ks ks.length) with hlt | hge
      · exfalso
        obtain ⟨i, hi, ho⟩ := hard_ex hlt
        have hin : i < ops.size := by
          unfold hardI at hi
          split at hi
          · rename_i k hk; rw [← hlen]; exact (List.getElem?_eq_some_iff.1 hk).1
          · cases hi
        have := (h.hard i hin hi).1 (hall' i hin)
        omega
      · omega
    unfold restAt at hw
    rw [if_neg (by omega)] at hw
    have hlive : ∀ t, Live ops ks listed t := by
      intro t j oj hj hdj hnh
      have hjn : j < ops.size := (Array.getElem?_eq_some_iff.1 hj).1
      refine ⟨hall' j hjn, fun hv => ?_⟩
      obtain ⟨j', hj', h1⟩ := (op_known hok hj).2.2.2.2.2 hv
      exact ⟨j', h1, hall' j' hj'⟩
    refine hQ a w m ρ δ M h.sat ⟨h.size, h.defers, fun t ht => h.val t (hlive t) (.inl ht)⟩ ⟨fun t => h.env t (hlive t), h.mem, h.fin, fun b B hb => h.keep b B (h.FF b B hb), fun b hb => h.own b fun hF => ?_⟩ hw
    cases hFb : F b with
    | none => exact hb hFb
    | some B => rw [h.FF b B hFb] at hF; cases hF
  intro fuel
  induction fuel with
  | zero =>
    intro s δ M ρ m F' listed a w h ht hs hw hc
    have hfull : ∀ i, i < ops.size → listed.getD i true = true := fun i hlt => by
      have := cnt_zero (p := fun i => !listed.getD i true) ops.size (by omega) i hlt
      simpa using this
    refine ⟨?_, hend s δ M ρ m F' listed a w h hs hw hfull⟩
    rw [List.eq_nil_iff_forall_not_mem]
    intro i hr
    rw [mem_ready] at hr
    obtain ⟨h1, o, ho, _⟩ := hr
    rw [hfull i (Array.getElem?_eq_some_iff.1 ho).1] at h1; cases h1
  | succ fuel ih =>
    intro s δ M ρ m F' listed a w h ht hs hw hc
    refine ⟨fun hr => ?_, fun i hr => ?_⟩
    · refine hend s δ M ρ m F' listed a w h hs hw fun i hlt => ?_
      by_cases hx : ∃ i, i < ops.size ∧ (!listed.getD i true) = true
      · exfalso
        obtain ⟨k, hk, hkl, hleast⟩ := least_of (p := fun i => !listed.getD i true) ops.size hx
        have hmem : k ∈ Region.ready .any ops listed := by
          rw [mem_ready]
          refine ⟨by simpa using hkl, ops[k], Array.getElem?_eq_getElem hk, fun e he hb => ?_⟩
          have hbk := (hok k hk).back
          unfold backOk at hbk
          rw [Array.getElem?_eq_getElem hk] at hbk
          simp only [Array.all_eq_true_iff_forall_mem, Bool.or_eq_true, Bool.not_eq_true', decide_eq_true_eq] at hbk
          have hlt := (hbk e he).resolve_left (by simp [hb])
          have := hleast e.on hlt
          have hjl : e.on < listed.size := by rw [h.lsize]; omega
          simp only [Array.getD_eq_getD_getElem?, Array.getElem?_eq_getElem hjl, Option.getD_some] at this ⊢
          simpa using this
        rw [hr] at hmem; cases hmem
      · cases hli : listed.getD i true
        · exact absurd ⟨i, hlt, by simp [hli]⟩ hx
        · rfl
    · rw [mem_ready] at hr
      obtain ⟨hun, o, ho, hed⟩ := hr
      have hin : i < ops.size := (Array.getElem?_eq_some_iff.1 ho).1
      have hil : i < listed.size := by rw [h.lsize]; exact hin
      have hunf : listed.getD i false = false := by
        simp only [Array.getD_eq_getD_getElem?, Array.getElem?_eq_getElem hil, Option.getD_some] at hun ⊢
        exact hun
      have hcnt : cnt (fun j => !(listed.setIfInBounds i true).getD j true) ops.size ≤ fuel := by
        have := cnt_set (p := fun i => !listed.getD i true) (q := fun j => !(listed.setIfInBounds i true).getD j true) (i := i) (by simp only [hun]; rfl) (by simp [Array.getD_eq_getD_getElem?, hil])
          (fun j hj => by show (!_) = (!_); rw [getD_set_ne true (Ne.symm hj)]) ops.size
        rw [if_pos hin] at this
        omega
      obtain ⟨k, hk, hkind⟩ := kinds_spec hks hin
      -- a stage that goes on
      have told : ∀ {δ'}, δ' = δ → Told P ops ks st s δ' M (listed.setIfInBounds i true) := by
        rintro _ rfl j oj d hj hd hlj hsj
        refine ht j oj d hj hd ?_ hsj
        cases hl : listed.getD j false
        · rfl
        · rw [getD_set_true hl] at hlj; cases hlj
      -- the next stage
      have next : ∀ {δ' M' ρ' m' F''} {a' : Act} {w'}, hardI ks i = true → ordOf ks i = s → SI P ops ks st G N F m0 w0 (s + 1) δ' M' ρ' m' F'' (listed.setIfInBounds i true) a' w' → s < ordOf ks ks.length →
          wpSp P mu K (stepsFrom ops ks st fo (ordOf ks ks.length - (s + 1)) (s + 1)) δ' M' → wpAny P .any ops Q fuel (listed.setIfInBounds i true) a' w' := by
        intro δ' M' ρ' m' F'' a' w' hh ho' h' hlt hw'
        rw [steps_rest (by omega)] at hw'
        have hun2 : ∀ j, j < ops.size → hardI ks j = false → (stages ops ks).getD j 0 = s + 1 ∨ True → st.getD j 0 = s + 1 → (listed.setIfInBounds i true).getD j false = false := fun j hj hnh _ hsj => by
          cases hl : (listed.setIfInBounds i true).getD j false
          · rfl
          · rw [getD_set_iff hil] at hl
            rcases hl with rfl | hl
            · rw [hh] at hnh; cases hnh
            · have := stage_le hok hlen h _ j ops[j] (Nat.lt_succ_self j) (Array.getElem?_eq_getElem hj) hnh fun e he hb => h.closed j _ e hl (Array.getElem?_eq_getElem hj) he hb
              omega
        obtain ⟨δ2, h2, h3, h4⟩ := advance hok hlen h' (by omega) (fun j hj hnh hsj => hun2 j hj hnh (.inr trivial) hsj) hw'
        exact ih _ _ _ _ _ _ _ _ _ h2 h3 (by omega) h4 hcnt
      have hardS : hardI ks i = true → ordOf ks i = s ∧ s < ordOf ks ks.length := by
        intro hh
        have hge : ¬ ordOf ks i < s := fun hlt => by
          have := (h.hard i hin hh).2 hlt
          rw [hunf] at this; cases this
        have hlt : ordOf ks i < ordOf ks ks.length := ordOf_lt (by rw [hlen]; exact hin) hh
        have hch := (hok i hin).chain
        simp only [chainOk, hh, Bool.not_true, Bool.false_or, Bool.or_eq_true, beq_iff_eq, List.any_eq_true, List.mem_range, Bool.and_eq_true, ho] at hch
        rcases hch with h0 | ⟨j, hj, hjo, hje⟩
        · omega
        · have hlj : listed.getD j false = true := by
            obtain ⟨e, he, hon, hb⟩ := hasEdge_spec hje
            have := hed e he hb
            rwa [hon] at this
          by_cases hjh : hardI ks j = true
          · rw [if_pos hjh] at hjo
            simp only [beq_iff_eq] at hjo
            have := (h.hard j (by omega) hjh).1 hlj
            omega
          · rw [if_neg hjh] at hjo
            simp only [beq_iff_eq] at hjo
            have hjn : j < ops.size := by omega
            have := stage_le hok hlen h _ j ops[j] (Nat.lt_succ_self j) (Array.getElem?_eq_getElem hjn) (by simpa using hjh) fun e he hb => h.closed j _ e hlj (Array.getElem?_eq_getElem hjn) he hb
            omega
      have hardW : hardI ks i = true → wpSp P mu K ((hardOf ops ks i).toList ++ stepsFrom ops ks st fo (ordOf ks ks.length - (s + 1)) (s + 1)) δ M := by
        intro hh
        obtain ⟨h1, h2⟩ := hardS hh
        have hw2 := hw
        unfold restAt at hw2
        rw [if_pos h2, ← h1, hardAt_of hh, Option.bind_some, h1] at hw2
        exact hw2
      rcases kindOf_inv ho hkind with ⟨gd, e, hg, hl, ⟨d, hd⟩, rfl | rfl⟩ | ⟨hg, ⟨e, rfl, he⟩ | ⟨e, d, rfl, he, hd, hmu⟩ | ⟨ty, d, inf, z, rfl, hop, hd, hi, hz, hzs⟩ | ⟨ty, dv, y, ia, inf, rfl, hop, hd, hi, hia⟩⟩
      · -- read
        have hnh : hardI ks i = false := by simp [hardI, hk, PK.hard]
        have hst := stage_le hok hlen h _ i o (Nat.lt_succ_self i) ho hnh hed
        have hev := (ht i o d ho hd hunf hst).1 _ hk
        refine h.expr trivial hok ho hunf hed (by rw [hk]; rfl) hg hl (.inl hk) hev fun v w' hv hs' => ?_
        refine ih _ _ _ _ _ _ _ _ _ (h.put hok ho hunf hed (by rw [hk]; rfl) (by rw [hk]; rfl) hs' h.mem (Fin.refl m) h.keep h.own (fun t _ => rfl) (fun d' hd' => ?_) (.inl ⟨hnh, rfl⟩)) (told rfl) hs hw hcnt
        rw [hd] at hd'; cases hd'; exact hv
      · -- a slot that others read
        have hh : hardI ks i = true := by simp [hardI, hk, PK.hard]
        have hw2 := hardW hh
        unfold hardOf at hw2
        rw [ho] at hw2
        simp only [Option.map_some, hd, hk, Option.toList_some, List.singleton_append] at hw2
        obtain ⟨dv, hev, hw3⟩ := hw2
        refine h.expr trivial hok ho hunf hed (by rw [hk]; rfl) hg hl (.inr hk) hev fun v w' hv hs' => ?_
        refine next hh (hardS hh).1 (h.put (s' := s + 1) (δ' := δ.upd d dv) hok ho hunf hed (by rw [hk]; rfl) (by rw [hk]; rfl) hs' h.mem (Fin.refl m) h.keep h.own (fun t hne => ?_) (fun d' hd' => ?_) (.inr ⟨hh, (hardS hh).1, rfl⟩)) (hardS hh).2 hw3
        · simp only [DEnv.upd]; rw [if_neg]; rintro rfl; exact hne hd
        · rw [hd] at hd'; cases hd'; simp only [DEnv.upd, if_true]; exact hv
      · -- in its turn
        have hh : hardI ks i = true := by simp [hardI, hk, PK.hard]
        have hw2 := hardW hh
        unfold hardOf at hw2
        rw [ho] at hw2
        simp only [Option.map_some, hk] at hw2
        have hw3 : wpDE P mu o.dst e δ (fun v M' => wpSp P mu K (stepsFrom ops ks st fo (ordOf ks ks.length - (s + 1)) (s + 1)) (δ.updO o.dst v) M') M := by
          cases hd : o.dst <;> rw [hd] at hw2 <;> exact hw2
        unfold wpOp
        rw [ho]
        simp only
        rw [if_pos ((guardDst_wanted hg a).1 rfl)]
        refine .inl (h.eff hok ho hunf hed (by rw [hk]; rfl) he hw3 fun v m' w' dv M' hst hs' hp => ?_)
        obtain ⟨q1, q2, q3, q4, q5⟩ := hst
        refine next hh (hardS hh).1 (h.put (s' := s + 1) (δ' := δ.updO o.dst dv) hok ho hunf hed (by rw [hk]; rfl) (by rw [hk]; rfl) hs' q2 q3 q4 q5 (fun t hne => ?_) (fun d' hd' => ?_) (.inr ⟨hh, (hardS hh).1, rfl⟩)) (hardS hh).2 hp
        · cases hd : o.dst with
          | none => rfl
          | some d => simp only [DEnv.updO, DEnv.upd]; rw [if_neg]; rintro rfl; exact hne hd
        · rw [hd']; simp only [DEnv.updO, DEnv.upd, if_true]; exact q1
      · -- new memory that nobody writes
        have hnh : hardI ks i = false := by simp [hardI, hk, PK.hard]
        have hst := stage_le hok hlen h _ i o (Nat.lt_succ_self i) ho hnh hed
        have hfr := (ht i o d ho hd hunf hst).2 _ hk
        unfold wpOp
        rw [ho]
        simp only
        rw [if_pos ((guardDst_wanted hg a).1 rfl)]
        have hw3 : wpDE P mu o.dst e δ (fun v M' => v = δ d ∧ M' = M) M := by rw [hd]; exact freshI_wp hmu hfr
        refine .inl (h.eff hok ho hunf hed (by rw [hk]; rfl) he hw3 fun v m' w' dv M' hst hs' hp => ?_)
        obtain ⟨rfl, rfl⟩ := hp
        obtain ⟨q1, q2, q3, q4, q5⟩ := hst
        refine ih _ _ _ _ _ _ _ _ _ (h.put hok ho hunf hed (by rw [hk]; rfl) (by rw [hk]; rfl) hs' q2 q3 q4 q5 (fun t _ => rfl) (fun d' hd' => ?_) (.inl ⟨hnh, rfl⟩)) (told rfl) hs hw hcnt
        rw [hd] at hd'; cases hd'; exact q1
      · -- a variable is made
        unfold wpOp
        rw [ho]
        simp only
        rw [if_pos ((guardDst_wanted hg a).1 rfl)]
        refine .inl (wp_of_run (v := ptrV w.heap.size) (w' := w.alloc (.cells z.cells ty)) ?_ ?_)
        · obtain ⟨d0, op0, t0, p0, f0, g0⟩ := o
          simp only at hop hd
          subst hop
          have hzv : (zeroValue ty).run P w = .ok z w := by simp [zeroValue, typeInfo, hi, hz]
          simp only [execOp, Instr.alloc, Sem.run_bind, hzv, Result.andThen_ok, newVar, newRow, newObj]
          rfl
        · exact ih _ _ _ _ _ _ _ _ _ (h.va hok ho hunf hed hk hd) (told rfl) hs hw hcnt
      · -- a variable is filled
        have hh : hardI ks i = true := by simp [hardI, hk, PK.hard]
        have hw2 := hardW hh
        unfold hardOf at hw2
        rw [ho] at hw2
        simp only [Option.map_some, hk] at hw2
        have hw3 : wpDE P mu (some dv) (.var ty inf.size y) δ (fun v M' => wpSp P mu K (stepsFrom ops ks st fo (ordOf ks ks.length - (s + 1)) (s + 1)) (δ.upd dv v) M') M := by
          exact hw2
        unfold wpOp
        rw [ho]
        simp only
        rw [if_pos ((guardDst_wanted hg a).1 rfl)]
        refine .inl (h.hv hks hok ho hunf hed hk hop hd hi hia (hardS hh).1 hw3 fun δ' M' ρ' m' F'' w' h' hp => ?_)
        obtain ⟨v, rfl, hp⟩ := hp
        exact next hh (hardS hh).1 h' (hardS hh).2 hp
/-- A region whose order is open: what the plan says serves for every order. -/
theorem raw_drawn {id : Nat} {l : List Sp} (hp : planD P ro G N mu ops = some l) {K : DEnv → DMem → Prop} {X : Nat → DEnv → DMem → Prop} {R : DEnv → DMem → Prop} {δ : DEnv} {M : DMem} (hw : wpSp P mu K l δ M) :
    ∀ F m0 ρ m, InvD F m0 δ M ρ m → wpS P (spRO P) G N (.raw (.region id ops true)) (LiftK F m0 K) (fun i => LiftK F m0 (X i)) (LiftK F m0 R) ρ m := by
  intro F m0 ρ m hI a ha w0 w hs
  unfold planD at hp
  simp only [Option.bind_eq_some_iff] at hp
  obtain ⟨ks, hks, hp⟩ := hp
  split at hp
  · rename_i hc
    cases hp
    obtain ⟨hm, hlen, hok⟩ := drawOk_spec hc
    refine wp_region_any hm ?_
    have h0 : SI P ops ks (stages ops ks) G N F m0 w0 0 δ M ρ m F (Array.replicate ops.size false) a w.drew := by
      have hr : ∀ j, (Array.replicate ops.size false).getD j false = false := fun j => by
        simp [Array.getD_eq_getD_getElem?, Array.getElem?_replicate]; split <;> rfl
      refine ⟨hs.drew, by simp, ha.1, ha.2.1, (fun i o e hi => by rw [hr] at hi; cases hi), fun t _ => hI.env t, hI.mem, hI.fin, hI.keep, hI.own, Grows.refl F, (fun i _ _ => by rw [hr]; simp), fun t _ ht => ?_,
        (fun i o ty z d _ _ _ hi => by rw [hr] at hi; cases hi), (fun i i' o o' d d' ty z ty' z' b _ _ _ _ _ _ _ hi => by rw [hr] at hi; cases hi)⟩
      rcases ht with ht | ⟨i, o, _, _, hi⟩
      · exact ha.2.2 t ht
      · rw [hr] at hi; cases hi
    have e0 : ordOf ks ks.length = ordOf ks ks.length - 0 := by omega
    rw [e0, steps_rest (Nat.zero_le _)] at hw
    obtain ⟨δ', h1, h2, h3⟩ := advance hok hlen h0 (Nat.zero_le _) (fun i _ _ _ => by simp [Array.getD_eq_getD_getElem?, Array.getElem?_replicate]; split <;> rfl) hw
    refine draw_main hks hok hlen (Q := fun e a' w' => ∃ m', Sat w0 w' m' ∧ Lift G N (LiftK F m0 K) (fun i => LiftK F m0 (X i)) (LiftK F m0 R) e a' m') (fun a w m ρ δ M hs ha hI hK => ⟨m, hs, ρ, ha, δ, M, hI, hK⟩) ops.size 0 δ' M ρ m F _ a _ h1 h2 (Nat.zero_le _) h3 ?_
    have : ∀ (p : Nat → Bool) n, cnt p n ≤ n := by
      intro p n
      induction n with
      | zero => simp [cnt]
      | succ n ih => simp only [cnt]; split <;> omega
    exact this _ _
  · cases hp
end draw
end Go.Proofs.Ytaifmmeghninhaa.Mw
