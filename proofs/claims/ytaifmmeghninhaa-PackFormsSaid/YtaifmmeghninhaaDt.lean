/- Operations with interfaces, and conversions of bytes. No condition. -/
import Derived.Test.YtaifmmeghninhaaDs
import Derived.WideLaws
import Derived.Stop.Asserts
import Derived.Lib.IfaceEq
import Derived.Laws.BytesArg
import Derived.Lib.SlBytesConst
namespace Go.Proofs.Ytaifmmeghninhaa.Mw
open Go Go.RowKit
set_option linter.unusedVariables false
set_option linter.unusedSimpArgs false
section
variable {P : Program} {K : DV → DMem → Prop} {δ : DEnv} {M : DMem}
/-- An operation that turns no world. -/
theorem effPure {o : Oper} (h : ∀ (ρ : Env) (m : Mem) (w0 w : World) (a : Act), (∀ i, Rep m (δ i) (ρ i)) → RepM M m → Sat w0 w m → (∀ x ∈ o.op.operands, a.eval x = ρ.of x) → ∃ v d, (execOp a.eval o).run P w = .ok (.value v) w ∧ Rep m d v ∧ K d M) : EffD P o K δ M := by
  intro F m0 ρ m hI
  refine EffM.of fun w0 w a hs ha => ?_
  obtain ⟨v, d, h1, h2, h3⟩ := h ρ m w0 w a hI.env hI.mem hs ha
  exact ⟨v, w, m, h1, hs, d, M, ⟨h2, hI.mem, Fin.refl m, hI.keep, hI.own⟩, h3⟩
theorem effEqNil {o : Oper} {x : Nat} {s t : TypeId} (ho : o.op = .binOp .eql t (.tmp x) (.const .nilIface) s) (hu : P.underlying t = some (.interface (P.methodsAt t))) {b : Bool} (hb : (b = true ∧ δ x = .raw .nilIface) ∨ (b = false ∧ ∃ t d, δ x = .ifc t d)) (hK : K (.bool b) M) : EffD P o K δ M := by
  refine effPure fun ρ m w0 w a hr hM hs ha => ⟨.bool b, .bool b, ?_, by simp only [Rep], hK⟩
  have h41 : a.eval (.tmp x) = ρ x := ha _ (by simp [ho, Op.operands])
  replace hr := hr x
  rcases hb with ⟨rfl, h⟩ | ⟨rfl, t', d, h⟩
  · rw [h] at hr
    simp only [Rep] at hr
    rw [hr] at h41
    have h2 := run_eql_nil_nil (P := P) (w := w) t hu
    simp only [Act.eval] at h41
    simp [execOp, ho, h41, Act.eval, h2, Result.andThen, eqGuard]
  · rw [h] at hr
    simp only [Rep] at hr
    obtain ⟨y, hy, _⟩ := hr
    rw [hy] at h41
    have h2 := run_eql_held_nil (P := P) (w := w) t t' y hu
    simp only [Act.eval] at h41
    simp [execOp, ho, h41, Act.eval, h2, Result.andThen, eqGuard]
theorem effNeNil {o : Oper} {x : Nat} {s t : TypeId} (ho : o.op = .binOp .neq t (.tmp x) (.const .nilIface) s) (hu : P.underlying t = some (.interface (P.methodsAt t))) {b : Bool} (hb : (b = false ∧ δ x = .raw .nilIface) ∨ (b = true ∧ ∃ t d, δ x = .ifc t d)) (hK : K (.bool b) M) : EffD P o K δ M := by
  refine effPure fun ρ m w0 w a hr hM hs ha => ⟨.bool b, .bool b, ?_, by simp only [Rep], hK⟩
  have h41 : a.eval (.tmp x) = ρ x := ha _ (by simp [ho, Op.operands])
  replace hr := hr x
  rcases hb with ⟨rfl, h⟩ | ⟨rfl, t', d, h⟩
  · rw [h] at hr
    simp only [Rep] at hr
    rw [hr] at h41
    have h2 := run_neq_nil_nil (P := P) (w := w) t hu
    simp only [Act.eval] at h41
    simp [execOp, ho, h41, Act.eval, h2, Result.andThen, eqGuard]
  · rw [h] at hr
    simp only [Rep] at hr
    obtain ⟨y, hy, _⟩ := hr
    rw [hy] at h41
    have h2 := run_neq_held_nil (P := P) (w := w) t t' y hu
    simp only [Act.eval] at h41
    simp [execOp, ho, h41, Act.eval, h2, Result.andThen, eqGuard]
/-- Two of different types. -/
theorem effEqTypes {o : Oper} {x y : Nat} {s t : TypeId} (ho : o.op = .binOp .eql t (.tmp x) (.tmp y) s) {ms : Array (String × TypeId)} (hu : P.underlying t = some (.interface ms)) {tx ty : TypeId} {dx dy : DV} (hx : δ x = .ifc tx dx) (hy : δ y = .ifc ty dy) (hne : tx ≠ ty) (hK : K (.bool false) M) : EffD P o K δ M := by
  refine effPure fun ρ m w0 w a hr hM hs ha => ⟨.bool false, .bool false, ?_, by simp only [Rep], hK⟩
  have h41 : a.eval (.tmp x) = ρ x := ha _ (by simp [ho, Op.operands])
  have h42 : a.eval (.tmp y) = ρ y := ha _ (by simp [ho, Op.operands])
  have r1 := hr x
  have r2 := hr y
  rw [hx] at r1
  rw [hy] at r2
  simp only [Rep] at r1 r2
  obtain ⟨vx, e1, _⟩ := r1
  obtain ⟨vy, e2, _⟩ := r2
  rw [e1] at h41
  rw [e2] at h42
  have h2 := run_eql_iface_types (P := P) tx ty vx vy hu hne w
  simp only [Act.eval] at h41 h42
  simp [execOp, ho, h41, h42, Act.eval, h2, Result.andThen, eqGuard]
/-- Two numbers of one type. -/
theorem effEqInt {o : Oper} {x y : Nat} {s t : TypeId} (ho : o.op = .binOp .eql t (.tmp x) (.tmp y) s) {ms : Array (String × TypeId)} (hu : P.underlying t = some (.interface ms)) {tx : TypeId} {k q : IntKind} {n l : Int} (hc : (P.info? tx).map (·.comparable) = some true) (hq : P.underlying tx = some (.int q))
    (hx : δ x = .ifc tx (.int k n)) (hy : δ y = .ifc tx (.int k l)) (hK : K (.bool (n == l)) M) : EffD P o K δ M := by
  refine effPure fun ρ m w0 w a hr hM hs ha => ⟨.bool (n == l), .bool (n == l), ?_, by simp only [Rep], hK⟩
  have h41 : a.eval (.tmp x) = ρ x := ha _ (by simp [ho, Op.operands])
  have h42 : a.eval (.tmp y) = ρ y := ha _ (by simp [ho, Op.operands])
  have r1 := hr x
  have r2 := hr y
  rw [hx] at r1
  rw [hy] at r2
  simp only [Rep] at r1 r2
  obtain ⟨vx, e1, rfl⟩ := r1
  obtain ⟨vy, e2, rfl⟩ := r2
  rw [e1] at h41
  rw [e2] at h42
  have h2 := Lib.run_eql_iface_int (P := P) (w := w) n l hu hc hq (k := k)
  simp only [Act.eval] at h41 h42
  simp [execOp, ho, h41, h42, Act.eval, h2, Result.andThen, eqGuard]
/-- It has not all methods. -/
theorem effLacks {o : Oper} {x : Nat} {xT t' t : TypeId} {want : Array (String × TypeId)} {z : Value} {d : DV} (ho : o.op = .typeAssert (.tmp x) xT t' true) (hu : P.underlying t' = some (.interface want)) (h : (P.info? t).map (fun i => (lacking want i.methods).isEmpty) = some false) (hz : (P.info? t').map (·.zero) = some (some z))
    (hx : δ x = .ifc t d) (hK : K (.tup [.raw z, .bool false]) M) : EffD P o K δ M := by
  refine effPure fun ρ m w0 w a hr hM hs ha => ⟨.tuple #[z, .bool false], .tup [.raw z, .bool false], ?_, ?_, hK⟩
  · have h41 : a.eval (.tmp x) = ρ x := ha _ (by simp [ho, Op.operands])
    have r1 := hr x
    rw [hx] at r1
    simp only [Rep] at r1
    obtain ⟨vx, e1, _⟩ := r1
    rw [e1] at h41
    have h2 := run_typeAssert_lacksB hu h hz vx xT w
    simp only [Act.eval] at h41
    simp [execOp, ho, h41, Act.eval, h2, Result.andThen]
  · simp only [Rep, RepP]
    exact ⟨[z, .bool false], rfl, ⟨rfl, rfl, trivial⟩, rfl⟩
/-- It has all methods. -/
theorem effHas {o : Oper} {x : Nat} {xT t' t : TypeId} {want : Array (String × TypeId)} {d : DV} (ho : o.op = .typeAssert (.tmp x) xT t' true) (hu : P.underlying t' = some (.interface want)) (h : (P.info? t).map (fun i => (lacking want i.methods).isEmpty) = some true)
    (hx : δ x = .ifc t d) (hK : K (.tup [.ifc t d, .bool true]) M) : EffD P o K δ M := by
  refine effPure fun ρ m w0 w a hr hM hs ha => ?_
  have h41 : a.eval (.tmp x) = ρ x := ha _ (by simp [ho, Op.operands])
  have r1 := hr x
  rw [hx] at r1
  have r2 := r1
  simp only [Rep] at r1
  obtain ⟨vx, e1, _⟩ := r1
  rw [e1] at h41 r2
  have h2 := run_typeAssert_hasB hu h vx xT w
  simp only [Act.eval] at h41
  refine ⟨.tuple #[.iface t vx, .bool true], .tup [.ifc t d, .bool true], ?_, ?_, hK⟩
  · simp [execOp, ho, h41, Act.eval, h2, Result.andThen]
  · simp only [Rep, RepP] at r2 ⊢
    exact ⟨[.iface t vx, .bool true], rfl, ⟨r2, rfl, trivial⟩, rfl⟩
/-- Bytes to a string. -/
theorem effStr {o : Oper} {x : Nat} {s1 s2 e : TypeId} {b c n : Nat} {ty : TypeId} {bs : List UInt8} (ho : o.op = .convert s1 s2 (.tmp x)) (h1 : P.underlying s1 = some (.slice e)) (h2 : P.underlying e = some (.int .u8)) (h3 : P.underlying s2 = some .string)
    (hx : δ x = .msl b 0 bs.length c) (hM : M b = some ⟨ty, n, bs.map fun y => .int .u8 y.toNat⟩) (hK : K (.str ⟨bs.toArray⟩) M) : EffD P o K δ M := by
  refine effPure fun ρ m w0 w a hr hMm hs ha => ⟨.string ⟨bs.toArray⟩, .str ⟨bs.toArray⟩, ?_, by simp only [Rep], hK⟩
  have h41 : a.eval (.tmp x) = ρ x := ha _ (by simp [ho, Op.operands])
  have r1 := hr x
  rw [hx] at r1
  simp only [Rep] at r1
  rw [r1] at h41
  obtain ⟨vs, g1, g2⟩ := hMm b _ hM
  have hcell : ∀ i, i < bs.length → w.cell? ⟨b, 0 + i, none⟩ = some (.int .u8 ((bs.map fun y => (y.toNat : Int)).getD i 0)) := by
    intro i hi
    obtain ⟨v, hv1, hv2⟩ := g2.1.get (i := i) (d := .int .u8 bs[i].toNat) (by simp [hi])
    simp only [Rep] at hv2
    subst hv2
    rw [Nat.zero_add]
    refine hs.get ?_
    simp [Mem.get, g1, hv1, List.getD, hi]
  have h5 := run_convert_bytes_arg (P := P) w s1 e h1 h2 b 0 bs.length c (bs.map fun y => (y.toNat : Int)) (by simp) hcell s2 h3
  have e : strOfNums (bs.map fun y => (y.toNat : Int)) = ⟨bs.toArray⟩ := by
    simp only [strOfNums, List.map_map]
    congr 2
    conv => rhs; rw [← List.map_id bs]
    apply List.map_congr_left
    intro y _
    simp
  rw [e] at h5
  simp only [Act.eval] at h41
  simp [execOp, ho, h41, Act.eval, h5, Result.andThen]
/-- A new row of bytes, seen as bytes: nobody writes it any more, and it has no room. -/
theorem effSelf {o : Oper} {x : Nat} {s e : TypeId} {b n : Nat} {cs : List DV} (ho : o.op = .convert s s (.tmp x)) (h1 : P.underlying s = some (.slice e)) (h2 : P.underlying e = some (.int .u8))
    (hx : δ x = .msl b 0 n n) (hM : M b = some ⟨e, n, cs⟩) (hK : ∀ M', M' = M.del b → K (.csl n cs) M') : EffD P o K δ M := by
  intro F m0 ρ m hI
  refine EffM.of fun w0 w a hs ha => ?_
  have h41 : a.eval (.tmp x) = ρ x := ha _ (by simp [ho, Op.operands])
  have r1 := hI.env x
  rw [hx] at r1
  simp only [Rep] at r1
  rw [r1] at h41
  obtain ⟨vs, g1, g2⟩ := hI.mem b _ hM
  obtain ⟨arr, fz, he, hn, hle, hc, hf⟩ := hs.blk _ _ g1
  obtain ⟨rfl, hlo⟩ := hf rfl
  have hFb : F b = none := by
    cases hF : F b with
    | none => rfl
    | some B => have := hI.own b (by rw [hF]; simp); rw [hM] at this; cases this
  have hsh : w.shape? b = some (e, arr.size) := by unfold World.shape?; rw [he]
  have hrun : (convert s s (.slice (some ⟨b, 0, none⟩) n n)).run P w = .ok (.slice (some ⟨b, 0, none⟩) n n) (w.freeze ⟨b, arr.size, none⟩ 1) := by
    simp [convert, run_underlying h1, run_underlying h2, markStringish, hsh]
  have hlt : b < w.heap.size := (Array.getElem?_eq_some_iff.1 he).1
  have hheap : ∀ k, (w.freeze ⟨b, arr.size, none⟩ 1).heap[k]? = if b = k then some (.cells arr e (arr.size, arr.size + 1)) else w.heap[k]? := by
    intro k
    unfold World.freeze
    rw [if_neg (by decide)]
    simp only [Array.getElem?_modify]
    split
    · rename_i e'; subst e'; rw [he]; rfl
    · rfl
  have hfin : Fin m (m.ins b (.cells e n true vs)) := fun y B hB hfn => by
    by_cases e' : y = b
    · subst e'; rw [g1] at hB; cases hB; cases hfn
    · rw [Mem.ins_ne _ _ e']; exact hB
  refine ⟨.slice (some ⟨b, 0, none⟩) n n, w.freeze ⟨b, arr.size, none⟩ 1, m.ins b (.cells e n true vs), ?_, ⟨⟨?_, ?_, ?_, ?_, ?_⟩, fun y C hy => ?_⟩, .csl n cs, M.del b, ⟨?_, ⟨hI.mem.glob.mono hfin, fun y B hB => ?_⟩, hfin, fun y B hB => ?_, fun y hy => ?_⟩, hK _ rfl⟩
  · simp only [Act.eval] at h41
    simp [execOp, ho, h41, Act.eval, hrun, Result.andThen]
  · rw [← hs.below.os]; unfold World.freeze; rw [if_neg (by decide)]
  · rw [← hs.below.tape]; unfold World.freeze; rw [if_neg (by decide)]
  · rw [← hs.below.output]; unfold World.freeze; rw [if_neg (by decide)]
  · refine Nat.le_trans hs.below.size ?_
    unfold World.freeze; rw [if_neg (by decide)]; simp
  · intro k hk
    rw [hheap, if_neg (by omega)]; exact hs.below.block k hk
  · rw [hheap]
    by_cases e' : y = b
    · subst e'; rw [Mem.ins_same] at hy; cases hy
      rw [if_pos rfl]
      exact ⟨arr, _, rfl, hn, hle, hc, fun hh => by cases hh⟩
    · rw [Mem.ins_ne _ _ e'] at hy
      rw [if_neg (fun hh => e' hh.symm)]
      exact hs.blk y C hy
  · simp only [Rep]
    exact ⟨b, 0, e, n, vs, rfl, Mem.ins_same _ _ _, by simpa using g2.1.mono hfin⟩
  · unfold DMem.del at hB
    split at hB
    · cases hB
    · rename_i e'
      obtain ⟨us, k1, k2⟩ := hI.mem y B hB
      exact ⟨us, by rw [Mem.ins_ne _ _ e']; exact k1, k2.mono hfin⟩
  · have e' : y ≠ b := by rintro rfl; rw [hFb] at hB; cases hB
    rw [Mem.ins_ne _ _ e']; exact hI.keep y B hB
  · unfold DMem.del; split
    · rfl
    · exact hI.own y hy
/-- A method of what an interface holds. -/
theorem effInvoke {o : Oper} {x : Nat} {name : String} {args : Array Operand} {ats : Array TypeId} {t : TypeId} {d : DV} {f : FuncId} (ho : o.op = .call ⟨.invoke (.tmp x) name, args, ats⟩) (hx : δ x = .ifc t d)
    (hm : ∀ m v w, Rep m d v → (Go.method (P.types.size + Made.depth) t v name).run P w = .ok (f, v) w) (h : PC P f (d :: args.toList.map δ.of) K M) : EffD P o K δ M := by
  intro F m0 ρ m hI w0 w a hs ha
  have r1 := hI.env x
  rw [hx] at r1
  simp only [Rep] at r1
  obtain ⟨vx, e1, rv⟩ := r1
  have hC := h F m (vx :: args.toList.map ρ.of) hI.mem ((hI.ofs args.toList).cons rv) hI.keep hI.own
  obtain ⟨⟨fn, hf, hb, hnm, _⟩, hC⟩ := hC
  have h41 : a.eval (.tmp x) = ρ x := ha _ (by simp [ho, Op.operands, Call.operands])
  have e2 : args.toList.map a.eval = args.toList.map ρ.of := List.map_congr_left fun y hy => ha y (by rw [ho]; simp [Op.operands, Call.operands]; exact .inr (by simpa using hy))
  have hrun : (execOp a.eval o).run P w = .ok (.enter f (vx :: args.toList.map ρ.of).toArray) w := by
    rw [e1] at h41
    rw [← e2]
    have hm' := hm m vx w rv
    simp only [execOp, ho, resolve, Sem.run_bind, Sem.run_pure, Result.andThen_ok, Go.invoke, h41, callMethod, callFunc, run_program]
    cases args
    simp
    rw [hm']
    simp at hb hnm
    have hb' : ¬ fn.body = none := fun e => by rw [e] at hb; cases hb
    simp only [Result.andThen, callFunc, hf, hnm, hb', if_false, Sem.run_pure]
    congr 4
    rw [List.take_of_length_le (by simp)]
  unfold Go.Oper.wp
  rw [hrun]
  refine (hC w0 w hs).mono ?_
  rintro e w' ⟨v, m', rfl, hs', d', M', a1, a2, a3, a4, a5, a6⟩
  exact ⟨v, m', rfl, hs', d', M', ⟨a1, a2, a3, a4, a5⟩, a6⟩
end
end Go.Proofs.Ytaifmmeghninhaa.Mw
