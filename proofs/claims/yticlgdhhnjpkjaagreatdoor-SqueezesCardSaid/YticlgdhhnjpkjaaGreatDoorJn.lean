/- Za Fp Zp Gc Mr Mt Do Dp Ly: joined texts of this claim. No condition. -/
import Derived.Test.YticlgdhhnjpkjaaGreatDoorJnjh
import Derived.Test.YticlgdhhnjpkjaaGreatDoorJnjf
import Derived.Test.YticlgdhhnjpkjaaGreatDoorJnjq
import Derived.Test.YticlgdhhnjpkjaaGreatDoorJnjp
import Derived.Test.YticlgdhhnjpkjaaGreatDoorJnjj
import Derived.Test.YticlgdhhnjpkjaaGreatDoorJnjn
import Derived.Test.YticlgdhhnjpkjaaGreatDoorJnjd
import Derived.WalkKit
import Derived.ProofKit
import Derived.OpenShut
import Derived.ShutString
import Derived.ChangeOld
import Derived.Below
import Derived.Carry
import Derived.SizedLaws
import Derived.ChangeSame
import Derived.ChangeVars
import Derived.JoinedOf
import Derived.LaidLaws
import Derived.LaidHandle
import Derived.Handed
import Derived.Stop.Joined
import Derived.Deep.Slices
import Derived.Test.YticlgdhhnjpkjaaGreatDoorRows
import Derived.Test.YticlgdhhnjpkjaaGreatDoorTie
import Derived.Test.YticlgdhhnjpkjaaGreatDoorCards
import Derived.Lib.SmallJoins
import Derived.SevenTiedAt
namespace Go.Proofs.YticlgdhhnjpkjaaGreatDoor.Pf
open Go Go.RowKit Go.Proofs Go.Proofs.YticlgdhhnjpkjaaGreatDoor.Mw Go.Proofs.YticlgdhhnjpkjaaGreatDoor.Sx
set_option linter.unusedVariables false
set_option linter.unusedSimpArgs false
set_option maxRecDepth 8000
def twoP : List Fnc := [⟨1, 1, [⟨1, 0⟩, ⟨0, 2⟩, ⟨14, 1⟩, ⟨10, 0⟩, ⟨15, 0⟩, ⟨16, 0⟩]⟩, ⟨2, 2, [⟨1, 0⟩, ⟨1, 1⟩, ⟨3, 0⟩, ⟨16, 0⟩]⟩]
def twoC : List Irc := [⟨2, 1, 0, 0, 0, [], 1, 0, 0⟩, ⟨1, 2, 0, 0, 2, [], 1, 0, 1⟩, ⟨6, 1, 0, 0, 1, [1, 2], 1, 0, 2⟩, ⟨2, 2, 1, 0, 0, [], 1, 0, 3⟩, ⟨7, 0, 2, 0, 0, [], 1, 0, 4⟩, ⟨8, 0, 1, 0, 0, [], 1, 0, 5⟩]
end Go.Proofs.YticlgdhhnjpkjaaGreatDoor.Pf
namespace Go.Proofs.YticlgdhhnjpkjaaGreatDoor.Pf
open Go Go.RowKit Go.Proofs Go.Proofs.YticlgdhhnjpkjaaGreatDoor.Mw Go.Proofs.YticlgdhhnjpkjaaGreatDoor.Sx
set_option linter.unusedVariables false
set_option linter.unusedSimpArgs false
set_option maxRecDepth 4000
def insE : El Ins := flatE Ins.c 2
def fncE : El Fnc := ⟨3, Fnc.c, 1, fun M f cs S => ∃ d, cs = [.int .i64 f.args, .int .i64 f.locals, d] ∧ SlAt insE M d f.code S⟩
instance : DecidableEq Fnc := fun a b => decidable_of_iff (a.args = b.args ∧ a.locals = b.locals ∧ a.code = b.code) (by cases a; cases b; simp)
end Go.Proofs.YticlgdhhnjpkjaaGreatDoor.Pf
namespace Go.Proofs.YticlgdhhnjpkjaaGreatDoor.Pf
open Go Go.RowKit Go.Proofs Go.Proofs.YticlgdhhnjpkjaaGreatDoor.Mw Go.Proofs.YticlgdhhnjpkjaaGreatDoor.Sx
set_option linter.unusedVariables false
set_option linter.unusedSimpArgs false
set_option maxRecDepth 8000
structure BigC (c : Cod) : Prop where
  n : c.code.length ≤ 4611686018427387904
  a : ∀ x ∈ c.code, x.args.length ≤ 4611686018427387904
  m : c.metas.length ≤ 4611686018427387904
  s : ∀ m ∈ c.metas, m.length ≤ 4611686018427387904 ∧ ∀ x ∈ m, BigP x
theorem may_big {p : List Fnc} {c : Cod} (h : MayOk p c) : BigC c :=
  ⟨by have := h.n; omega, fun x hx => by obtain ⟨i, hi, rfl⟩ := List.mem_iff_getElem.1 hx; have := (h.ir i hi).ar; omega, by have := h.m; omega, fun m hm => by
    obtain ⟨h1, h2⟩ := h.sz m hm
    exact ⟨by omega, fun x hx => by have := h2 x hx; exact ⟨by omega, by omega⟩⟩⟩
theorem big0 : BigC cod0 := ⟨by decide, fun x hx => absurd hx (by simp [cod0]), by decide, fun m hm => absurd hm (by simp [cod0])⟩
theorem BigC.sz {c : Cod} (h : BigC c) : SzCod c := ⟨h.n, h.a, h.m, fun m hm => ⟨(h.s m hm).1, fun y hy => (h.s m hm).2 y hy⟩⟩
end Go.Proofs.YticlgdhhnjpkjaaGreatDoor.Pf
namespace Go.Proofs.YticlgdhhnjpkjaaGreatDoor.Pf
open Go Go.RowKit Go.Proofs Go.Proofs.YticlgdhhnjpkjaaGreatDoor.Mw Go.Proofs.YticlgdhhnjpkjaaGreatDoor.Sx
set_option linter.unusedVariables false
set_option linter.unusedSimpArgs false
set_option maxRecDepth 8000
theorem squeeze_big (p : List Fnc) (c : Cod) : BigC (squeezeR p c).1 := by
  rcases squeeze_may p c with ⟨_, h, _⟩ | ⟨_, _, h, _⟩
  · rw [h]; exact big0
  · exact may_big (may_ok h.may)
set_option maxHeartbeats 1000000 in
theorem Squeezes_pc (p : List Fnc) (c : Cod) (hz : SzC c) (hs : SrcC c) : PC Tryz.prog F_swagelaw18_Squeezes [.agg [slD Fnc.c p], .agg c.c] (fun d' M' => d' = .bool true) DMem.mt := by
  refine pc_swagelaw18_Squeezes (by simp) ?_
  have l1 : ∀ (K : DMem), ldnD K 1 (.ip [slD Fnc.c p]) = some (.agg [slD Fnc.c p]) := fun K => rfl
  have fzp : ∀ K k, fz K k (.agg [slD Fnc.c p]) = .agg [slD Fnc.c p] := fun K k => fz_of (prog_froz p) K k
  have l4 : ∀ (K : DMem), ldnD K 4 (.ip c.c) = some (.agg c.c) := fun K => rfl
  have fzc : ∀ K k, fz K k (.agg c.c) = .agg c.c := fun K k => fz_of (cod_froz' c) K k
  simp only [S_swagelaw18_Squeezes, R_swagelaw18_Squeezes, MU_swagelaw18_Squeezes, l4, SW, SV, wpD, evDL, evDM, evD, bldLD, wpSp, DMem.mt, beq_self_eq_true, seval]
  refine Pt.pc (by simp only [List.map_cons, List.map_nil, fzc]; exact CopyCode_pt c hz hs) ?_
  simp only [S4_swagelaw18_Squeezes, MU_swagelaw18_Squeezes, l1, l4, SW, SV, wpD, evDL, evDM, evD, bldLD, wpSp, DMem.mt, beq_self_eq_true, seval]
  refine Squeeze_pc p c hz fun dc dm M2 Sc Sm hca hma nda newa sub2 => ?_
  simp only [S3_swagelaw18_Squeezes, MU_swagelaw18_Squeezes, l1, l4, hca.cell, hma.cell, hca.plain, hma.plain, SW, SV, wpD, evDL, evDM, evD, bldLD, wpSp, DMem.mt, beq_self_eq_true, seval]
  refine Pt.pc (by simp only [List.map_cons, List.map_nil, fzc, fzp]; exact SqueezeR_pt p c hz hs) ?_
  have hbig := squeeze_big p c
  have fca : fz M2 4 dc = slD Irc.c (squeezeR p c).1.code := hca.fz irE_ok (k := 3) (by decide)
  have fma : fz M2 4 dm = slD metaC (squeezeR p c).1.metas := hma.fz metaE_ok (k := 3) (by decide)
  have hsame : pf Tryz.prog 12 [.agg [.int .i64 (squeezeR p c).1.fn, .int .i64 (squeezeR p c).1.regs, slD Irc.c (squeezeR p c).1.code, slD metaC (squeezeR p c).1.metas], .agg (squeezeR p c).1.c] = some (.bool true) :=
    (SameCode_pf _ _ hbig.sz).trans (by rw [decide_eq_true rfl])
  have l4' : ∀ (K : DMem) (a b c d : DV), ldnD K 4 (.ip [a, b, c, d]) = some (.agg [a, b, c, d]) := fun K a b c d => rfl
  have l4r : ∀ (K : DMem), ldnD K 4 (.ip (squeezeR p c).1.c) = some (.agg (squeezeR p c).1.c) := fun K => rfl
  have fzr : ∀ K k, fz K k (.agg (squeezeR p c).1.c) = .agg (squeezeR p c).1.c := fun K k => fz_of (cod_froz' _) K k
  have en : decide (¬((squeezeR p c).2 = (squeezeR p c).2)) = false := by simp
  simp only [S2_swagelaw18_Squeezes, MU_swagelaw18_Squeezes, l4', l4r, fzr, NumF_pf, fz_agg, fz_int, fca, fma, List.map_cons, List.map_nil, hsame, en, SW, SV, wpD, evDL, evDM, evD, bldLD, wpSp, DMem.mt, beq_self_eq_true, seval]
  refine SpoilCode_pc hca hma nda hbig.n hbig.a hbig.m hbig.s fun M4 hk4 => ?_
  obtain ⟨z1, z2, z3, z4⟩ := hz
  have hSz : SzCod c := ⟨by unfold Big; omega, fun y hy => by have := z2 y hy; unfold Big; omega, by unfold Big; omega, fun m hm => by
    have := hs m hm
    exact ⟨by unfold Big; omega, fun y hy => by have := this.2 y hy; exact ⟨by unfold Big; omega, by unfold Big; omega⟩⟩⟩
  have hC : pf Tryz.prog F_swagelaw0_SameCode [.agg c.c, .agg c.c] = some (.bool true) := (SameCode_pf c c hSz).trans (by rw [decide_eq_true rfl])
  simp only [S1_swagelaw18_Squeezes, MU_swagelaw18_Squeezes, l4, fzc, hC, awake18_pf, SW, SV, wpD, evDL, evDM, evD, bldLD, wpSp, DMem.mt, beq_self_eq_true, seval]
end Go.Proofs.YticlgdhhnjpkjaaGreatDoor.Pf
namespace Go.Proofs.YticlgdhhnjpkjaaGreatDoor.Mw
open Go Go.RowKit Go.ChangeShapes Go.WideShapes Go.ChangeAt
set_option linter.unusedVariables false
theorem walk_of {P : Program} {f : FuncId} {args : List Value} {w : World} (h : MC P f args (fun v _ => v = .bool true) (snap w)) :
    Calls P f args.toArray w fun e w' => e = .returned (.bool true) ∧ Below w.heap.size w w' :=
  (h.2 w w (snap_sat w)).mono fun e w' ⟨v, m', he, hs, hv⟩ => ⟨by rw [he, hv], hs.below⟩
theorem args_stay {H : Type} {enc : TypeId × Value → H} {P : Program} (hl : laidOutB P = true) {W W' : World} (hb : Below W.heap.size W W') : ∀ (ts : List TypeId) (vs : List Value) (ds : List (DataW H)) (ps : List MemPlace),
    (∀ t ∈ ts, P.readableRec t = true ∧ t < P.types.size) → DataW.TrodAll enc P W 0 (fun _ => true) true ts vs ds ps → DataW.TrodAll enc P W' 0 (fun b => decide (b < W.heap.size)) true ts vs ds ps
  | [], [], [], ps, _, h => h
  | t :: ts, v :: vs, d :: ds, ps, ht, h => by
    have hlt := DataW.TrodAll.lt h
    obtain ⟨p, q, h1, h2, rfl⟩ := h
    exact ⟨p, q, Below.trod hl (ht t (by simp)).1 (ht t (by simp)).2 h1 hb (fun x hx => hlt x (by simp [hx])), args_stay hl hb ts vs ds q (fun t' h' => ht t' (by simp [h'])) h2, rfl⟩
  | [], [], _ :: _, _, _, h => h.elim
  | [], _ :: _, _, _, _, h => by cases h
  | _ :: _, [], _, _, _, h => by cases h
  | _ :: _, _ :: _, [], _, _, h => by cases h
end Go.Proofs.YticlgdhhnjpkjaaGreatDoor.Mw
namespace Go.Proofs.YticlgdhhnjpkjaaGreatDoor.Mw
open Go Go.RowKit Go.ChangeShapes Go.WideShapes Go.ChangeAt
set_option linter.unusedVariables false
theorem law_row_laid {C : Checked} {os : Os} {H : Type} {enc : TypeId × Value → H} (laid : List (String × DataW Unit)) (own : ownKnob C.prog.godebug = none) (started : os.Started) {f : FuncId} {fn : Func} {s : ChangeSpec}
    (noInit : C.prog.inits.idxOf? f = none) (hfn : C.prog.funcs[f]? = some fn) (hvars : s.vars = [])
    (hspec : ∀ ds : List (DataW H), ds.length = fn.params.toList.length → s.fn H ds = { results := [.lit (.bool true)], args := ds })
    {tb : TypeId} (hres : fn.resultTypes = #[tb]) (htb : C.prog.underlying tb = some .bool)
    (hl : laidOutB C.prog = true) (hread : ∀ t ∈ fn.params.toList, C.prog.readableRec t = true ∧ t < C.prog.types.size) {apart : Bool}
    (witness : ∃ (w : World) (tape : Tape) (i : Input), w.os = os ∧ (w.forCall tape i).Shaped C.prog ∧ i.vars = [] ∧ Input.okWide C.prog (w.forCall tape i) .any w.heap.size f i ∧
      ((s.pre enc C.prog fn [] apart (w.forCall tape i).memory i.args ∧ laidMetH C.prog laid (w.forCall tape i).memory) ∧ sizedMet enc C.prog fn (OpenSpec.ofChange s) apart (w.forCall tape i).memory i.args) ∧ ({} : Assume).holds C.prog (lone (Frame.enter C.prog f i.args .normal) [] (w.forCall tape i)))
    (hmc : ∀ (W : World) (base : Nat) (args : List Value) (ds : List (DataW H)) (p : List MemPlace), DataW.TrodAll enc C.prog W 0 (fun _ => true) true fn.params.toList args ds p →
      (∀ (j : Nat) t v, fn.params[j]? = some t → args[j]? = some v → Value.okWide C.prog W .any base t v) →
      (DataW.weightsEach C.prog fn.params.toList ds).all (· ≤ reachBytes) = true → laidMetH C.prog laid W → MC C.prog f args (fun v _ => v = .bool true) (snap W)) :
    ReturnsInHanded {} C os f .any (fun w args => (s.pre enc C.prog fn [] apart w args ∧ laidMetH C.prog laid w) ∧ sizedMet enc C.prog fn (OpenSpec.ofChange s) apart w args) (s.post enc C.prog fn apart true false false) := by
  refine returnsInHanded_of_change_and (X := fun w _ => laidMetH C.prog laid w) (fun _ _ _ hh h => h.of_heap hh) own started noInit hfn witness ?_
  intro W base args ds gs before hval hW _ hsz hL _
  have hW' := hW
  obtain ⟨p, q, hA, hV, rfl, hfz, hnd⟩ := hW
  have hg : gs = [] := by
    rw [hvars] at hV
    cases gs with
    | nil => rfl
    | cons a b => exact hV.elim
  subst hg
  have hlen : ds.length = fn.params.toList.length := by
    have : ∀ (ts : List TypeId) (vs : List Value) (ds : List (DataW H)) (ps : List MemPlace), DataW.TrodAll enc C.prog W 0 (fun _ => true) true ts vs ds ps → ds.length = ts.length := by
      intro ts
      induction ts with
      | nil => intro vs ds ps h; cases vs <;> cases ds <;> first | rfl | exact h.elim | cases h
      | cons t ts ih =>
        intro vs ds ps h
        cases vs with
        | nil => cases h
        | cons v vs =>
          cases ds with
          | nil => cases h
          | cons d ds => obtain ⟨p, q, _, h2, _⟩ := h; simp [ih _ _ _ h2]
    exact this _ _ _ _ hA
  have hv0 : s.plain.varTypes C.prog = [] := by
    have : s.plain.vars = [] := hvars
    simp [DataSpec.varTypes, this]
  have hmc' := hmc W base args.toList ds p hA (fun j t v ht hv => hval j t v ht (by simpa using hv)) (by rw [hv0] at hsz; simpa using hsz) hL
  have hw := walk_of hmc'
  rw [Array.toArray_toList] at hw
  refine hw.mono fun e W' ⟨he, bel⟩ => ?_
  have hsp := hspec ds hlen
  refine ⟨_, he, ds, [], _, [], p, [], hW', ?_, ?_, ?_, bel.frame _, fun h => by cases h⟩
  · rw [List.append_nil, hsp, hres]
    exact trodAll_mk1 (shut_bool htb _)
  · rw [List.append_nil, hsp]
    exact args_stay hl bel _ _ _ _ hread hA
  · rw [List.append_nil, hsp, hvars]
    rfl
end Go.Proofs.YticlgdhhnjpkjaaGreatDoor.Mw
namespace Go.Proofs.YticlgdhhnjpkjaaGreatDoor.Mw
open Go Go.RowKit Go.ChangeShapes Go.WideShapes Go.ChangeAt Go.Deep
set_option linter.unusedVariables false
structure Opens (P : Program) (w : World) (t : TypeId) {α : Type} (c : α → List DV) : Prop where
  op : ∀ {H : Type} (enc : TypeId × Value → H) (base : Nat) (spare : Nat → Bool) (held : Bool) (fuel : Nat) (cs : List Value) (x : DataW H × List MemPlace),
    DataW.trod enc P w base spare held fuel t cs = some x → ∃ a, RepL (snap w) (c a) cs
structure OpensF (P : Program) (w : World) (tot : Nat) (fs : List Field) (o : Nat) {α : Type} (c : α → List DV) : Prop where
  op : ∀ {H : Type} (enc : TypeId × Value → H) (base : Nat) (spare : Nat → Bool) (held : Bool) (fuel : Nat) (cs : List Value), cs.length = tot →
    (∀ f ∈ fs, ∃ y, DataW.trod enc P w base spare held fuel f.type ((cs.drop f.offset).take (P.cellsOf f.type)) = some y) → ∃ a, RepL (snap w) (c a) (cs.drop o)
section
variable {P : Program} {w : World} {t : TypeId}
theorem RepL.one {m : Mem} {d : DV} {v : Value} (h : Rep m d v) : RepL m [d] [v] := RepL.cons h (RepL.nil m)
theorem Opens.int {k : IntKind} (ht : P.underlying t = some (.int k)) : Opens P w t (fun z : Int => [.int k z]) := by
  constructor
  intro _ enc base sp held fuel cs x h
  obtain ⟨n, rfl, _, _⟩ := DataW.trod_int ht h
  exact ⟨n, RepL.one (by simp only [Rep])⟩
theorem Opens.bool (ht : P.underlying t = some .bool) : Opens P w t (fun z : Bool => [.bool z]) := by
  constructor
  intro _ enc base sp held fuel cs x h
  obtain ⟨n, rfl, _⟩ := DataW.trod_bool ht h
  exact ⟨n, RepL.one (by simp only [Rep])⟩
theorem Opens.str (ht : P.underlying t = some .string) : Opens P w t (fun z : ByteArray => [.str z]) := by
  constructor
  intro _ enc base sp held fuel cs x h
  obtain ⟨n, rfl, _⟩ := DataW.trod_string ht h
  exact ⟨n, RepL.one (by simp only [Rep])⟩
theorem Opens.map {α β : Type} {c : α → List DV} {c' : β → List DV} (h : Opens P w t c) (f : α → β) (e : ∀ a, c' (f a) = c a) : Opens P w t c' := by
  constructor
  intro _ enc base sp held fuel cs x hx
  obtain ⟨a, ha⟩ := h.op enc base sp held fuel cs x hx
  exact ⟨f a, by rw [e]; exact ha⟩
theorem OpensF.nil {tot : Nat} : OpensF P w tot [] tot (fun _ : Unit => []) := by
  constructor
  intro _ enc base sp held fuel cs hl h
  exact ⟨(), by rw [List.drop_eq_nil_of_le (by omega)]; exact RepL.nil _⟩
theorem OpensF.cons {α β : Type} {c0 : α → List DV} {c1 : β → List DV} {tot o k : Nat} {f : Field} {fs : List Field} (h0 : Opens P w f.type c0) (ho : f.offset = o) (hk : P.cellsOf f.type = k) (h1 : OpensF P w tot fs (o + k) c1) :
    OpensF P w tot (f :: fs) o (fun p : α × β => c0 p.1 ++ c1 p.2) := by
  constructor
  intro _ enc base sp held fuel cs hl h
  obtain ⟨y, hy⟩ := h f (by simp)
  obtain ⟨a, ha⟩ := h0.op enc base sp held fuel _ _ hy
  obtain ⟨b, hb⟩ := h1.op enc base sp held fuel cs hl fun g hg => h g (by simp [hg])
  rw [ho, hk] at ha
  refine ⟨(a, b), ?_⟩
  have e : cs.drop o = (cs.drop o).take k ++ cs.drop (o + k) := by rw [← List.drop_drop, List.take_append_drop]
  rw [e]
  exact ha.append hb
theorem Opens.struct {α : Type} {c : α → List DV} {fs : Array Field} {tot : Nat} (ht : P.underlying t = some (.struct fs)) (hc : P.cellsOf t = tot) (h : OpensF P w tot fs.toList 0 c) : Opens P w t c := by
  constructor
  intro _ enc base sp held fuel cs x hx
  obtain ⟨xs, n, _, _, hl, hlen, hf⟩ := DataW.trod_struct ht hx
  have := h.op enc base sp held n cs (hl.trans hc) fun f hf' => by
    obtain ⟨i, hi, e⟩ := List.getElem_of_mem hf'
    have hi' : i < xs.length := by rw [hlen]; simpa using hi
    refine ⟨xs[i], ?_⟩
    rw [hf i f (by rw [← Array.getElem?_toList, List.getElem?_eq_getElem hi, e]), List.getElem?_eq_getElem hi']
  simpa using this
theorem snap_cell {a : Addr} {v : Value} (h : w.cell? a = some v) : ∃ b o ty N full, a = ⟨b, o, none⟩ ∧ snap w b = some (.cells ty N true full) ∧ full[o]? = some v := by
  obtain ⟨b, o, sp⟩ := a
  have hs := World.cell?_spot h
  simp only at hs; subst hs
  unfold World.cell? at h
  split at h
  · rename_i c ty fz hb
    simp only [Option.isSome_none, Bool.false_eq_true, if_false] at h
    refine ⟨b, o, ty, c.size, c.toList, rfl, ?_, by simpa using h⟩
    simp only at hb
    simp only [snap, hb]
    rw [if_neg]
    rintro ⟨h0, _⟩
    have : c = #[] := Array.eq_empty_of_size_eq_zero h0
    subst this
    simp at h
  · cases h
theorem rep_cells {α : Type} {c : α → List DV} {n : Nat} {base b o : Nat} {ty : TypeId} {N : Nat} {full : List Value} (hm : snap w b = some (.cells ty N true full)) :
    ∀ (l : List α) (k : Nat), (∀ i (hi : i < l.length), ∃ cs', w.cells? base ((⟨b, o, none⟩ : Addr).add ((k + i) * n)) n = some cs' ∧ RepL (snap w) (c l[i]) cs') → RepP (snap w) (l.flatMap c) (full.drop (o + k * n))
  | [], k, h => by simp [RepP]
  | x :: l, k, h => by
    obtain ⟨cs', h1, h2⟩ := h 0 (by simp)
    obtain ⟨_, hlen, hcell⟩ := World.cells?_some h1
    have ih := rep_cells (base := base) hm l (k + 1) fun i hi => by
      have := h (i + 1) (by simpa using hi)
      simpa [Nat.add_assoc, Nat.add_comm 1 i] using this
    have e : cs' = (full.drop (o + k * n)).take n := by
      apply List.ext_getElem?
      intro i
      by_cases hi : i < n
      · rw [List.getElem?_take_of_lt hi, List.getElem?_drop, ← hcell i hi]
        simp only [Nat.add_zero, add_plain]
        unfold World.cell?
        unfold snap at hm
        split at hm
        · rename_i c' ty' fz hb
          split at hm
          · cases hm
          cases hm
          simp only [hb]
          simp [Nat.add_assoc]
        · cases hm
      · rw [List.getElem?_eq_none (by omega), List.getElem?_eq_none (by simp; omega)]
    have e2 : full.drop (o + k * n) = cs' ++ full.drop (o + (k + 1) * n) := by
      rw [e, show o + (k + 1) * n = o + k * n + n by rw [Nat.add_mul]; omega, ← List.drop_drop (i := n), List.take_append_drop]
    rw [List.flatMap_cons, e2]
    exact h2.1.append h2.2 ih
theorem Opens.slice {α : Type} {c : α → List DV} {e : TypeId} {n : Nat} (h : Opens P w e c) (ht : P.underlying t = some (.slice e)) (hn : P.cellsOf e = n) (hpos : 0 < n) : Opens P w t (fun l : List α => [slD c l]) := by
  constructor
  intro _ enc base sp held fuel cs x hx
  rcases open_slice ht hx with ⟨rfl, _⟩ | ⟨a, len, cap, m, k, D, Pl, rfl, _, hl, _, hm, _, hel⟩
  · refine ⟨[], RepL.one ?_⟩
    simp only [slD, Rep, List.flatMap_nil, List.length_nil]
    exact ⟨none, 0, rfl, Nat.le_refl _, fun h => absurd h (by omega)⟩
  · have hlm : len ≤ m := by rw [hm]; split <;> omega
    have each : ∀ i, i < len → ∃ y : α, ∃ cs', w.cells? base (a.add (i * n)) n = some cs' ∧ RepL (snap w) (c y) cs' := fun i hi => by
      obtain ⟨cs', h1, h2⟩ := hel i (by omega)
      obtain ⟨y, hy⟩ := h.op enc base sp held k cs' _ h2
      rw [hn] at h1
      exact ⟨y, cs', h1, hy⟩
    have : ∃ l : List α, l.length = len ∧ ∀ i (hi : i < l.length), ∃ cs', w.cells? base (a.add (i * n)) n = some cs' ∧ RepL (snap w) (c l[i]) cs' := by
      clear hel hl hlm hm hx
      rename_i hxx
      clear hxx
      induction len with
      | zero => exact ⟨[], rfl, fun i hi => absurd hi (by simp)⟩
      | succ len ih =>
        obtain ⟨l, h1, h2⟩ := ih fun i hi => each i (by omega)
        obtain ⟨y, hy⟩ := each len (by omega)
        refine ⟨l ++ [y], by simp [h1], fun i hi => ?_⟩
        by_cases h' : i < l.length
        · simpa [List.getElem_append_left h'] using h2 i h'
        · have : i = len := by simp at hi; omega
          subst this
          simpa [h1] using hy
    obtain ⟨l, rfl, hlc⟩ := this
    refine ⟨l, RepL.one ?_⟩
    simp only [slD, Rep]
    refine ⟨some a, cap, rfl, hl, fun h0 => ?_⟩
    obtain ⟨cs', h1, h2⟩ := hlc 0 h0
    obtain ⟨_, hlen, hcell⟩ := World.cells?_some h1
    have h3 := hcell 0 hpos
    have h4 : 0 < cs'.length := by omega
    rw [List.getElem?_eq_getElem h4] at h3
    simp only [Nat.zero_mul] at h3
    obtain ⟨b, o, ty, N, full, e1, e2, _⟩ := snap_cell h3
    have ea : a = ⟨b, o, none⟩ := by simpa [Addr.add] using e1
    subst ea
    refine ⟨b, o, ty, N, full, rfl, e2, ?_⟩
    have := rep_cells (base := base) (n := n) e2 l 0 (by simpa using hlc)
    simpa using this
theorem Opens.val {α : Type} {d : α → DV} (h : Opens P w t (fun a => [d a])) {v : Value} (hc : v.cells = #[v]) {H : Type} {enc : TypeId × Value → H} {base : Nat} {sp : Nat → Bool} {held : Bool} {x : DataW H} {p : List MemPlace}
    (hx : DataW.Trod enc P w base sp held t v x p) : ∃ a, Rep (snap w) (d a) v := by
  obtain ⟨fuel, hf⟩ := hx
  obtain ⟨a, ha⟩ := h.op enc base sp held fuel _ _ hf
  rw [hc] at ha
  have h1 := ha.1
  simp only [RepP] at h1
  exact ⟨a, h1.1⟩
end
end Go.Proofs.YticlgdhhnjpkjaaGreatDoor.Mw
namespace Go.Proofs.YticlgdhhnjpkjaaGreatDoor.Mw
open Go Go.RowKit Go.ChangeShapes Go.WideShapes Go.ChangeAt Go.Deep
set_option linter.unusedVariables false
structure OpensS (P : Program) (w : World) (t : TypeId) {α : Type} (c : α → List DV) (S : α → Prop) : Prop where
  op : ∀ {H : Type} (enc : TypeId × Value → H) (base : Nat) (spare : Nat → Bool) (held : Bool) (fuel : Nat) (cs : List Value) (x : DataW H × List MemPlace),
    DataW.trod enc P w base spare held fuel t cs = some x → (∀ n ∈ x.1.weights P t, n ≤ reachBytes) → ∃ a, RepL (snap w) (c a) cs ∧ S a
structure OpensT (P : Program) (w : World) (tot : Nat) (fs : List Field) (o : Nat) {α : Type} (c : α → List DV) (S : α → Prop) : Prop where
  op : ∀ {H : Type} (enc : TypeId × Value → H) (base : Nat) (spare : Nat → Bool) (held : Bool) (fuel : Nat) (cs : List Value), cs.length = tot →
    (∀ f ∈ fs, ∃ y, DataW.trod enc P w base spare held fuel f.type ((cs.drop f.offset).take (P.cellsOf f.type)) = some y ∧ ∀ n ∈ y.1.weights P f.type, n ≤ reachBytes) → ∃ a, RepL (snap w) (c a) (cs.drop o) ∧ S a
section
variable {P : Program} {w : World} {t : TypeId}
def I64 (z : Int) : Prop := -9223372036854775808 ≤ z ∧ z ≤ 9223372036854775807
theorem OpensS.int (ht : P.underlying t = some (.int .i64)) : OpensS P w t (fun z : Int => [.int .i64 z]) I64 := by
  constructor
  intro _ enc base sp held fuel cs x h _
  obtain ⟨n, rfl, _, hw⟩ := DataW.trod_int ht h
  refine ⟨n, RepL.one (by simp only [Rep]), ?_⟩
  simp only [Lit.wf, Bool.and_eq_true, decide_eq_true_eq] at hw
  exact hw
theorem OpensS.bool (ht : P.underlying t = some .bool) : OpensS P w t (fun z : Bool => [.bool z]) (fun _ => True) := by
  constructor
  intro _ enc base sp held fuel cs x h _
  obtain ⟨n, rfl, _⟩ := DataW.trod_bool ht h
  exact ⟨n, RepL.one (by simp only [Rep]), trivial⟩
theorem OpensS.str (ht : P.underlying t = some .string) : OpensS P w t (fun z : ByteArray => [.str z]) (fun s => s.size ≤ reachBytes) := by
  constructor
  intro _ enc base sp held fuel cs x h hs
  obtain ⟨n, rfl, rfl, _⟩ := DataW.trod_string ht h
  refine ⟨n, RepL.one (by simp only [Rep]), ?_⟩
  have := hs n.data.toList.length (by simp [DataW.weights])
  simpa using this
theorem OpensS.map {α β : Type} {c : α → List DV} {c' : β → List DV} {S : α → Prop} {S' : β → Prop} (h : OpensS P w t c S) (f : α → β) (e : ∀ a, c' (f a) = c a) (hS : ∀ a, S a → S' (f a)) : OpensS P w t c' S' := by
  constructor
  intro _ enc base sp held fuel cs x hx hs
  obtain ⟨a, ha, h1⟩ := h.op enc base sp held fuel cs x hx hs
  exact ⟨f a, by rw [e]; exact ha, hS a h1⟩
theorem OpensT.nil {tot : Nat} : OpensT P w tot [] tot (fun _ : Unit => []) (fun _ => True) := by
  constructor
  intro _ enc base sp held fuel cs hl h
  exact ⟨(), by rw [List.drop_eq_nil_of_le (by omega)]; exact RepL.nil _, trivial⟩
theorem OpensT.cons {α β : Type} {c0 : α → List DV} {c1 : β → List DV} {S0 : α → Prop} {S1 : β → Prop} {tot o k : Nat} {f : Field} {fs : List Field} (h0 : OpensS P w f.type c0 S0) (ho : f.offset = o) (hk : P.cellsOf f.type = k) (h1 : OpensT P w tot fs (o + k) c1 S1) :
    OpensT P w tot (f :: fs) o (fun p : α × β => c0 p.1 ++ c1 p.2) (fun p => S0 p.1 ∧ S1 p.2) := by
  constructor
  intro _ enc base sp held fuel cs hl h
  obtain ⟨y, hy, hyw⟩ := h f (by simp)
  obtain ⟨a, ha, sa⟩ := h0.op enc base sp held fuel _ _ hy hyw
  obtain ⟨b, hb, sb⟩ := h1.op enc base sp held fuel cs hl fun g hg => h g (by simp [hg])
  rw [ho, hk] at ha
  refine ⟨(a, b), ?_, sa, sb⟩
  have e : cs.drop o = (cs.drop o).take k ++ cs.drop (o + k) := by rw [← List.drop_drop, List.take_append_drop]
  rw [e]
  exact ha.append hb
theorem OpensS.struct {α : Type} {c : α → List DV} {S : α → Prop} {fs : Array Field} {tot : Nat} (ht : P.underlying t = some (.struct fs)) (hc : P.cellsOf t = tot) (h : OpensT P w tot fs.toList 0 c S) : OpensS P w t c S := by
  constructor
  intro _ enc base sp held fuel cs x hx hs
  obtain ⟨xs, n, _, rfl, hl, hlen, hf⟩ := DataW.trod_struct ht hx
  have := h.op enc base sp held n cs (hl.trans hc) fun f hf' => by
    obtain ⟨i, hi, e⟩ := List.getElem_of_mem hf'
    have hi' : i < xs.length := by rw [hlen]; simpa using hi
    have hfi : fs[i]? = some f := by rw [← Array.getElem?_toList, List.getElem?_eq_getElem hi, e]
    refine ⟨xs[i], ?_, fun m hm => hs m ?_⟩
    · rw [hf i f hfi, List.getElem?_eq_getElem hi']
    · simp only [DataW.weights, ht]
      exact DataW.weights_mem_each (j := i) (t := f.type) (d := xs[i].1) (by rw [List.getElem?_map, Array.getElem?_toList, hfi]; rfl) (by simp [hi']) m hm
  simpa using this
theorem weights_all {H : Type} {e : TypeId} {n : Nat} : ∀ {ds : List (DataW H)} {d : DataW H}, d ∈ ds → n ∈ d.weights P e → n ∈ DataW.weightsAll P e ds
  | x :: ds, d, hd, hn => by
    simp only [DataW.weightsAll, List.mem_append]
    rcases List.mem_cons.1 hd with rfl | hd
    · exact .inl hn
    · exact .inr (weights_all hd hn)
theorem OpensS.slice {α : Type} {c : α → List DV} {S : α → Prop} {e : TypeId} {n bytes : Nat} (h : OpensS P w e c S) (ht : P.underlying t = some (.slice e)) (hn : P.cellsOf e = n) (hpos : 0 < n) (hb : P.bytesOf e = bytes) :
    OpensS P w t (fun l : List α => [slD c l]) (fun l => l.length * bytes ≤ reachBytes ∧ ∀ x ∈ l, S x) := by
  constructor
  intro _ enc base sp held fuel cs x hx hs
  rcases open_slice ht hx with ⟨rfl, _⟩ | ⟨a, len, cap, m, k, D, Pl, rfl, _, hl, _, hm, rfl, hel⟩
  · refine ⟨[], RepL.one ?_, by simp, fun _ h => by simp at h⟩
    simp only [slD, Rep, List.flatMap_nil, List.length_nil]
    exact ⟨none, 0, rfl, Nat.le_refl _, fun h => absurd h (by omega)⟩
  · have hlm : len ≤ m := by rw [hm]; split <;> omega
    simp only [DataW.weights, ht, List.mem_cons, List.mem_append] at hs
    have hsz : len * bytes ≤ reachBytes := by
      have := hs _ (.inl rfl)
      simp only [List.length_map, List.length_range, hb] at this
      exact Nat.le_trans (Nat.mul_le_mul_right _ (Nat.le_add_right _ _)) this
    have each : ∀ i, i < len → ∃ y : α, (∃ cs', w.cells? base (a.add (i * n)) n = some cs' ∧ RepL (snap w) (c y) cs') ∧ S y := fun i hi => by
      obtain ⟨cs', h1, h2⟩ := hel i (by omega)
      obtain ⟨y, hy, sy⟩ := h.op enc base sp held k cs' _ h2 fun q hq => hs q (.inr (.inl (weights_all (d := D i) (by simp; exact ⟨i, hi, rfl⟩) hq)))
      rw [hn] at h1
      exact ⟨y, ⟨cs', h1, hy⟩, sy⟩
    have : ∃ l : List α, l.length = len ∧ (∀ i (hi : i < l.length), ∃ cs', w.cells? base (a.add (i * n)) n = some cs' ∧ RepL (snap w) (c l[i]) cs') ∧ ∀ x ∈ l, S x := by
      clear hel hl hlm hm hx hs hsz
      induction len with
      | zero => exact ⟨[], rfl, fun i hi => absurd hi (by simp), fun _ h => by simp at h⟩
      | succ len ih =>
        obtain ⟨l, h1, h2, h3⟩ := ih fun i hi => each i (by omega)
        obtain ⟨y, hy, sy⟩ := each len (by omega)
        refine ⟨l ++ [y], by simp [h1], fun i hi => ?_, fun x hx => ?_⟩
        · by_cases h' : i < l.length
          · simpa [List.getElem_append_left h'] using h2 i h'
          · have : i = len := by simp at hi; omega
            subst this
            simpa [h1] using hy
        · rcases List.mem_append.1 hx with hx | hx
          · exact h3 x hx
          · simp at hx; subst hx; exact sy
    obtain ⟨l, rfl, hlc, hS⟩ := this
    refine ⟨l, RepL.one ?_, hsz, hS⟩
    simp only [slD, Rep]
    refine ⟨some a, cap, rfl, hl, fun h0 => ?_⟩
    obtain ⟨cs', h1, h2⟩ := hlc 0 h0
    obtain ⟨_, hlen, hcell⟩ := World.cells?_some h1
    have h3 := hcell 0 hpos
    have h4 : 0 < cs'.length := by omega
    rw [List.getElem?_eq_getElem h4] at h3
    simp only [Nat.zero_mul] at h3
    obtain ⟨b, o, ty, N, full, e1, e2, _⟩ := snap_cell h3
    have ea : a = ⟨b, o, none⟩ := by simpa [Addr.add] using e1
    subst ea
    refine ⟨b, o, ty, N, full, rfl, e2, ?_⟩
    have := rep_cells (base := base) (n := n) e2 l 0 (by simpa using hlc)
    simpa using this
theorem OpensS.val {α : Type} {d : α → DV} {S : α → Prop} (h : OpensS P w t (fun a => [d a]) S) {v : Value} (hc : v.cells = #[v]) {H : Type} {enc : TypeId × Value → H} {base : Nat} {sp : Nat → Bool} {held : Bool} {x : DataW H} {p : List MemPlace}
    (hx : DataW.Trod enc P w base sp held t v x p) (hs : ∀ n ∈ x.weights P t, n ≤ reachBytes) : ∃ a, Rep (snap w) (d a) v ∧ S a := by
  obtain ⟨fuel, hf⟩ := hx
  obtain ⟨a, ha, sa⟩ := h.op enc base sp held fuel _ _ hf hs
  rw [hc] at ha
  have h1 := ha.1
  simp only [RepP] at h1
  exact ⟨a, h1.1, sa⟩
theorem OpensS.agg {α : Type} {c : α → List DV} {S : α → Prop} (h : OpensS P w t c S) {cs : Array Value} {H : Type} {enc : TypeId × Value → H} {base : Nat} {sp : Nat → Bool} {held : Bool} {x : DataW H} {p : List MemPlace}
    (hx : DataW.Trod enc P w base sp held t (.agg cs) x p) (hs : ∀ n ∈ x.weights P t, n ≤ reachBytes) : ∃ a, Rep (snap w) (.agg (c a)) (.agg cs) ∧ S a := by
  obtain ⟨fuel, hf⟩ := hx
  obtain ⟨a, ha, sa⟩ := h.op enc base sp held fuel _ _ hf hs
  refine ⟨a, ?_, sa⟩
  simp only [Rep]
  exact ⟨cs.toList, by simp, ha.1, ha.2⟩
theorem sized_mem {H : Type} {ts : List TypeId} {ds : List (DataW H)} (h : (DataW.weightsEach P ts ds).all (· ≤ reachBytes) = true) {j : Nat} {d : DataW H} (ht : ts[j]? = some t) (hd : ds[j]? = some d) : ∀ n ∈ d.weights P t, n ≤ reachBytes := fun n hn => by
  have := List.all_eq_true.1 h n (DataW.weights_mem_each ht hd n hn)
  simpa using this
end
end Go.Proofs.YticlgdhhnjpkjaaGreatDoor.Mw
namespace Go.Proofs.YticlgdhhnjpkjaaGreatDoor
open Go Go.RowKit Go.Proofs.YticlgdhhnjpkjaaGreatDoor.Mw Go.Proofs.YticlgdhhnjpkjaaGreatDoor.Pf Go.ChangeShapes Go.WideShapes Go.ChangeAt
set_option linter.unusedVariables false
theorem own : ownKnob Tryz.prog.godebug = none := by kernel_rfl
theorem laid : laidOutB Tryz.prog = true := by kernel_rfl
theorem et : Tryz.prog.globalNamed "errors.errorType" = some 0 := by kernel_rfl
theorem rt : (Tryz.prog.cutTypes.find? (·.1 == "internal/reflectlite.rtype")).map (·.2) = some 228 := by kernel_rfl
theorem oneRow : ((List.range 270).filter fun t => Tryz.prog.rowNamed t [101, 114, 114, 111, 114]) = [162] := by kernel_rfl
theorem sizeT : Tryz.prog.types.size = 270 := by kernel_rfl
abbrev told : List (String × DataW Unit) := [("errors.errorType", Rows.laid_errors_errorType)]
theorem glob_told {W : World} (h : laidMetH Tryz.prog told W) : Glob (snap W) := by
  have h' : laidMet Tryz.prog [] W ∧ handlesMet Tryz.prog told W := h
  obtain ⟨name, u, ty, e1, e2, e3, e4, e5⟩ := h'.2 _ (List.mem_singleton.2 rfl)
  have en : name = [101, 114, 114, 111, 114] := (Option.some.inj e1).symm
  subst en
  obtain rfl := Option.some.inj (rt.symm.trans e2)
  have hm : ty ∈ (List.range 270).filter fun t => Tryz.prog.rowNamed t [101, 114, 114, 111, 114] := List.mem_filter.2 ⟨List.mem_range.2 (by rw [← sizeT]; exact e3), e4⟩
  rw [oneRow] at hm
  obtain rfl := List.mem_singleton.1 hm
  have hh : typeHandle Tryz.prog 162 = .pointer (some ⟨1, 162, none⟩) := by kernel_rfl
  rw [hh] at e5
  intro b v hb
  have hb0 : b = 0 ∧ v = .iface 228 (.agg #[.pointer (some ⟨1, 162, none⟩)]) := by
    unfold globs at hb
    simp only [List.lookup] at hb
    split at hb
    · rename_i hx
      exact ⟨by simpa using hx, (Option.some.inj hb).symm⟩
    · cases hb
  obtain ⟨rfl, rfl⟩ := hb0
  unfold World.var? at e5
  rw [et] at e5
  simp only [Option.bind_some] at e5
  split at e5
  · rename_i c t z hc
    cases e5
    exact ⟨t, by unfold snap; rw [hc] <;> rfl⟩
  · cases e5
noncomputable def toldWorld (os : Os) : World :=
  let w0 := World.holding Tryz.prog os ⟨#[], #[], []⟩
  { w0 with heap := w0.heap.modify 0 fun
      | .cells _ t frozen => .cells #[.iface 228 (.agg #[.pointer (some ⟨1, 162, none⟩)])] t frozen
      | o => o }
theorem toldWorld_met (os : Os) (args : Array Value) : laidMetH Tryz.prog told ((toldWorld os).forCall (fun _ _ => 0) ⟨#[], args, []⟩).memory :=
  laidMetH_of_parts (laidMet_nil _ _) (by kernel_rfl)
theorem cI : Tryz.prog.cellsOf 3 = 1 := by kernel_rfl
theorem opI (w : World) : OpensS Tryz.prog w 3 (fun z : Int => [.int .i64 z]) I64 := OpensS.int Tryz.underlying3
theorem cIns : Tryz.prog.cellsOf 63 = 2 := by kernel_rfl
theorem cInss : Tryz.prog.cellsOf 51 = 1 := by kernel_rfl
theorem cFnc : Tryz.prog.cellsOf 53 = 3 := by kernel_rfl
theorem cFncs : Tryz.prog.cellsOf 22 = 1 := by kernel_rfl
theorem cPrg : Tryz.prog.cellsOf 24 = 1 := by kernel_rfl
set_option maxRecDepth 100000 in
theorem opIns (w : World) : OpensS Tryz.prog w 63 Ins.c (fun x => I64 x.kind ∧ I64 x.a) :=
  (OpensS.struct Tryz.underlying63 cIns (OpensT.cons (opI w) rfl cI (OpensT.cons (opI w) rfl cI OpensT.nil))).map (fun p => ⟨p.1, p.2.1⟩) (fun a => rfl) (fun a h => ⟨h.1, h.2.1⟩)
set_option maxRecDepth 100000 in
theorem opInss (w : World) : OpensS Tryz.prog w 51 (fun l : List Ins => [slD Ins.c l]) (fun l => l.length * 16 ≤ reachBytes ∧ ∀ x ∈ l, I64 x.kind ∧ I64 x.a) :=
  OpensS.slice (opIns w) Tryz.underlying51 cIns (by decide) (by kernel_rfl)
set_option maxRecDepth 100000 in
theorem opFnc (w : World) : OpensS Tryz.prog w 53 Fnc.c (fun f => (I64 f.args ∧ I64 f.locals) ∧ f.code.length * 16 ≤ reachBytes ∧ ∀ x ∈ f.code, I64 x.kind ∧ I64 x.a) :=
  (OpensS.struct Tryz.underlying53 cFnc (OpensT.cons (opI w) rfl cI (OpensT.cons (opI w) rfl cI (OpensT.cons (opInss w) rfl cInss OpensT.nil)))).map (fun p => ⟨p.1, p.2.1, p.2.2.1⟩) (fun a => rfl) (fun a h => ⟨⟨h.1, h.2.1⟩, h.2.2.1⟩)
set_option maxRecDepth 100000 in
theorem opPrg (w : World) : OpensS Tryz.prog w 24 (fun l : List Fnc => [slD Fnc.c l]) (fun l => l.length * 40 ≤ reachBytes ∧ ∀ f ∈ l, (I64 f.args ∧ I64 f.locals) ∧ f.code.length * 16 ≤ reachBytes ∧ ∀ x ∈ f.code, I64 x.kind ∧ I64 x.a) :=
  (OpensS.struct Tryz.underlying24 cPrg (OpensT.cons (OpensS.slice (opFnc w) Tryz.underlying22 cFnc (by decide) (by kernel_rfl)) rfl cFncs OpensT.nil)).map (fun p => p.1) (fun a => rfl) (fun a h => h.1)
theorem cB : Tryz.prog.cellsOf 4 = 1 := by kernel_rfl
theorem cInts : Tryz.prog.cellsOf 48 = 1 := by kernel_rfl
theorem cSrc : Tryz.prog.cellsOf 136 = 2 := by kernel_rfl
theorem cSrcs : Tryz.prog.cellsOf 67 = 1 := by kernel_rfl
theorem cPart : Tryz.prog.cellsOf 69 = 4 := by kernel_rfl
theorem cParts : Tryz.prog.cellsOf 77 = 1 := by kernel_rfl
theorem cMeta : Tryz.prog.cellsOf 79 = 1 := by kernel_rfl
theorem cMetas : Tryz.prog.cellsOf 27 = 1 := by kernel_rfl
theorem cIr : Tryz.prog.cellsOf 50 = 9 := by kernel_rfl
theorem cIrs : Tryz.prog.cellsOf 26 = 1 := by kernel_rfl
theorem cCod : Tryz.prog.cellsOf 29 = 4 := by kernel_rfl
set_option maxRecDepth 100000 in
theorem opSrc (w : World) : OpensS Tryz.prog w 136 Src.c (fun _ => True) :=
  (OpensS.struct Tryz.underlying136 cSrc (OpensT.cons (OpensS.bool Tryz.underlying4) rfl cB (OpensT.cons (opI w) rfl cI OpensT.nil))).map (fun p => ⟨p.1, p.2.1⟩) (fun a => rfl) (fun a h => trivial)
set_option maxRecDepth 100000 in
theorem opSrcs (w : World) : OpensS Tryz.prog w 67 (fun l : List Src => [slD Src.c l]) (fun l => l.length * 16 ≤ reachBytes) :=
  (OpensS.slice (opSrc w) Tryz.underlying67 cSrc (by decide) (by kernel_rfl)).map id (fun a => rfl) (fun a h => h.1)
set_option maxRecDepth 100000 in
theorem opPart (w : World) : OpensS Tryz.prog w 69 Part.c (fun x => x.locals.length * 16 ≤ reachBytes ∧ x.stack.length * 16 ≤ reachBytes) :=
  (OpensS.struct Tryz.underlying69 cPart (OpensT.cons (opI w) rfl cI (OpensT.cons (opI w) rfl cI (OpensT.cons (opSrcs w) rfl cSrcs (OpensT.cons (opSrcs w) rfl cSrcs OpensT.nil))))).map (fun p => ⟨p.1, p.2.1, p.2.2.1, p.2.2.2.1⟩) (fun a => rfl) (fun a h => ⟨h.2.2.1, h.2.2.2.1⟩)
def PartsZ (l : List Part) : Prop := l.length * 64 ≤ reachBytes ∧ ∀ x ∈ l, x.locals.length * 16 ≤ reachBytes ∧ x.stack.length * 16 ≤ reachBytes
set_option maxRecDepth 100000 in
theorem opMeta (w : World) : OpensS Tryz.prog w 79 metaC PartsZ :=
  (OpensS.struct Tryz.underlying79 cMeta (OpensT.cons (OpensS.slice (opPart w) Tryz.underlying77 cPart (by decide) (by kernel_rfl)) rfl cParts OpensT.nil)).map (fun p => p.1) (fun a => rfl) (fun a h => h.1)
set_option maxRecDepth 100000 in
theorem slD_ints (l : List Int) : slD (fun z : Int => [.int .i64 z]) l = slI l := by simp [slD, slI, ← List.map_eq_flatMap]
set_option maxRecDepth 100000 in
theorem opInts (w : World) : OpensS Tryz.prog w 48 (fun l : List Int => [slI l]) (fun l => l.length * 8 ≤ reachBytes ∧ ∀ x ∈ l, I64 x) :=
  (OpensS.slice (opI w) Tryz.underlying48 cI (by decide) (by kernel_rfl)).map id (fun l => by simp only [id, slD_ints]) (fun _ h => h)
def IrcI (x : Irc) : Prop := I64 x.kind ∧ I64 x.r ∧ I64 x.a ∧ I64 x.b ∧ I64 x.k ∧ (x.args.length * 8 ≤ reachBytes ∧ ∀ y ∈ x.args, I64 y) ∧ I64 x.cost ∧ I64 x.mt ∧ I64 x.pc
set_option maxRecDepth 100000 in
theorem opIr (w : World) : OpensS Tryz.prog w 50 Irc.c IrcI :=
  (OpensS.struct Tryz.underlying50 cIr (OpensT.cons (opI w) rfl cI (OpensT.cons (opI w) rfl cI (OpensT.cons (opI w) rfl cI (OpensT.cons (opI w) rfl cI (OpensT.cons (opI w) rfl cI (OpensT.cons (opInts w) rfl cInts (OpensT.cons (opI w) rfl cI (OpensT.cons (opI w) rfl cI (OpensT.cons (opI w) rfl cI OpensT.nil)))))))))).map
    (fun p => ⟨p.1, p.2.1, p.2.2.1, p.2.2.2.1, p.2.2.2.2.1, p.2.2.2.2.2.1, p.2.2.2.2.2.2.1, p.2.2.2.2.2.2.2.1, p.2.2.2.2.2.2.2.2.1⟩) (fun a => rfl) (fun a h => ⟨h.1, h.2.1, h.2.2.1, h.2.2.2.1, h.2.2.2.2.1, h.2.2.2.2.2.1, h.2.2.2.2.2.2.1, h.2.2.2.2.2.2.2.1, h.2.2.2.2.2.2.2.2.1⟩)
def CodI (c : Cod) : Prop := I64 c.fn ∧ I64 c.regs ∧ (c.code.length * 88 ≤ reachBytes ∧ ∀ x ∈ c.code, IrcI x) ∧ (c.metas.length * 24 ≤ reachBytes ∧ ∀ m ∈ c.metas, PartsZ m)
set_option maxRecDepth 100000 in
theorem opCod (w : World) : OpensS Tryz.prog w 29 Cod.c CodI :=
  (OpensS.struct Tryz.underlying29 cCod (OpensT.cons (opI w) rfl cI (OpensT.cons (opI w) rfl cI (OpensT.cons (OpensS.slice (opIr w) Tryz.underlying26 cIr (by decide) (by kernel_rfl)) rfl cIrs (OpensT.cons (OpensS.slice (opMeta w) Tryz.underlying27 cMeta (by decide) (by kernel_rfl)) rfl cMetas OpensT.nil))))).map (fun p => ⟨p.1, p.2.1, p.2.2.1, p.2.2.2.1⟩) (fun a => rfl) (fun a h => ⟨h.1, h.2.1, h.2.2.1, h.2.2.2.1⟩)
theorem CodI.sz {c : Cod} (h : CodI c) : SzC c := by
  obtain ⟨_, _, ⟨h1, h2⟩, h3, h4⟩ := h
  unfold reachBytes at h1 h3
  refine ⟨h1, fun x hx => ?_, h3, fun m hm y hy => ?_⟩
  · have := (h2 x hx).2.2.2.2.2.1.1
    unfold reachBytes at this
    exact this
  · have := (h4 m hm).2 y hy
    unfold reachBytes at this
    omega
theorem CodI.src {c : Cod} (h : CodI c) : ∀ m ∈ c.metas, m.length * 64 ≤ 140737488351232 ∧ ∀ x ∈ m, x.locals.length * 16 ≤ 140737488351232 ∧ x.stack.length * 16 ≤ 140737488351232 := by
  obtain ⟨_, _, _, h3, h4⟩ := h
  intro m hm
  have := h4 m hm
  unfold PartsZ reachBytes at this
  exact this
namespace squeezes
set_option maxRecDepth 100000 in
theorem lifted (os : Os) (started : os.Started) (H : Type) (enc : TypeId × Value → H) :
    ReturnsInHanded {} Tryz.checked os 5 .any (fun w args => (Rows.squeezesSpec.pre enc Tryz.prog Tryz.f5 [] false w args ∧ laidMetH Tryz.prog told w) ∧ sizedMet enc Tryz.prog Tryz.f5 (OpenSpec.ofChange Rows.squeezesSpec) false w args)
      (Rows.squeezesSpec.post enc Tryz.prog Tryz.f5 false true false false) := by
  refine law_row_laid (C := Tryz.checked) told own started (by kernel_rfl) Tryz.func5 rfl (fun ds h => ?_) rfl Tryz.underlying4 laid (of_decide_eq_true (by kernel_rfl))
    (ChangeSpec.witness_at (enc := enc) (C := Tryz.checked) (os := os) (X := fun w _ => laidMetH Tryz.prog told w) false (toldWorld os) #[.agg #[.slice none 0 0], .agg #[.int .i64 0, .int .i64 0, .slice none 0 0, .slice none 0 0]] 8 rfl (by kernel_rfl) (by kernel_rfl) (by kernel_rfl) (by kernel_rfl) (by kernel_rfl) (toldWorld_met os _)) (fun W base args ds p hA hval hsz hL => ?_)
  · match ds, h with
    | [_, _], _ => rfl
  · rw [show Tryz.f5.params.toList = [24, 29] from rfl] at hA hsz
    obtain ⟨v0, vs0, d0, ds0, p0, q0, rfl, rfl, rfl, h0, r0⟩ := trodAll_cons hA
    obtain ⟨v1, vs1, d1, ds1, p1, q1, rfl, rfl, rfl, h1, r1⟩ := trodAll_cons r0
    obtain ⟨rfl, rfl, rfl⟩ := trodAll_nil r1
    obtain ⟨x0, rfl, z0⟩ := okWide_struct Tryz.underlying24 (hval 0 24 v0 rfl rfl)
    obtain ⟨a0, g0, s0⟩ := OpensS.agg (opPrg W) h0 (sized_mem (t := 24) (j := 0) hsz rfl rfl)
    obtain ⟨x1, rfl, z1⟩ := okWide_struct Tryz.underlying29 (hval 1 29 v1 rfl rfl)
    obtain ⟨a1, g1, s1⟩ := OpensS.agg (opCod W) h1 (sized_mem (t := 29) (j := 1) hsz rfl rfl)
    exact law_mc (Squeezes_pc a0 a1 s1.sz s1.src) (glob_told hL) (RepL.cons g0 (RepL.cons g1 (RepL.nil _)))
theorem over : Rows.squeezesRow.holds Tryz.pinned (OpenSpec.ofChange Rows.squeezesSpec) :=
  OpenClaim.holds_of_wide 5 Tryz.f5 rfl rfl rfl rfl rfl rfl rfl ⟨rfl, rfl, rfl, rfl, rfl⟩ rfl rfl rfl rfl rfl (by kernel_rfl) Tryz.func5 (by kernel_rfl)
    (of_decide_eq_true (by kernel_rfl)) (by unfold Func.isWrapper; first | (rw [if_pos (by decide +kernel)]; kernel_rfl) | (rw [if_neg (by decide +kernel)]; exact ⟨rfl, rfl⟩))
    (fun os started H enc _ => lifted os started H enc)
end squeezes
theorem squeezes_card : Rows.SqueezesCardSaid :=
  Claim7.holds_tied_plain_at .later [] [.handle] true _ true
    squeezes.over (fun _ h => by cases h) (by kernel_rfl) (fun _ h => by cases h) squeezes_row_tie rfl ⟨rfl, rfl⟩ (by kernel_rfl) rfl
    (fun f fn hf hfn => by
      obtain rfl : f = 5 := Option.some.inj ((show Tryz.prog.funcNamed "swage/swagelaw18.Squeezes" = some 5 by kernel_rfl).symm.trans hf) |>.symm
      obtain rfl : fn = Tryz.f5 := (Option.some.inj (Tryz.func5.symm.trans hfn)).symm
      have hall : (Tryz.f5.params.toList.all fun t => !Tryz.prog.wantsStandIn t) = true := by kernel_rfl
      refine ⟨by kernel_rfl, fun j t ht => ?_⟩
      have hm : t ∈ Tryz.f5.params.toList := List.mem_of_getElem? (i := j) (by rw [Array.getElem?_toList]; exact ht)
      exact (show Tryz.prog.wantsStandIn t = false by simpa using List.all_eq_true.1 hall t hm))
    (by kernel_rfl)
end Go.Proofs.YticlgdhhnjpkjaaGreatDoor
