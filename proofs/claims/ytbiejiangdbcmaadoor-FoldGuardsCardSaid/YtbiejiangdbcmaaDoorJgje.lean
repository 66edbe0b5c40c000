/- Sr Sc Sb: joined texts of this claim. No condition. -/
import Derived.Test.YtbiejiangdbcmaaDoorProg
import Derived.Test.YtbiejiangdbcmaaDoorJgjb
namespace Go.Proofs.YtbiejiangdbcmaaDoor.Sx
open Go Go.Proofs Go.Proofs.YtbiejiangdbcmaaDoor.Mw
set_option linter.unusedVariables false
set_option maxRecDepth 20000
def roL : List Nat := [7, 9, 10, 11, 12, 13, 14, 17, 22, 24, 27, 28, 29, 30, 31, 42, 44, 45, 46, 47, 48, 49, 53, 54, 59, 60, 61, 62, 63, 64, 65, 66, 67, 68, 70, 72, 73, 76, 77, 78, 79, 80, 81, 82, 90]
def rgAt (n : Nat) : Code → Option (Array Oper)
  | .region i ops _ => if i == n then some ops else none
  | .seq a b => (rgAt n a).or (rgAt n b)
  | .cond _ a b => (rgAt n a).or (rgAt n b)
  | .block _ a => rgAt n a
  | .loop a => rgAt n a
  | .scope a => rgAt n a
  | .rangeFunc _ _ a b => (rgAt n a).or (rgAt n b)
  | _ => none
theorem pcG (mu : Nat → Bool) (G : List Nat) (n : Nat) (f : FuncId) (fn : Func) (s : St) (r : Ex) (hf : Tryd.prog.funcs[f]? = some fn)
    (hx : (opt (dec Tryd.prog (fun f => roL.contains f) (fun t => G.contains t) n (fn.body.getD .skip)), resE Tryd.prog (fun t => G.contains t) fn.results.toList, fn.body.isSome, fn.ntmps, (fn.name == "runtime.NumGoroutine"), Tryd.prog.inits.idxOf? f) = (s, some r, true, n, false, none))
    {ds : List DV} {R : DV → DMem → Prop} {M : DMem} (hl : ds.length ≤ n)
    (h : wpD Tryd.prog mu (fun f => roL.contains f) (fun t => G.contains t) n s (fun δ M' => ∃ d, evD Tryd.prog M' δ r = some d ∧ R d M') (fun _ _ _ => False) (fun δ M' => ∃ d, evD Tryd.prog M' δ r = some d ∧ R d M') (argD ds) M) : PC Tryd.prog f ds R M := by
  obtain ⟨h1, hx⟩ := Prod.mk.inj hx
  obtain ⟨h2, hx⟩ := Prod.mk.inj hx
  obtain ⟨h3, hx⟩ := Prod.mk.inj hx
  obtain ⟨h4, hx⟩ := Prod.mk.inj hx
  obtain ⟨h5, h6⟩ := Prod.mk.inj hx
  subst h4
  obtain ⟨c, hc⟩ := Option.isSome_iff_exists.1 h3
  rw [hc] at h1
  exact pc_opt hf hc h5 h6 h1 h2 mu hl h
end Go.Proofs.YtbiejiangdbcmaaDoor.Sx
namespace Go.Proofs.YtbiejiangdbcmaaDoor.Sx
open Go Go.Proofs Go.Proofs.YtbiejiangdbcmaaDoor.Mw
set_option linter.unusedVariables false
set_option maxRecDepth 20000
set_option linter.defProp false
abbrev F_copies_stands_sets : Nat := 25
def G_copies_stands_sets : List Nat := [0, 1, 3]
def MU_copies_stands_sets (d : Nat) : Bool := ([] : List Nat).contains d
noncomputable def S_copies_stands_sets : St := (.seq (.act (some 3) (.box 3 (.tmp 1))) (.seq (.sets [(4, (.s 0)), (5, (.mkf (.func 41) .nl (.cs (.s 3) .nl)))] []) (.seq (.act (some 6) (.call 40 [(.tmp 4), (.tmp 5)])) (.sets [] []))))
noncomputable def R_copies_stands_sets : Ex := .nl
def pc_copies_stands_sets {ds R M} := @pcG MU_copies_stands_sets G_copies_stands_sets 7 F_copies_stands_sets _ S_copies_stands_sets R_copies_stands_sets Tryd.func25 (by kernel_rfl) ds R M
abbrev F_copies_stands_sets_1 : Nat := 41
def G_copies_stands_sets_1 : List Nat := [0, 1, 2, 5]
def MU_copies_stands_sets_1 (d : Nat) : Bool := ([] : List Nat).contains d
noncomputable def S_copies_stands_sets_1 : St := (.seq (.sets [(5, (.k (.bool false)))] []) (.seq (.sets [(5, (.or (.bin .eql (.s 0) (.ld (.s 2))) (.bin .eql (.s 1) (.ld (.s 2)))))] []) .ret))
noncomputable def R_copies_stands_sets_1 : Ex := (.s 5)
def pc_copies_stands_sets_1 {ds R M} := @pcG MU_copies_stands_sets_1 G_copies_stands_sets_1 14 F_copies_stands_sets_1 _ S_copies_stands_sets_1 R_copies_stands_sets_1 Tryd.func41 (by kernel_rfl) ds R M
end Go.Proofs.YtbiejiangdbcmaaDoor.Sx
namespace Go.Proofs.YtbiejiangdbcmaaDoor.Sx
open Go Go.Proofs Go.Proofs.YtbiejiangdbcmaaDoor.Mw
set_option linter.unusedVariables false
set_option maxRecDepth 20000
set_option linter.defProp false
abbrev F_maps_DeleteFunc_copies_stands_int_int : Nat := 40
def G_maps_DeleteFunc_copies_stands_int_int : List Nat := [0, 1, 4, 5, 7, 9, 16]
def MU_maps_DeleteFunc_copies_stands_int_int (d : Nat) : Bool := ([] : List Nat).contains d
noncomputable def S1_maps_DeleteFunc_copies_stands_int_int : St := (.ite (.s 16) (.seq (.sets [(17, (.s 0)), (18, (.s 4))] []) (.seq (.eff ⟨none, (.call ⟨(.builtin .delete), #[(.tmp 17), (.tmp 18)], #[69, 3]⟩), 0, "", #[], none⟩) (.sets [] []))) .nop)
noncomputable def S2_maps_DeleteFunc_copies_stands_int_int : St := (.seq (.eff ⟨(some 8), (.next (.tmp 7) .false), 0, "", #[], none⟩) (.seq (.sets [(9, (.ext 0 (.s 8)))] []) (.seq (.ite (.s 9) .nop (.exit 0)) (.block 1 (.seq (.eff ⟨(some 10), (.entry (.tmp 7)), 0, "", #[], none⟩) (.seq (.sets [(4, (.ext 0 (.s 10))), (5, (.ext 1 (.s 10)))] []) (.seq (.sets [(13, (.s 1)), (14, (.s 4)), (15, (.s 5))] []) (.seq (.act (some 16) (.callv 13 [(.tmp 14), (.tmp 15)])) S1_maps_DeleteFunc_copies_stands_int_int))))))))
noncomputable def S_maps_DeleteFunc_copies_stands_int_int : St := (.seq (.sets [(6, (.s 0))] []) (.seq (.eff ⟨(some 7), (.range 69 (.tmp 6)), 0, "", #[], none⟩) (.block 0 (.loop S2_maps_DeleteFunc_copies_stands_int_int))))
noncomputable def R_maps_DeleteFunc_copies_stands_int_int : Ex := .nl
def pc_maps_DeleteFunc_copies_stands_int_int {ds R M} := @pcG MU_maps_DeleteFunc_copies_stands_int_int G_maps_DeleteFunc_copies_stands_int_int 19 F_maps_DeleteFunc_copies_stands_int_int _ S_maps_DeleteFunc_copies_stands_int_int R_maps_DeleteFunc_copies_stands_int_int Tryd.func40 (by kernel_rfl) ds R M
end Go.Proofs.YtbiejiangdbcmaaDoor.Sx
