/- Arguments of which more is known than is asked for. No condition. -/
import Derived.Test.YtaifmmeghninhaaDw
namespace Go.Proofs.Ytaifmmeghninhaa.Mw
open Go Go.RowKit
set_option linter.unusedVariables false
set_option linter.unusedSimpArgs false
/-- What the first ones stand for, the second ones stand for as well. -/
def ImpL (ds es : List DV) : Prop := ∀ m vs, RepL m ds vs → RepL m es vs
def Imp (d e : DV) : Prop := ∀ m v, Rep m d v → Rep m e v
theorem Imp.refl (d : DV) : Imp d d := fun _ _ h => h
theorem ImpL.refl (ds : List DV) : ImpL ds ds := fun _ _ h => h
theorem ImpL.cons {d e : DV} {ds es : List DV} (h : Imp d e) (k : ImpL ds es) : ImpL (d :: ds) (e :: es) := fun m vs r => by
  cases vs with
  | nil => have := r.2; simp at this
  | cons v vs =>
    have r1 := r.1
    simp only [RepP] at r1
    exact (k m vs ⟨r1.2, by simpa using r.2⟩).cons (h m v r1.1)
theorem Imp.agg {ds es : List DV} (h : ImpL ds es) : Imp (.agg ds) (.agg es) := fun m v r => by
  simp only [Rep] at r ⊢
  obtain ⟨vs, h1, h2, h3⟩ := r
  obtain ⟨g1, g2⟩ := h m vs ⟨h2, h3⟩
  exact ⟨vs, h1, g1, g2⟩
theorem Imp.tup {ds es : List DV} (h : ImpL ds es) : Imp (.tup ds) (.tup es) := fun m v r => by
  simp only [Rep] at r ⊢
  obtain ⟨vs, h1, h2, h3⟩ := r
  obtain ⟨g1, g2⟩ := h m vs ⟨h2, h3⟩
  exact ⟨vs, h1, g1, g2⟩
theorem Imp.isl {n : Nat} {cs rest : List DV} : Imp (.isl n (cs ++ rest)) (.isl n cs) := fun m v h => rep_isl h
theorem Pf.weak {P : Program} {f : FuncId} {ds es : List DV} {v : Value} (h : Pf P f es v) (hi : ImpL ds es) : Pf P f ds v := fun m vals g r => h m vals g (hi m vals r)
theorem pf_weak {P : Program} {f : FuncId} {ds es : List DV} {d : DV} (h : pf P f es = some d) (hf : FrozL ds) (hi : ImpL ds es) : pf P f ds = some d := by
  obtain ⟨v, rfl, hp⟩ := pf_spec h
  exact pf_eq hf (hp.weak hi) rfl
theorem PC.weak {P : Program} {f : FuncId} {ds es : List DV} {R : DV → DMem → Prop} {M : DMem} (h : PC P f es R M) (hi : ImpL ds es) : PC P f ds R M :=
  fun F m vals h1 h2 h3 h4 => h F m vals h1 (hi m vals h2) h3 h4
theorem Pu.weak {P : Program} {f : FuncId} {ds es : List DV} {d : DV} (h : Pu P f es d) (hi : ImpL ds es) : Pu P f ds d := fun m vals g r => h m vals g (hi m vals r)
theorem Pt.weak {P : Program} {f : FuncId} {ds es : List DV} {d : DV} (h : Pt P f es d) (hi : ImpL ds es) : Pt P f ds d := PC.weak h hi
theorem plain_flat {α : Type} {c : α → List DV} (h : ∀ x, (c x).all plainD = true) (l : List α) : (l.flatMap c).all plainD = true := by
  induction l with
  | nil => rfl
  | cons x l ih => rw [List.flatMap_cons, List.all_append, h, ih]; rfl
/-- A new slice of zero structs. -/
theorem mkF {α : Type} {c : α → List DV} (x : α) {M : DMem} {e : TypeId} {sz bytes : Nat} {z : Value} {n : Nat} {Post : DV → DMem → Prop} (hz : z.cells.toList.length = sz) (h0 : 0 < sz) (hc : z.cells.toList.map of0 = c x) (hn : bytes * n ≤ 281474976710656) (hn' : n ≤ 9223372036854775807)
    (hP : ∀ b M', M b = none → M' = M.ins b ⟨e, n * sz, (List.replicate n x).flatMap c⟩ → Post (.msl b 0 n n) M') : MakeD M e sz bytes z (.int .i64 n) (.int .i64 n) Post :=
  mkD hn hn' fun b M' h1 h2 => hP b M' h1 (by
    rw [h2, zeros_rep hz h0]
    congr 2
    rw [List.map_flatten, List.map_replicate, hc, List.flatMap_def, List.map_replicate])
end Go.Proofs.Ytaifmmeghninhaa.Mw
