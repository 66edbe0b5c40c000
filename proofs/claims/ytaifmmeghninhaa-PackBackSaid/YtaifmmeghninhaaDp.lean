/- Arguments opened, with what their sizes are. No condition. -/
import Derived.Test.YtaifmmeghninhaaDo
namespace Go.Proofs.Ytaifmmeghninhaa.Mw
open Go Go.RowKit Go.ChangeShapes Go.WideShapes Go.ChangeAt Go.Deep
set_option linter.unusedVariables false
/-- Data of this type, of no more than what a machine bears, stands as one of these. -/
structure OpensS (P : Program) (w : World) (t : TypeId) {α : Type} (c : α → List DV) (S : α → Prop) : Prop where
  op : ∀ {H : Type} (enc : TypeId × Value → H) (base : Nat) (spare : Nat → Bool) (held : Bool) (fuel : Nat) (cs : List Value) (x : DataW H × List MemPlace),
    DataW.trod enc P w base spare held fuel t cs = some x → (∀ n ∈ x.1.weights P t, n ≤ reachBytes) → ∃ a, RepL (snap w) (c a) cs ∧ S a
structure OpensT (P : Program) (w : World) (tot : Nat) (fs : List Field) (o : Nat) {α : Type} (c : α → List DV) (S : α → Prop) : Prop where
  op : ∀ {H : Type} (enc : TypeId × Value → H) (base : Nat) (spare : Nat → Bool) (held : Bool) (fuel : Nat) (cs : List Value), cs.length = tot →
    (∀ f ∈ fs, ∃ y, DataW.trod enc P w base spare held fuel f.type ((cs.drop f.offset).take (P.cellsOf f.type)) = some y ∧ ∀ n ∈ y.1.weights P f.type, n ≤ reachBytes) → ∃ a, RepL (snap w) (c a) (cs.drop o) ∧ S a
section
variable {P : Program} {w : World} {t : TypeId}
def I64 (z : Int) : Prop := -9223372036854775808 ≤ z ∧ z ≤ 9223372036854775807
theorem OpensS.int (ht : P.underlying t = some (.int .i64)) : OpensS P w t (fun z : Int => [.int .i64 z]) I64 := by
  constructor
  intro _ enc base sp held fuel cs x h _
  obtain ⟨n, rfl, _, hw⟩ := DataW.trod_int ht h
  refine ⟨n, RepL.one (by simp only [Rep]), ?_⟩
  simp only [Lit.wf, Bool.and_eq_true, decide_eq_true_eq] at hw
  exact hw
theorem OpensS.bool (ht : P.underlying t = some .bool) : OpensS P w t (fun z : Bool => [.bool z]) (fun _ => True) := by
  constructor
  intro _ enc base sp held fuel cs x h _
  obtain ⟨n, rfl, _⟩ := DataW.trod_bool ht h
  exact ⟨n, RepL.one (by simp only [Rep]), trivial⟩
theorem OpensS.str (ht : P.underlying t = some .string) : OpensS P w t (fun z : ByteArray => [.str z]) (fun s => s.size ≤ reachBytes) := by
  constructor
  intro _ enc base sp held fuel cs x h hs
  obtain ⟨n, rfl, rfl, _⟩ := DataW.trod_string ht h
  refine ⟨n, RepL.one (by simp only [Rep]), ?_⟩
  have := hs n.data.toList.length (by simp [DataW.weights])
  simpa using this
theorem OpensS.map {α β : Type} {c : α → List DV} {c' : β → List DV} {S : α → Prop} {S' : β → Prop} (h : OpensS P w t c S) (f : α → β) (e : ∀ a, c' (f a) = c a) (hS : ∀ a, S a → S' (f a)) : OpensS P w t c' S' := by
  constructor
  intro _ enc base sp held fuel cs x hx hs
  obtain ⟨a, ha, h1⟩ := h.op enc base sp held fuel cs x hx hs
  exact ⟨f a, by rw [e]; exact ha, hS a h1⟩
theorem OpensT.nil {tot : Nat} : OpensT P w tot [] tot (fun _ : Unit => []) (fun _ => True) := by
  constructor
  intro _ enc base sp held fuel cs hl h
  exact ⟨(), by rw [List.drop_eq_nil_of_le (by omega)]; exact RepL.nil _, trivial⟩
theorem OpensT.cons {α β : Type} {c0 : α → List DV} {c1 : β → List DV} {S0 : α → Prop} {S1 : β → Prop} {tot o k : Nat} {f : Field} {fs : List Field} (h0 : OpensS P w f.type c0 S0) (ho : f.offset = o) (hk : P.cellsOf f.type = k) (h1 : OpensT P w tot fs (o + k) c1 S1) :
    OpensT P w tot (f :: fs) o (fun p : α × β => c0 p.1 ++ c1 p.2) (fun p => S0 p.1 ∧ S1 p.2) := by
  constructor
  intro _ enc base sp held fuel cs hl h
  obtain ⟨y, hy, hyw⟩ := h f (by simp)
  obtain ⟨a, ha, sa⟩ := h0.op enc base sp held fuel _ _ hy hyw
  obtain ⟨b, hb, sb⟩ := h1.op enc base sp held fuel cs hl fun g hg => h g (by simp [hg])
  rw [ho, hk] at ha
  refine ⟨(a, b), ?_, sa, sb⟩
  have e : cs.drop o = (cs.drop o).take k ++ cs.drop (o + k) := by rw [← List.drop_drop, List.take_append_drop]
  rw [e]
  exact ha.append hb
theorem OpensS.struct {α : Type} {c : α → List DV} {S : α → Prop} {fs : Array Field} {tot : Nat} (ht : P.underlying t = some (.struct fs)) (hc : P.cellsOf t = tot) (h : OpensT P w tot fs.toList 0 c S) : OpensS P w t c S := by
  constructor
  intro _ enc base sp held fuel cs x hx hs
  obtain ⟨xs, n, _, rfl, hl, hlen, hf⟩ := DataW.trod_struct ht hx
  have := h.op enc base sp held n cs (hl.trans hc) fun f hf' => by
    obtain ⟨i, hi, e⟩ := List.getElem_of_mem hf'
    have hi' : i < xs.length := by rw [hlen]; simpa using hi
    have hfi : fs[i]? = some f := by rw [← Array.getElem?_toList, List.getElem?_eq_getElem hi, e]
    refine ⟨xs[i], ?_, fun m hm => hs m ?_⟩
    · rw [hf i f hfi, List.getElem?_eq_getElem hi']
    · simp only [DataW.weights, ht]
      exact DataW.weights_mem_each (j := i) (t := f.type) (d := xs[i].1) (by rw [List.getElem?_map, Array.getElem?_toList, hfi]; rfl) (by simp [hi']) m hm
  simpa using this
theorem weights_all {H : Type} {e : TypeId} {n : Nat} : ∀ {ds : List (DataW H)} {d : DataW H}, d ∈ ds → n ∈ d.weights P e → n ∈ DataW.weightsAll P e ds
  | x :: ds, d, hd, hn => by
    simp only [DataW.weightsAll, List.mem_append]
    rcases List.mem_cons.1 hd with rfl | hd
    · exact .inl hn
    · exact .inr (weights_all hd hn)
theorem OpensS.slice {α : Type} {c : α → List DV} {S : α → Prop} {e : TypeId} {n bytes : Nat} (h : OpensS P w e c S) (ht : P.underlying t = some (.slice e)) (hn : P.cellsOf e = n) (hpos : 0 < n) (hb : P.bytesOf e = bytes) :
    OpensS P w t (fun l : List α => [slD c l]) (fun l => l.length * bytes ≤ reachBytes ∧ ∀ x ∈ l, S x) := by
  constructor
  intro _ enc base sp held fuel cs x hx hs
  rcases open_slice ht hx with ⟨rfl, _⟩ | ⟨a, len, cap, m, k, D, Pl, rfl, _, hl, _, hm, rfl, hel⟩
  · refine ⟨[], RepL.one ?_, by simp, fun _ h => by simp at h⟩
    simp only [slD, Rep, List.flatMap_nil, List.length_nil]
    exact ⟨none, 0, rfl, Nat.le_refl _, fun h => absurd h (by omega)⟩
  · have hlm : len ≤ m := by rw [hm]; split <;> omega
    simp only [DataW.weights, ht, List.mem_cons, List.mem_append] at hs
    have hsz : len * bytes ≤ reachBytes := by
      have := hs _ (.inl rfl)
      simp only [List.length_map, List.length_range, hb] at this
      exact Nat.le_trans (Nat.mul_le_mul_right _ (Nat.le_add_right _ _)) this
    have each : ∀ i, i < len → ∃ y : α, (∃ cs', w.cells? base (a.add (i * n)) n = some cs' ∧ RepL (snap w) (c y) cs') ∧ S y := fun i hi => by
      obtain ⟨cs', h1, h2⟩ := hel i (by omega)
      obtain ⟨y, hy, sy⟩ := h.op enc base sp held k cs' _ h2 fun q hq => hs q (.inr (.inl (weights_all (d := D i) (by simp; exact ⟨i, hi, rfl⟩) hq)))
      rw [hn] at h1
      exact ⟨y, ⟨cs', h1, hy⟩, sy⟩
    have : ∃ l : List α, l.length = len ∧ (∀ i (hi : i < l.length), ∃ cs', w.cells? base (a.add (i * n)) n = some cs' ∧ RepL (snap w) (c l[i]) cs') ∧ ∀ x ∈ l, S x := by
      clear hel hl hlm hm hx hs hsz
      induction len with
      | zero => exact ⟨[], rfl, fun i hi => absurd hi (by simp), fun _ h => by simp at h⟩
      | succ len ih =>
        obtain ⟨l, h1, h2, h3⟩ := ih fun i hi => each i (by omega)
        obtain ⟨y, hy, sy⟩ := each len (by omega)
        refine ⟨l ++ [y], by simp [h1], fun i hi => ?_, fun x hx => ?_⟩
        · by_cases h' : i < l.length
          · simpa [List.getElem_append_left h'] using h2 i h'
          · have : i = len := by simp at hi; omega
            subst this
            simpa [h1] using hy
        · rcases List.mem_append.1 hx with hx | hx
          · exact h3 x hx
          · simp at hx; subst hx; exact sy
    obtain ⟨l, rfl, hlc, hS⟩ := this
    refine ⟨l, RepL.one ?_, hsz, hS⟩
    simp only [slD, Rep]
    refine ⟨some a, cap, rfl, hl, fun h0 => ?_⟩
    obtain ⟨cs', h1, h2⟩ := hlc 0 h0
    obtain ⟨_, hlen, hcell⟩ := World.cells?_some h1
    have h3 := hcell 0 hpos
    have h4 : 0 < cs'.length := by omega
    rw [List.getElem?_eq_getElem h4] at h3
    simp only [Nat.zero_mul] at h3
    obtain ⟨b, o, ty, N, full, e1, e2, _⟩ := snap_cell h3
    have ea : a = ⟨b, o, none⟩ := by simpa [Addr.add] using e1
    subst ea
    refine ⟨b, o, ty, N, full, rfl, e2, ?_⟩
    have := rep_cells (base := base) (n := n) e2 l 0 (by simpa using hlc)
    simpa using this
/-- One value of one cell. -/
theorem OpensS.val {α : Type} {d : α → DV} {S : α → Prop} (h : OpensS P w t (fun a => [d a]) S) {v : Value} (hc : v.cells = #[v]) {H : Type} {enc : TypeId × Value → H} {base : Nat} {sp : Nat → Bool} {held : Bool} {x : DataW H} {p : List MemPlace}
    (hx : DataW.Trod enc P w base sp held t v x p) (hs : ∀ n ∈ x.weights P t, n ≤ reachBytes) : ∃ a, Rep (snap w) (d a) v ∧ S a := by
  obtain ⟨fuel, hf⟩ := hx
  obtain ⟨a, ha, sa⟩ := h.op enc base sp held fuel _ _ hf hs
  rw [hc] at ha
  have h1 := ha.1
  simp only [RepP] at h1
  exact ⟨a, h1.1, sa⟩
/-- A struct. -/
theorem OpensS.agg {α : Type} {c : α → List DV} {S : α → Prop} (h : OpensS P w t c S) {cs : Array Value} {H : Type} {enc : TypeId × Value → H} {base : Nat} {sp : Nat → Bool} {held : Bool} {x : DataW H} {p : List MemPlace}
    (hx : DataW.Trod enc P w base sp held t (.agg cs) x p) (hs : ∀ n ∈ x.weights P t, n ≤ reachBytes) : ∃ a, Rep (snap w) (.agg (c a)) (.agg cs) ∧ S a := by
  obtain ⟨fuel, hf⟩ := hx
  obtain ⟨a, ha, sa⟩ := h.op enc base sp held fuel _ _ hf hs
  refine ⟨a, ?_, sa⟩
  simp only [Rep]
  exact ⟨cs.toList, by simp, ha.1, ha.2⟩
theorem sized_mem {H : Type} {ts : List TypeId} {ds : List (DataW H)} (h : (DataW.weightsEach P ts ds).all (· ≤ reachBytes) = true) {j : Nat} {d : DataW H} (ht : ts[j]? = some t) (hd : ds[j]? = some d) : ∀ n ∈ d.weights P t, n ≤ reachBytes := fun n hn => by
  have := List.all_eq_true.1 h n (DataW.weights_mem_each ht hd n hn)
  simpa using this
end
end Go.Proofs.Ytaifmmeghninhaa.Mw
