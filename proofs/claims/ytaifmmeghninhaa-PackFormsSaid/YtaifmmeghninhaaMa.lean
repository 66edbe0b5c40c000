/- The partial memory over which this seat's contracts speak: which blocks are known, and how a world carries them. No condition. -/
import Derived.WalkKit
import Derived.Below
import Derived.Orders
import Derived.Laws.OwnMore
import Derived.Laws.CopyRow
import Derived.Laws.Cells
import Derived.KernelRfl
namespace Go.Proofs.Ytaifmmeghninhaa.Mw
open Go Go.RowKit
set_option linter.unusedVariables false

/-- A block that is known. 'cells ty n fin cs': n cells of element type ty, of which the first ones are cs; 'fin': nobody writes it any more. -/
inductive Blk where
  | cells (ty : TypeId) (n : Nat) (fin : Bool) (cs : List Value)
  | obj (o : Obj)

abbrev Mem := Nat → Option Blk
def Blk.isFin : Blk → Bool
  | .cells _ _ f _ => f
  | .obj _ => false

def Blk.fits (lo b : Nat) : Blk → Option Obj → Prop
  | .cells ty n fin cs, o => ∃ arr fz, o = some (.cells arr ty fz) ∧ arr.size = n ∧ cs.length ≤ n ∧ (∀ (i : Nat) (v : Value), cs[i]? = some v → arr[i]? = some v) ∧ (fin = false → fz = (0, 0) ∧ lo ≤ b)
  | .obj x, o => o = some x ∧ lo ≤ b

/-- The world w carries the memory m; below the first world's blocks it is as that one was. -/
structure Sat (w0 w : World) (m : Mem) : Prop where
  below : Below w0.heap.size w0 w
  blk : ∀ b B, m b = some B → B.fits w0.heap.size b w.heap[b]?

def Mem.ins (m : Mem) (b : Nat) (B : Blk) : Mem := fun x => if x = b then some B else m x
def Mem.get (m : Mem) (a : Addr) : Option Value :=
  match a.spot, m a.block with
  | none, some (.cells _ _ _ cs) => cs[a.off]?
  | _, _ => none
/-- n cells from an address on. -/
def Mem.row (m : Mem) (a : Addr) (n : Nat) : Option (List Value) :=
  match a.spot, m a.block with
  | none, some (.cells _ _ _ cs) => if a.off + n ≤ cs.length then some ((cs.drop a.off).take n) else none
  | _, _ => none

@[simp] theorem Mem.ins_same (m : Mem) (b : Nat) (B : Blk) : m.ins b B b = some B := by simp [Mem.ins]
theorem Mem.ins_ne (m : Mem) {b x : Nat} (B : Blk) (h : x ≠ b) : m.ins b B x = m x := by simp [Mem.ins, h]

/-- What was known of blocks out of S, and of all that is written no more, is known still. -/
structure Ext (S : Nat → Prop) (m m' : Mem) : Prop where
  keep : ∀ b B, m b = some B → ¬ S b → m' b = some B
  fin : ∀ b B, m b = some B → B.isFin = true → m' b = some B
/-- Nothing that was known has turned. -/
abbrev Grows (m m' : Mem) : Prop := ∀ b B, m b = some B → m' b = some B
theorem Grows.refl (m : Mem) : Grows m m := fun _ _ h => h
theorem Grows.trans {a b c : Mem} (h : Grows a b) (k : Grows b c) : Grows a c := fun x B hx => k x B (h x B hx)
theorem Grows.ins (m : Mem) {b : Nat} (B : Blk) (h : m b = none) : Grows m (m.ins b B) := fun x C hx => by
  rw [Mem.ins_ne]; exact hx
  rintro rfl; rw [h] at hx; cases hx
theorem Ext.refl (S : Nat → Prop) (m : Mem) : Ext S m m := ⟨fun _ _ h _ => h, fun _ _ h _ => h⟩
theorem Ext.trans {S : Nat → Prop} {a b c : Mem} (h : Ext S a b) (k : Ext S b c) : Ext S a c :=
  ⟨fun x B hx hs => k.keep x B (h.keep x B hx hs) hs, fun x B hx hf => k.fin x B (h.fin x B hx hf) hf⟩
theorem Grows.ext {m m' : Mem} (h : Grows m m') (S : Nat → Prop) : Ext S m m' := ⟨fun b B hb _ => h b B hb, fun b B hb _ => h b B hb⟩
theorem Ext.mono {S T : Nat → Prop} {m m' : Mem} (h : Ext S m m') (hst : ∀ b, S b → T b) : Ext T m m' := ⟨fun b B hb ht => h.keep b B hb (fun hs => ht (hst b hs)), h.fin⟩

theorem Grows.get {m m' : Mem} (h : Grows m m') {a : Addr} {v : Value} (hg : m.get a = some v) : m'.get a = some v := by
  unfold Mem.get at *
  split at hg
  · rename_i hs hb; rw [hs, h _ _ hb]; exact hg
  · cases hg
theorem Grows.row {m m' : Mem} (h : Grows m m') {a : Addr} {n : Nat} {l : List Value} (hg : m.row a n = some l) : m'.row a n = some l := by
  unfold Mem.row at *
  split at hg
  · rename_i hs hb; rw [hs, h _ _ hb]; exact hg
  · cases hg

section world
variable {w0 w : World} {m : Mem}

theorem Sat.lt (h : Sat w0 w m) {b : Nat} {B : Blk} (hb : m b = some B) : b < w.heap.size := by
  have := h.blk b B hb
  rcases Nat.lt_or_ge b w.heap.size with hl | hl
  · exact hl
  · rw [Array.getElem?_eq_none hl] at this
    cases B with
    | cells ty n fin cs => obtain ⟨arr, fz, he, _⟩ := this; cases he
    | obj o => obtain ⟨he, _⟩ := this; cases he
theorem Sat.fresh (h : Sat w0 w m) : m w.heap.size = none := by
  cases hb : m w.heap.size with
  | none => rfl
  | some B => exact absurd (h.lt hb) (by omega)
theorem Sat.le (h : Sat w0 w m) : w0.heap.size ≤ w.heap.size := h.below.size

theorem Sat.get (h : Sat w0 w m) {a : Addr} {v : Value} (hg : m.get a = some v) : w.cell? a = some v := by
  unfold Mem.get at hg
  split at hg
  · rename_i ty n fin cs hs hb
    obtain ⟨arr, fz, he, _, _, hc, _⟩ := h.blk _ _ hb
    unfold World.cell?
    rw [he]
    simp only [hs, Option.isSome_none, Bool.false_eq_true, if_false]
    exact hc _ _ hg
  · cases hg

theorem Sat.drew (h : Sat w0 w m) : Sat w0 w.drew m := ⟨h.below.drew, h.blk⟩
theorem Sat.sub (h : Sat w0 w m) {m' : Mem} (hm : Grows m' m) : Sat w0 w m' := ⟨h.below, fun b B hb => h.blk b B (hm b B hb)⟩

theorem Sat.alloc (h : Sat w0 w m) (o : Obj) (B : Blk) (hB : B.fits w0.heap.size w.heap.size (some o)) : Sat w0 (w.alloc o) (m.ins w.heap.size B) := by
  refine ⟨h.below.alloc h.le o, fun b C hb => ?_⟩
  by_cases e : b = w.heap.size
  · subst e
    rw [Mem.ins_same] at hb; cases hb
    rw [show (w.alloc o).heap[w.heap.size]? = some o from by show (w.heap.push o)[w.heap.size]? = _; simp]; exact hB
  · rw [Mem.ins_ne _ _ e] at hb
    have := h.lt hb
    rw [Below.heap_alloc _ _ _ this]
    exact h.blk b C hb
theorem Sat.alloc' (h : Sat w0 w m) (o : Obj) : Sat w0 (w.alloc o) m := by
  refine ⟨h.below.alloc h.le o, fun b C hb => ?_⟩
  rw [Below.heap_alloc _ _ _ (h.lt hb)]
  exact h.blk b C hb

/-- A cell of a block that may be written. -/
theorem Sat.set (h : Sat w0 w m) {b i n : Nat} {ty : TypeId} {cs : List Value} (hb : m b = some (.cells ty n false cs)) (hi : i < n) (hi' : i ≤ cs.length) (v : Value) :
    Sat w0 (w.setCell ⟨b, i, none⟩ v) (m.ins b (.cells ty n false (cs.take i ++ v :: cs.drop (i + 1)))) := by
  obtain ⟨arr, fz, he, hn, hl, hc, hf⟩ := h.blk _ _ hb
  obtain ⟨rfl, hlo⟩ := hf rfl
  refine ⟨h.below.setCell hlo v, fun x C hx => ?_⟩
  by_cases e : x = b
  · subst e
    rw [Mem.ins_same] at hx; cases hx
    refine ⟨arr.setIfInBounds i v, (0, 0), ?_, by simpa using hn, ?_, ?_, fun _ => ⟨rfl, hlo⟩⟩
    · simp only [World.setCell, Array.getElem?_modify, if_true, he]
      simp
    · simp only [List.length_append, List.length_take, List.length_cons, List.length_drop]; omega
    · intro j u hj
      rw [List.getElem?_append] at hj
      rw [Array.getElem?_setIfInBounds]
      split at hj
      · rename_i hlt
        rw [List.length_take] at hlt
        rw [if_neg (by omega)]
        rw [List.getElem?_take_of_lt (by omega)] at hj
        exact hc _ _ hj
      · rename_i hge
        simp only [List.length_take] at hge hj
        rw [Nat.min_eq_left hi'] at hge hj
        rcases Nat.eq_or_lt_of_le (Nat.not_lt.mp hge) with rfl | hlt
        · simp at hj; subst hj; rw [if_pos rfl, if_pos (by omega)]
        · rw [if_neg (by omega)]
          obtain ⟨q, hq⟩ : ∃ q, j - i = q + 1 := ⟨j - i - 1, by omega⟩
          rw [hq, List.getElem?_cons_succ, List.getElem?_drop] at hj
          have : i + 1 + q = j := by omega
          rw [this] at hj
          exact hc _ _ hj
  · rw [Mem.ins_ne _ _ e] at hx
    rw [Below.heap_setCell _ _ _ _ (by exact e)]
    exact h.blk x C hx

/-- Nobody writes a block from now on. -/
theorem Sat.seal (h : Sat w0 w m) {b n : Nat} {ty : TypeId} {f : Bool} {cs : List Value} (hb : m b = some (.cells ty n f cs)) : Sat w0 w (m.ins b (.cells ty n true cs)) := by
  refine ⟨h.below, fun x C hx => ?_⟩
  by_cases e : x = b
  · subst e
    rw [Mem.ins_same] at hx; cases hx
    obtain ⟨arr, fz, he, hn, hl, hc, _⟩ := h.blk _ _ hb
    exact ⟨arr, fz, he, hn, hl, hc, fun hh => by cases hh⟩
  · rw [Mem.ins_ne _ _ e] at hx
    exact h.blk x C hx
end world

/-- All that a world holds, as it stands: none of it is written. -/
def snap (w : World) : Mem := fun b => match w.heap[b]? with
  | some (.cells c ty _) => some (.cells ty c.size true c.toList)
  | _ => none
theorem snap_sat (w : World) : Sat w w (snap w) := by
  refine ⟨Below.refl _ _, fun b B hb => ?_⟩
  unfold snap at hb
  split at hb
  · rename_i c ty fz he
    cases hb
    exact ⟨c, fz, he, rfl, by simp, fun i v hi => by simpa using hi, fun hh => by cases hh⟩
  · cases hb
end Go.Proofs.Ytaifmmeghninhaa.Mw
