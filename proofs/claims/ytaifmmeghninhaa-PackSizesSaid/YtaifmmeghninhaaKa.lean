/- A program's bytes: what is computed, and rows of bytes. No condition. -/
import Derived.Test.YtaifmmeghninhaaVb
import Derived.Test.YtaifmmeghninhaaDt
namespace Go.Proofs.Ytaifmmeghninhaa.Pf
open Go Go.RowKit Go.Proofs Go.Proofs.Ytaifmmeghninhaa.Mw Go.Proofs.Ytaifmmeghninhaa.Sx
set_option linter.unusedVariables false
set_option linter.unusedSimpArgs false
def u8 (x : Int) : UInt8 := UInt8.ofNat (x % 256).toNat
theorem u8_nat (x : Int) : ((u8 x).toNat : Int) = x % 256 := by
  unfold u8
  simp
  omega
def u8D (y : UInt8) : DV := .int .u8 y.toNat
theorem u8_eq (x : Int) : DV.int .u8 (x % 256) = u8D (u8 x) := by unfold u8D; rw [u8_nat]
def hasB (k : Int) : Bool := decide (k = 1) || decide (k = 2) || decide (k = 12) || decide (k = 13) || decide (k = 14)
def insB (x : Ins) : List UInt8 := u8 x.kind :: (if x.kind = 0 then [u8 (x.a % 4294967296), u8 (x.a % 4294967296 / 256), u8 (x.a % 4294967296 / 65536), u8 (x.a % 4294967296 / 16777216)] else if hasB x.kind then [u8 x.a] else [])
def fncB (f : Fnc) : List UInt8 := u8 f.args :: u8 f.locals :: u8 f.code.length :: f.code.flatMap insB
def putB (p : List Fnc) : List UInt8 := 84 :: 105 :: 107 :: u8 p.length :: p.flatMap fncB
def putR (p : List Fnc) : List UInt8 × Int := if packB p then (putB p, 0) else ([], 300)
def bstr (l : List UInt8) : ByteArray := ⟨l.toArray⟩
theorem insB_len (x : Ins) : (insB x).length ≤ 5 := by
  unfold insB; split
  · simp
  · split <;> simp
theorem inss_len (l : List Ins) : (l.flatMap insB).length ≤ 5 * l.length := by
  induction l with
  | nil => simp
  | cons x l ih => have := insB_len x; simp only [List.flatMap_cons, List.length_append, List.length_cons]; omega
theorem fncB_len {f : Fnc} (h : f.code.length ≤ 64) : (fncB f).length ≤ 323 := by
  have := inss_len f.code
  simp only [fncB, List.length_cons]; omega
theorem fncs_len {l : List Fnc} (h : ∀ f ∈ l, f.code.length ≤ 64) : (l.flatMap fncB).length ≤ 323 * l.length := by
  induction l with
  | nil => simp
  | cons x l ih =>
    have := fncB_len (h x (by simp))
    have := ih fun f hf => h f (by simp [hf])
    simp only [List.flatMap_cons, List.length_append, List.length_cons]; omega
theorem w32m (x : Int) : wrap32 x % 4294967296 = x % 4294967296 := by unfold wrap32; omega
theorem w64m (x : Int) : x % 18446744073709551616 % 4294967296 = x % 4294967296 := by omega
theorem sh8 (x : Int) : (x % 4294967296).fdiv (2 ^ min 8 IntKind.u32.bits) = x % 4294967296 / 256 := by
  have e : (2 ^ min 8 IntKind.u32.bits : Int) = 256 := by decide
  rw [e, Int.fdiv_eq_ediv_of_nonneg _ (by omega)]
theorem sh16 (x : Int) : (x % 4294967296).fdiv (2 ^ min 16 IntKind.u32.bits) = x % 4294967296 / 65536 := by
  have e : (2 ^ min 16 IntKind.u32.bits : Int) = 65536 := by decide
  rw [e, Int.fdiv_eq_ediv_of_nonneg _ (by omega)]
theorem sh24 (x : Int) : (x % 4294967296).fdiv (2 ^ min 24 IntKind.u32.bits) = x % 4294967296 / 16777216 := by
  have e : (2 ^ min 24 IntKind.u32.bits : Int) = 16777216 := by decide
  rw [e, Int.fdiv_eq_ediv_of_nonneg _ (by omega)]
/-- Bytes that have grown by append alone. -/
def OwnB (M : DMem) (d : DV) (bs : List UInt8) : Prop := OwnD M 1 d bs.length (bs.map u8D)
theorem plain_u8 (l : List UInt8) : (l.map u8D).all plainD = true := by
  induction l with
  | nil => rfl
  | cons x l ih => rw [List.map_cons, List.all_cons, ih]; rfl
theorem OwnB.app {M : DMem} {e : TypeId} {k : Nat} {d : DV} {bs ys : List UInt8} {Post : DV → DMem → Prop} {xs : List DV} (h : OwnB M d bs) (hx : xs = ys.map u8D) (hk : ys.length = k) (hb : bs.length + k ≤ 140737488355328)
    (hP : ∀ d' M', OwnB M' d' (bs ++ ys) → GrewD M M' d d' → Post d' M') :
    ∃ k' news, RowD M 1 (.isl k xs) k' news ∧ news.all plainD = true ∧ ∃ n', n' + k' ≤ 140737488355328 ∧ n' + k' ≤ 9223372036854775807 ∧ AppD M e 1 d n' k' news Post := by
  subst hx; subst hk
  have := app_isl h (by decide) (by simp) (plain_u8 ys) (e := e) (bytes := 1) (k := ys.length) (Post := Post) (by omega) (by omega) fun d' M' h1 h2 => hP d' M' (by unfold OwnB; rw [List.length_append, List.map_append]; exact h1) h2
  simpa only [Nat.mul_one] using this
theorem OwnB.cells {M : DMem} {d : DV} {bs : List UInt8} (h : OwnB M d bs) (h0 : 0 < bs.length) : ∃ b c ty, d = .msl b 0 bs.length c ∧ M b = some ⟨ty, c, bs.map fun y => .int .u8 y.toNat⟩ := by
  obtain ⟨_, ⟨_, h1⟩ | ⟨b, c, ty, h1, h2, _⟩⟩ := h
  · omega
  · exact ⟨b, c, ty, h1, by rw [h2, Nat.mul_one]; rfl⟩
theorem flat_take {α β : Type} (f : α → List β) (l : List α) {i : Nat} (h : i < l.length) : (l.take (i + 1)).flatMap f = (l.take i).flatMap f ++ f l[i] := by
  rw [List.take_succ_eq_append_getElem h, List.flatMap_append]; simp
end Go.Proofs.Ytaifmmeghninhaa.Pf
