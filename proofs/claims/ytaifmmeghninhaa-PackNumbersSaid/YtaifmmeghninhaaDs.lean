/- Slices that are owned, with all that lies behind them. No condition. -/
import Derived.Test.YtaifmmeghninhaaDr
namespace Go.Proofs.Ytaifmmeghninhaa.Mw
open Go Go.RowKit
set_option linter.unusedVariables false
set_option linter.unusedSimpArgs false
/-- A kind of things: how many cells, how it reads when nobody writes it, how deep, and when cells are one, by blocks of its own. -/
structure El (α : Type) where
  sz : Nat
  c : α → List DV
  k : Nat
  rep : DMem → α → List DV → List Nat → Prop
structure El.Ok {α : Type} (E : El α) : Prop where
  pos : 0 < E.sz
  len : ∀ {M x cs S}, E.rep M x cs S → cs.length = E.sz
  clen : ∀ x, (E.c x).length = E.sz
  frame : ∀ {M M' x cs S}, E.rep M x cs S → (∀ b ∈ S, M' b = M b) → E.rep M' x cs S
  fz : ∀ {M x cs S k}, E.rep M x cs S → E.k ≤ k → cs.map (fz M k) = E.c x
  plain : ∀ {M x cs S}, E.rep M x cs S → cs.all plainD = true
  here : ∀ {M x cs S}, E.rep M x cs S → ∀ b ∈ S, M b ≠ none
variable {α : Type} {E : El α}
def RowAt (E : El α) (M : DMem) : List α → List DV → List Nat → Prop
  | [], cs, S => cs = [] ∧ S = []
  | x :: xs, cs, S => ∃ c1 c2 S1 S2, cs = c1 ++ c2 ∧ S = S1 ++ S2 ∧ E.rep M x c1 S1 ∧ RowAt E M xs c2 S2
theorem RowAt.len (hE : E.Ok) {M : DMem} : ∀ {xs : List α} {cs : List DV} {S : List Nat}, RowAt E M xs cs S → cs.length = xs.length * E.sz
  | [], cs, S, h => by rw [h.1]; simp
  | x :: xs, cs, S, ⟨c1, c2, S1, S2, e1, e2, h1, h2⟩ => by
    rw [e1, List.length_append, hE.len h1, RowAt.len hE h2, List.length_cons, Nat.add_mul]; omega
theorem RowAt.frame (hE : E.Ok) {M M' : DMem} : ∀ {xs : List α} {cs : List DV} {S : List Nat}, RowAt E M xs cs S → (∀ b ∈ S, M' b = M b) → RowAt E M' xs cs S
  | [], cs, S, h, _ => h
  | x :: xs, cs, S, ⟨c1, c2, S1, S2, e1, e2, h1, h2⟩, hk => ⟨c1, c2, S1, S2, e1, e2, hE.frame h1 fun b hb => hk b (by rw [e2]; exact List.mem_append_left _ hb), RowAt.frame hE h2 fun b hb => hk b (by rw [e2]; exact List.mem_append_right _ hb)⟩
theorem RowAt.fz (hE : E.Ok) {M : DMem} {k : Nat} (hk : E.k ≤ k) : ∀ {xs : List α} {cs : List DV} {S : List Nat}, RowAt E M xs cs S → cs.map (fz M k) = xs.flatMap E.c
  | [], cs, S, h => by rw [h.1]; rfl
  | x :: xs, cs, S, ⟨c1, c2, S1, S2, e1, e2, h1, h2⟩ => by
    rw [e1, List.map_append, hE.fz h1 hk, RowAt.fz hE hk h2]; rfl
theorem RowAt.plain (hE : E.Ok) {M : DMem} : ∀ {xs : List α} {cs : List DV} {S : List Nat}, RowAt E M xs cs S → cs.all plainD = true
  | [], cs, S, h => by rw [h.1]; rfl
  | x :: xs, cs, S, ⟨c1, c2, S1, S2, e1, e2, h1, h2⟩ => by
    rw [e1, List.all_append, hE.plain h1, RowAt.plain hE h2]; rfl
theorem RowAt.here (hE : E.Ok) {M : DMem} : ∀ {xs : List α} {cs : List DV} {S : List Nat}, RowAt E M xs cs S → ∀ b ∈ S, M b ≠ none
  | [], cs, S, h, b, hb => by rw [h.2] at hb; simp at hb
  | x :: xs, cs, S, ⟨c1, c2, S1, S2, e1, e2, h1, h2⟩, b, hb => by
    rw [e2] at hb
    rcases List.mem_append.1 hb with hb | hb
    · exact hE.here h1 b hb
    · exact RowAt.here hE h2 b hb
theorem RowAt.append {M : DMem} : ∀ {xs ys : List α} {cs ds : List DV} {S T : List Nat}, RowAt E M xs cs S → RowAt E M ys ds T → RowAt E M (xs ++ ys) (cs ++ ds) (S ++ T)
  | [], ys, cs, ds, S, T, h, h' => by rw [h.1, h.2]; simpa using h'
  | x :: xs, ys, cs, ds, S, T, ⟨c1, c2, S1, S2, e1, e2, h1, h2⟩, h' =>
    ⟨c1, c2 ++ ds, S1, S2 ++ T, by rw [e1, List.append_assoc], by rw [e2, List.append_assoc], h1, RowAt.append h2 h'⟩
theorem RowAt.nil {M : DMem} : RowAt E M [] [] [] := ⟨rfl, rfl⟩
theorem RowAt.one {M : DMem} {x : α} {cs : List DV} {S : List Nat} (h : E.rep M x cs S) : RowAt E M [x] cs S := ⟨cs, [], S, [], by simp, by simp, h, rfl, rfl⟩
/-- One of them, apart. -/
theorem RowAt.get (hE : E.Ok) {M : DMem} : ∀ {xs : List α} {cs : List DV} {S : List Nat} {i : Nat}, RowAt E M xs cs S → (hi : i < xs.length) →
    ∃ c1 cx c2 S1 Sx S2, cs = c1 ++ cx ++ c2 ∧ S = S1 ++ Sx ++ S2 ∧ c1.length = i * E.sz ∧ E.rep M xs[i] cx Sx ∧ RowAt E M (xs.take i) c1 S1 ∧ RowAt E M (xs.drop (i + 1)) c2 S2
  | [], _, _, _, _, hi => absurd hi (by simp)
  | x :: xs, cs, S, 0, ⟨c1, c2, S1, S2, e1, e2, h1, h2⟩, _ => ⟨[], c1, c2, [], S1, S2, by simpa using e1, by simpa using e2, by simp, h1, RowAt.nil, h2⟩
  | x :: xs, cs, S, i + 1, ⟨c1, c2, S1, S2, e1, e2, h1, h2⟩, hi => by
    obtain ⟨d1, dx, d2, T1, Tx, T2, f1, f2, f3, f4, f5, f6⟩ := RowAt.get hE (i := i) h2 (by simpa using hi)
    exact ⟨c1 ++ d1, dx, d2, S1 ++ T1, Tx, T2, by rw [e1, f1]; simp only [List.append_assoc], by rw [e2, f2]; simp only [List.append_assoc], by rw [List.length_append, f3, hE.len h1, Nat.add_mul]; omega, f4, ⟨c1, d1, S1, T1, rfl, rfl, h1, f5⟩, f6⟩
theorem RowAt.put {M : DMem} {xs : List α} {i : Nat} (hi : i < xs.length) {y : α} {c1 cy c2 : List DV} {S1 Sy S2 : List Nat} (h1 : RowAt E M (xs.take i) c1 S1) (hy : E.rep M y cy Sy) (h2 : RowAt E M (xs.drop (i + 1)) c2 S2) : RowAt E M (xs.set i y) (c1 ++ cy ++ c2) (S1 ++ Sy ++ S2) := by
  have e : xs.set i y = xs.take i ++ [y] ++ xs.drop (i + 1) := by rw [List.set_eq_take_append_cons_drop, if_pos hi]; simp
  rw [e]
  exact (h1.append (RowAt.one hy)).append h2
/-- A slice of them that has grown by append alone. -/
def SlAt (E : El α) (M : DMem) (d : DV) (xs : List α) (S : List Nat) : Prop :=
  (d = .zsl ∧ xs = [] ∧ S = []) ∨ ∃ b c ty cs S', d = .msl b 0 xs.length c ∧ M b = some ⟨ty, c * E.sz, cs⟩ ∧ RowAt E M xs cs S' ∧ S = b :: S' ∧ xs.length ≤ c ∧ 0 < c
theorem SlAt.nil {M : DMem} : SlAt E M .zsl [] [] := .inl ⟨rfl, rfl, rfl⟩
theorem SlAt.lenD {M : DMem} {d : DV} {xs : List α} {S : List Nat} (h : SlAt E M d xs S) : Mw.lenD d = some (.int .i64 xs.length) := by
  obtain ⟨rfl, rfl, _⟩ | ⟨b, c, ty, cs, S', rfl, _⟩ := h <;> rfl
theorem SlAt.lenN {M : DMem} {d : DV} {xs : List α} {S : List Nat} (h : SlAt E M d xs S) : Mw.lenN d = some xs.length := by
  obtain ⟨rfl, rfl, _⟩ | ⟨b, c, ty, cs, S', rfl, _⟩ := h <;> rfl
theorem SlAt.cell {M : DMem} {d : DV} {xs : List α} {S : List Nat} (h : SlAt E M d xs S) : cellsD d = some [d] := by
  obtain ⟨rfl, rfl, _⟩ | ⟨b, c, ty, cs, S', rfl, _⟩ := h <;> rfl
theorem SlAt.plain {M : DMem} {d : DV} {xs : List α} {S : List Nat} (h : SlAt E M d xs S) : plainD d = true := by
  obtain ⟨rfl, rfl, _⟩ | ⟨b, c, ty, cs, S', rfl, _⟩ := h <;> rfl
theorem SlAt.frame (hE : E.Ok) {M M' : DMem} {d : DV} {xs : List α} {S : List Nat} (h : SlAt E M d xs S) (hk : ∀ b ∈ S, M' b = M b) : SlAt E M' d xs S := by
  obtain ⟨h1, h2, h3⟩ | ⟨b, c, ty, cs, S', h1, h2, h3, h4, h5, h6⟩ := h
  · exact .inl ⟨h1, h2, h3⟩
  · refine .inr ⟨b, c, ty, cs, S', h1, by rw [hk b (by simp [h4])]; exact h2, h3.frame hE fun x hx => hk x (by simp [h4, hx]), h4, h5, h6⟩
theorem SlAt.fz (hE : E.Ok) {M : DMem} {d : DV} {xs : List α} {S : List Nat} (h : SlAt E M d xs S) {k : Nat} (hk : E.k ≤ k) : Mw.fz M (k + 1) d = slD E.c xs := by
  obtain ⟨rfl, rfl, _⟩ | ⟨b, c, ty, cs, S', rfl, h2, h3, h4, h5, h6⟩ := h
  · exact fz_zsl _ _
  · rw [fz_msl h2 k 0 _ _ h5, List.drop_zero, h3.fz hE hk]; rfl
theorem SlAt.here (hE : E.Ok) {M : DMem} {d : DV} {xs : List α} {S : List Nat} (h : SlAt E M d xs S) : ∀ b ∈ S, M b ≠ none := by
  obtain ⟨_, _, rfl⟩ | ⟨b, c, ty, cs, S', rfl, h2, h3, rfl, h5, h6⟩ := h
  · intro b hb; simp at hb
  · intro x hx
    rcases List.mem_cons.1 hx with rfl | hx
    · rw [h2]; simp
    · exact h3.here hE x hx
/-- Its cells. -/
theorem SlAt.at {M : DMem} {d : DV} {xs : List α} {S : List Nat} (h : SlAt E M d xs S) (h0 : 0 < xs.length) : ∃ b c ty cs S', d = .msl b 0 xs.length c ∧ M b = some ⟨ty, c * E.sz, cs⟩ ∧ RowAt E M xs cs S' ∧ S = b :: S' ∧ xs.length ≤ c := by
  obtain ⟨_, rfl, _⟩ | ⟨b, c, ty, cs, S', h1, h2, h3, h4, h5, h6⟩ := h
  · simp at h0
  · exact ⟨b, c, ty, cs, S', h1, h2, h3, h4, h5⟩
/-- As OwnD. -/
theorem SlAt.own (hE : E.Ok) {M : DMem} {d : DV} {xs : List α} {S : List Nat} (h : SlAt E M d xs S) : ∃ cs S', OwnD M E.sz d xs.length cs ∧ RowAt E M xs cs S' ∧ ((blkD d = none ∧ S = S') ∨ ∃ b, blkD d = some b ∧ S = b :: S') := by
  obtain ⟨rfl, rfl, rfl⟩ | ⟨b, c, ty, cs, S', rfl, h2, h3, h4, h5, h6⟩ := h
  · exact ⟨[], [], OwnD.zsl _ _, RowAt.nil, .inl ⟨rfl, rfl⟩⟩
  · exact ⟨cs, S', ⟨h3.len hE, .inr ⟨b, c, ty, rfl, h2, h5, h6⟩⟩, h3, .inr ⟨b, by simp only [blkD]; rw [if_neg (by omega)], h4⟩⟩
/-- Some more, behind. What was known of other blocks stays. -/
theorem SlAt.app (hE : E.Ok) {M : DMem} {d : DV} {xs ys : List α} {S T : List Nat} {e : TypeId} {bytes k : Nat} {ds : List DV} {Post : DV → DMem → Prop} (h : SlAt E M d xs S) (hS : S.Nodup)
    (hy : RowAt E M ys ds T) (hT : ∀ b ∈ T, b ∉ S) (hk : ys.length = k) (hb : (xs.length + k) * bytes ≤ 140737488355328) (hn : xs.length + k ≤ 9223372036854775807)
    (hP : ∀ d' M' S', SlAt E M' d' (xs ++ ys) S' → (∀ b B, M b = some B → b ∉ S → M' b = some B) → (∀ b ∈ S', b ∈ S ∨ b ∈ T ∨ M b = none) → (T.Nodup → S'.Nodup) → Post d' M') :
    ∃ k' news, RowD M E.sz (.isl k ds) k' news ∧ news.all plainD = true ∧ ∃ n', (n' + k') * bytes ≤ 140737488355328 ∧ n' + k' ≤ 9223372036854775807 ∧ AppD M e E.sz d n' k' news Post := by
  obtain ⟨cs, S0, ho, hr, hbl⟩ := h.own hE
  have hyl := hy.len hE
  rw [hk] at hyl
  refine app_isl ho hE.pos hyl (hy.plain hE) hb hn fun d' M' ho' hg => ?_
  have hS0 : ∀ b ∈ S0, b ∈ S ∧ blkD d ≠ some b := by
    rcases hbl with ⟨e1, e2⟩ | ⟨b0, e1, e2⟩
    · intro b hb; exact ⟨by rw [e2]; exact hb, by rw [e1]; simp⟩
    · intro b hb
      refine ⟨by rw [e2]; exact List.mem_cons_of_mem _ hb, fun hh => ?_⟩
      rw [e1] at hh; cases hh
      rw [e2] at hS
      exact (List.nodup_cons.1 hS).1 hb
  have hTb : ∀ b ∈ T, blkD d ≠ some b := fun b hb hh => by
    rcases hbl with ⟨e1, e2⟩ | ⟨b0, e1, e2⟩
    · rw [e1] at hh; cases hh
    · rw [e1] at hh; cases hh
      exact hT b hb (by rw [e2]; simp)
  have keepS : ∀ b ∈ S0, M' b = M b := fun b hb => by
    obtain ⟨B, hB⟩ := Option.ne_none_iff_exists'.1 (hr.here hE b hb)
    rw [hB]; exact hg.keep b B hB (hS0 b hb).2
  have keepT : ∀ b ∈ T, M' b = M b := fun b hb => by
    obtain ⟨B, hB⟩ := Option.ne_none_iff_exists'.1 (hy.here hE b hb)
    rw [hB]; exact hg.keep b B hB (hTb b hb)
  have hrow := (hr.frame hE keepS).append (hy.frame hE keepT)
  have hkeep : ∀ b B, M b = some B → b ∉ S → M' b = some B := fun b B hB hb => hg.keep b B hB fun hh => by
    rcases hbl with ⟨e1, e2⟩ | ⟨b0, e1, e2⟩
    · rw [e1] at hh; cases hh
    · rw [e1] at hh; cases hh
      exact hb (by rw [e2]; simp)
  have hndS0 : S0.Nodup := by
    rcases hbl with ⟨_, e2⟩ | ⟨b0, _, e2⟩
    · rw [e2] at hS; exact hS
    · rw [e2] at hS; exact (List.nodup_cons.1 hS).2
  have hnd : T.Nodup → (S0 ++ T).Nodup := fun ht => List.nodup_append.2 ⟨hndS0, ht, fun a ha b hb => by
    rintro rfl; exact hT a hb (hS0 a ha).1⟩
  obtain ⟨hcl, ⟨rfl, hz⟩ | ⟨b', c', ty', rfl, hM', hle, hpos⟩⟩ := ho'
  · have h0 : xs.length = 0 ∧ k = 0 := by omega
    have ex : xs = [] := List.eq_nil_of_length_eq_zero h0.1
    have ey : ys = [] := List.eq_nil_of_length_eq_zero (by omega)
    subst ex; subst ey
    exact hP _ _ [] (.inl ⟨rfl, rfl, rfl⟩) hkeep (fun b hb => by simp at hb) (fun _ => List.nodup_nil)
  · have hbk : blkD (.msl b' 0 (xs.length + k) c') = some b' := by simp only [blkD]; rw [if_neg (by omega)]
    have hb' : b' ∉ S0 ++ T ∧ (b' ∈ S ∨ M b' = none) := by
      rcases hg.here with e | ⟨q, e, hq⟩
      · rw [hbk] at e
        refine ⟨fun hh => ?_, .inl ?_⟩
        · rcases List.mem_append.1 hh with hh | hh
          · exact (hS0 b' hh).2 e.symm
          · exact hTb b' hh e.symm
        · rcases hbl with ⟨e1, _⟩ | ⟨b0, e1, e2⟩
          · rw [e1] at e; cases e
          · rw [e1] at e; cases e; rw [e2]; simp
      · rw [hbk] at e; cases e
        refine ⟨fun hh => ?_, .inr hq⟩
        rcases List.mem_append.1 hh with hh | hh
        · exact hr.here hE b' hh hq
        · exact hy.here hE b' hh hq
    refine hP _ _ (b' :: (S0 ++ T)) (.inr ⟨b', c', ty', cs ++ ds, S0 ++ T, by rw [List.length_append, hk], hM', hrow, rfl, by rw [List.length_append, hk]; exact hle, hpos⟩) hkeep (fun b hb => ?_) (fun ht => List.nodup_cons.2 ⟨hb'.1, hnd ht⟩)
    rcases List.mem_cons.1 hb with rfl | hb
    · rcases hb'.2 with h | h
      · exact .inl h
      · exact .inr (.inr h)
    · rcases List.mem_append.1 hb with hb | hb
      · exact .inl (hS0 b hb).1
      · exact .inr (.inl hb)
/-! ### Kinds -/
def intE : El Int := ⟨1, fun x => [.int .i64 x], 0, fun _ x cs S => cs = [.int .i64 x] ∧ S = []⟩
theorem intE_ok : intE.Ok where
  pos := by decide
  len := by rintro M x cs S ⟨rfl, rfl⟩; rfl
  clen := fun x => rfl
  frame := fun h _ => h
  fz := by rintro M x cs S k ⟨rfl, rfl⟩ _; simp only [List.map_cons, List.map_nil, fz_int]; rfl
  plain := by rintro M x cs S ⟨rfl, rfl⟩; rfl
  here := by rintro M x cs S ⟨rfl, rfl⟩ b hb; simp at hb
/-- Flat structs. -/
def flatE (c : α → List DV) (sz : Nat) : El α := ⟨sz, c, 0, fun _ x cs S => cs = c x ∧ S = []⟩
theorem flatE_ok {c : α → List DV} {sz : Nat} (h0 : 0 < sz) (hl : ∀ x, (c x).length = sz) (hf : ∀ x, FrozL (c x)) (hp : ∀ x, (c x).all plainD = true) : (flatE c sz).Ok where
  pos := h0
  len := by rintro M x cs S ⟨rfl, rfl⟩; exact hl x
  clen := hl
  frame := fun h _ => h
  fz := by rintro M x cs S k ⟨rfl, rfl⟩ _; exact fzmap_froz (hf x) M k
  plain := by rintro M x cs S ⟨rfl, rfl⟩; exact hp x
  here := by rintro M x cs S ⟨rfl, rfl⟩ b hb; simp at hb
theorem RowAt.flat {c : α → List DV} {sz : Nat} {M : DMem} : ∀ {xs : List α}, RowAt (flatE c sz) M xs (xs.flatMap c) []
  | [] => ⟨rfl, rfl⟩
  | x :: xs => ⟨c x, xs.flatMap c, [], [], rfl, rfl, ⟨rfl, rfl⟩, RowAt.flat⟩
theorem RowAt.ints {M : DMem} {xs : List Int} : RowAt intE M xs (xs.map (.int .i64)) [] := by
  induction xs with
  | nil => exact ⟨rfl, rfl⟩
  | cons x xs ih => exact ⟨[.int .i64 x], xs.map (.int .i64), [], [], rfl, rfl, ⟨rfl, rfl⟩, ih⟩
theorem RowAt.ints_eq {M : DMem} : ∀ {xs : List Int} {cs : List DV} {S : List Nat}, RowAt intE M xs cs S → cs = xs.map (.int .i64) ∧ S = []
  | [], cs, S, h => h
  | x :: xs, cs, S, ⟨c1, c2, S1, S2, e1, e2, ⟨h1, h2⟩, h3⟩ => by
    obtain ⟨g1, g2⟩ := RowAt.ints_eq h3
    subst h1; subst h2; subst g1; subst g2
    exact ⟨e1, by simpa using e2⟩
theorem RowAt.flat_eq {c : α → List DV} {sz : Nat} {M : DMem} : ∀ {xs : List α} {cs : List DV} {S : List Nat}, RowAt (flatE c sz) M xs cs S → cs = xs.flatMap c ∧ S = []
  | [], cs, S, h => h
  | x :: xs, cs, S, ⟨c1, c2, S1, S2, e1, e2, ⟨h1, h2⟩, h3⟩ => by
    obtain ⟨g1, g2⟩ := RowAt.flat_eq h3
    subst h1; subst h2; subst g1; subst g2
    exact ⟨e1, by simpa using e2⟩
/-! ### One of them, in its place -/
theorem splD_one {l : List DV} {i : Nat} {v : DV} (h : i < l.length) : splD l i [v] = l.set i v := by
  unfold splD
  rw [List.set_eq_take_append_cons_drop, if_pos h]
  simp
theorem splD_field {c1 cx c2 : List DV} {o off : Nat} {v : DV} (h : c1.length = o) (hf : off < cx.length) : splD (c1 ++ cx ++ c2) (o + off) [v] = c1 ++ cx.set off v ++ c2 := by
  subst h
  rw [splD_one (by simp only [List.length_append]; omega), List.append_assoc, List.set_append_right _ _ (by omega), Nat.add_sub_cancel_left, List.set_append_left _ _ hf, List.append_assoc]
theorem get_field {c1 cx c2 : List DV} {o off : Nat} (h : c1.length = o) (hf : off < cx.length) : (c1 ++ cx ++ c2)[o + off]? = cx[off]? := by
  subst h
  rw [List.append_assoc, List.getElem?_append_right (by omega), Nat.add_sub_cancel_left, List.getElem?_append_left hf]
theorem take_field {c1 cx c2 : List DV} {o sz : Nat} (h : c1.length = o) (hs : cx.length = sz) : ((c1 ++ cx ++ c2).drop o).take sz = cx := by
  subst h; subst hs
  rw [List.append_assoc, List.drop_left, List.take_left]
theorem SlAt.inner (hE : E.Ok) {M : DMem} {d : DV} {xs : List α} {S : List Nat} (h : SlAt E M d xs S) (hS : S.Nodup) {i : Nat} (hi : i < xs.length) :
    ∃ b c ty c1 cx c2 S1 Sx S2, d = .msl b 0 xs.length c ∧ M b = some ⟨ty, c * E.sz, c1 ++ cx ++ c2⟩ ∧ c1.length = i * E.sz ∧ cx.length = E.sz ∧ E.rep M xs[i] cx Sx ∧ S = b :: (S1 ++ Sx ++ S2) ∧ xs.length ≤ c ∧
      (∀ M' y, E.rep M' y cx Sx → (∀ x ∈ S, x ∉ Sx → M' x = M x) → SlAt E M' d (xs.set i y) S) ∧
      (∀ M' y cy, E.rep M y cy Sx → M' = M.ins b ⟨ty, c * E.sz, c1 ++ cy ++ c2⟩ → SlAt E M' d (xs.set i y) S) := by
  obtain ⟨b, c, ty, cs, S', rfl, hM, hr, rfl, hc⟩ := h.at (by omega)
  obtain ⟨c1, cx, c2, S1, Sx, S2, rfl, rfl, hl, hx, h1, h2⟩ := hr.get hE hi
  obtain ⟨hb, hnd⟩ := List.nodup_cons.1 hS
  obtain ⟨hnd1, hnd2, hdis⟩ := List.nodup_append.1 hnd
  obtain ⟨hnd3, hnd4, hdis2⟩ := List.nodup_append.1 hnd1
  have d1 : ∀ x ∈ S1, x ∉ Sx := fun x hx hh => hdis2 x hx x hh rfl
  have d2 : ∀ x ∈ S2, x ∉ Sx := fun x hx hh => hdis x (List.mem_append_right _ hh) x hx rfl
  have hbx : b ∉ Sx := fun hh => hb (List.mem_append_left _ (List.mem_append_right _ hh))
  refine ⟨b, c, ty, c1, cx, c2, S1, Sx, S2, rfl, hM, hl, hE.len hx, hx, rfl, hc, fun M' y hy hk => ?_, fun M' y cy hy hM' => ?_⟩
  · have k1 : RowAt E M' (xs.take i) c1 S1 := h1.frame hE fun x hx => hk x (by simp [hx]) (d1 x hx)
    have k2 : RowAt E M' (xs.drop (i + 1)) c2 S2 := h2.frame hE fun x hx => hk x (by simp [hx]) (d2 x hx)
    exact .inr ⟨b, c, ty, _, _, by rw [List.length_set], by rw [hk b (by simp) hbx]; exact hM, RowAt.put hi k1 hy k2, rfl, by rw [List.length_set]; exact hc, by omega⟩
  · have ne : ∀ x ∈ S1 ++ Sx ++ S2, M' x = M x := fun x hx => by rw [hM', DMem.ins_ne _ _ (by rintro rfl; exact hb hx)]
    have k1 : RowAt E M' (xs.take i) c1 S1 := h1.frame hE fun x hx => ne x (List.mem_append_left _ (List.mem_append_left _ hx))
    have k2 : RowAt E M' (xs.drop (i + 1)) c2 S2 := h2.frame hE fun x hx => ne x (List.mem_append_right _ hx)
    have ky : E.rep M' y cy Sx := hE.frame hy fun x hx => ne x (List.mem_append_left _ (List.mem_append_right _ hx))
    exact .inr ⟨b, c, ty, _, _, by rw [List.length_set], by rw [hM', DMem.ins_same], RowAt.put hi k1 ky k2, rfl, by rw [List.length_set]; exact hc, by omega⟩
/-- What is new, where there was something already. -/
theorem SlAt.or (hE : E.Ok) {M M2 : DMem} {d : DV} {xs : List α} {S : List Nat} (h : SlAt E M2 d xs S) (hd : ∀ b, M b ≠ none → M2 b = none) : SlAt E (M.or M2) d xs S ∧ ∀ b ∈ S, M b = none := by
  have hn : ∀ b ∈ S, M b = none := fun b hb => by
    cases hM : M b with
    | none => rfl
    | some C => exact absurd (hd b (by rw [hM]; simp)) (h.here hE b hb)
  exact ⟨h.frame hE fun b hb => DMem.or_right (hn b hb), hn⟩
theorem SlAt.sub (hE : E.Ok) {M M' : DMem} {d : DV} {xs : List α} {S : List Nat} (h : SlAt E M d xs S) (hs : SubD M M') : SlAt E M' d xs S :=
  h.frame hE fun b hb => by
    obtain ⟨B, hB⟩ := Option.ne_none_iff_exists'.1 (h.here hE b hb)
    rw [hs b B hB, hB]
end Go.Proofs.Ytaifmmeghninhaa.Mw
