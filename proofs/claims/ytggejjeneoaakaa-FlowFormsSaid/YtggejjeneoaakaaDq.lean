/- A queue: a slice that is read at its head and grows at its end. No condition. -/
import Derived.Test.YtggejjeneoaakaaDr
namespace Go.Proofs.Ytggejjeneoaakaa.Mw
open Go Go.RowKit
set_option linter.unusedVariables false
set_option linter.unusedSimpArgs false
def QueD (M : DMem) (d : DV) (q : List Int) : Prop :=
  (d = .zsl ∧ q = []) ∨ ∃ b o c N ty, ∃ pre : List DV, d = .msl b o q.length c ∧ M b = some ⟨ty, N, pre ++ q.map (.int .i64)⟩ ∧ pre.length = o ∧ o + c ≤ N ∧ q.length ≤ c ∧ 0 < c
theorem QueD.len {M : DMem} {d : DV} {q : List Int} (h : QueD M d q) : lenD d = some (.int .i64 q.length) := by
  obtain ⟨rfl, rfl⟩ | ⟨b, o, c, N, ty, pre, rfl, _⟩ := h <;> rfl
theorem QueD.plain {M : DMem} {d : DV} {q : List Int} (h : QueD M d q) : plainD d = true := by
  obtain ⟨rfl, rfl⟩ | ⟨b, o, c, N, ty, pre, rfl, _⟩ := h <;> rfl
theorem QueD.keep {M M' : DMem} {d : DV} {q : List Int} (h : QueD M d q) (hk : ∀ b, blkD d = some b → M' b = M b) : QueD M' d q := by
  obtain ⟨rfl, rfl⟩ | ⟨b, o, c, N, ty, pre, rfl, h1, h2, h3, h4, h5⟩ := h
  · exact .inl ⟨rfl, rfl⟩
  · exact .inr ⟨b, o, c, N, ty, pre, rfl, by rw [hk b (by simp only [blkD]; rw [if_neg (by omega)])]; exact h1, h2, h3, h4, h5⟩
theorem QueD.ins {M : DMem} {d : DV} {q : List Int} {b : Nat} (h : QueD M d q) (hb : blkD d ≠ some b) (B : DBlk) : QueD (M.ins b B) d q :=
  h.keep fun x hx => DMem.ins_ne _ _ (by rintro rfl; exact hb hx)
/-- Its head. -/
theorem QueD.head {M : DMem} {d : DV} {x : Int} {q : List Int} (h : QueD M d (x :: q)) (k : IntKind) : (ixD 1 d (.int k 0)).bind (ldD M) = some (.int .i64 x) := by
  obtain ⟨_, h⟩ | ⟨b, o, c, N, ty, pre, rfl, h1, h2, h3, h4, h5⟩ := h
  · cases h
  · rw [ixM0 (by simp)]
    simp only [Option.bind_some, ldM, h1]
    subst h2
    simp
/-- What is behind its head. -/
theorem QueD.tail {M : DMem} {d : DV} {x : Int} {q : List Int} (h : QueD M d (x :: q)) (k : IntKind) : ∃ d', slcD 1 d (.tup [.int k 1]) (.tup []) (.tup []) = some d' ∧ QueD M d' q ∧ (∀ p, blkD d ≠ some p → blkD d' ≠ some p) := by
  obtain ⟨_, h⟩ | ⟨b, o, c, N, ty, pre, rfl, h1, h2, h3, h4, h5⟩ := h
  · cases h
  · have e := @slcM_lo 1 b o (x :: q).length c 1 k (by simp) h4
    refine ⟨_, e, ?_, fun p hp => ?_⟩
    · by_cases hc : c = 1
      · rw [if_pos hc]
        refine .inl ⟨rfl, ?_⟩
        simp only [List.length_cons] at h4
        exact List.eq_nil_of_length_eq_zero (by omega)
      · rw [if_neg hc]
        simp only [List.length_cons] at h4
        exact .inr ⟨b, o + 1, c - 1, N, ty, pre ++ [.int .i64 x], rfl, by rw [h1]; simp, by simp [h2], by omega, by omega, by omega⟩
    · by_cases hc : c = 1
      · rw [if_pos hc]; simp [blkD]
      · rw [if_neg hc]
        simp only [blkD, Nat.one_ne_zero] at hp ⊢
        rw [if_neg (by omega)] at hp ⊢
        exact hp
theorem QueD.app {M : DMem} {d : DV} {q : List Int} {e : TypeId} {bytes : Nat} {ys : List Int} {Post : DV → DMem → Prop} (h : QueD M d q) (hb : (q.length + ys.length) * bytes ≤ 140737488355328) (hn : q.length + ys.length ≤ 9223372036854775807)
    (hP : ∀ d' M', QueD M' d' (q ++ ys) → GrewD M M' d d' → Post d' M') :
    ∃ k' news, RowD M 1 (slI ys) k' news ∧ news.all plainD = true ∧ ∃ n', (n' + k') * bytes ≤ 140737488355328 ∧ n' + k' ≤ 9223372036854775807 ∧ AppD M e 1 d n' k' news Post := by
  refine ⟨ys.length, ys.map (.int .i64), ⟨rfl, by decide, by simp, by rw [List.take_of_length_le (by simp)]⟩, by simp [plainD], q.length, hb, hn, ?_⟩
  obtain ⟨rfl, rfl⟩ | ⟨b, o, c, N, ty, pre, rfl, h1, h2, h3, h4, h5⟩ := h
  · refine ⟨rfl, fun hk => ?_, fun hk b c M' hM hc hM' => ?_⟩
    · have : ys = [] := List.eq_nil_of_length_eq_zero hk
      subst this
      exact hP _ _ (.inl ⟨rfl, rfl⟩) ⟨fun _ _ h _ => h, .inl rfl, fun _ h => .inl h⟩
    · subst hM'
      have hbk : blkD (.msl b 0 ys.length c) = some b := by simp only [blkD]; rw [if_neg (by omega)]
      refine hP _ _ (.inr ⟨b, 0, c, c * 1, e, [], by simp, by simp, rfl, by omega, by simpa using hc, by omega⟩) ⟨fun x B hx _ => (SubD.ins _ hM) x B hx, .inr ⟨b, hbk, hM⟩, fun x hx => ?_⟩
      by_cases hxb : x = b
      · subst hxb; exact .inr hbk
      · rw [DMem.ins_ne _ _ hxb] at hx; exact .inl hx
  · refine ⟨rfl, _, h1, by simp; omega, by simp only; omega, h4, fun hk M' hM' => ?_, fun hk b' c' M' hM hc hM' => ?_⟩
    · subst hM'
      have hs : splD (pre ++ q.map (DV.int .i64)) (o + q.length * 1) (ys.map (.int .i64)) = pre ++ (q ++ ys).map (.int .i64) := by
        unfold splD
        rw [List.take_of_length_le (by simp; omega), List.drop_eq_nil_of_le (by simp; omega), List.append_nil, List.map_append, List.append_assoc]
      simp only [hs]
      have hbk : ∀ n, blkD (.msl b o n c) = some b := fun n => by simp only [blkD]; rw [if_neg (by omega)]
      refine hP _ _ (.inr ⟨b, o, c, N, ty, pre, by simp, by rw [DMem.ins_same], h2, h3, by simpa using hk, h5⟩) ⟨fun x B hx hne => ?_, .inl (by rw [hbk, hbk]), fun x hx => ?_⟩
      · rw [DMem.ins_ne]; exact hx
        rintro rfl; exact hne (hbk _)
      · by_cases hxb : x = b
        · subst hxb; exact .inr (hbk _)
        · rw [DMem.ins_ne _ _ hxb] at hx; exact .inl hx
    · subst hM'
      have hs : ((pre ++ q.map (DV.int .i64)).drop o).take (q.length * 1) ++ ys.map (.int .i64) = (q ++ ys).map (.int .i64) := by
        rw [← h2, List.drop_left, List.take_of_length_le (by simp), List.map_append]
      simp only [hs]
      have hbk : blkD (.msl b' 0 (q.length + ys.length) c') = some b' := by simp only [blkD]; rw [if_neg (by omega)]
      refine hP _ _ (.inr ⟨b', 0, c', c' * 1, e, [], by simp, by simp, rfl, by omega, by simpa using hc, by omega⟩) ⟨fun x B hx _ => (SubD.ins _ hM) x B hx, .inr ⟨b', hbk, hM⟩, fun x hx => ?_⟩
      by_cases hxb : x = b'
      · subst hxb; exact .inr hbk
      · rw [DMem.ins_ne _ _ hxb] at hx; exact .inl hx
theorem isl_one (x : Int) : DV.isl 1 [.int .i64 x] = slI [x] := rfl
end Go.Proofs.Ytggejjeneoaakaa.Mw
