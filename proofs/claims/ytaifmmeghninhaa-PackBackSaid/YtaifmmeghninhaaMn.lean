/- Statements made smaller: conditions that are told by branches become expressions. No condition. -/
import Derived.Test.YtaifmmeghninhaaMj
namespace Go.Proofs.Ytaifmmeghninhaa.Mw
open Go Go.RowKit
set_option linter.unusedVariables false
set_option linter.unusedSimpArgs false
theorem Eff.wp_mono {P : Program} : ∀ (e : Eff) (ρ : Env) (K K' : Value → Mem → Prop) (m : Mem), (∀ v m, K v m → K' v m) → wpE P e ρ K m → wpE P e ρ K' m
  | .box ty x, ρ, K, K', m, hK, ⟨fin, h⟩ => ⟨fin, fun b m' h1 h2 => hK _ _ (h b m' h1 h2)⟩
  | .alloc ty x, ρ, K, K', m, hK, h => fun b m' h1 h2 => hK _ _ (h b m' h1 h2)
  | .store k x y, ρ, K, K', m, hK, ⟨b, i, n, ty, cs, h1, h2, h3, h4, h5, h6, h7⟩ => ⟨b, i, n, ty, cs, h1, h2, h3, h4, h5, h6, fun m' hm => hK _ _ (h7 m' hm)⟩
  | .bslice e sz zs len parts, ρ, K, K', m, hK, ⟨l, h1, fin, h2⟩ => ⟨l, h1, fin, fun b m' h3 h4 => hK _ _ (h2 b m' h3 h4)⟩
  | .make e sz bytes z x y, ρ, K, K', m, hK, ⟨kl, kc, l, c, h1, h2, h3, h4, h5, h6, h7⟩ => ⟨kl, kc, l, c, h1, h2, h3, h4, h5, h6, fun b m' h8 h9 => hK _ _ (h7 b m' h8 h9)⟩
  | .app e sz bytes x y, ρ, K, K', m, hK, ⟨n, k, news, h1, h2, h3, h4, h5⟩ => ⟨n, k, news, h1, h2, h3, h4, h5.mono hK⟩
  | .call f args, ρ, K, K', m, hK, h => MC.mono h hK
  | .callv q args, ρ, K, K', m, hK, ⟨f, a, b, h1, h2⟩ => ⟨f, a, b, h1, MC.mono h2 hK⟩
  | .var ty k y, ρ, K, K', m, hK, ⟨h1, h2, fin, h3⟩ => ⟨h1, h2, fin, fun b m' h4 h5 => hK _ _ (h3 b m' h4 h5)⟩
  | .clr sz z x, ρ, K, K', m, hK, ⟨a, n, c, h1, h2⟩ => ⟨a, n, c, h1, h2.imp (fun ⟨h3, h4⟩ => ⟨h3, hK _ _ h4⟩) fun ⟨b, i, N, ty, cs, h3, h4, h5, h6, h7, h8⟩ => ⟨b, i, N, ty, cs, h3, h4, h5, h6, h7, fun m' hm => hK _ _ (h8 m' hm)⟩⟩
  | .cpy sz x y, ρ, K, K', m, hK, ⟨a, n, c, a', n', c', h1, h1', h2⟩ => ⟨a, n, c, a', n', c', h1, h1', h2.imp (fun ⟨h3, h4⟩ => ⟨h3, hK _ _ h4⟩) fun ⟨b, i, N, ty, cs, ad, news, h3, h4, h5, h6, h7, h8, h9, h10⟩ => ⟨b, i, N, ty, cs, ad, news, h3, h4, h5, h6, h7, h8, h9, fun m' hm => hK _ _ (h10 m' hm)⟩⟩
theorem EffM.mono {P : Program} {o : Oper} {ρ : Env} {K K' : Value → Mem → Prop} {m : Mem} (hK : ∀ v m, K v m → K' v m) (h : EffM P o ρ K m) : EffM P o ρ K' m :=
  fun w0 w a h1 h2 => Oper.wp_mono2 (fun a w ⟨v, m', e, s, k⟩ => ⟨v, m', e, s, hK _ _ k⟩) (h w0 w a h1 h2)
section
variable {P : Program} {sp : Spec} {G : Nat → Bool} {N : Nat}
theorem St.wp_mono : ∀ (s : St) {K K' : Env → Mem → Prop} {X X' : Nat → Env → Mem → Prop} {R R' : Env → Mem → Prop} {ρ : Env} {m : Mem},
    (∀ ρ m, K ρ m → K' ρ m) → (∀ i ρ m, X i ρ m → X' i ρ m) → (∀ ρ m, R ρ m → R' ρ m) → wpS P sp G N s K X R ρ m → wpS P sp G N s K' X' R' ρ m := by
  intro s
  induction s with
  | nop => intro K K' X X' R R' ρ m hK hX hR h; exact hK _ _ h
  | sets outs must => intro K K' X X' R R' ρ m hK hX hR h hi; obtain ⟨h1, l, h2, h3⟩ := h hi; exact ⟨h1, l, h2, hK _ _ h3⟩
  | act d e => intro K K' X X' R R' ρ m hK hX hR h; exact Eff.wp_mono e _ _ _ _ (fun v m h => hK _ _ h) h
  | eff o => intro K K' X X' R R' ρ m hK hX hR h; exact EffM.mono (fun v m h => hK _ _ h) h
  | seq a b iha ihb => intro K K' X X' R R' ρ m hK hX hR h; exact iha (fun ρ m h => ihb hK hX hR h) hX hR h
  | ite c a b iha ihb => intro K K' X X' R R' ρ m hK hX hR h hi; obtain ⟨t, h1, h2, h3⟩ := h hi; exact ⟨t, h1, fun e => iha hK hX hR (h2 e), fun e => ihb hK hX hR (h3 e)⟩
  | block id a ih => intro K K' X X' R R' ρ m hK hX hR h; refine ih hK (fun i ρ m h => ?_) hR h; split <;> simp_all
  | loop a ih => intro K K' X X' R R' ρ m hK hX hR ⟨I, n, h0, h⟩; exact ⟨I, n, h0, fun k ρ' m' hk => ih (fun _ _ h => h) hX hR (h k ρ' m' hk)⟩
  | exit id => intro K K' X X' R R' ρ m hK hX hR h; exact hX _ _ _ h
  | ret => intro K K' X X' R R' ρ m hK hX hR h; exact hR _ _ h
  | raw c => intro K K' X X' R R' ρ m hK hX hR h a ha; exact MW.lift_mono (h a ha) hK hX hR

/-- Does an expression name a slot? -/
def uses (t : Nat) : Ex → Bool
  | .s i => i == t
  | .k _ | .nl => false
  | .bin _ a b | .eqs _ _ a b | .eqn _ a b | .eqz _ a b | .eqb _ a b | .and a b | .or a b | .grd a _ b | .ix _ a b | .sidx a b | .cs a b | .mkf _ a b => uses t a || uses t b
  | .un _ a | .cvt _ a | .ld a | .ldn _ a | .fa _ a | .nck a | .len a | .slen a | .fld _ a | .fldn _ _ a | .ext _ a | .ifc _ a | .bld _ _ a | .call _ a => uses t a
  | .pick a b c | .sslc a b c => uses t a || uses t b || uses t c
  | .slc _ a b c d => uses t a || uses t b || uses t c || uses t d
theorem uses_ev {t : Nat} {m : Mem} {ρ : Env} {v : Value} : ∀ {e : Ex}, uses t e = false → ev sp m (ρ.upd t v) e = ev sp m ρ e := by
  intro e
  induction e <;> intro h <;> simp_all [uses, ev, Env.upd]
def mkIte (c : Ex) (a b : St) : St :=
  match c, a, b with
  | .s t, .nop, .sets [(u, e)] [] => if t = u then .sets [(t, .or (.s t) e)] [] else .ite (.s t) .nop (.sets [(u, e)] [])
  | .s t, .sets [(u, e)] [], .nop => if t = u then .sets [(t, .and (.s t) e)] [] else .ite (.s t) (.sets [(u, e)] []) .nop
  | c, a, b => .ite c a b
/-- Two sets of one slot: the second goes on from the first. -/
def fuse (t : Nat) (e : Ex) (u : Nat) (e2 : Ex) : Option Ex :=
  if t = u then
    match e2 with
    | .or (.s j) r => if j = t ∧ uses t r = false then some (.or e r) else none
    | .and (.s j) r => if j = t ∧ uses t r = false then some (.and e r) else none
    | _ => none
  else none
def mkSeq1 (a b : St) : St :=
  match a, b with
  | .nop, b => b
  | .sets [] [], b => b
  | a, .nop => a
  | .sets [(t, e)] [], .sets [(u, e2)] [] => match fuse t e u e2 with
    | some e' => .sets [(t, e')] []
    | none => .seq (.sets [(t, e)] []) (.sets [(u, e2)] [])
  | .sets [(t, e)] [], .seq (.sets [(u, e2)] []) r => match fuse t e u e2 with
    | some e' => .seq (.sets [(t, e')] []) r
    | none => .seq (.sets [(t, e)] []) (.seq (.sets [(u, e2)] []) r)
  | a, b => .seq a b
def mkSeq : St → St → St
  | .seq x y, b => mkSeq x (mkSeq y b)
  | a, b => mkSeq1 a b
def opt : St → St
  | .seq a b => mkSeq (opt a) (opt b)
  | .ite c a b => mkIte c (opt a) (opt b)
  | .block i a => .block i (opt a)
  | .loop a => .loop (opt a)
  | s => s
theorem upd_self (ρ : Env) (t : Nat) : ρ.upd t (ρ t) = ρ := by funext j; unfold Env.upd; split <;> simp_all
theorem upd_upd (ρ : Env) (t : Nat) (u v : Value) : (ρ.upd t u).upd t v = ρ.upd t v := by funext j; unfold Env.upd; split <;> rfl
variable {K : Env → Mem → Prop} {X : Nat → Env → Mem → Prop} {R : Env → Mem → Prop} {ρ : Env} {m : Mem}
theorem sets1 {t : Nat} {e : Ex} : wpS P sp G N (.sets [(t, e)] []) K X R ρ m ↔ (Inh m → ∃ v, ev sp m ρ e = some v ∧ K (ρ.upd t v) m) := by
  simp only [wpS, evM, true_and, evL]
  refine ⟨fun h hi => ?_, fun h hi => ?_⟩
  · obtain ⟨l, h1, h2⟩ := h hi
    simp only [Option.map_some, Option.bind_eq_some_iff, Option.some.injEq] at h1
    obtain ⟨v, h3, rfl⟩ := h1
    exact ⟨v, h3, h2⟩
  · obtain ⟨v, h1, h2⟩ := h hi
    exact ⟨[(t, v)], by simp [h1], h2⟩
theorem mkIte_sound {c : Ex} {a b : St} (h : wpS P sp G N (mkIte c a b) K X R ρ m) : wpS P sp G N (.ite c a b) K X R ρ m := by
  unfold mkIte at h
  split at h
  · rename_i t u e
    split at h
    · rename_i htu
      subst htu
      intro hi
      obtain ⟨v, h1, h2⟩ := sets1.1 h hi
      simp only [ev, Option.bind_some] at h1
      cases hb : ρ t <;> rw [hb] at h1 <;> simp only [orK] at h1 <;> try (cases h1; done)
      rename_i x
      refine ⟨x, by simp [ev, hb], fun hx => ?_, fun hx => ?_⟩
      · subst hx
        simp only [if_true, Option.some.injEq] at h1
        subst h1
        rw [← hb, upd_self] at h2
        exact h2
      · subst hx
        simp only [Bool.false_eq_true, if_false] at h1
        exact sets1.2 fun _ => ⟨v, h1, h2⟩
    · exact h
  · rename_i t u e
    split at h
    · rename_i htu
      subst htu
      intro hi
      obtain ⟨v, h1, h2⟩ := sets1.1 h hi
      simp only [ev, Option.bind_some] at h1
      cases hb : ρ t <;> rw [hb] at h1 <;> simp only [andK] at h1 <;> try (cases h1; done)
      rename_i x
      refine ⟨x, by simp [ev, hb], fun hx => ?_, fun hx => ?_⟩
      · subst hx
        simp only [if_true] at h1
        exact sets1.2 fun _ => ⟨v, h1, h2⟩
      · subst hx
        simp only [Bool.false_eq_true, if_false, Option.some.injEq] at h1
        subst h1
        rw [← hb, upd_self] at h2
        exact h2
    · exact h
  · exact h
theorem fuse_sound {t u : Nat} {e e2 e' : Ex} (hf : fuse t e u e2 = some e') {v : Value} (h : ev sp m ρ e' = some v) : ∃ w, ev sp m ρ e = some w ∧ t = u ∧ ev sp m (ρ.upd t w) e2 = some v := by
  unfold fuse at hf
  split at hf
  · rename_i htu
    subst htu
    split at hf <;> try (cases hf; done)
    · rename_i j r
      split at hf <;> try (cases hf; done)
      rename_i hj
      obtain ⟨rfl, hu⟩ := hj
      cases hf
      simp only [ev, Option.bind_eq_some_iff] at h
      obtain ⟨w, h1, h2⟩ := h
      refine ⟨w, h1, rfl, ?_⟩
      simp only [ev, Option.bind_some, uses_ev hu]
      simpa [Env.upd] using h2
    · rename_i j r
      split at hf <;> try (cases hf; done)
      rename_i hj
      obtain ⟨rfl, hu⟩ := hj
      cases hf
      simp only [ev, Option.bind_eq_some_iff] at h
      obtain ⟨w, h1, h2⟩ := h
      refine ⟨w, h1, rfl, ?_⟩
      simp only [ev, Option.bind_some, uses_ev hu]
      simpa [Env.upd] using h2
  · cases hf
theorem mkSeq1_sound {a b : St} (h : wpS P sp G N (mkSeq1 a b) K X R ρ m) : wpS P sp G N (.seq a b) K X R ρ m := by
  unfold mkSeq1 at h
  split at h
  · exact h
  · intro _; exact ⟨trivial, [], rfl, h⟩
  · exact h
  · rename_i t e u e2
    split at h
    · rename_i e' hf
      show wpS P sp G N (.sets [(t, e)] []) _ X R ρ m
      refine sets1.2 fun hi => ?_
      obtain ⟨v, h1, h2⟩ := sets1.1 h hi
      obtain ⟨w, h3, rfl, h4⟩ := fuse_sound hf h1
      refine ⟨w, h3, sets1.2 fun _ => ⟨v, h4, ?_⟩⟩
      rw [upd_upd]; exact h2
    · exact h
  · rename_i t e u e2 r
    split at h
    · rename_i e' hf
      show wpS P sp G N (.sets [(t, e)] []) _ X R ρ m
      refine sets1.2 fun hi => ?_
      obtain ⟨v, h1, h2⟩ := (sets1 (P := P) (G := G) (N := N) (K := fun ρ m => wpS P sp G N r K X R ρ m) (X := X) (R := R)).1 h hi
      obtain ⟨w, h3, rfl, h4⟩ := fuse_sound hf h1
      refine ⟨w, h3, ?_⟩
      show wpS P sp G N (.sets [(t, e2)] []) (fun ρ m => wpS P sp G N r K X R ρ m) X R _ m
      refine sets1.2 fun _ => ⟨v, h4, ?_⟩
      rw [upd_upd]; exact h2
    · exact h
  · exact h
theorem mkSeq_sound : ∀ {a b : St} {K : Env → Mem → Prop} {ρ : Env} {m : Mem}, wpS P sp G N (mkSeq a b) K X R ρ m → wpS P sp G N (.seq a b) K X R ρ m := by
  intro a
  induction a with
  | seq x y ihx ihy =>
    intro b K ρ m h
    have h1 := ihx h
    exact St.wp_mono x (fun ρ m h => ihy h) (fun _ _ _ h => h) (fun _ _ h => h) h1
  | _ => intro b K ρ m h; exact mkSeq1_sound h
theorem opt_sound : ∀ (s : St) {K : Env → Mem → Prop} {X : Nat → Env → Mem → Prop} {R : Env → Mem → Prop} {ρ : Env} {m : Mem}, wpS P sp G N (opt s) K X R ρ m → wpS P sp G N s K X R ρ m := by
  intro s
  induction s with
  | seq a b iha ihb =>
    intro K X R ρ m h
    have h1 := mkSeq_sound h
    exact iha (St.wp_mono (opt a) (fun ρ m h => ihb h) (fun _ _ _ h => h) (fun _ _ h => h) h1)
  | ite c a b iha ihb =>
    intro K X R ρ m h hi
    obtain ⟨t, h1, h2, h3⟩ := mkIte_sound h hi
    exact ⟨t, h1, fun e => iha (h2 e), fun e => ihb (h3 e)⟩
  | block id a ih => intro K X R ρ m h; exact ih h
  | loop a ih => intro K X R ρ m ⟨I, n, h0, h⟩; exact ⟨I, n, h0, fun k ρ' m' hk => ih (h k ρ' m' hk)⟩
  | _ => intro K X R ρ m h; exact h
end
theorem mc_opt {P : Program} {ro : FuncId → Bool} {G : Nat → Bool} {sp : Spec} (hsp : sp.Sound P) {f : FuncId} {fn : Func} {c : Code} (hf : P.funcs[f]? = some fn) (hb : fn.body = some c) (hname : (fn.name == "runtime.NumGoroutine") = false) (hin : P.inits.idxOf? f = none)
    {s : St} (hd : opt (dec P ro G fn.ntmps c) = s) {r : Ex} (hr : resE P G fn.results.toList = some r) {args : List Value} (hargs : args.length ≤ fn.ntmps) {Post : Value → Mem → Prop} {m : Mem}
    (h : Inh m → wpS P sp G fn.ntmps s (fun ρ m' => Inh m' → ∃ v, ev sp m' ρ r = some v ∧ Post v m') (fun _ _ _ => False) (fun ρ m' => Inh m' → ∃ v, ev sp m' ρ r = some v ∧ Post v m') (argEnv args) m) :
    MC P f args Post m := by
  subst hd
  exact mc_of hsp hf hb hname hin rfl hr hargs fun hi => opt_sound _ (h hi)
end Go.Proofs.Ytaifmmeghninhaa.Mw
