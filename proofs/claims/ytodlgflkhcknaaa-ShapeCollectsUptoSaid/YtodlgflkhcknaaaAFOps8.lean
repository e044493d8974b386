/- All operations that look at no memory, together. -/
import Derived.Test.YtodlgflkhcknaaaAFOps7
namespace Go.AE
set_option linter.unusedVariables false
variable {oq : Unit} [Opq oq]
open Go

section
variable {P : Program} {X : CX} {φ : Emb} {e : Env} {a : Act}

theorem pu_inj {p q : POp} (h : pu p = some (.pu q)) : p = q := by unfold pu at h; cases h; rfl
theorem rd_pu {p : ROp} {q : POp} : rd p ≠ some (.pu q) := by unfold rd; intro h; cases h
theorem al_pu {p : AOp} {q : POp} : al p ≠ some (.pu q) := by unfold al; intro h; cases h
theorem ef_pu {p : EOp} {q : POp} : ef p ≠ some (.pu q) := by unfold ef; intro h; cases h

theorem s_eq (hY : X.ty = tysOf P) (hQ : ∀ t ∈ X.eqs, EqOK P t) {neg : Bool} {t : TypeId} {d : TypeDesc} {x y : Operand} {k : KV} {p : POp} (hE : ER X φ e a) (hd : undT X.ty t = some d)
    (hc : cEq X neg t d x y = some (.pu p)) (h : runP p e k = true) :
    POut P φ k (do pure (.value (← (do eqGuard (negOp neg) t x y (a.eval x) (a.eval y); binOp (negOp neg) t (a.eval x) (a.eval y))))) := by
  rw [hY] at hd
  have hu := und_get hd
  unfold cEq at hc
  split at hc
  · cases pu_inj hc; exact s_eqb hE hu h
  · split at hc
    · rename_i fs _ _ ks h1 h2
      cases pu_inj hc
      rw [hY] at h2
      exact s_eql hE hu (hQ t (memN_mem h1)) h2 h
    · cases hc
  · split at hc
    · rename_i el _ n hs
      rw [hY] at hs
      exact s_isnil hE hu (.inl ⟨rfl, el, rfl, n, hs⟩) hc h
    · cases hc
  · exact s_isnil hE hu (.inr (.inl ⟨rfl, _, rfl⟩)) hc h
  · exact s_isnil hE hu (.inr (.inr (.inl ⟨rfl, _, _, rfl⟩))) hc h
  · exact s_isnil hE hu (.inr (.inr (.inr (.inl ⟨rfl, _, _, _, rfl⟩)))) hc h
  · exact s_isnil hE hu (.inr (.inr (.inr (.inr ⟨rfl, _, rfl⟩)))) hc h
  · cases hc

theorem s_binop (hY : X.ty = tysOf P) (hQ : ∀ t ∈ X.eqs, EqOK P t) {op : BinOp} {t : TypeId} {x y : Operand} {k : KV} {p : POp} (hE : ER X φ e a)
    (hc : cBin X op t x y = some (.pu p)) (h : runP p e k = true) :
    POut P φ k (do pure (.value (← (do eqGuard op t x y (a.eval x) (a.eval y); binOp op t (a.eval x) (a.eval y))))) := by
  unfold cBin at hc
  split at hc
  · cases pu_inj hc; exact s_bin hE h
  · cases pu_inj hc; exact s_bin hE h
  · rename_i d _ _ hd
    split at hc
    · exact s_eq (neg := false) hY hQ hE hd hc h
    · exact s_eq (neg := true) hY hQ hE hd hc h
    · cases hc
  · cases hc

theorem s_call (hY : X.ty = tysOf P) {c : Call} {t : TypeId} {k : KV} {p : POp} (hE : ER X φ e a) (hc : cCall X c t = some (.pu p)) (h : runP p e k = true) :
    POut P φ k (do let d ← resolve a.eval c t; invoke d.target d.args) := by
  obtain ⟨callee, args, argTypes⟩ := c
  unfold cCall at hc
  split at hc
  · rename_i hcl
    simp only at hcl; subst hcl
    split at hc
    · rename_i x t' h1 h2
      have e1 : args = #[x] := by apply Array.ext'; exact h1
      have e2 : argTypes = #[t'] := by apply Array.ext'; exact h2
      subst e1; subst e2
      unfold cLen at hc
      split at hc
      · exact absurd hc rd_pu
      · rename_i hd
        cases pu_inj hc
        show POut P φ k (builtin .len #[t'] t (#[x].map fun | .const _ => true | _ => false) (#[x].map a.eval))
        rw [show #[x].map a.eval = #[a.eval x] from by simp]
        exact s_lens hY hE hd h
      · rename_i hd
        cases pu_inj hc
        show POut P φ k (builtin .len #[t'] t (#[x].map fun | .const _ => true | _ => false) (#[x].map a.eval))
        rw [show #[x].map a.eval = #[a.eval x] from by simp]
        exact s_len hY hE hd h
      · cases hc
    · cases hc
  · split at hc
    · unfold cApp at hc
      split at hc
      · split at hc
        · split at hc
          · exact absurd hc ef_pu
          · exact absurd hc ef_pu
          · cases hc
        · cases hc
      · cases hc
    · cases hc
  · split at hc
    · unfold cCopy at hc
      split at hc
      · split at hc
        · exact absurd hc ef_pu
        · cases hc
      · cases hc
    · cases hc
  · rename_i hcl
    simp only at hcl; subst hcl
    split at hc
    · rename_i x y h1 h2
      have e1 : args = #[x, y] := by apply Array.ext'; exact h1
      subst e1
      cases pu_inj hc
      exact s_mx' hE h
    · cases hc
  · rename_i hcl
    simp only at hcl; subst hcl
    split at hc
    · rename_i x y h1 h2
      have e1 : args = #[x, y] := by apply Array.ext'; exact h1
      subst e1
      cases pu_inj hc
      exact s_mn' hE h
    · cases hc
  · exact absurd hc ef_pu
  · cases hc
where
  s_mx' {x y : Operand} {argTypes : Array TypeId} {t : TypeId} {k : KV} (hE : ER X φ e a) (h : pMx (cOpd X x) (cOpd X y) e k = true) :
      POut P φ k (do let d ← resolve a.eval ⟨.builtin .max, #[x, y], argTypes⟩ t; invoke d.target d.args) := by
    show POut P φ k (builtin .max argTypes t (#[x, y].map fun | .const _ => true | _ => false) (#[x, y].map a.eval))
    rw [show #[x, y].map a.eval = #[a.eval x, a.eval y] from by simp]
    exact s_mx (P := P) (t := t) (ty := t) hE h
  s_mn' {x y : Operand} {argTypes : Array TypeId} {t : TypeId} {k : KV} (hE : ER X φ e a) (h : pMn (cOpd X x) (cOpd X y) e k = true) :
      POut P φ k (do let d ← resolve a.eval ⟨.builtin .min, #[x, y], argTypes⟩ t; invoke d.target d.args) := by
    show POut P φ k (builtin .min argTypes t (#[x, y].map fun | .const _ => true | _ => false) (#[x, y].map a.eval))
    rw [show #[x, y].map a.eval = #[a.eval x, a.eval y] from by simp]
    exact s_mn (P := P) (t := t) (ty := t) hE h

theorem pure_sound (hY : X.ty = tysOf P) (hQ : ∀ t ∈ X.eqs, EqOK P t) {o : Oper} {k : KV} {p : POp} (hE : ER X φ e a) (hc : cOp X o.op o.type = some (.pu p)) (h : runP p e k = true) :
    POut P φ k (execOp a.eval o) := by
  obtain ⟨dst, op, ty, pos, after, guard⟩ := o
  simp only at hc
  cases op with
  | move x =>
    cases pu_inj hc
    obtain ⟨v, hv, hk⟩ := ev_sound hE (show ev (cOpd X x) e k = true from h)
    exact ⟨v, _, hv, hk, fun w => rfl⟩
  | assign x =>
    cases pu_inj hc
    obtain ⟨v, hv, hk⟩ := ev_sound hE (show ev (cOpd X x) e k = true from h)
    exact ⟨v, _, hv, hk, fun w => rfl⟩
  | pick c x y =>
    cases pu_inj hc
    obtain ⟨v, hv, h1⟩ := ev_sound hE (show ev (cOpd X c) e (fun v => onB v fun b => @Bool.rec (fun _ => Bool) (ev (cOpd X y) e k) (ev (cOpd X x) e k) b) = true from h)
    obtain ⟨b, rfl, h2⟩ := onB_true h1
    have hb := VR_b.1 hv
    cases b with
    | true =>
      obtain ⟨v', hv', hk⟩ := ev_sound hE (show ev (cOpd X x) e k = true from h2)
      exact ⟨v', _, hv', hk, fun w => by simp [execOp, hb, asBool]⟩
    | false =>
      obtain ⟨v', hv', hk⟩ := ev_sound hE (show ev (cOpd X y) e k = true from h2)
      exact ⟨v', _, hv', hk, fun w => by simp [execOp, hb, asBool]⟩
  | build t parts => exact build_sound hY hE hc h
  | nilCheck x => cases pu_inj hc; exact s_nilck rfl hE h
  | binOp op t x y u => exact s_binop hY hQ hE hc h
  | unOp op t x =>
    simp only [cOp] at hc
    split at hc
    · cases pu_inj hc; exact s_not hE h
    · cases pu_inj hc; exact s_neg hE h
    · cases pu_inj hc; exact s_cpl hE h
    · cases hc
  | convert s d x => exact s_conv hY hE hc h
  | makeInterface t x =>
    simp only [cOp] at hc
    split at hc
    · cases hc
    · rename_i d hn hd
      cases pu_inj hc
      rw [hY] at hd
      obtain ⟨v, hv, hk⟩ := ev_sound hE (show ev (cOpd X x) e (fun v => k (.ifc t v)) = true from h)
      refine ⟨.ifc t v, .iface t (a.eval x), VR_ifc.2 ⟨_, rfl, hv⟩, hk, fun w => ?_⟩
      have : (Instr.makeInterface t (a.eval x)).run P w = .ok (.iface t (a.eval x)) w := by
        simp only [Instr.makeInterface, Sem.run_bind, run_und hd, Result.andThen_ok]
        rfl
      simp [execOp, this]
    · cases hc
  | makeFunc fn first caps =>
    simp only [cOp] at hc
    split at hc
    · cases pu_inj hc; exact s_mkf hE h
    · cases hc
  | slice t x lo hi mx =>
    simp only [cOp] at hc
    split at hc
    · rename_i hd
      split at hc
      · cases pu_inj hc; exact s_slcs hY hE hd h
      · cases hc
    · rename_i el hd
      split at hc
      · rename_i s hi' mx' hs
        cases pu_inj hc
        exact s_slc (hi := some hi') (mx := some mx') hY hE hd hs (by simp) h
      · rename_i s hs
        cases pu_inj hc
        exact s_slc (mx := none) hY hE hd hs (by simp) h
      · cases hc
    · cases hc
  | fieldAddr t x f =>
    simp only [cOp] at hc
    split at hc
    · rename_i fs hd
      split at hc
      · rename_i fd hf
        split at hc
        · rename_i n hs
          cases pu_inj hc
          exact s_fad hY hE hd hf hs h
        · cases hc
      · cases hc
    · cases hc
  | field t x f =>
    simp only [cOp] at hc
    split at hc
    · rename_i fs hd
      split at hc
      · rename_i fd hf
        split at hc
        · rename_i s g hs hg
          cases pu_inj hc
          exact s_fld hY hE hd hf hs hg h
        · cases hc
      · cases hc
    · cases hc
  | indexAddr t x i =>
    simp only [cOp] at hc
    split at hc
    · rename_i el hd
      split at hc
      · rename_i s hs; cases pu_inj hc; exact s_iad hY hE hd hs h
      · cases hc
    · rename_i n el hd
      split at hc
      · rename_i s hs; cases pu_inj hc; exact s_iada hY hE hd hs h
      · cases hc
    · cases hc
  | index t x i =>
    simp only [cOp] at hc
    split at hc
    · rename_i hd; cases pu_inj hc; exact s_idxs hY hE hd h
    · rename_i n el hd
      split at hc
      · rename_i s g hs hg; cases pu_inj hc; exact s_idxa hY hE hd hs hg h
      · cases hc
    · cases hc
  | extract x i => cases pu_inj hc; exact s_ext hE h
  | call c => exact s_call hY hE hc h
  | alloc t => simp only [cOp] at hc; split at hc; exact absurd hc al_pu; cases hc
  | box t x => exact absurd hc al_pu
  | buildSlice t n parts =>
    simp only [cOp] at hc
    split at hc
    · split at hc
      · split at hc
        · exact absurd hc al_pu
        · cases hc
      · cases hc
    · cases hc
  | load t x => simp only [cOp] at hc; split at hc; exact absurd hc rd_pu; exact absurd hc rd_pu; cases hc
  | store t x y => simp only [cOp] at hc; split at hc; exact absurd hc ef_pu; cases hc
  | makeMap t r =>
    simp only [cOp] at hc
    split at hc
    · split at hc <;> first | exact absurd hc al_pu | cases hc
    · cases hc
  | makeSlice t l c =>
    simp only [cOp] at hc
    split at hc
    · split at hc <;> first | exact absurd hc al_pu | cases hc
    · cases hc
  | lookup t m x ok =>
    simp only [cOp] at hc
    split at hc
    · split at hc <;> first | exact absurd hc rd_pu | cases hc
    · cases hc
  | mapUpdate t m x y =>
    simp only [cOp] at hc
    split at hc
    · split at hc <;> first | exact absurd hc ef_pu | cases hc
    · cases hc
  | insert t m x y =>
    simp only [cOp] at hc
    split at hc
    · split at hc <;> first | exact absurd hc ef_pu | cases hc
    · cases hc
  | _ => cases hc
end
end Go.AE
