/- Memory: appends in all their cases. -/
import Derived.Test.YtodlgflkhcknaaaAFMem8
namespace Go.AE
set_option linter.unusedVariables false
variable {oq : Unit} [Opq oq]
open Go

section
variable {P : Program} {X : CX} {φ : Emb} {e : Env} {a : Act} {h : Heap} {w : World} {M : Nat}

theorem room_le {b n : Nat} (h : room b n = true) : (2 * n + 1000) * b ≤ 281474976710656 := ble_le h

theorem s_app (hY : X.ty = tysOf P) (hW : WR φ h w) (hF : Fresh φ h.next M) {t u ty el : TypeId} {x y : Operand} {s b : Nat} {z : List AV} {d : TypeDesc} {k : KH} {call : Nat → List AV → Heap → KH → Bool} (hE : ER X φ e a)
    (hu : undT X.ty t = some (.slice el)) (hz : zeroS X.ty el = some (z, s + 1)) (hb : bytesT X.ty el = some (b + 1)) (hd : undT X.ty u = some d) (hd' : ∀ k, d ≠ .int k)
    (hk : eApp (s + 1) (b + 1) (cOpd X x) (cOpd X y) call e h k = true) (hM : ∀ v h', k v h' = true → h'.next ≤ M) :
    EOut P φ h w k (do pure (.value (← Builtin.append_ #[t, u] ty #[a.eval x, a.eval y]))) := by
  rw [hY] at hu hz hb hd
  obtain ⟨zv, hz1, rfl, hz2, hz3⟩ := zeroS_get hz
  obtain ⟨vx, hvx, h1⟩ := ev_sound hE hk
  obtain ⟨vy, hvy, h2⟩ := ev_sound hE h1
  obtain ⟨new, n, us, h3, hus, hlen, hlo, hfc⟩ := srcK_true (P := P) hW hvy h2
  have hul := VRL_len hus
  have hfc' : ∀ w2 : World, w2.heap = w.heap → (Builtin.firstCells (s + 1) n (a.eval y)).run P w2 = .ok us.toArray w2 := fun w2 hw2 => by
    have := hfc w2 hw2 n (Nat.le_refl _)
    rwa [List.take_of_length_le (by omega)] at this
  have A : AppCtx P w t u ty el s b (a.eval y) n us := ⟨hu, hz2, hb, ⟨zv, hz1, hz3⟩, ⟨d, hd, hd'⟩, hlo, hfc'⟩
  rcases ite'_true h3 with ⟨hn, h4⟩ | ⟨hn, h4⟩
  · -- nothing is appended
    obtain rfl : n = 0 := beq_eq hn
    have hus0 : us = [] := List.length_eq_zero_iff.1 (by omega)
    subst hus0
    rcases onSl_true h4 with ⟨rfl, h5⟩ | ⟨id, tag, off, len, cap, esz, rfl, h5⟩
    · have hx := VR_nils.1 hvx
      rw [hx]
      exact EOut.val h5 (VR_nils.2 rfl) (A.place (base := none) (len := 0) (c := 0) (w' := w) (Nat.le_refl _) rfl) hW (Stp.refl _ _ _)
    · have hv := hvx
      obtain ⟨l, p, c, hl, hle, hx, hlc, hcap, hp, hroom⟩ := VR_sl.1 hvx
      rw [hx] at hv ⊢
      exact EOut.val h5 hv (A.place (base := some p) (w' := w) hlc rfl) hW (Stp.refl _ _ _)
  · have hn' : n ≠ 0 := beq_ne hn
    rcases onSl_true h4 with ⟨rfl, h5⟩ | ⟨id, tag, off, len, cap, esz, rfl, h5⟩
    · -- to nil
      obtain ⟨hr, h6⟩ := ite'_and h5
      have hx := VR_nils.1 hvx
      rw [hx]
      obtain ⟨nc, rest, g1, g2, g3⟩ := A.grow (base := none) (len := 0) (c := 0) (old := []) rfl (by omega) (by rw [Nat.zero_add]; exact room_le hr)
      rw [Nat.zero_add] at g1 g2 g3
      obtain ⟨v, h', ψ, q1, q2, q3, q4⟩ := newVec_step (el := el) hW hF hus hlen g1 g2 h6 hM
      refine EOut.val q1 q2 ?_ q3 q4
      rw [g3]; simp
    · obtain ⟨hes, h6⟩ := ite'_and h5
      obtain rfl : esz = s + 1 := beq_eq hes
      obtain ⟨hr, h7⟩ := ite'_and h6
      have hbig := room_le hr
      obtain ⟨o, ho, h8⟩ := getK_true h7
      obtain ⟨l, p, c, hl, hle, hx, hlc, hcap, hp, hroom⟩ := VR_sl.1 hvx
      rw [hx]
      cases cap with
      | none =>
        cases o with
        | st cells N => cases h8
        | mp es => cases h8
        | ro cells => cases h8
        | ve cells ext ver minv segs => exact appVe_out A hW hus hlen hn' ho hl hle hlc hp hroom hbig h8
      | some c0 =>
        obtain rfl : c = c0 := hcap c0 rfl
        have h9 : (@Bool.rec (fun _ => Bool) (growK o (s + 1) tag off len new n h k)
          (@Obj.rec (fun _ => Bool) (fun _ _ => wrsK new o tag (off + len * (s + 1)) fun o => k (.sl id tag off (len + n) (some c) (s + 1)) (updO h id o)) (fun _ _ _ _ _ => false) (fun _ => false) (fun _ => false) o) (Nat.ble (len + n) c) : Bool) = true := h8
        cases hb : Nat.ble (len + n) c with
        | true =>
          rw [hb] at h9
          have hcap' := ble_le hb
          cases o with
          | ve cells ext ver minv segs => cases h9
          | mp es => cases h9
          | ro cells => cases h9
          | st cells N =>
            obtain ⟨o', w', hk', hrun, hW', hS'⟩ := wrsK_true (P := P) hl (Nat.le_trans hle (Nat.le_add_right _ (len * (s + 1)))) _ _ 0 h w _ _ hW ho hus (show wrsK new (.st cells N) tag (off + len * (s + 1) + 0) _ = true from h9)
            refine EOut.val hk' (VR_sl.2 ⟨l, p, c, hl, hle, rfl, hcap', hcap, hp, hroom⟩) (A.place hcap' ?_) hW' hS'
            show (storeCells (p.add (len * (s + 1))) us).run P w = .ok () w'
            rw [hp (by omega), l.at_add hle]; exact hrun
        | false =>
          rw [hb] at h9
          have hcap' := ble_not hb
          obtain ⟨olds, hol, h10, ous, hous, hoc⟩ := rdsK_true (hW.obj _ _ ho) hl _ _ _ hle (show rdsK o tag (len * (s + 1)) off (fun old => newVec (s + 1) (appL old new) (len + n) h k) = true from h9)
          have hol2 : olds.length = len * (s + 1) := hol
          have houl := VRL_len hous
          have hfo : (Builtin.firstCells (s + 1) len (.slice (some p) len c)).run P w.drew = .ok ous.toArray w.drew := by
            simp only [Builtin.firstCells]
            by_cases hc0 : c = 0
            · obtain rfl : len = 0 := by omega
              have : ous = [] := List.length_eq_zero_iff.1 (by rw [Nat.zero_mul] at hol2; omega)
              rw [this, Nat.zero_mul]; rfl
            · rw [hp hc0]
              exact loadCells_run (P := P) (w := w.drew) hle (by omega) hoc
          obtain ⟨nc, rest, g1, g2, g3⟩ := A.grow hfo hcap' hbig
          rw [appL_eq] at h10
          obtain ⟨v, h', ψ, q1, q2, q3, q4⟩ := newVec_step (el := el) hW hF (VRL_app hous hus) (by rw [List.length_append, hol2, hlen, ← Nat.add_mul]) g1 g2 h10 hM
          refine EOut.val q1 q2 ?_ q3 q4
          rw [g3]; simp

theorem ef_inj {p q : EOp} (h : ef p = some (.ef q)) : p = q := by unfold ef at h; cases h; rfl
theorem pu_ef {p : POp} {q : EOp} : pu p ≠ some (.ef q) := by unfold pu; intro h; cases h
theorem rd_ef {p : ROp} {q : EOp} : rd p ≠ some (.ef q) := by unfold rd; intro h; cases h
theorem al_ef {p : AOp} {q : EOp} : al p ≠ some (.ef q) := by unfold al; intro h; cases h
theorem cNil_ef {neg : Bool} {c : Nat} {x y : Operand} {q : EOp} : cNil X neg c x y ≠ some (.ef q) := by unfold cNil; intro h; split at h <;> first | exact pu_ef h | cases h
theorem cEq_ef {neg : Bool} {t : TypeId} {d : TypeDesc} {x y : Operand} {q : EOp} : cEq X neg t d x y ≠ some (.ef q) := by
  unfold cEq; intro h
  split at h
  · exact pu_ef h
  · split at h <;> first | exact pu_ef h | cases h
  · split at h <;> first | exact cNil_ef h | cases h
  all_goals first | exact cNil_ef h | cases h
theorem cBin_ef {op : BinOp} {t : TypeId} {x y : Operand} {q : EOp} : cBin X op t x y ≠ some (.ef q) := by
  unfold cBin; intro h
  split at h
  · exact pu_ef h
  · exact pu_ef h
  · split at h <;> first | exact cEq_ef h | cases h
  · cases h
theorem cBuild_ef {t : TypeId} {l : List (Nat × Operand)} {q : EOp} : cBuild X t l ≠ some (.ef q) := by
  unfold cBuild; intro h
  repeat' split at h
  all_goals first
    | exact pu_ef h
    | cases h
theorem cConv_ef {s d : TypeId} {x : Operand} {q : EOp} : cConv X s d x ≠ some (.ef q) := by
  unfold cConv; intro h
  repeat' split at h
  all_goals first
    | exact pu_ef h
    | exact rd_ef h
    | exact al_ef h
    | cases h

/-- A call: what it enters, with what. -/
def COut (P : Program) (φ : Emb) (h : Heap) (w : World) (call : Nat → List AV → Heap → KH → Bool) (k : KH) (s : Sem Next) : Prop :=
  ∃ fn args args', call fn args h k = true ∧ VRL φ args args'.toList ∧ s.run P w = (callFunc fn args').run P w

theorem eff_sound (hY : X.ty = tysOf P) (hW : WR φ h w) (hF : Fresh φ h.next M) {o : Oper} {k : KH} {p : EOp} {call : Nat → List AV → Heap → KH → Bool} (hE : ER X φ e a) (hc : cOp X o.op o.type = some (.ef p)) (hr : runE p call e h k = true)
    (hM : ∀ v h', k v h' = true → h'.next ≤ M) : EOut P φ h w k (execOp a.eval o) ∨ COut P φ h w call k (execOp a.eval o) := by
  obtain ⟨dst, op, ty, pos, after, guard⟩ := o
  simp only at hc
  cases op with
  | store t x y =>
    simp only [cOp] at hc
    split at hc
    · rename_i n hs; cases ef_inj hc; exact .inl (s_st (call := call) hY hW hE hs hr)
    · cases hc
  | mapUpdate t m x y =>
    simp only [cOp] at hc
    split at hc
    · rename_i kt el hd
      split at hc
      · rename_i c hk; cases ef_inj hc; exact .inl (s_mup (call := call) hY hW hE hd hk hr)
      · cases hc
    · cases hc
  | insert t m x y =>
    simp only [cOp] at hc
    split at hc
    · rename_i kt el hd
      split at hc
      · rename_i c hk; cases ef_inj hc; exact .inl (s_mup (call := call) hY hW hE hd hk hr)
      · cases hc
    · cases hc
  | call c =>
    obtain ⟨callee, args, argTypes⟩ := c
    simp only [cOp, cCall] at hc
    split at hc
    · split at hc
      · unfold cLen at hc
        split at hc <;> first | exact absurd hc rd_ef | exact absurd hc pu_ef | cases hc
      · cases hc
    · split at hc
      · rename_i x y t u h1 h2
        have e1 : args = #[x, y] := by apply Array.ext'; exact h1
        have e2 : argTypes = #[t, u] := by apply Array.ext'; exact h2
        subst e1; subst e2
        refine .inl ?_
        show EOut P φ h w k (builtin .append #[t, u] ty (#[x, y].map fun | .const _ => true | _ => false) (#[x, y].map a.eval))
        rw [show #[x, y].map a.eval = #[a.eval x, a.eval y] from by simp]
        unfold cApp at hc
        split at hc
        · rename_i el hd
          split at hc
          · rename_i z s b hz hb
            split at hc
            · rename_i el' hd2; cases ef_inj hc; exact s_app (call := call) hY hW hF hE hd hz hb hd2 (fun _ h => by cases h) hr hM
            · rename_i hd2; cases ef_inj hc; exact s_app (call := call) hY hW hF hE hd hz hb hd2 (fun _ h => by cases h) hr hM
            · cases hc
          · cases hc
        · cases hc
      · cases hc
    · split at hc
      · rename_i x y t rest h1 h2
        have e1 : args = #[x, y] := by apply Array.ext'; exact h1
        have e2 : argTypes = (t :: rest).toArray := by apply Array.ext'; exact h2
        subst e1; subst e2
        refine .inl ?_
        show EOut P φ h w k (builtin .copy (t :: rest).toArray ty (#[x, y].map fun | .const _ => true | _ => false) (#[x, y].map a.eval))
        rw [show #[x, y].map a.eval = #[a.eval x, a.eval y] from by simp]
        unfold cCopy at hc
        split at hc
        · rename_i el hd
          split at hc
          · rename_i s hs; cases ef_inj hc; exact s_copy (call := call) hY hW hE hd hs hr
          · cases hc
        · cases hc
      · cases hc
    · split at hc <;> first | exact absurd hc pu_ef | cases hc
    · split at hc <;> first | exact absurd hc pu_ef | cases hc
    · rename_i f
      cases ef_inj hc
      obtain ⟨vf, hvf, h1⟩ := ev_sound hE (show ev (cOpd X f) e (fun f => onF f fun fn first caps => evs (args.toList.map (cOpd X)) e fun args => call fn (appL first (appL args caps)) h k) = true from hr)
      obtain ⟨fn, first, caps, rfl, h2⟩ := onF_true h1
      obtain ⟨x, y, hf, hx, hy⟩ := VR_f.1 hvf
      obtain ⟨vs, hvs, h3⟩ := evs_sound hE h2
      rw [appL_eq, appL_eq] at h3
      refine .inr ⟨fn, _, x ++ args.map a.eval ++ y, h3, ?_, ?_⟩
      · simp only [Array.toList_append, Array.toList_map]
        rw [List.append_assoc]
        exact VRL_app hx (VRL_app hvs hy)
      · show (do let d ← resolve a.eval ⟨.value f, args, argTypes⟩ ty; invoke d.target d.args : Sem Next).run P w = _
        simp only [resolve, hf, Deferred.ofValue, Sem.run_bind, Sem.run_pure, Result.andThen_ok, invoke]
    · cases hc
  | binOp op t x y u => exact absurd hc cBin_ef
  | build t parts => exact absurd hc cBuild_ef
  | convert s d x => exact absurd hc cConv_ef
  | _ =>
    simp only [cOp] at hc
    repeat' split at hc
    all_goals first
      | exact absurd hc pu_ef
      | exact absurd hc rd_ef
      | exact absurd hc al_ef
      | cases hc
end
end Go.AE
