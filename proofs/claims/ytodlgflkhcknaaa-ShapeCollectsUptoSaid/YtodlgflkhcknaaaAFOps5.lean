/- All operations that look at no memory. -/
import Derived.Test.YtodlgflkhcknaaaAFOps4
namespace Go.AE
set_option linter.unusedVariables false
variable {oq : Unit} [Opq oq]
open Go

section
variable {P : Program} {X : CX} {φ : Emb} {e : Env} {a : Act}

theorem eqGuard_int (op : BinOp) (t : TypeId) (x y : Operand) {k k' : IntKind} {m n : Int} (w : World) : (eqGuard op t x y (.int k m) (.int k' n)).run P w = .ok () w := by
  cases op <;> simp [eqGuard]
theorem eqGuard_string (op : BinOp) (t : TypeId) (x y : Operand) {m n : ByteArray} (w : World) : (eqGuard op t x y (.string m) (.string n)).run P w = .ok () w := by
  cases op <;> simp [eqGuard]
theorem eqGuard_bool (op : BinOp) (t : TypeId) (x y : Operand) {m n : Bool} (w : World) : (eqGuard op t x y (.bool m) (.bool n)).run P w = .ok () w := by
  cases op <;> simp [eqGuard]

theorem bin_out {op : BinOp} {t : TypeId} {x y : Operand} {k : KV} {v : AV} {u : Value} (hv : VR φ v u) (hk : k v = true) (hg : ∀ w, (eqGuard op t x y (a.eval x) (a.eval y)).run P w = .ok () w)
    (h : ∀ w, (binOp op t (a.eval x) (a.eval y)).run P w = .ok u w) : POut P φ k (do pure (.value (← (do eqGuard op t x y (a.eval x) (a.eval y); binOp op t (a.eval x) (a.eval y))))) :=
  POut.of hv hk fun w => by rw [Sem.run_bind, hg w]; exact h w

theorem s_bin {op : BinOp} {t : TypeId} {x y : Operand} {k : KV} (hE : ER X φ e a) (h : pBin op (cOpd X x) (cOpd X y) e k = true) :
    POut P φ k (do pure (.value (← (do eqGuard op t x y (a.eval x) (a.eval y); binOp op t (a.eval x) (a.eval y))))) := by
  obtain ⟨va, ha, h1⟩ := ev_sound hE h
  obtain ⟨vb, hb, h2⟩ := ev_sound hE h1
  obtain ⟨v, u, hv, hk, hr⟩ := kBin_sound (P := P) ha hb h2
  refine bin_out hv hk (fun w => ?_) (fun w => hr w t)
  rcases onISO_true h2 with ⟨kd, n, rfl, h3⟩ | ⟨n, m, rfl, h3⟩ | ⟨i, rfl, h3⟩
  · obtain ⟨kd', n', rfl, _⟩ := onI_true h3
    rw [VR_i.1 ha, VR_i.1 hb]; exact eqGuard_int ..
  · obtain ⟨n', m', rfl, _⟩ := onS_true h3
    obtain ⟨s, hs, _⟩ := VR_s.1 ha
    obtain ⟨s', hs', _⟩ := VR_s.1 hb
    rw [hs, hs']; exact eqGuard_string ..
  · obtain ⟨j, rfl, _⟩ := onO_true h3
    rw [VR_o.1 ha, VR_o.1 hb]; exact eqGuard_int ..

theorem binOp_eql {t : TypeId} {x y : Value} (hx : ∀ k n, x ≠ .int k n) (hf : ∀ k n, x ≠ .float k n) (hc : ∀ k n m, x ≠ .complex k n m) (hs : ∀ s, x ≠ .string s) :
    binOp .eql t x y = (do pure (.bool (← Op.equal t x y))) := by
  cases x <;> first
    | exact absurd rfl (hx _ _)
    | exact absurd rfl (hf _ _)
    | exact absurd rfl (hc _ _ _)
    | exact absurd rfl (hs _)
    | (cases y <;> rfl)
theorem binOp_neq {t : TypeId} {x y : Value} (hx : ∀ k n, x ≠ .int k n) (hf : ∀ k n, x ≠ .float k n) (hc : ∀ k n m, x ≠ .complex k n m) (hs : ∀ s, x ≠ .string s) :
    binOp .neq t x y = (do pure (.bool (!(← Op.equal t x y)))) := by
  cases x <;> first
    | exact absurd rfl (hx _ _)
    | exact absurd rfl (hf _ _)
    | exact absurd rfl (hc _ _ _)
    | exact absurd rfl (hs _)
    | (cases y <;> rfl)

def negOp (neg : Bool) : BinOp := if neg then .neq else .eql

theorem negRun {neg : Bool} {t : TypeId} {x y : Value} {r : Bool} (w : World) (hx : ∀ k n, x ≠ .int k n) (hf : ∀ k n, x ≠ .float k n) (hc : ∀ k n m, x ≠ .complex k n m) (hs : ∀ s, x ≠ .string s)
    (h : (Op.equal t x y).run P w = .ok r w) : (binOp (negOp neg) t x y).run P w = .ok (.bool (if neg then !r else r)) w := by
  cases neg
  · simp only [negOp, Bool.false_eq_true, if_false, binOp_eql hx hf hc hs, Sem.run_bind, h, Result.andThen_ok, Sem.run_pure]
  · simp only [negOp, if_true, binOp_neq hx hf hc hs, Sem.run_bind, h, Result.andThen_ok, Sem.run_pure]

theorem s_eqb {neg : Bool} {t : TypeId} {x y : Operand} {k : KV} (hE : ER X φ e a) (ht : P.underlying t = some .bool) (h : pEqb neg (cOpd X x) (cOpd X y) e k = true) :
    POut P φ k (do pure (.value (← (do eqGuard (negOp neg) t x y (a.eval x) (a.eval y); binOp (negOp neg) t (a.eval x) (a.eval y))))) := by
  obtain ⟨va, ha, h1⟩ := ev_sound hE h
  obtain ⟨vb, hb, h2⟩ := ev_sound hE h1
  obtain ⟨p, rfl, h3⟩ := onB_true h2
  obtain ⟨q, rfl, h4⟩ := onB_true h3
  have h5 := kNeg_true h4
  have e1 := VR_b.1 ha
  have e2 := VR_b.1 hb
  have hpq : (@Bool.rec (fun _ => Bool) (notB q) q p : Bool) = (p == q) := by cases p <;> cases q <;> rfl
  rw [hpq] at h5
  refine bin_out (VR_b.2 rfl) h5 (fun w => by rw [e1, e2]; exact eqGuard_bool ..) fun w => ?_
  rw [e1, e2]
  exact negRun w (fun _ _ h => by cases h) (fun _ _ h => by cases h) (fun _ _ _ h => by cases h) (fun _ h => by cases h) (run_equal_bool w t p q ht)

theorem s_eql {neg : Bool} {t : TypeId} {x y : Operand} {k : KV} {fs : Array Field} {ks : List Nat} (hE : ER X φ e a) (ht : P.underlying t = some (.struct fs)) (hq : EqOK P t)
    (hk : kindsOf (tysOf P) fs.toList 0 = some ks) (h : pEql neg ks (cOpd X x) (cOpd X y) e k = true) :
    POut P φ k (do pure (.value (← (do eqGuard (negOp neg) t x y (a.eval x) (a.eval y); binOp (negOp neg) t (a.eval x) (a.eval y))))) := by
  obtain ⟨va, ha, h1⟩ := ev_sound hE h
  obtain ⟨vb, hb, h2⟩ := ev_sound hE h1
  obtain ⟨l, rfl, h3⟩ := onAgg_true h2
  obtain ⟨m, rfl, h4⟩ := onAgg_true h3
  obtain ⟨xs, e1, hx⟩ := VR_agg.1 ha
  obtain ⟨ys, e2, hy⟩ := VR_agg.1 hb
  obtain ⟨hst, hgd, hnm⟩ := hq
  obtain ⟨r, hr, hrun⟩ := eqL_sound (P := P) (i := 0) (xs := xs) (ys := ys) hk (fun f hf => hnm fs ht f (by simpa using hf)) (by simpa using hx) (by simpa using hy) h4
  have h5 := kNeg_true hr
  have hfo : P.fieldsOf t = fs := by simp [Program.fieldsOf, ht]
  refine bin_out (VR_b.2 rfl) h5 (fun w => by rw [e1, e2]; exact run_eqGuard_agg w _ t x y xs ys hgd) fun w => ?_
  rw [e1, e2]
  refine negRun w (fun _ _ h => by cases h) (fun _ _ h => by cases h) (fun _ _ _ h => by cases h) (fun _ h => by cases h) ?_
  show (Op.equalIn (9999 + 1) t (.agg xs) (.agg ys)).run P w = _
  rw [run_equalIn_struct w 9999 t xs ys (by rw [hfo]; exact ht) hst, hfo]
  exact hrun 9998 w

/-- What is wanted of a value and a nil that are held against each other. -/
structure NilEq (P : Program) (t : TypeId) (u w0 : Value) (r : Bool) : Prop where
  u1 : ∀ q n, u ≠ .int q n
  u2 : ∀ q n, u ≠ .float q n
  u3 : ∀ q n m, u ≠ .complex q n m
  u4 : ∀ s, u ≠ .string s
  u5 : ∀ l, u ≠ .agg l
  w1 : ∀ q n, w0 ≠ .int q n
  w2 : ∀ q n, w0 ≠ .float q n
  w3 : ∀ q n m, w0 ≠ .complex q n m
  w4 : ∀ s, w0 ≠ .string s
  w5 : ∀ l, w0 ≠ .agg l
  l : ∀ w, (Op.equal t u w0).run P w = .ok r w
  r : ∀ w, (Op.equal t w0 u).run P w = .ok r w

set_option maxHeartbeats 1000000 in
/-- A type of such a kind: its nil, its other values, what '==' says of them. -/
theorem nil_eq {c : Nat} {t : TypeId} {d : TypeDesc} (hd : P.underlying t = some d) (hc : (c = 0 ∧ ∃ s, d = .pointer s ∧ ∃ n, sizeT (tysOf P) s = some n) ∨ (c = 1 ∧ ∃ s, d = .slice s) ∨ (c = 2 ∧ ∃ k s, d = .map k s) ∨ (c = 3 ∧ ∃ x y z, d = .func x y z) ∨
      (c = 4 ∧ ∃ m, d = .interface m)) {v : AV} {u : Value} {k : Bool → Bool} (hv : VR φ v u) (h : nilK c v k = true) {z : Operand} (hz : isNilC c z = true) :
    ∃ r w0, k r = true ∧ z = .const w0 ∧ NilEq P t u w0 r := by
  obtain ⟨dd, hq⟩ : ∃ dd, ∀ (x y : Value), Op.equal t x y = Op.equalIn (dd + 1) t x y := ⟨9999, fun _ _ => rfl⟩
  rcases hc with ⟨rfl, s, rfl, n, hs⟩ | ⟨rfl, s, rfl⟩ | ⟨rfl, kk, s, rfl⟩ | ⟨rfl, x, y, zz, rfl⟩ | ⟨rfl, m, rfl⟩
  · have hz' : z = .const (.pointer none) := by unfold isNilC at hz; split at hz <;> first | rfl | (rename_i h0; cases h0; done) | cases hz
    cases v with
    | nilp =>
      obtain ⟨_, hk⟩ := ite'_and (show ite' (Nat.beq 0 0) (k true) false = true from h)
      have := VR_nilp.1 hv; subst this
      refine ⟨_, _, hk, hz', ?_, ?_, ?_, ?_, ?_, ?_, ?_, ?_, ?_, ?_, fun w => ?_, fun w => ?_⟩ <;> first | (intros; intro h'; cases h'; done) | (rw [hq]; simp only [Op.equalIn, Sem.run_bind, run_underlying hd, Result.andThen_ok]; rfl)
    | p i j o =>
      obtain ⟨_, hk⟩ := ite'_and (show ite' (Nat.beq 0 0) (k false) false = true from h)
      obtain ⟨l, _, _, rfl⟩ := VR_p.1 hv
      refine ⟨_, _, hk, hz', ?_, ?_, ?_, ?_, ?_, ?_, ?_, ?_, ?_, ?_, fun w => ?_, fun w => ?_⟩ <;> first | (intros; intro h'; cases h'; done) | (rw [hq]; simp only [Op.equalIn, Sem.run_bind, run_underlying hd, Result.andThen_ok]; rfl)
    | _ => cases h
  · have hz' : z = .const (.slice none 0 0) := by unfold isNilC at hz; split at hz <;> first | rfl | (rename_i h0; cases h0; done) | cases hz
    cases v with
    | nils =>
      obtain ⟨_, hk⟩ := ite'_and (show ite' (Nat.beq 1 1) (k true) false = true from h)
      have := VR_nils.1 hv; subst this
      refine ⟨_, _, hk, hz', ?_, ?_, ?_, ?_, ?_, ?_, ?_, ?_, ?_, ?_, fun w => ?_, fun w => ?_⟩ <;> first | (intros; intro h'; cases h'; done) | (rw [hq]; simp only [Op.equalIn, Sem.run_bind, run_underlying hd, Result.andThen_ok]; rfl)
    | sl i j o n c q =>
      obtain ⟨_, hk⟩ := ite'_and (show ite' (Nat.beq 1 1) (k false) false = true from h)
      obtain ⟨l, p, c, _, _, rfl, _⟩ := VR_sl.1 hv
      refine ⟨_, _, hk, hz', ?_, ?_, ?_, ?_, ?_, ?_, ?_, ?_, ?_, ?_, fun w => ?_, fun w => ?_⟩ <;> first | (intros; intro h'; cases h'; done) | (rw [hq]; simp only [Op.equalIn, Sem.run_bind, run_underlying hd, Result.andThen_ok]; rfl)
    | _ => cases h
  · have hz' : z = .const (.map none) := by unfold isNilC at hz; split at hz <;> first | rfl | (rename_i h0; cases h0; done) | cases hz
    cases v with
    | nilm =>
      obtain ⟨_, hk⟩ := ite'_and (show ite' (Nat.beq 2 2) (k true) false = true from h)
      have := VR_nilm.1 hv; subst this
      refine ⟨_, _, hk, hz', ?_, ?_, ?_, ?_, ?_, ?_, ?_, ?_, ?_, ?_, fun w => ?_, fun w => ?_⟩ <;> first | (intros; intro h'; cases h'; done) | (rw [hq]; simp only [Op.equalIn, Sem.run_bind, run_underlying hd, Result.andThen_ok]; rfl)
    | m i =>
      obtain ⟨_, hk⟩ := ite'_and (show ite' (Nat.beq 2 2) (k false) false = true from h)
      obtain ⟨l, _, rfl⟩ := VR_m.1 hv
      refine ⟨_, _, hk, hz', ?_, ?_, ?_, ?_, ?_, ?_, ?_, ?_, ?_, ?_, fun w => ?_, fun w => ?_⟩ <;> first | (intros; intro h'; cases h'; done) | (rw [hq]; simp only [Op.equalIn, Sem.run_bind, run_underlying hd, Result.andThen_ok]; rfl)
    | _ => cases h
  · have hz' : z = .const .nilFunc := by unfold isNilC at hz; split at hz <;> first | rfl | (rename_i h0; cases h0; done) | cases hz
    cases v with
    | nilf =>
      obtain ⟨_, hk⟩ := ite'_and (show ite' (Nat.beq 3 3) (k true) false = true from h)
      have := VR_nilf.1 hv; subst this
      refine ⟨_, _, hk, hz', ?_, ?_, ?_, ?_, ?_, ?_, ?_, ?_, ?_, ?_, fun w => ?_, fun w => ?_⟩ <;> first | (intros; intro h'; cases h'; done) | (rw [hq]; simp only [Op.equalIn, Sem.run_bind, run_underlying hd, Result.andThen_ok]; rfl)
    | f i j o =>
      obtain ⟨_, hk⟩ := ite'_and (show ite' (Nat.beq 3 3) (k false) false = true from h)
      obtain ⟨x, y, rfl, _⟩ := VR_f.1 hv
      refine ⟨_, _, hk, hz', ?_, ?_, ?_, ?_, ?_, ?_, ?_, ?_, ?_, ?_, fun w => ?_, fun w => ?_⟩ <;> first | (intros; intro h'; cases h'; done) | (rw [hq]; simp only [Op.equalIn, Sem.run_bind, run_underlying hd, Result.andThen_ok]; rfl)
    | _ => cases h
  · have hz' : z = .const .nilIface := by unfold isNilC at hz; split at hz <;> first | rfl | (rename_i h0; cases h0; done) | cases hz
    cases v with
    | nili =>
      obtain ⟨_, hk⟩ := ite'_and (show ite' (Nat.beq 4 4) (k true) false = true from h)
      have := VR_nili.1 hv; subst this
      refine ⟨_, _, hk, hz', ?_, ?_, ?_, ?_, ?_, ?_, ?_, ?_, ?_, ?_, fun w => ?_, fun w => ?_⟩ <;> first | (intros; intro h'; cases h'; done) | (rw [hq]; simp only [Op.equalIn, Sem.run_bind, run_underlying hd, Result.andThen_ok]; rfl)
    | ifc i j =>
      obtain ⟨_, hk⟩ := ite'_and (show ite' (Nat.beq 4 4) (k false) false = true from h)
      obtain ⟨y, rfl, _⟩ := VR_ifc.1 hv
      refine ⟨_, _, hk, hz', ?_, ?_, ?_, ?_, ?_, ?_, ?_, ?_, ?_, ?_, fun w => ?_, fun w => ?_⟩ <;> first | (intros; intro h'; cases h'; done) | (rw [hq]; simp only [Op.equalIn, Sem.run_bind, run_underlying hd, Result.andThen_ok]; rfl)
    | _ => cases h

theorem eqGuard_nil {op : BinOp} {t : TypeId} {x y : Operand} {u v : Value} (hc : (∃ z, x = .const z) ∨ ∃ z, y = .const z) (h : (∀ l, u ≠ .agg l) ∨ ∀ l, v ≠ .agg l) (w : World) : (eqGuard op t x y u v).run P w = .ok () w := by
  have key : ∀ {s : Sem Unit}, s = pure () → s.run P w = .ok () w := fun h => by rw [h]; rfl
  unfold eqGuard
  cases op <;> simp only [Bool.not_true, Bool.not_false, Bool.false_eq_true, if_false, if_true, Sem.run_pure]
  all_goals
    split
    · rcases hc with ⟨z, rfl⟩ | ⟨z, rfl⟩ <;> simp
    · rcases h with h | h <;> exact absurd rfl (h _)
    · rfl

theorem s_isnil {neg : Bool} {c : Nat} {t : TypeId} {d : TypeDesc} {x y : Operand} {k : KV} {p : POp} (hE : ER X φ e a) (hd : P.underlying t = some d)
    (hc : (c = 0 ∧ ∃ s, d = .pointer s ∧ ∃ n, sizeT (tysOf P) s = some n) ∨ (c = 1 ∧ ∃ s, d = .slice s) ∨ (c = 2 ∧ ∃ k s, d = .map k s) ∨ (c = 3 ∧ ∃ x y z, d = .func x y z) ∨ (c = 4 ∧ ∃ m, d = .interface m))
    (hp : cNil X neg c x y = some (.pu p)) (h : runP p e k = true) :
    POut P φ k (do pure (.value (← (do eqGuard (negOp neg) t x y (a.eval x) (a.eval y); binOp (negOp neg) t (a.eval x) (a.eval y))))) := by
  unfold cNil at hp
  split at hp
  · rename_i hy
    cases hp
    obtain ⟨va, ha, h1⟩ := ev_sound hE (show ev (cOpd X x) e (fun a => nilK c a (kNeg neg k)) = true from h)
    obtain ⟨r, w0, hr, rfl, N⟩ := nil_eq hd hc ha h1 hy
    exact bin_out (VR_b.2 rfl) (kNeg_true hr) (fun w => eqGuard_nil (.inr ⟨_, rfl⟩) (.inl N.u5) w) fun w => negRun w N.u1 N.u2 N.u3 N.u4 (N.l w)
  · rename_i hx _
    cases hp
    obtain ⟨va, ha, h1⟩ := ev_sound hE (show ev (cOpd X y) e (fun a => nilK c a (kNeg neg k)) = true from h)
    obtain ⟨r, w0, hr, rfl, N⟩ := nil_eq hd hc ha h1 ‹isNilC c x = true›
    exact bin_out (VR_b.2 rfl) (kNeg_true hr) (fun w => eqGuard_nil (.inl ⟨_, rfl⟩) (.inr N.u5) w) fun w => negRun w N.w1 N.w2 N.w3 N.w4 (N.r w)
  · cases hp
end
end Go.AE
