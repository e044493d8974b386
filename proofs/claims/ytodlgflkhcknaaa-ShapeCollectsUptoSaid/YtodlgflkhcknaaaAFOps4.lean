/- Every operation that looks at no memory. -/
import Derived.Test.YtodlgflkhcknaaaAFOps3
import Derived.Laws.StructEq
import Derived.LaidEql
namespace Go.AE
set_option linter.unusedVariables false
variable {oq : Unit} [Opq oq]
open Go

/-- What is known of the struct types whose values are held against each other. -/
def EqOK (P : Program) (t : TypeId) : Prop := P.stoodInHeld t = false ∧ P.eqGuardType P.depth t = false ∧ ∀ fs : Array Field, P.underlying t = some (.struct fs) → ∀ f ∈ fs, f.name ≠ "_"

theorem memN_mem {t : Nat} {l : List Nat} (h : memN t l = true) : t ∈ l := by
  induction l with
  | nil => cases h
  | cons x xs ih =>
    have h' : @Bool.rec (fun _ => Bool) (memN t xs) true (Nat.beq x t) = true := h
    cases hb : Nat.beq x t
    · rw [hb] at h'; exact List.mem_cons_of_mem _ (ih h')
    · rw [beq_eq hb]; exact List.mem_cons_self ..

theorem Loc.at_add (l : Loc) {off : Nat} (h : l.start ≤ off) (n : Nat) : (l.at off).add n = l.at (off + n) := by
  unfold Addr.add Loc.at
  split
  · rename_i h0; subst h0; rfl
  · simp; omega

section
variable {P : Program} {X : CX} {φ : Emb} {e : Env} {a : Act}

theorem kNeg_true {neg : Bool} {k : KV} {r : Bool} (h : kNeg neg k r = true) : k (.b (if neg then !r else r)) = true := by
  cases neg
  · exact h
  · have h' : k (.b (notB r)) = true := h
    rw [notB_eq] at h'; exact h'

/-- A kind's types. -/
def KindIs (P : Program) (c : Nat) (t : TypeId) : Prop :=
  (c = 0 ∧ P.underlying t = some .bool) ∨ (c = 1 ∧ ∃ q, P.underlying t = some (.int q)) ∨ (c = 2 ∧ P.underlying t = some .string)

theorem eqS_sound {x y : AV} {u v : Value} {t : TypeId} {c : Nat} (hx : VR φ x u) (hy : VR φ y v) {k : Bool → Bool} (h : eqS x y k = true) (hc : kindIs c x = true) (ht : KindIs P c t) :
    ∃ r, k r = true ∧ ∀ d w, (Op.equalIn (d + 1) t u v).run P w = .ok r w := by
  cases x with
  | b p =>
    cases beq_eq (show Nat.beq c 0 = true from hc)
    obtain ⟨q, rfl, h2⟩ := onB_true (show onB y (fun y => k (@Bool.rec (fun _ => Bool) (notB y) y p)) = true from h)
    cases VR_b.1 hx; cases VR_b.1 hy
    rcases ht with ⟨_, ht⟩ | ⟨h0, _⟩ | ⟨h0, _⟩
    · refine ⟨p == q, ?_, fun d w => run_equalIn_bool w d t p q ht⟩
      rw [← h2]; cases p <;> cases q <;> rfl
    · cases h0
    · cases h0
  | i kd n =>
    cases beq_eq (show Nat.beq c 1 = true from hc)
    obtain ⟨kd', m, rfl, h2⟩ := onI_true (show onI y (fun kd' m => ite' (beqK kd kd') (k (beqI n m)) false) = true from h)
    obtain ⟨hk, h3⟩ := ite'_and h2
    cases beqK_eq hk
    cases VR_i.1 hx; cases VR_i.1 hy
    rcases ht with ⟨h0, _⟩ | ⟨_, q, hq⟩ | ⟨h0, _⟩
    · cases h0
    · exact ⟨n == m, by rw [← beqI_eq]; exact h3, fun d w => run_equalIn_int w d t kd q n m hq⟩
    · cases h0
  | s n m =>
    cases beq_eq (show Nat.beq c 2 = true from hc)
    obtain ⟨n', m', rfl, h2⟩ := onS_true (show onS y (fun n' m' => k (beqS n m n' m')) = true from h)
    obtain ⟨s, rfl, rfl, rfl⟩ := VR_s.1 hx
    obtain ⟨s', rfl, rfl, rfl⟩ := VR_s.1 hy
    rcases ht with ⟨h0, _⟩ | ⟨h0, _⟩ | ⟨_, ht⟩
    · cases h0
    · cases h0
    · refine ⟨s.toList == s'.toList, ?_, fun d w => run_equalIn_string w d t s s' ht⟩
      rw [ByteArray.toList_eq, ByteArray.toList_eq, ← beqS_eq]; exact h2
  | o i =>
    cases beq_eq (show Nat.beq c 1 = true from hc)
    obtain ⟨j, rfl, h2⟩ := onO_true (show onO y (fun j => ite' (Nat.beq i j) (k true) false) = true from h)
    obtain ⟨hk, h3⟩ := ite'_and h2
    cases beq_eq hk
    cases VR_o.1 hx; cases VR_o.1 hy
    rcases ht with ⟨h0, _⟩ | ⟨_, q, hq⟩ | ⟨h0, _⟩
    · cases h0
    · exact ⟨_, by rw [show ((Opq.val i : Int) == Opq.val i) = true from by simp]; exact h3, fun d w => run_equalIn_int w d t .i64 q (Opq.val i) (Opq.val i) hq⟩
    · cases h0
  | _ => cases h

theorem kindT_is {t : TypeId} {c : Nat} (h : kindT (tysOf P) t = some c) : KindIs P c t := by
  unfold kindT at h
  split at h <;> first
    | (rename_i h1; cases h; exact .inl ⟨rfl, und_get h1⟩)
    | (rename_i h1; cases h; exact .inr (.inl ⟨rfl, _, und_get h1⟩))
    | (rename_i h1; cases h; exact .inr (.inr ⟨rfl, und_get h1⟩))
    | cases h

theorem kindIs_oneC {c : Nat} {x : AV} (h : kindIs c x = true) : oneC x = true := by cases x <;> first | rfl | (cases h; done)

theorem kindT_one {t : TypeId} {c : Nat} (h : KindIs P c t) (w : World) : (isAgg t).run P w = .ok false w := by
  unfold isAgg
  rcases h with ⟨_, h⟩ | ⟨_, q, h⟩ | ⟨_, h⟩ <;> simp [run_underlying h]

theorem eqL_sound : ∀ {fs : List Field} {ks : List Nat} {i : Nat} {l m : List AV} {xs ys : Array Value} {k : Bool → Bool}, kindsOf (tysOf P) fs i = some ks → (∀ f ∈ fs, f.name ≠ "_") →
    VRL φ l (xs.toList.drop i) → VRL φ m (ys.toList.drop i) → eqL ks l m k = true → ∃ r, k r = true ∧ ∀ d w, (Op.eqFields (d + 1) xs ys fs).run P w = .ok r w
  | [], ks, i, l, m, xs, ys, k, hk, _, _, _, h => by
    cases hk
    exact ⟨true, h, fun d w => rfl⟩
  | f :: fs, ks, i, l, m, xs, ys, k, hk, hn, hl, hm, h => by
    unfold kindsOf at hk
    split at hk
    · rename_i c r h1 h2 h3
      cases hk
      have hoff := beq_eq h2
      have hkd := kindT_is h1
      cases l with
      | nil => cases h
      | cons x l => cases m with
        | nil => cases h
        | cons y m =>
          obtain ⟨hki, h4⟩ := ite'_and (show ite' (kindIs c x) (eqS x y fun r' => @Bool.rec (fun _ => Bool) (k false) (eqL r l m k) r') false = true from h)
          obtain ⟨u, us, e1, hu, hus⟩ := hl
          obtain ⟨v, vs, e2, hv, hvs⟩ := hm
          obtain ⟨b, hb, hrun⟩ := eqS_sound (P := P) hu hv h4 hki hkd
          have gx : xs[i]? = some u := by
            have := congrArg (·[0]?) e1
            simpa using this
          have gy : ys[i]? = some v := by
            have := congrArg (·[0]?) e2
            simpa using this
          have dx : xs.toList.drop (i + 1) = us := by rw [← List.drop_drop, e1]; rfl
          have dy : ys.toList.drop (i + 1) = vs := by rw [← List.drop_drop, e2]; rfl
          have hpx : ∀ w, (part f.type xs f.offset).run P w = .ok u w := fun w => by unfold part; simp [kindT_one hkd, hoff, gx]
          have hpy : ∀ w, (part f.type ys f.offset).run P w = .ok v w := fun w => by unfold part; simp [kindT_one hkd, hoff, gy]
          have hnf : f.name ≠ "_" := hn f (List.mem_cons_self ..)
          cases b with
          | false =>
            refine ⟨false, hb, fun d w => ?_⟩
            simp only [Op.eqFields, if_pos hnf, Sem.run_bind, hpx, hpy, Result.andThen_ok, hrun d]
            rfl
          | true =>
            obtain ⟨r', hr', hrun'⟩ := eqL_sound (i := i + 1) h3 (fun g hg => hn g (List.mem_cons_of_mem _ hg)) (by rw [dx]; exact hus) (by rw [dy]; exact hvs) hb
            refine ⟨r', hr', fun d w => ?_⟩
            simp only [Op.eqFields, if_pos hnf, Sem.run_bind, hpx, hpy, Result.andThen_ok, hrun d]
            exact hrun' d w
    · cases hk
end

end Go.AE
