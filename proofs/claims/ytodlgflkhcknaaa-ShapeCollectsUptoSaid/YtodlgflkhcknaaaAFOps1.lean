/- Types, operands: what the ready-made ones say of the model's. -/
import Derived.Test.YtodlgflkhcknaaaAFRel
namespace Go.AE
set_option linter.unusedVariables false
variable {oq : Unit} [Opq oq]
open Go

section
variable {P : Program}

theorem tys_get {t : Nat} {i : TypeInfo} (h : (tysOf P).get t = some i) : P.info? t = some i := by
  unfold tysOf at h
  rw [get_ofList] at h
  by_cases hc : 0 ≤ t ∧ t < 0 + P.types.toList.length
  · rw [if_pos hc] at h
    have hlt : t < P.types.size := by simpa using hc.2
    unfold Tables.info?
    rw [if_pos hlt]
    simpa using h
  · rw [if_neg hc] at h; cases h

theorem funs_get {f : Nat} {fn : Func} (h : (funsOf P).get f = some fn) : P.funcs[f]? = some fn := by
  unfold funsOf at h
  rw [get_ofList] at h
  by_cases hc : 0 ≤ f ∧ f < 0 + P.funcs.toList.length
  · rw [if_pos hc] at h; simpa using h
  · rw [if_neg hc] at h; cases h

theorem und_get {t : Nat} {d : TypeDesc} (h : undT (tysOf P) t = some d) : P.underlying t = some d := by
  unfold undT at h
  unfold Program.underlying
  cases hg : (tysOf P).get t with
  | none => rw [hg] at h; cases h
  | some i =>
    rw [hg] at h
    rw [tys_get hg]
    obtain ⟨desc, str, size, bytes, hp, al, fal, zero, cm, ms⟩ := i
    cases desc <;> simp only [Option.some.injEq] at h ⊢ <;> first
      | exact h
      | (rename_i n u
         cases hu : (tysOf P).get u with
         | none => rw [hu] at h; cases h
         | some j => rw [hu] at h; simp only [Option.some.injEq] at h; rw [tys_get hu]; simp [h])

theorem run_und {t : Nat} {d : TypeDesc} (h : undT (tysOf P) t = some d) (w : World) : (underlying t).run P w = .ok d w := run_underlying (und_get h) w

theorem run_info {t : Nat} {i : TypeInfo} (h : P.info? t = some i) (w : World) : (typeInfo t).run P w = .ok i w := by simp [typeInfo, h]

theorem size_info {t s : Nat} (h : sizeT (tysOf P) t = some s) : ∃ i, P.info? t = some i ∧ i.size = s := by
  unfold sizeT at h
  cases hg : (tysOf P).get t with
  | none => rw [hg] at h; cases h
  | some i => rw [hg] at h; exact ⟨i, tys_get hg, Option.some.inj h⟩

theorem run_size {t s : Nat} (h : sizeT (tysOf P) t = some s) (w : World) : (sizeOf t).run P w = .ok s w := by
  obtain ⟨i, hi, rfl⟩ := size_info h
  simp [sizeOf, run_info hi]

theorem run_bytes {t s : Nat} (h : bytesT (tysOf P) t = some s) (w : World) : ∃ i, (typeInfo t).run P w = .ok i w ∧ i.bytes = s := by
  unfold bytesT at h
  cases hg : (tysOf P).get t with
  | none => rw [hg] at h; cases h
  | some i => rw [hg] at h; exact ⟨i, run_info (tys_get hg) w, Option.some.inj h⟩

theorem run_agg {t : Nat} {b : Bool} (h : aggT (tysOf P) t = some b) (w : World) : (isAgg t).run P w = .ok b w := by
  unfold aggT at h
  cases hu : undT (tysOf P) t with
  | none => rw [hu] at h; cases h
  | some d =>
    rw [hu] at h
    unfold isAgg
    rw [Sem.run_bind, run_und hu]
    cases d <;> simp_all

theorem ofVal1_VR {v : Value} {a : AV} (h : ofVal1 v = some a) (φ : Emb) : VR φ a v := by
  unfold ofVal1 at h
  split at h <;> first
    | (cases h; rfl)
    | (cases h; refine VR_s.2 ⟨_, rfl, ?_, rfl⟩; rw [lenL_eq]; simp)
    | cases h

theorem ofVals_VRL : ∀ {l : List Value} {as : List AV}, ofVals l = some as → ∀ φ, VRL φ as l
  | [], as, h, φ => by cases h; rfl
  | v :: l, as, h, φ => by
    unfold ofVals at h
    split at h
    · rename_i x xs h1 h2
      cases h
      exact ⟨v, l, rfl, ofVal1_VR h1 φ, ofVals_VRL h2 φ⟩
    · cases h

theorem ofVal_VR {v : Value} {a : AV} (h : ofVal v = some a) (φ : Emb) : VR φ a v := by
  unfold ofVal at h
  split at h
  · split at h
    · rename_i h1; cases h; exact VR_agg.2 ⟨_, rfl, ofVals_VRL h1 φ⟩
    · cases h
  · exact ofVal1_VR h φ

theorem run_zero {t : Nat} {z : AV} (h : zeroT (tysOf P) t = some z) (φ : Emb) : ∃ v, (∀ w, (zeroValue t).run P w = .ok v w) ∧ VR φ z v := by
  unfold zeroT at h
  cases hg : (tysOf P).get t with
  | none => rw [hg] at h; cases h
  | some i =>
    rw [hg] at h
    simp only [] at h
    cases hz : i.zero with
    | none => rw [hz] at h; cases h
    | some v => rw [hz] at h; exact ⟨v, fun w => by simp [zeroValue, run_info (tys_get hg), hz], ofVal_VR h φ⟩

theorem zeroS_get {t s : Nat} {l : List AV} (h : zeroS (tysOf P) t = some (l, s)) : ∃ z, zeroT (tysOf P) t = some z ∧ l = cellsOf z ∧ sizeT (tysOf P) t = some s ∧ l.length = s := by
  unfold zeroS at h
  split at h
  · rename_i s' z h1 h2
    split at h
    · rename_i hb
      cases h
      have := beq_eq hb
      rw [lenL_eq] at this
      exact ⟨z, h2, rfl, h1, by simpa using this⟩
    · cases h
  · cases h
end

/-- The frame stands for the model's slots. -/
structure ER (X : CX) (φ : Emb) (e : Env) (a : Act) : Prop where
  loc : ∀ (t j : Nat), whereIs t X.loc 0 = some j → ∀ v, e.ls[j]? = some v → VR φ v (a.tmps.getD t undef)
  fr : ∀ t, X.lv.get t = some () → ∀ v, e.fr.get t = some v → VR φ v (a.tmps.getD t undef)

theorem ER.mono {X : CX} {φ ψ : Emb} {e : Env} {a : Act} (h : ER X φ e a) (hs : Sub φ ψ) : ER X ψ e a :=
  ⟨fun t j hj v hv => VR_mono hs _ _ (h.loc t j hj v hv), fun t ht v hv => VR_mono hs _ _ (h.fr t ht v hv)⟩

theorem nthK_true {l : List AV} : ∀ {n : Nat} {k : KV}, nthK l n k = true → ∃ v, l[n]? = some v ∧ k v = true := by
  induction l with
  | nil => intro n k h; cases h
  | cons x xs ih =>
    intro n k h
    cases n with
    | zero => exact ⟨x, rfl, h⟩
    | succ n => obtain ⟨v, hv, hk⟩ := ih (n := n) (k := k) h; exact ⟨v, by simpa using hv, hk⟩

section
variable {X : CX} {φ : Emb} {e : Env} {a : Act}

theorem ev_sound (hE : ER X φ e a) {x : Operand} {k : KV} (h : ev (cOpd X x) e k = true) : ∃ v, VR φ v (a.eval x) ∧ k v = true := by
  cases x with
  | tmp t =>
    cases hw : whereIs t X.loc 0 with
    | some j =>
      simp only [cOpd, hw] at h
      obtain ⟨v, hv, hk⟩ := nthK_true (show nthK e.ls j k = true from h)
      exact ⟨v, hE.loc t j hw v hv, hk⟩
    | none =>
      cases hl : X.lv.get t with
      | none => simp only [cOpd, hw, hl] at h; cases h
      | some u =>
        simp only [cOpd, hw, hl] at h
        obtain ⟨v, hv, hk⟩ := getK_true (show e.fr.getK t false k = true from h)
        exact ⟨v, hE.fr t hl v hv, hk⟩
  | const c =>
    cases ho : ofVal c with
    | none => simp only [cOpd, ho] at h; cases h
    | some v => simp only [cOpd, ho] at h; exact ⟨v, ofVal_VR ho φ, h⟩
  | global g => cases h
  | func f => exact ⟨.f f [] [], VR_f.2 ⟨#[], #[], rfl, rfl, rfl⟩, h⟩

theorem evs_sound (hE : ER X φ e a) : ∀ {l : List Operand} {k : List AV → Bool}, evs (l.map (cOpd X)) e k = true → ∃ vs, VRL φ vs (l.map a.eval) ∧ k vs = true
  | [], k, h => ⟨[], rfl, h⟩
  | x :: l, k, h => by
    obtain ⟨v, hv, h1⟩ := ev_sound hE (show ev (cOpd X x) e (fun v => evs (l.map (cOpd X)) e fun vs => k (v :: vs)) = true from h)
    obtain ⟨vs, hvs, h2⟩ := evs_sound hE h1
    exact ⟨v :: vs, ⟨_, _, rfl, hv, hvs⟩, h2⟩

theorem evN_sound (hE : ER X φ e a) {x : Operand} {k : Nat → Bool} (h : evN (cOpd X x) e k = true) : ∃ kd n, a.eval x = .int kd (Int.ofNat n) ∧ k n = true := by
  obtain ⟨v, hv, h1⟩ := ev_sound hE h
  obtain ⟨kd, n, rfl, h2⟩ := onI_true h1
  cases n with
  | ofNat n => exact ⟨kd, n, VR_i.1 hv, h2⟩
  | negSucc n => cases h2

theorem bnd_sound (hE : ER X φ e a) {o : Option Operand} {d : Nat} {k : Nat → Bool} (h : bnd (o.map (cOpd X)) d e k = true) :
    ∃ n, k n = true ∧ ((o = none ∧ n = d) ∨ ∃ x kd, o = some x ∧ a.eval x = .int kd (Int.ofNat n)) := by
  cases o with
  | none => exact ⟨d, h, .inl ⟨rfl, rfl⟩⟩
  | some x =>
    obtain ⟨kd, n, hx, hk⟩ := evN_sound hE (show evN (cOpd X x) e k = true from h)
    exact ⟨n, hk, .inr ⟨x, kd, rfl, hx⟩⟩

theorem eval_arr (l : Array Operand) (f : Operand → Value) : (l.map f).toList = l.toList.map f := by simp
end

/- Numbers. -/
theorem beqK_eq {j k : IntKind} (h : beqK j k = true) : j = k := by
  cases j <;> cases k <;> first | rfl | (exact absurd h (by decide))
theorem beqI_eq (a b : Int) : beqI a b = (a == b) := by
  cases a <;> cases b <;> simp [beqI]
  · rename_i x y; rw [Bool.eq_iff_iff]; simp; omega
  · rename_i x y; rw [Bool.eq_iff_iff]; simp
theorem leI_eq (a b : Int) : leI a b = decide (a ≤ b) := by
  cases a <;> cases b <;> simp only [leI]
  · rename_i x y; rw [Bool.eq_iff_iff]; simp
  · rename_i x y; symm; simp; omega
  · rename_i x y; symm; simp; omega
  · rename_i x y; rw [Bool.eq_iff_iff]; simp; omega
theorem addI_eq (a b : Int) : addI a b = a + b := by cases a <;> cases b <;> rfl

theorem kI_eq (k : KV) (kd : IntKind) (n : Int) : kI k kd n = k (.i kd n) := by
  cases n with
  | ofNat a => cases a <;> rfl
  | negSucc a => cases a <;> rfl

theorem wrapF_eq (k : IntKind) (n : Int) : wrapF k n = k.wrap n := by
  cases k
  case i64 =>
    cases n with
    | ofNat a =>
      simp only [wrapF]
      cases hb : Nat.ble a 9223372036854775807
      · rfl
      · have := ble_le hb
        have h2 : (a : Int) % 2 ^ 64 = a := by omega
        simp only [IntKind.wrap, IntKind.bits, IntKind.signed, Int.ofNat_eq_natCast, h2]
        rw [if_neg (by simp; omega)]
    | negSucc a =>
      simp only [wrapF]
      cases hb : Nat.ble a 9223372036854775807
      · rfl
      · have := ble_le hb
        have h2 : (Int.negSucc a) % 2 ^ 64 = Int.negSucc a + 2 ^ 64 := by omega
        simp only [IntKind.wrap, IntKind.bits, IntKind.signed, h2]
        rw [if_pos (by simp; omega)]; omega
  case u8 =>
    cases n with
    | ofNat a => simp only [wrapF, IntKind.wrap, IntKind.bits, IntKind.signed]; have : Nat.mod a 256 = a % 256 := rfl; rw [this]; simp
    | negSucc a => rfl
  case u32 =>
    cases n with
    | ofNat a => simp only [wrapF, IntKind.wrap, IntKind.bits, IntKind.signed]; have : Nat.mod a 4294967296 = a % 4294967296 := rfl; rw [this]; simp
    | negSucc a => rfl
  case u64 =>
    cases n with
    | ofNat a => simp only [wrapF, IntKind.wrap, IntKind.bits, IntKind.signed]; have : Nat.mod a 18446744073709551616 = a % 18446744073709551616 := rfl; rw [this]; simp
    | negSucc a => rfl
  all_goals rfl

theorem toU_eq (k : IntKind) (n : Int) : (BitVec.ofInt k.bits n).toNat = toU k n := by
  rw [BitVec.toNat_ofInt]
  cases n with
  | ofNat a =>
    show _ = a % 2 ^ k.bits
    have : (Int.ofNat a) % ((2 ^ k.bits : Nat) : Int) = ((a % 2 ^ k.bits : Nat) : Int) := by simp
    rw [this]; exact Int.toNat_natCast _
  | negSucc a =>
    show _ = 2 ^ k.bits - 1 - a % 2 ^ k.bits
    cases k <;> simp only [IntKind.bits] <;> omega

end Go.AE
