/- Operations in their region; regions whose order is the text's. -/
import Derived.Test.YtodlgflkhcknaaaAFMem9
import Derived.Test.YtodlgflkhcknaaaAFLin2
import Derived.Orders
import Derived.LoopN
import Derived.Scope
namespace Go.AE
set_option linter.unusedVariables false
variable {oq : Unit} [Opq oq]
open Go

/-- A call answers as the evaluator says. -/
def CallOK (P : Program) (call : Nat → List AV → Heap → KH → Bool) : Prop :=
  ∀ f args h k, call f args h k = true →
    (∀ args' w, (callFunc f args').run P w = .ok (.enter f args') w) ∧
    ∀ φ w M (args' : Array Value), VRL φ args args'.toList → WR φ h w → Fresh φ h.next M → (∀ v h', k v h' = true → h'.next ≤ M) →
      Calls P f args' w fun e w' => ∃ v h' ψ u, k v h' = true ∧ e = .returned u ∧ VR ψ v u ∧ WR ψ h' w' ∧ Stp φ h.next w ψ h'.next w'

structure Good (P : Program) (X : CX) (call : Nat → List AV → Heap → KH → Bool) : Prop where
  ty : X.ty = tysOf P
  eqs : ∀ t ∈ X.eqs, EqOK P t
  ok : CallOK P call
  lin : LinC call

theorem Good.at {P : Program} {X : CX} {call : Nat → List AV → Heap → KH → Bool} (g : Good P X call) (loc : List Nat) : Good P (X.at loc) call := ⟨g.ty, g.eqs, g.ok, g.lin⟩

section
variable {P : Program} {X : CX} {call : Nat → List AV → Heap → KH → Bool} {φ : Emb} {e : Env} {a : Act} {h : Heap} {w : World} {M : Nat} {Q : Exit → Act → World → Prop}

/-- An operation in the model's walk. -/
theorem op_wp (g : Good P X call) {o : Oper} {c : COp} (hc : cOp X o.op o.type = some c) (hE : ER X φ e a) (hW : WR φ h w) (hF : Fresh φ h.next M) {k : KH} (hr : runO c call e h k = true)
    (hM : ∀ v h', k v h' = true → h'.next ≤ M) {K : Act → World → Prop}
    (hK : ∀ v h' ψ u w', k v h' = true → VR ψ v u → WR ψ h' w' → Stp φ h.next w ψ h'.next w' → K (a.put o.dst u) w') : o.wp P a w K Q := by
  have eout : EOut P φ h w k (execOp a.eval o) → o.wp P a w K Q := by
    rintro ⟨v, h', ψ, u, w', hk, hv, hrun, hW', hS⟩
    unfold Oper.wp
    rcases hrun with hrun | ⟨rfl, hrun⟩
    · rw [hrun, Oper.upon_value]; exact hK v h' ψ u w' hk hv hW' hS
    · rw [hrun, Oper.upon_skip]; exact hK v h' ψ _ w' hk hv hW' hS
  cases c with
  | pu p =>
    obtain ⟨v, u, hv, hk, hrun⟩ := pure_sound (k := fun v => k v h) g.ty g.eqs hE hc hr
    unfold Oper.wp; rw [hrun w, Oper.upon_value]
    exact hK v h φ u w hk hv hW (Stp.refl ..)
  | rd p =>
    obtain ⟨v, u, hv, hk, hrun⟩ := read_sound (k := fun v => k v h) g.ty hW hE hc hr
    unfold Oper.wp; rw [hrun, Oper.upon_value]
    exact hK v h φ u w hk hv hW (Stp.refl ..)
  | al p => exact eout (alloc_sound g.ty hW hF hE hc hr hM)
  | ef p =>
    rcases eff_sound g.ty hW hF hE hc hr hM with ho | ⟨fn, args, args', hcall, hargs, hrun⟩
    · exact eout ho
    · obtain ⟨henter, hcalls⟩ := g.ok fn args h k hcall
      unfold Oper.wp; rw [hrun, henter, Oper.upon_enter]
      refine Calls.mono (hcalls φ w M args' hargs hW hF hM) fun x w' hx => ?_
      obtain ⟨v, h', ψ, u, hk, rfl, hv, hW', hS⟩ := hx
      exact hK v h' ψ u w' hk hv hW' hS

/- Guards. -/
theorem VR_bool {φ : Emb} {v : AV} {b : Bool} (h : VR φ v (.bool b)) : v = .b b := by
  cases v with
  | b x => cases VR_b.1 h; rfl
  | i k n => cases VR_i.1 h
  | s n w => obtain ⟨s, h1, _⟩ := VR_s.1 h; cases h1
  | nilp => cases VR_nilp.1 h
  | p id tag off => obtain ⟨l, _, _, h1⟩ := VR_p.1 h; cases h1
  | nils => cases VR_nils.1 h
  | sl id tag off len cap esz => obtain ⟨l, p, c, _, _, h1, _⟩ := VR_sl.1 h; cases h1
  | nilm => cases VR_nilm.1 h
  | m id => obtain ⟨l, _, h1⟩ := VR_m.1 h; cases h1
  | nilf => cases VR_nilf.1 h
  | f fn a b => obtain ⟨x, y, h1, _⟩ := VR_f.1 h; cases h1
  | nili => cases VR_nili.1 h
  | ifc t x => obtain ⟨y, h1, _⟩ := VR_ifc.1 h; cases h1
  | agg l => obtain ⟨x, h1, _⟩ := VR_agg.1 h; cases h1
  | tup l => obtain ⟨x, h1, _⟩ := VR_tup.1 h; cases h1
  | o k => cases VR_o.1 h

/-- The guard of an operation made ready. -/
def guardOf (X : CX) (ops : Array Oper) (o : Oper) (cg : Option (Opd × Bool)) : Prop :=
  match o.guard with
  | none => cg = none
  | some (j, want) => ∃ g t, ops[j]? = some g ∧ g.dst = some t ∧ cg = some (cOpd X (.tmp t), want)

theorem guard_sound {ops : Array Oper} {o : Oper} {cg : Option (Opd × Bool)} (hg : guardOf X ops o cg) (hE : ER X φ e a) {yes no : Bool} (h : wantsK cg e yes no = true) :
    (Region.wanted o (yielded ops a.tmps) = true ∧ yes = true) ∨ (Region.wanted o (yielded ops a.tmps) = false ∧ no = true) := by
  unfold guardOf at hg
  unfold Region.wanted
  cases hgd : o.guard with
  | none => simp only [hgd] at hg ⊢; subst hg; exact .inl ⟨trivial, h⟩
  | some p =>
    obtain ⟨j, want⟩ := p
    simp only [hgd] at hg ⊢
    obtain ⟨g, t, hj, ht, rfl⟩ := hg
    obtain ⟨v, hv, h1⟩ := ev_sound hE (show ev (cOpd X (.tmp t)) e (fun v => onGuard v (fun x => @Bool.rec (fun _ => Bool) (@Bool.rec (fun _ => Bool) yes no want) (@Bool.rec (fun _ => Bool) no yes want) x) no) = true from h)
    have hev : a.eval (.tmp t) = a.tmps.getD t undef := rfl
    rw [hev] at hv
    have hy : yielded ops a.tmps j = match a.tmps[t]? with
        | some (.bool b) => some b
        | _ => none := by unfold yielded; rw [hj]; show (match (g.dst.bind fun x => a.tmps[x]?) with | some (.bool b) => some b | _ => none) = _; rw [ht]; rfl
    rw [Array.getD_eq_getD_getElem?] at hv
    simp only [hy]
    cases htt : a.tmps[t]? with
    | none =>
      rw [htt] at hv
      right
      refine ⟨rfl, ?_⟩
      have : v = .u ∨ ∀ f, onGuard v f no = no := by
        cases v <;> first
          | exact .inr fun _ => rfl
          | (cases VR_b.1 hv)
      rcases this with rfl | this
      · exact h1
      · rw [this] at h1; exact h1
    | some u =>
      rw [htt] at hv
      simp only [Option.getD_some] at hv
      by_cases hb : ∃ b, u = .bool b
      · obtain ⟨b, rfl⟩ := hb
        have := VR_bool hv
        subst this
        cases b <;> cases want <;> first
          | exact .inl ⟨rfl, h1⟩
          | exact .inr ⟨rfl, h1⟩
      · right
        constructor
        · cases u <;> first
            | rfl
            | exact absurd ⟨_, rfl⟩ hb
        · cases v <;> first
            | exact h1
            | exact absurd ⟨_, VR_b.1 hv⟩ hb

theorem cOper_parts {ops : Array Oper} {o : Oper} {c : COper} (h : cOper X ops o = some c) : cOp X o.op o.type = some c.op ∧ liveOf X o.dst = some c.live ∧ guardOf X ops o c.guard := by
  unfold cOper at h
  unfold guardOf
  split at h
  · rename_i c' live h1 h2
    split at h
    · rename_i hg; cases h; rw [hg]; exact ⟨h1, h2, rfl⟩
    · rename_i j want hg
      split at h
      · rename_i g hj
        split at h
        · rename_i t ht; cases h; rw [hg]; exact ⟨h1, h2, g, t, hj, ht, rfl⟩
        · cases h
      · cases h
  · cases h

/- The frame behind an operation. -/
theorem whereIs_succ (t : Nat) (l : List Nat) : ∀ j, whereIs t l (j + 1) = (whereIs t l j).map (· + 1) := by
  induction l with
  | nil => intro j; rfl
  | cons x l ih =>
    intro j
    show @Bool.rec (fun _ => Option Nat) (whereIs t l (j + 1 + 1)) (some (j + 1)) (Nat.beq x (t + 1)) = Option.map (· + 1) (@Bool.rec (fun _ => Option Nat) (whereIs t l (j + 1)) (some j) (Nat.beq x (t + 1)))
    cases Nat.beq x (t + 1)
    · exact ih _
    · rfl
theorem whereIs_cons {t x j : Nat} {l : List Nat} (h : whereIs t (x :: l) 0 = some j) : (x = t + 1 ∧ j = 0) ∨ (x ≠ t + 1 ∧ ∃ i, j = i + 1 ∧ whereIs t l 0 = some i) := by
  have h : @Bool.rec (fun _ => Option Nat) (whereIs t l 1) (some 0) (Nat.beq x (t + 1)) = some j := h
  cases hb : Nat.beq x (t + 1) with
  | true => rw [hb] at h; cases h; exact .inl ⟨beq_eq hb, rfl⟩
  | false =>
    rw [hb] at h
    have h : whereIs t l (0 + 1) = some j := h
    rw [whereIs_succ] at h
    cases hw : whereIs t l 0 with
    | none => rw [hw] at h; cases h
    | some i => rw [hw] at h; cases h; exact .inr ⟨beq_ne hb, i, rfl, rfl⟩

theorem live_parts {d : Option Nat} {live : Option Nat} (h : liveOf X d = some live) : (d = none ∧ live = none) ∨ ∃ t, d = some t ∧ t < X.nt ∧ ((X.lv.get t = some () ∧ live = some t) ∨ (X.lv.get t = none ∧ live = none)) := by
  unfold liveOf at h
  split at h
  · cases h; exact .inl ⟨rfl, rfl⟩
  · rename_i t
    split at h
    · cases h
    · rename_i hb
      have hlt : t + 1 ≤ X.nt := ble_le hb
      right
      split at h
      · rename_i u hu; cases h; exact ⟨t, rfl, hlt, .inl ⟨hu, rfl⟩⟩
      · rename_i hu; cases h; exact ⟨t, rfl, hlt, .inr ⟨hu, rfl⟩⟩

theorem put_size (a : Act) (d : Option Nat) (u : Value) : (a.put d u).tmps.size = a.tmps.size := by cases d <;> simp [Act.put]
theorem put_defers (a : Act) (d : Option Nat) (u : Value) : (a.put d u).defers = a.defers := by cases d <;> rfl
theorem put_here {a : Act} {t : Nat} {u : Value} (h : t < a.tmps.size) : (a.put (some t) u).tmps.getD t undef = u := by simp [Act.put, h]
theorem put_there {a : Act} {d : Option Nat} {t : Nat} {u : Value} (h : d ≠ some t) : (a.put d u).tmps.getD t undef = a.tmps.getD t undef := by
  cases d with
  | none => rfl
  | some d => have : d ≠ t := fun x => h (by rw [x]); simp [Act.put, Array.getElem?_setIfInBounds_ne this]

theorem ER.put {loc : List Nat} {v : AV} {u : Value} {d live : Option Nat} (hE : ER (X.at loc) φ e a) (hv : VR φ v u) (hl : liveOf X d = some live) (hn : X.nt ≤ a.tmps.size) :
    ER (X.at (slotOf d :: loc)) φ (putE live v e) (a.put d u) := by
  constructor
  · intro t j hj x hx
    rcases whereIs_cons (show whereIs t (slotOf d :: loc) 0 = some j from hj) with ⟨h1, rfl⟩ | ⟨h1, i, rfl, h2⟩
    · cases d with
      | none => cases h1
      | some d =>
        have h1 : d + 1 = t + 1 := h1
        obtain rfl : d = t := by omega
        have hx : some v = some x := hx
        cases hx
        rcases live_parts hl with ⟨h2, _⟩ | ⟨t, h2, h3, _⟩
        · cases h2
        · cases h2; rw [put_here (Nat.lt_of_lt_of_le h3 hn)]; exact hv
    · have : d ≠ some t := by rintro rfl; exact h1 rfl
      rw [put_there this]
      exact hE.loc t i h2 x (by simpa [putE] using hx)
  · intro t ht x hx
    rcases live_parts hl with ⟨rfl, rfl⟩ | ⟨t', rfl, h3, h4⟩
    · exact hE.fr t ht x hx
    · rcases h4 with ⟨h4, rfl⟩ | ⟨h4, rfl⟩
      · have hx : (T.set v e.fr t').get t = some x := hx
        rw [get_set] at hx
        by_cases htt : t = t'
        · subst htt
          rw [if_pos rfl] at hx; cases hx
          rw [put_here (Nat.lt_of_lt_of_le h3 hn)]; exact hv
        · rw [if_neg htt] at hx
          rw [put_there (fun x => htt (by cases x; rfl))]
          exact hE.fr t ht x hx
      · have hne : t' ≠ t := by rintro rfl; have ht : X.lv.get t' = some () := ht; rw [h4] at ht; cases ht
        rw [put_there (fun x => hne (by cases x; rfl))]
        exact hE.fr t ht x hx

/-- What holds of the frame between regions. -/
structure FI (X : CX) (φ : Emb) (fr : Fr) (a : Act) : Prop where
  er : ER (X.at []) φ ⟨fr, []⟩ a
  size : X.nt ≤ a.tmps.size
  defers : a.defers = []

theorem FI.of {loc : List Nat} (hE : ER (X.at loc) φ e a) (hn : X.nt ≤ a.tmps.size) (hd : a.defers = []) : FI X φ e.fr a :=
  ⟨⟨fun t j hj => (by cases hj), hE.fr⟩, hn, hd⟩

theorem FI.env {fr : Fr} (h : FI X φ fr a) : ER (X.at []) φ ⟨fr, []⟩ a := h.er
theorem FI.mono {ψ : Emb} {fr : Fr} (h : FI X φ fr a) (hs : Sub φ ψ) : FI X ψ fr a := ⟨h.er.mono hs, h.size, h.defers⟩

theorem wants_not {g : Option (Opd × Bool)} {yes no : Bool} (h : wantsK g e yes no = true) : yes = true ∨ no = true := by
  cases g with
  | none => exact .inl h
  | some g =>
    have h : ev g.1 e (fun v => onGuard v (fun x => @Bool.rec (fun _ => Bool) (@Bool.rec (fun _ => Bool) yes no g.2) (@Bool.rec (fun _ => Bool) no yes g.2) x) no) = true := h
    rcases lin_ev g.1 e with f | ⟨v, f⟩
    · rw [f] at h; cases h
    · rw [f] at h
      cases v <;> first
        | exact .inr h
        | (rename_i b; cases b <;> cases hg : g.2 <;> simp only [onGuard, hg] at h <;> first | exact .inl h | exact .inr h)

theorem reg_sound (g : Good P X call) {ops : Array Oper} : ∀ (l : List Oper) (cl : List COper) (loc : List Nat) (φ : Emb) (e : Env) (a : Act) (h : Heap) (w : World) (k : KF), cOpers X ops l loc = some cl →
    ER (X.at loc) φ e a → X.nt ≤ a.tmps.size → a.defers = [] → WR φ h w → Fresh φ h.next M → (∀ fr h', k fr h' = true → h'.next ≤ M) → runOps call cl e h k = true →
    (∀ fr h' ψ a' w', k fr h' = true → FI X ψ fr a' → WR ψ h' w' → Stp φ h.next w ψ h'.next w' → Q .normal a' w') → wpList P ops Q l a w
  | [], cl, loc, φ, e, a, h, w, k, hc, hE, hn, hd, hW, hF, hM, hr, hQ => by
    cases hc
    exact hQ _ _ φ _ _ hr (FI.of hE hn hd) hW (Stp.refl ..)
  | o :: l, cl, loc, φ, e, a, h, w, k, hc, hE, hn, hd, hW, hF, hM, hr, hQ => by
    unfold cOpers at hc
    split at hc
    · cases hc
    · rename_i c hc1
      split at hc
      · rename_i r hr1
        cases hc
        obtain ⟨ho, hl, hg⟩ := cOper_parts hc1
        have hM' : ∀ v h', runOps call r (putE c.live v e) h' k = true → h'.next ≤ M := fun v h' hh => by
          rcases lin_runOps g.lin r (putE c.live v e) h' with f | ⟨fr, h2, hn2, f⟩
          · rw [f] at hh; cases hh
          · rw [f] at hh; exact Nat.le_trans hn2 (hM _ _ hh)
        have next : ∀ v h' ψ u w', runOps call r (putE c.live v e) h' k = true → VR ψ v u → WR ψ h' w' → Stp φ h.next w ψ h'.next w' → wpList P ops Q l (a.put o.dst u) w' := fun v h' ψ u w' hk hv hW' hS => by
          refine reg_sound g l r (slotOf o.dst :: loc) ψ (putE c.live v e) (a.put o.dst u) h' w' k hr1 ((hE.mono hS.sub).put hv hl hn) (by rw [put_size]; exact hn) (by rw [put_defers]; exact hd) hW' (hS.fresh hF) hM hk
            fun fr h2 χ a' w2 hk2 hfi hW2 hS2 => hQ fr h2 χ a' w2 hk2 hfi hW2 (hS.trans hS2 hF (hM _ _ hk2))
        unfold wpList
        rcases guard_sound hg hE (show wantsK c.guard e (runO c.op call e h fun v h => runOps call r (putE c.live v e) h k) (runOps call r (putE c.live .u e) h k) = true from hr) with ⟨hw, hy⟩ | ⟨hw, hno⟩
        · rw [if_pos hw]
          exact .inl (op_wp (g.at loc) ho hE hW hF hy hM' next)
        · rw [hw, if_neg (by simp)]
          exact next .u h φ undef w hno (VR_u.2 rfl) hW (Stp.refl ..)
      · cases hc
end
end Go.AE
