/- Regions whose order is open: the reckoning in the text's order, as a trace. -/
import Derived.Test.YtodlgflkhcknaaaAFReg2
namespace Go.AE
set_option linter.unusedVariables false
variable {oq : Unit} [Opq oq]
open Go

theorem wants_lin (g : Option (Opd × Bool)) (e : Env) : (∀ y n, wantsK g e y n = y) ∨ (∀ y n, wantsK g e y n = n) ∨ (∀ y n, wantsK g e y n = false) := by
  cases g with
  | none => exact .inl fun _ _ => rfl
  | some g =>
    have hd : ∀ y n, wantsK (some g) e y n = ev g.1 e fun v => onGuard v (fun x => @Bool.rec (fun _ => Bool) (@Bool.rec (fun _ => Bool) y n g.2) (@Bool.rec (fun _ => Bool) n y g.2) x) n := fun _ _ => rfl
    rcases lin_ev g.1 e with f | ⟨v, f⟩
    · exact .inr (.inr fun y n => by rw [hd, f])
    · have hd2 : ∀ y n, wantsK (some g) e y n = onGuard v (fun x => @Bool.rec (fun _ => Bool) (@Bool.rec (fun _ => Bool) y n g.2) (@Bool.rec (fun _ => Bool) n y g.2) x) n := fun y n => by rw [hd, f]
      cases v <;> first
        | exact .inr (.inl fun y n => hd2 y n)
        | (rename_i b; cases b <;> cases hg : g.2 <;> simp only [hg] at hd2 <;> first | exact .inl fun y n => hd2 y n | exact .inr (.inl fun y n => hd2 y n))

/-- One step of the reckoning. -/
def StepAt (call : Nat → List AV → Heap → KH → Bool) (c : COper) (e : Env) (h : Heap) (v : AV) (h' : Heap) (wt : Bool) : Prop :=
  (wt = true ∧ (∀ y n, wantsK c.guard e y n = y) ∧ ∀ k, runO c.op call e h k = k v h') ∨ (wt = false ∧ (∀ y n, wantsK c.guard e y n = n) ∧ v = .u ∧ h' = h)

/-- The heaps before each change, and the last one. -/
noncomputable def stg : List COper → (Nat → Heap) → List Heap
  | [], H => [H 0]
  | c :: cl, H => if isEf c.op = true then H 0 :: stg cl (fun i => H (i + 1)) else stg cl (fun i => H (i + 1))

structure Tra (call : Nat → List AV → Heap → KH → Bool) (cl : List COper) (E : Nat → Env) (H : Nat → Heap) (V : Nat → AV) (W : Nat → Bool) : Prop where
  step : ∀ i c, cl[i]? = some c → StepAt call c (E i) (H i) (V i) (H (i + 1)) (W i)
  env : ∀ i c, cl[i]? = some c → E (i + 1) = putE c.live (V i) (E i)

def Chk (l : List Heap) (r : Rec) : Prop := ∀ (j : Nat) (h : Heap), l[j]? = some h → r.lo ≤ j → j ≤ r.hi → runR r.op r.fr h (sameV r.v) = true

theorem chkAt_spec (r : Rec) : ∀ (l : List Heap) (n : Nat), chkAt r l n = true → ∀ (j : Nat) (h : Heap), l[j]? = some h → r.lo ≤ n + j → n + j ≤ r.hi → runR r.op r.fr h (sameV r.v) = true := by
  intro l
  induction l with
  | nil => intro n _ j h hj; simp at hj
  | cons x l ih =>
    intro n hc j h hj h1 h2
    have hc : andB (ite' (ite' (Nat.ble r.lo n) (Nat.ble n r.hi) false) (runR r.op r.fr x (sameV r.v)) true) (chkAt r l (n + 1)) = true := hc
    rw [andB_eq, Bool.and_eq_true] at hc
    cases j with
    | zero =>
      cases hj
      have hc := hc.1
      rw [Nat.ble_eq_true_of_le (by omega : r.lo ≤ n), Nat.ble_eq_true_of_le (by omega : n ≤ r.hi)] at hc
      exact hc
    | succ j => exact ih (n + 1) hc.2 j h (by simpa using hj) (by omega) (by omega)
theorem chkAll_spec (l : List Heap) : ∀ (rs : List Rec), chkAll l rs = true → ∀ r ∈ rs, Chk l r := by
  intro rs
  induction rs with
  | nil => intro _ r hr; cases hr
  | cons x rs ih =>
    intro h r hr
    have h : andB (chkAt x l 0) (chkAll l rs) = true := h
    rw [andB_eq, Bool.and_eq_true] at h
    cases hr with
    | head => exact fun j h' hj h1 h2 => chkAt_spec x l 0 h.1 j h' hj (by omega) (by omega)
    | tail _ hr => exact ih h.2 r hr

theorem trace {call : Nat → List AV → Heap → KH → Bool} (hL : LinC call) {k : KF} : ∀ (cl : List COper) (e : Env) (h : Heap) (rs : List Rec) (hs : List Heap), runD call cl e h rs hs k = true →
    ∃ E H V W, E 0 = e ∧ H 0 = h ∧ Tra call cl E H V W ∧ k (E cl.length).fr (H cl.length) = true ∧ (∀ r ∈ rs, Chk (revL hs (stg cl H)) r) ∧
      ∀ (i : Nat) (c : COper) (r : ROp), cl[i]? = some c → c.op = .rd r → W i = true → c.lo ≠ c.hi → Chk (revL hs (stg cl H)) ⟨r, E i, V i, c.lo, c.hi⟩
  | [], e, h, rs, hs, hr => by
    have hr : andB (chkAll (revL hs [h]) rs) (k e.fr h) = true := hr
    rw [andB_eq, Bool.and_eq_true] at hr
    exact ⟨fun _ => e, fun _ => h, fun _ => .u, fun _ => false, rfl, rfl, ⟨fun i c hc => (by simp at hc), fun i c hc => (by simp at hc)⟩, hr.2, chkAll_spec _ _ hr.1, fun i c r hc => (by simp at hc)⟩
  | o :: cl, e, h, rs, hs, hr => by
    have hr : wantsK o.guard e (runO o.op call e h fun v h' => runD call cl (putE o.live v e) h' (addRec o e v rs) (@Bool.rec (fun _ => List Heap) hs (h :: hs) (isEf o.op)) k)
      (runD call cl (putE o.live .u e) h rs (@Bool.rec (fun _ => List Heap) hs (h :: hs) (isEf o.op)) k) = true := hr
    have build : ∀ v h' wt rs', StepAt call o e h v h' wt → runD call cl (putE o.live v e) h' rs' (@Bool.rec (fun _ => List Heap) hs (h :: hs) (isEf o.op)) k = true → (∀ r ∈ rs, r ∈ rs') →
        (∀ r, o.op = .rd r → wt = true → o.lo ≠ o.hi → (⟨r, e, v, o.lo, o.hi⟩ : Rec) ∈ rs') →
        ∃ E H V W, E 0 = e ∧ H 0 = h ∧ Tra call (o :: cl) E H V W ∧ k (E (o :: cl).length).fr (H (o :: cl).length) = true ∧ (∀ r ∈ rs, Chk (revL hs (stg (o :: cl) H)) r) ∧
          ∀ (i : Nat) (c : COper) (r : ROp), (o :: cl)[i]? = some c → c.op = .rd r → W i = true → c.lo ≠ c.hi → Chk (revL hs (stg (o :: cl) H)) ⟨r, E i, V i, c.lo, c.hi⟩ := by
      intro v h' wt rs' hstep hrun hsub hrec
      obtain ⟨E, H, V, W, hE, hH, ⟨t1, t2⟩, hk, hc1, hc2⟩ := trace hL cl _ _ _ _ hrun
      have hst : ∀ H' : Nat → Heap, H' 0 = h → (∀ i, H' (i + 1) = H i) → revL hs (stg (o :: cl) H') = revL (@Bool.rec (fun _ => List Heap) hs (h :: hs) (isEf o.op)) (stg cl H) := fun H' h0 h1 => by
        have : (fun i => H' (i + 1)) = H := funext h1
        rw [stg, this, h0]
        cases isEf o.op <;> rfl
      let E' : Nat → Env := fun i => match i with | 0 => e | i + 1 => E i
      let H' : Nat → Heap := fun i => match i with | 0 => h | i + 1 => H i
      let V' : Nat → AV := fun i => match i with | 0 => v | i + 1 => V i
      let W' : Nat → Bool := fun i => match i with | 0 => wt | i + 1 => W i
      have hst' := hst H' rfl fun _ => rfl
      refine ⟨E', H', V', W', rfl, rfl, ⟨fun i c hc => ?_, fun i c hc => ?_⟩, hk, fun r hr' => ?_, fun i c r hc ho hw hne => ?_⟩
      · cases i with
        | zero => cases hc; show StepAt call o e h v (H 0) wt; rw [hH]; exact hstep
        | succ i => exact t1 i c (by simpa using hc)
      · cases i with
        | zero => cases hc; exact hE
        | succ i => exact t2 i c (by simpa using hc)
      · rw [hst']; exact hc1 r (hsub r hr')
      · rw [hst']
        cases i with
        | zero => cases hc; exact hc1 _ (hrec r ho hw hne)
        | succ i => exact hc2 i c r (by simpa using hc) ho hw hne
    rcases wants_lin o.guard e with f | f | f
    · rw [f] at hr
      rcases lin_runO o.op hL e (h := h) with g | ⟨v, h', _, g⟩
      · rw [g] at hr; cases hr
      · rw [g] at hr
        refine build v h' true _ (.inl ⟨rfl, f, g⟩) hr (fun r hr' => ?_) fun r ho _ hne => ?_
        · unfold addRec
          cases o.op with
          | rd r2 => simp only []; cases Nat.beq o.lo o.hi
                     · exact List.mem_cons_of_mem _ hr'
                     · exact hr'
          | _ => exact hr'
        · unfold addRec
          rw [ho]
          simp only []
          cases hb : Nat.beq o.lo o.hi
          · exact List.mem_cons_self
          · exact absurd (beq_eq hb) hne
    · rw [f] at hr
      exact build .u h false _ (.inr ⟨rfl, f, rfl, rfl⟩) hr (fun r hr' => hr') fun r _ hw => by cases hw
    · rw [f] at hr; cases hr

/-- So many changes are among the first operations. -/
noncomputable def cnt : List COper → Nat → Nat
  | [], _ => 0
  | _ :: _, 0 => 0
  | c :: cl, s + 1 => (if isEf c.op = true then 1 else 0) + cnt cl s

theorem stg_get : ∀ (cl : List COper) (H : Nat → Heap) (s : Nat), (s = cl.length ∨ ∃ c, cl[s]? = some c ∧ isEf c.op = true) → (stg cl H)[cnt cl s]? = some (H s)
  | [], H, s, h => by
    rcases h with rfl | ⟨c, hc, _⟩
    · rfl
    · simp at hc
  | c :: cl, H, 0, h => by
    rcases h with h | ⟨c', hc, he⟩
    · simp at h
    · cases hc; rw [stg, if_pos he]; rfl
  | c :: cl, H, s + 1, h => by
    have h' : s = cl.length ∨ ∃ c, cl[s]? = some c ∧ isEf c.op = true := by
      rcases h with h | ⟨c', hc, he⟩
      · exact .inl (by simpa using h)
      · exact .inr ⟨c', by simpa using hc, he⟩
    have ih := stg_get cl (fun i => H (i + 1)) s h'
    rw [stg, cnt]
    split
    · rw [Nat.add_comm, List.getElem?_cons_succ]; exact ih
    · rw [Nat.zero_add]; exact ih
end Go.AE
