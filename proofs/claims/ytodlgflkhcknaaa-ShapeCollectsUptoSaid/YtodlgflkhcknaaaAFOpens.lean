/- Numbers that are left open: calls that are known of them; a law that is given a row which it only reads. -/
import Derived.Test.YtodlgflkhcknaaaAFMemo2
namespace Go.AE
set_option linter.unusedVariables false
open Go


/-- Of what was there nothing has turned. -/
structure Still (w w' : World) : Prop where
  os : w'.os = w.os
  tape : w'.tape = w.tape
  output : w'.output = w.output
  size : w.heap.size ≤ w'.heap.size
  block : ∀ B, B < w.heap.size → w'.heap[B]? = w.heap[B]?

/-- What a call of plain values comes to, told without a heap. -/
theorem pure_call {P : Program} (hm : P.follows .mixedOrders = true) {eqs : List Nat} (hQ : ∀ t ∈ eqs, EqOK P t) (hN : ∀ (f : Nat) (fn : Func), P.funcs[f]? = some fn → fn.body ≠ none → fn.name ≠ "runtime.NumGoroutine")
    {n f : Nat} {avs : List AV} {args : Array Value} {r : AV} {res : Value} (hv : @VRL () opq0 noEmb avs args.toList) (hres : ∀ φ u, @VR () opq0 φ r u → u = res)
    (hr : ∀ k : KH, callF (tabOf (tysOf P) eqs (funsOf P)) n f avs noHeap k = k r noHeap) :
    (∀ args' w, (callFunc f args').run P w = .ok (.enter f args') w) ∧ ∀ w, Calls P f args w fun e w' => e = .returned res ∧ Still w w' := by
  letI : Opq () := opq0
  obtain ⟨h1, h2⟩ := call_sound hm hQ hN n f avs noHeap (kEq r noHeap) ((hr _).trans (kEq_self _ _))
  refine ⟨h1, fun w => Calls.mono (h2 noEmb w 0 args hv (start rfl w) (fun id t l hl => (by cases hl)) fun x h2 hx => by rw [(kEq_true hx).2]; exact Nat.le_refl _) fun e w' he => ?_⟩
  obtain ⟨x, h', ψ, u, hx, rfl, hu, _, hS⟩ := he
  obtain ⟨rfl, rfl⟩ := kEq_true hx
  exact ⟨by rw [hres _ _ hu], hS.os, hS.tape, hS.output, hS.size, fun B hB => hS.block B hB fun id t l _ _ hl => (by cases hl)⟩

variable {oq : Unit} [Opq oq]

/-- A known call of a number that is left open. -/
theorem open_ent {P : Program} {f k : Nat} {res : AV} {rv : Value} (hres : VR noEmb res rv) (hent : ∀ args' w, (callFunc f args').run P w = .ok (.enter f args') w)
    (hc : ∀ w, Calls P f #[.int .i64 (Opq.val k)] w fun e w' => e = .returned rv ∧ Still w w') : EntOK P ⟨f, [.o k], res, [], 0⟩ := by
  refine ⟨hent, ?_, fun w args' hv => ?_⟩
  · show ite' (ite' (Nat.beq k k) true false) true false = true
    rw [beq_self]; rfl
  · obtain ⟨v, vs, e, hv, hvs⟩ := hv
    have hv := VR_o.1 hv
    have hvs : vs = [] := hvs
    have : args' = #[.int .i64 (Opq.val k)] := by
      subst hv; subst hvs
      cases args'; simpa using e
    subst this
    refine Calls.mono (hc w) fun x w' hx => ?_
    obtain ⟨rfl, hS⟩ := hx
    exact ⟨noEmb, rv, noHeap, rfl, hres, ⟨fun id o h => (by cases h), fun id o h => (by cases h), fun id t id' t' l l' h => (by cases h), fun id t l h => (by cases h)⟩, rfl,
      ⟨Sub.refl _, Nat.le_refl _, fun id t l h => (by cases h), hS.os, hS.tape, hS.output, hS.size, fun B hB _ => hS.block B hB⟩, rfl⟩

/-- A row that is but read, and nothing else. -/
noncomputable def rowHeap (cs : List AV) : Heap := ⟨1, T.set (.ro (T.ofList cs 0 .e)) .e 0⟩
def rowEmb (l : Loc) : Emb := fun id t => if id = 0 ∧ t = 0 then some l else none
theorem rowEmb_inv {l : Loc} {id t : Nat} {l' : Loc} (h : rowEmb l id t = some l') : id = 0 ∧ t = 0 ∧ l' = l := by
  unfold rowEmb at h
  split at h
  · rename_i hc; cases h; exact ⟨hc.1, hc.2, rfl⟩
  · cases h

theorem row_start (hro : Opq.ro = 1) {cs : List AV} {l : Loc} {w : World} (hs : l.start = 0) (hb : l.block < w.heap.size) (hc : ∀ (j : Nat) (v : AV), cs[j]? = some v → ∃ u, w.cell? (l.at j) = some u ∧ ∀ φ, VR φ v u) :
    WR (rowEmb l) (rowHeap cs) w := by
  have get : ∀ id o, (rowHeap cs).tr.get id = some o → id = 0 ∧ o = .ro (T.ofList cs 0 .e) := fun id o h => by
    have h : (T.set (Obj.ro (T.ofList cs 0 .e)) .e 0).get id = some o := h
    rw [get_set] at h
    split at h
    · cases h; exact ⟨by assumption, rfl⟩
    · cases h
  refine ⟨fun id o h => ?_, fun id o h => ?_, fun id t id' t' l1 l2 _ h1 h2 _ => ?_, fun id t l' h => ?_, Nat.le_of_eq hro, fun id o h _ => ?_⟩
  · rw [(get id o h).1]; exact Nat.one_pos
  · obtain ⟨rfl, rfl⟩ := get id o h
    intro tag l' hl j v hj hv
    obtain ⟨_, _, rfl⟩ := rowEmb_inv hl
    rw [get_ofList] at hv
    split at hv
    · rw [Nat.sub_zero] at hv
      obtain ⟨u, hu, hr⟩ := hc j v hv
      exact ⟨u, hu, hr _⟩
    · cases hv
  · obtain ⟨rfl, _, rfl⟩ := rowEmb_inv h1
    obtain ⟨rfl, _, rfl⟩ := rowEmb_inv h2
    exact ⟨rfl, rfl, rfl⟩
  · obtain ⟨_, _, rfl⟩ := rowEmb_inv h; exact hb
  · rw [(get id o h).2]; rfl

theorem none_start (hro : Opq.ro = 1) (w : World) : WR noEmb (rowHeap []) w := by
  have get : ∀ id o, (rowHeap []).tr.get id = some o → id = 0 ∧ o = .ro (T.ofList [] 0 .e) := fun id o h => by
    have h : (T.set (Obj.ro (T.ofList [] 0 .e)) .e 0).get id = some o := h
    rw [get_set] at h
    split at h
    · cases h; exact ⟨by assumption, rfl⟩
    · cases h
  refine ⟨fun id o h => ?_, fun id o h => ?_, fun id t id' t' l1 l2 _ h1 h2 _ => (by cases h1), fun id t l' h => (by cases h), Nat.le_of_eq hro, fun id o h _ => ?_⟩
  · rw [(get id o h).1]; exact Nat.one_pos
  · obtain ⟨rfl, rfl⟩ := get id o h
    intro tag l' hl
    cases hl
  · rw [(get id o h).2]; rfl

/-- The evaluator's word for a law that is given a row which it only reads. -/
theorem law_walkO (hro : Opq.ro = 1) {P : Program} {call : Nat → List AV → Heap → KH → Bool} (hC : CallOK P call) (hL : LinC call)
    {f : Nat} {avs : List AV} {args : Array Value} {cs : List AV} {φ : Emb} {w : World} (hφ : ∀ id t l, φ id t = some l → id = 0) (hW : WR φ (rowHeap cs) w) (hv : VRL φ avs args.toList)
    (hr : call f avs (rowHeap cs) (fun v _ => onB v fun b => b) = true) :
    Calls P f args w fun e w' => e = .returned (.bool true) ∧ w.keptBut w' (fun _ => False) := by
  rcases hL f avs (rowHeap cs) with g | ⟨v, h', hn, g⟩
  · rw [g] at hr; cases hr
  · have ht : onB v (fun b => b) = true := (g _).symm.trans hr
    obtain ⟨b, rfl, hb⟩ := onB_true ht
    have hb : b = true := hb
    subst hb
    obtain ⟨_, hc⟩ := hC f avs (rowHeap cs) (kEq (.b true) h') ((g _).trans (kEq_self _ _))
    refine Calls.mono (hc φ w h'.next args hv hW (fun id t l' hl => .inl (by rw [hφ _ _ _ hl]; exact Nat.one_pos)) fun x h2 hx => by rw [(kEq_true hx).2]; exact Nat.le_refl _) fun e w' he => ?_
    obtain ⟨x, h2, ψ, u, hx, rfl, hu, _, hS⟩ := he
    obtain ⟨rfl, rfl⟩ := kEq_true hx
    rw [VR_b.1 hu]
    refine ⟨rfl, hS.os, hS.output, fun i hi => ?_⟩
    rw [hS.block i hi fun id t l' h1 h2 hl => (by
      have h2 : id < 1 := h2
      omega)]
    split
    · rename_i c t fr c' t' fr' h1 h2
      rw [h1] at h2; cases h2
      exact ⟨rfl, rfl, rfl, fun _ _ => rfl⟩
    · rename_i es ck es' ck' h1 h2
      rw [h1] at h2; cases h2
      exact .inr ⟨rfl, rfl⟩
    · rfl
end Go.AE
