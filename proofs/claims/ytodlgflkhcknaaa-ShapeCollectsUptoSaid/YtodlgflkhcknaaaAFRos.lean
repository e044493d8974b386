/- A law that is given rows which it only reads, however they lie; calls that are known to answer yes. -/
import Derived.Test.YtodlgflkhcknaaaAFOpens
namespace Go.AE
set_option linter.unusedVariables false
open Go

/-- A call without arguments that answers true. -/
theorem quiet_call {P : Program} (hm : P.follows .mixedOrders = true) {eqs : List Nat} (hQ : ∀ t ∈ eqs, EqOK P t) (hN : ∀ (f : Nat) (fn : Func), P.funcs[f]? = some fn → fn.body ≠ none → fn.name ≠ "runtime.NumGoroutine")
    {n f : Nat} (hr : callF (tabOf (tysOf P) eqs (funsOf P)) n f [] noHeap (fun v _ => onB v fun b => b) = true) :
    (∀ args' w, (callFunc f args').run P w = .ok (.enter f args') w) ∧ ∀ w, Calls P f #[] w fun e w' => e = .returned (.bool true) ∧ Still w w' := by
  letI : Opq () := opq0
  rcases lin_callF (tabOf (tysOf P) eqs (funsOf P)) n f [] noHeap with g | ⟨v, h', hn, g⟩
  · rw [g] at hr; cases hr
  · have ht : onB v (fun b => b) = true := (g _).symm.trans hr
    obtain ⟨b, rfl, hb⟩ := onB_true ht
    have hb : b = true := hb
    subst hb
    obtain ⟨h1, h2⟩ := call_sound hm hQ hN n f [] noHeap (kEq (.b true) h') ((g _).trans (kEq_self _ _))
    refine ⟨h1, fun w => Calls.mono (h2 noEmb w h'.next #[] (show VRL noEmb [] [] from rfl) (start rfl w) (fun id t l hl => (by cases hl)) fun x h2 hx => by rw [(kEq_true hx).2]; exact Nat.le_refl _) fun e w' he => ?_⟩
    obtain ⟨x, h2, ψ, u, hx, rfl, hu, _, hS⟩ := he
    obtain ⟨rfl, rfl⟩ := kEq_true hx
    exact ⟨by rw [VR_b.1 hu], hS.os, hS.tape, hS.output, hS.size, fun B hB => hS.block B hB fun id t l _ _ hl => (by cases hl)⟩

variable {oq : Unit} [Opq oq]

/-- The same as a known call. -/
theorem quiet_ent {P : Program} {f : Nat} (hent : ∀ args' w, (callFunc f args').run P w = .ok (.enter f args') w)
    (hc : ∀ w, Calls P f #[] w fun e w' => e = .returned (.bool true) ∧ Still w w') : EntOK P ⟨f, [], .b true, [], 0⟩ := by
  refine ⟨hent, rfl, fun w args' hv => ?_⟩
  have hv : args'.toList = [] := hv
  have : args' = #[] := by cases args'; simpa using hv
  subst this
  refine Calls.mono (hc w) fun x w' hx => ?_
  obtain ⟨rfl, hS⟩ := hx
  exact ⟨noEmb, .bool true, noHeap, rfl, rfl, ⟨fun id o h => (by cases h), fun id o h => (by cases h), fun id t id' t' l l' h => (by cases h), fun id t l h => (by cases h)⟩, rfl,
    ⟨Sub.refl _, Nat.le_refl _, fun id t l h => (by cases h), hS.os, hS.tape, hS.output, hS.size, fun B hB _ => hS.block B hB⟩, rfl⟩

/-- Rows that are but read: their cells; where they lie, if somewhere. -/
noncomputable def roHeap (es : List (List AV × Option Loc)) : Heap := ⟨es.length, T.ofList (es.map fun e => .ro (T.ofList e.1 0 .e)) 0 .e⟩
def roEmb (es : List (List AV × Option Loc)) : Emb := fun id t => if t = 0 then (es[id]?).bind (·.2) else none
theorem roEmb_inv {es : List (List AV × Option Loc)} {id t : Nat} {l : Loc} (h : roEmb es id t = some l) : t = 0 ∧ ∃ cs, es[id]? = some (cs, some l) := by
  unfold roEmb at h
  split at h
  · rename_i hc
    obtain ⟨⟨cs, o⟩, h1, h2⟩ := Option.bind_eq_some_iff.1 h
    have h2 : o = some l := h2
    subst h2
    exact ⟨hc, cs, h1⟩
  · cases h
theorem roEmb_of {es : List (List AV × Option Loc)} {id : Nat} {l : Loc} {cs : List AV} (h : es[id]? = some (cs, some l)) : roEmb es id 0 = some l := by
  unfold roEmb; rw [if_pos rfl, h]; rfl
theorem roHeap_get {es : List (List AV × Option Loc)} {id : Nat} {o : Obj} (h : (roHeap es).tr.get id = some o) : id < es.length ∧ ∃ e, es[id]? = some e ∧ o = .ro (T.ofList e.1 0 .e) := by
  have h : (T.ofList (es.map fun e => Obj.ro (T.ofList e.1 0 .e)) 0 .e).get id = some o := h
  rw [get_ofList] at h
  split at h
  · rename_i hc
    rw [Nat.sub_zero, List.getElem?_map] at h
    obtain ⟨e, he, rfl⟩ := Option.map_eq_some_iff.1 h
    exact ⟨(List.getElem?_eq_some_iff.1 he).1, e, he, rfl⟩
  · cases h
theorem roHeap_at {es : List (List AV × Option Loc)} {id : Nat} {e : List AV × Option Loc} (h : es[id]? = some e) : (roHeap es).tr.get id = some (.ro (T.ofList e.1 0 .e)) := by
  show (T.ofList (es.map fun e => Obj.ro (T.ofList e.1 0 .e)) 0 .e).get id = _
  have hl := (List.getElem?_eq_some_iff.1 h).1
  rw [get_ofList, if_pos ⟨Nat.zero_le _, by simp; exact hl⟩, Nat.sub_zero, List.getElem?_map, h]; rfl
theorem ro_read {cs : List AV} {j : Nat} {x : AV} (h : cs[j]? = some x) (t : Nat) (k : KV) : rdK (.ro (T.ofList cs 0 .e)) t j k = k x := by
  have hl := (List.getElem?_eq_some_iff.1 h).1
  show (T.ofList cs 0 .e).getK j false k = _
  rw [getK_eq, get_ofList, if_pos ⟨Nat.zero_le _, by omega⟩, Nat.sub_zero, h]

theorem ro_start {es : List (List AV × Option Loc)} {w : World} (hro : Opq.ro = es.length)
    (h : ∀ (id : Nat) cs l, es[id]? = some (cs, some l) → l.start = 0 ∧ l.block < w.heap.size ∧ ∀ (j : Nat) v, cs[j]? = some v → ∃ u, w.cell? (l.at j) = some u ∧ VR (roEmb es) v u) : WR (roEmb es) (roHeap es) w := by
  refine ⟨fun id o ho => (roHeap_get ho).1, fun id o ho => ?_, fun id t id' t' l1 l2 hr h1 h2 _ => ?_, fun id t l' hl => ?_, Nat.le_of_eq hro, fun id o ho _ => ?_⟩
  · obtain ⟨_, ⟨cs, ol⟩, he, rfl⟩ := roHeap_get ho
    intro tag l hl j v hj hv
    obtain ⟨_, cs', he'⟩ := roEmb_inv hl
    rw [he] at he'
    cases he'
    have hv : (T.ofList cs 0 .e).get j = some v := hv
    rw [get_ofList] at hv
    split at hv
    · rw [Nat.sub_zero] at hv
      exact (h _ _ _ he).2.2 j v hv
    · cases hv
  · obtain ⟨_, cs, he⟩ := roEmb_inv h1
    have := (List.getElem?_eq_some_iff.1 he).1
    omega
  · obtain ⟨_, cs, he⟩ := roEmb_inv hl
    exact (h _ _ _ he).2.1
  · obtain ⟨_, e, _, rfl⟩ := roHeap_get ho; rfl

theorem Still.kept {w w' : World} (h : Still w w') : w.keptBut w' (fun _ => False) := by
  refine ⟨h.os, h.output, fun i hi => ?_⟩
  rw [h.block i hi]
  split
  · rename_i c t fr c' t' fr' h1 h2
    rw [h1] at h2; cases h2
    exact ⟨rfl, rfl, rfl, fun _ _ => rfl⟩
  · rename_i es ck es' ck' h1 h2
    rw [h1] at h2; cases h2
    exact .inr ⟨rfl, rfl⟩
  · rfl

/-- The evaluator's word for a law that is given rows which it only reads. -/
theorem law_walkR {P : Program} {call : Nat → List AV → Heap → KH → Bool} (hC : CallOK P call)
    {f : Nat} {avs : List AV} {args : Array Value} {φ : Emb} {h : Heap} {w : World} (hφ : ∀ id t l, φ id t = some l → id < Opq.ro) (hW : WR φ h w) (hv : VRL φ avs args.toList)
    (hr : ∃ h', ∀ k : KH, call f avs h k = k (.b true) h') :
    Calls P f args w fun e w' => e = .returned (.bool true) ∧ Still w w' := by
  obtain ⟨h', hr⟩ := hr
  obtain ⟨_, hc⟩ := hC f avs h (kEq (.b true) h') ((hr _).trans (kEq_self _ _))
  refine Calls.mono (hc φ w h'.next args hv hW (fun id t l' hl => .inl (Nat.lt_of_lt_of_le (hφ _ _ _ hl) hW.roo.1)) fun x h2 hx => by rw [(kEq_true hx).2]; exact Nat.le_refl _) fun e w' he => ?_
  obtain ⟨x, h2, ψ, u, hx, rfl, hu, _, hS⟩ := he
  obtain ⟨rfl, rfl⟩ := kEq_true hx
  rw [VR_b.1 hu]
  exact ⟨rfl, hS.os, hS.tape, hS.output, hS.size, fun i hi => hS.block i hi fun id t l' h1 h2 hl => (by
    have := hφ _ _ _ hl
    omega)⟩
end Go.AE
