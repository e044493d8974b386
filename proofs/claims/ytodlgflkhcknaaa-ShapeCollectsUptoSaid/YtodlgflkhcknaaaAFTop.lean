/- A law's call: from the evaluator's word to the model's walk. -/
import Derived.Test.YtodlgflkhcknaaaAFExec1
import Derived.ChangeFn
namespace Go.AE
set_option linter.unusedVariables false
variable {oq : Unit} [Opq oq]
open Go

/-- Nothing stands for anything. -/
def noEmb : Emb := fun _ _ => none
/-- No objects. -/
def noHeap : Heap := ⟨0, .e⟩

theorem start (hro : Opq.ro = 0) (w : World) : WR noEmb noHeap w := ⟨fun id o h => (by cases h), fun id o h => (by cases h), fun id t id' t' l l' _ h => (by cases h), fun id t l h => (by cases h), Nat.le_of_eq hro, fun id o h => (by cases h)⟩

theorem kept {ψ : Emb} {n m : Nat} {w w' : World} (h : Stp noEmb n w ψ m w') : w.keptBut w' (fun _ => False) := by
  refine ⟨h.os, h.output, fun i hi => ?_⟩
  rw [h.block i hi fun id t l _ _ hl => (by cases hl)]
  split
  · rename_i c t fr c' t' fr' h1 h2
    rw [h1] at h2; cases h2
    exact ⟨rfl, rfl, rfl, fun _ _ => rfl⟩
  · rename_i es ck es' ck' h1 h2
    rw [h1] at h2; cases h2
    exact .inr ⟨rfl, rfl⟩
  · rfl

/-- The evaluator says: the law answers true. So says the model. -/
theorem law_walk (hro : Opq.ro = 0) {P : Program} (hm : P.follows .mixedOrders = true) {eqs : List Nat} (hQ : ∀ t ∈ eqs, EqOK P t) (hN : ∀ (f : Nat) (fn : Func), P.funcs[f]? = some fn → fn.body ≠ none → fn.name ≠ "runtime.NumGoroutine")
    {f n : Nat} {avs : List AV} {args : Array Value} (hv : VRL noEmb avs args.toList) (hr : callF (tabOf (tysOf P) eqs (funsOf P)) n f avs noHeap (fun v _ => onB v fun b => b) = true) (w : World) :
    Calls P f args w fun e w' => e = .returned (.bool true) ∧ w.keptBut w' (fun _ => False) := by
  rcases lin_callF (tabOf (tysOf P) eqs (funsOf P)) n f avs noHeap with g | ⟨v, h', hn, g⟩
  · rw [g] at hr; cases hr
  · have ht : onB v (fun b => b) = true := (g _).symm.trans hr
    obtain ⟨b, rfl, hb⟩ := onB_true ht
    have hb : b = true := hb
    subst hb
    obtain ⟨_, hc⟩ := call_sound hm hQ hN n f avs noHeap (kEq (.b true) h') ((g _).trans (kEq_self _ _))
    refine Calls.mono (hc noEmb w h'.next args hv (start hro w) (fun id t l hl => (by cases hl)) fun x h2 hx => by rw [(kEq_true hx).2]; exact Nat.le_refl _) fun e w' he => ?_
    obtain ⟨x, h2, ψ, u, hx, rfl, hu, _, hS⟩ := he
    obtain ⟨rfl, rfl⟩ := kEq_true hx
    rw [VR_b.1 hu]
    exact ⟨rfl, kept hS⟩

/-- Names, asked by program. -/
theorem names_of {P : Program} (h : (P.funcs.toList.all fun fn => fn.body.isNone || !(fn.name == "runtime.NumGoroutine")) = true) : ∀ (f : Nat) (fn : Func), P.funcs[f]? = some fn → fn.body ≠ none → fn.name ≠ "runtime.NumGoroutine" := by
  intro f fn hf hb hn
  have h1 := List.all_eq_true.1 h fn (Array.mem_toList_iff.2 (Array.mem_of_getElem? hf))
  rw [hn] at h1
  cases hbody : fn.body with
  | none => exact hb hbody
  | some c => rw [hbody] at h1; simp at h1
end Go.AE
