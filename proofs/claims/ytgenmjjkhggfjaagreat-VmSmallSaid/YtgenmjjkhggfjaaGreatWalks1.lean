/- What the laws' walks share: the struct type whose values are compared, the functions' names, the evaluator's question. -/
import Derived.Test.YtgenmjjkhggfjaaGreatRows
import Derived.Test.YtgenmjjkhggfjaaGreatAETop
import Derived.WalkKit
namespace Go.Proofs.YtgenmjjkhggfjaaGreat
open Go

theorem eqs_ok : ∀ t ∈ [34], Go.AE.EqOK Tryz.prog t := by
  intro t ht
  have ht : t = 34 := by simpa using ht
  subst ht
  refine ⟨Tryz.stoodInHeld34, Tryz.eqGuardType34, fun fs h f hf => ?_⟩
  rw [Tryz.underlying34] at h
  cases h
  simp at hf
  rcases hf with rfl | rfl <;> decide

theorem names : (Tryz.prog.funcs.toList.all fun fn => fn.body.isNone || !(fn.name == "runtime.NumGoroutine")) = true := by kernel_rfl

/-- The evaluator's question: does a law answer true? -/
noncomputable def says (n f : Nat) (l : List Go.AE.AV) : Bool := Go.AE.callF (Go.AE.tabOf (Go.AE.tysOf Tryz.prog) [34] (Go.AE.funsOf Tryz.prog)) n f l Go.AE.noHeap (fun v _ => Go.AE.onB v fun b => b)

theorem walk_one (f n : Nat) (a0 : Int) (h : says n f [.i .i64 a0] = true) (w : World) : Calls Tryz.prog f #[.int .i64 a0] w fun e w' => e = .returned (.bool true) ∧ w.keptBut w' (fun _ => False) :=
  Go.AE.law_walk (args := #[.int .i64 a0]) (Tryz.checked.mixed) eqs_ok (Go.AE.names_of names) (show Go.AE.VRL Go.AE.noEmb [.i .i64 a0] [.int .i64 a0] from ⟨_, _, rfl, rfl, rfl⟩) h w
theorem walk_two (f n : Nat) (a0 a1 : Int) (h : says n f [.i .i64 a0, .i .i64 a1] = true) (w : World) : Calls Tryz.prog f #[.int .i64 a0, .int .i64 a1] w fun e w' => e = .returned (.bool true) ∧ w.keptBut w' (fun _ => False) :=
  Go.AE.law_walk (args := #[.int .i64 a0, .int .i64 a1]) (Tryz.checked.mixed) eqs_ok (Go.AE.names_of names) (show Go.AE.VRL Go.AE.noEmb [.i .i64 a0, .i .i64 a1] [.int .i64 a0, .int .i64 a1] from ⟨_, _, rfl, rfl, _, _, rfl, rfl, rfl⟩) h w
theorem walk_three (f n : Nat) (a0 a1 a2 : Int) (h : says n f [.i .i64 a0, .i .i64 a1, .i .i64 a2] = true) (w : World) : Calls Tryz.prog f #[.int .i64 a0, .int .i64 a1, .int .i64 a2] w fun e w' => e = .returned (.bool true) ∧ w.keptBut w' (fun _ => False) :=
  Go.AE.law_walk (args := #[.int .i64 a0, .int .i64 a1, .int .i64 a2]) (Tryz.checked.mixed) eqs_ok (Go.AE.names_of names) (show Go.AE.VRL Go.AE.noEmb [.i .i64 a0, .i .i64 a1, .i .i64 a2] [.int .i64 a0, .int .i64 a1, .int .i64 a2] from ⟨_, _, rfl, rfl, _, _, rfl, rfl, _, _, rfl, rfl, rfl⟩) h w
end Go.Proofs.YtgenmjjkhggfjaaGreat
