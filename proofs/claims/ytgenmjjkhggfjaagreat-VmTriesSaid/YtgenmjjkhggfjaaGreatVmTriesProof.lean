/-
  The law VmTries answers true for every whole number of 64 bits, and leaves what it was given: the given statement VmTriesSaid.
  Conditions: none beside the statement's own.
  Its frame was written by the kit's program (proof-skeleton.mjs); the walk is reckoned by an evaluator, proved sound in the texts AE...
-/
import Derived.Test.YtgenmjjkhggfjaaGreatRows
import Derived.WalkKit
import Derived.ProofKit
import Derived.OpenShut
import Derived.Test.YtgenmjjkhggfjaaGreatWalks1
namespace Go.Proofs.YtgenmjjkhggfjaaGreat.vmTries
open Go.ChangeShapes Go.WideShapes Go.ChangeAt Go.RowKit
set_option linter.unusedVariables false      -- a walk need not use every 'w<i>' (that an integer argument fits its kind)

theorem own : ownKnob Tryz.prog.godebug = none := by kernel_rfl

theorem way0 : says 400 5 [.i .i64 (Int.ofNat 0)] = true := by kernel_rfl
theorem way1 : says 400 5 [.i .i64 (Int.ofNat 1)] = true := by kernel_rfl
theorem way2 : says 400 5 [.i .i64 (Int.ofNat 2)] = true := by kernel_rfl
theorem way3 : says 400 5 [.i .i64 (Int.ofNat 3)] = true := by kernel_rfl
theorem way4 : says 400 5 [.i .i64 (Int.ofNat 4)] = true := by kernel_rfl
theorem way5 : says 400 5 [.i .i64 (Int.ofNat 5)] = true := by kernel_rfl
theorem way6 : says 400 5 [.i .i64 (Int.ofNat 6)] = true := by kernel_rfl
theorem wayMore (n : Nat) : says 400 5 [.i .i64 (Int.ofNat (n + 7))] = true := by kernel_rfl
theorem wayLess (n : Nat) : says 400 5 [.i .i64 (Int.negSucc n)] = true := by kernel_rfl

theorem every (a0 : Int) : says 400 5 [.i .i64 a0] = true := by
  cases a0 with
  | negSucc n => exact wayLess n
  | ofNat n =>
    match n with
    | 0 => exact way0
    | 1 => exact way1
    | 2 => exact way2
    | 3 => exact way3
    | 4 => exact way4
    | 5 => exact way5
    | 6 => exact way6
    | n + 7 => exact wayMore n

theorem walk (a0 : Int) (w0 : (Lit.int .i64 a0).wf = true) (w : World) :
    Calls Tryz.prog 5 #[.int .i64 a0] w fun e w' => e = .returned (.bool true) ∧ w.keptBut w' (fun _ => False) := walk_one 5 400 a0 (every a0) w

/-! ### THE ROW's STEP: WRITTEN OUT: LEAVE IT -/
set_option maxRecDepth 100000 in
theorem lifted (os : Os) (started : os.Started) (H : Type) (enc : TypeId × Value → H) :
    ReturnsInHanded {} Tryz.checked os 5 .any (Rows.vmTriesSpec.pre6 enc Tryz.prog Tryz.f5 Rows.vmTriesRow.domain false) (Rows.vmTriesSpec.post enc Tryz.prog Tryz.f5 false true false false) := by
  refine returnsInHanded_of_change (C := Tryz.checked) own started (by kernel_rfl) Tryz.func5
    (ChangeSpec.witness6 (enc := enc) (C := Tryz.checked) false ⟨#[], #[.int .i64 0], []⟩ 8 (by kernel_rfl) (by kernel_rfl) (by kernel_rfl) (by kernel_rfl)) ?_
  intro W base args ds gs before hval0 hW hcnd _
  have hval : ∀ (j : Nat) t v, Tryz.f5.params[j]? = some t → args[j]? = some v → Value.okWide Tryz.prog W .any base t v := hval0
  have hW' := hW
  obtain ⟨p, q, hA0, hV, rfl, hfz, hnd⟩ := hW
  have hA : DataW.TrodAll enc Tryz.prog W 0 (fun _ => true) true Tryz.f5.params.toList args.toList ds p := hA0
  rw [Tryz.params5] at hA hval
  obtain ⟨v0, vs0, d0, ds0, p0, q0, hargs, rfl, rfl, h0, r0⟩ := trodAll_cons hA
  obtain ⟨rfl, rfl, rfl⟩ := trodAll_nil r0
  obtain rfl : args = #[v0] := by cases args; simp_all
  obtain ⟨rfl, rfl⟩ := trodVars_none hV
  obtain ⟨a0, rfl, rfl, rfl, w0⟩ := open_int Tryz.underlying3 (hval 0 3 v0 rfl rfl) h0
  clear hA0 hval0
  simp only [List.append_nil] at hW'
  refine (walk a0 w0 W).mono fun e W' ⟨he, hg⟩ => ?_
  subst he
  exact ⟨_, rfl, _, _, _, [], [], [], hW', (trodAll_cons_mk (shut_bool Tryz.underlying4 _) trodAll_mk0), (trodAll_cons_mk (shut_int Tryz.underlying3 w0) trodAll_mk0), rfl, World.keptBut_mono (fun _ f => f.elim) hg, fun h => (by cases h)⟩

theorem over : Rows.vmTriesRow.holds Tryz.pinned (OpenSpec.ofChange Rows.vmTriesSpec) :=
  OpenClaim.holds_of_wide 5 Tryz.f5 rfl rfl rfl rfl rfl rfl rfl ⟨rfl, rfl, rfl, rfl, rfl⟩ rfl rfl rfl rfl rfl (by kernel_rfl) Tryz.func5 (by kernel_rfl)
    (of_decide_eq_true (by kernel_rfl)) (by unfold Func.isWrapper; first | (rw [if_pos (by decide +kernel)]; kernel_rfl) | (rw [if_neg (by decide +kernel)]; exact ⟨rfl, rfl⟩))
    (fun os started H enc _ => lifted os started H enc)

/-- ████ THE STATEMENT ████ -/
theorem proved : Rows.VmTriesSaid :=
  over
#print axioms proved
end Go.Proofs.YtgenmjjkhggfjaaGreat.vmTries
