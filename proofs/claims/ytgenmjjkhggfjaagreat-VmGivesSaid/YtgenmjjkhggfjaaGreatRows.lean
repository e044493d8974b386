/-
  No cell of these rows narrows 'for every input' (looked for: loops, veiled, ifaces, maps, wideKeys, modest, calm, conditions, laid).
  DERIVED. THE GIVEN ROWS OF THIS SEAT. 5 by the template 'for every input the law returns true; each argument reads behind the call as it read before'; 0 by the template 'total and deterministic' (their statements: YtgenmjjkhggfjaaGreatTotals.lean).
  GIVEN WITH THE SEED: the statements are not yours to turn. If you find one false, say at which input.
  Laid BY PROGRAM, IN A SANDBOX (cutbox-rows.mjs): the forced cells as the released guide's own fill.sh prints them over the translation 61714679bb31e08e… (all of the seat's roots in one cut). By AI agents, Wed Nov 11 2026. No macro, syntax, notation, axiom, sorry.
-/
import Derived.Test.YtgenmjjkhggfjaaGreatChecked
import GoSem.Claim
import GoSem.ClaimJoined
import GoSem.ClaimMapViews
import Derived.JoinedTies
import Derived.KernelRfl
namespace Go.Proofs.YtgenmjjkhggfjaaGreat
/- THE CELL 'sum', in the pinned program and in every row, IS THE sha256 OF THE DUMP (.gsa) THAT YtgenmjjkhggfjaaGreatProg.lean LOADS. Nothing in Lean hashes anything: it is a label: what it is worth is what the hold of that sum in a sandbox is worth. -/
noncomputable def Tryz.pinned : Pinned := { name := "ytgenmjjkhggfjaagreat", sum := "61714679bb31e08ef83b5437761bd93248146c0a6c36064e74b97c59360c7c5d", checked := Tryz.checked }
namespace Rows
def none {H : Type} : Left H := { results := [], args := [] }

/-- 'emissarylaw20.VmSmall': WHATEVER THE INPUT: true; the input reads as it did. -/
def vmSmallSpec : ChangeSpec := { name := "vmSmall", fn := fun _ => fun
  | [d1, d2] => { results := [.lit (.bool true)], args := [d1, d2] }
  | _ => none }
def vmSmallRow : OpenClaim := { program := "ytgenmjjkhggfjaagreat", sum := "61714679bb31e08ef83b5437761bd93248146c0a6c36064e74b97c59360c7c5d", func := "emissary/emissarylaw20.VmSmall", spec := "vmSmall", unfollowed := true, recurses := true, apart := false }
def VmSmallSaid : Prop := vmSmallRow.holds Tryz.pinned (OpenSpec.ofChange vmSmallSpec)

/-- ITS FALSE NEIGHBOUR: 'it returns false'. Refute it at one input. -/
def vmSmallWrong : ChangeSpec := { name := "vmSmall", fn := fun _ => fun
  | [d1, d2] => { results := [.lit (.bool false)], args := [d1, d2] }
  | _ => none }
def VmSmallWrongFalsely : Prop := vmSmallRow.holds Tryz.pinned (OpenSpec.ofChange vmSmallWrong)

/-- 'emissarylaw20.VmStuck': WHATEVER THE INPUT: true; the input reads as it did. -/
def vmStuckSpec : ChangeSpec := { name := "vmStuck", fn := fun _ => fun
  | [d] => { results := [.lit (.bool true)], args := [d] }
  | _ => none }
def vmStuckRow : OpenClaim := { program := "ytgenmjjkhggfjaagreat", sum := "61714679bb31e08ef83b5437761bd93248146c0a6c36064e74b97c59360c7c5d", func := "emissary/emissarylaw20.VmStuck", spec := "vmStuck", unfollowed := true, recurses := true, apart := false }
def VmStuckSaid : Prop := vmStuckRow.holds Tryz.pinned (OpenSpec.ofChange vmStuckSpec)

/-- ITS FALSE NEIGHBOUR: 'it returns false'. Refute it at one input. -/
def vmStuckWrong : ChangeSpec := { name := "vmStuck", fn := fun _ => fun
  | [d] => { results := [.lit (.bool false)], args := [d] }
  | _ => none }
def VmStuckWrongFalsely : Prop := vmStuckRow.holds Tryz.pinned (OpenSpec.ofChange vmStuckWrong)

/-- 'emissarylaw20.VmTries': WHATEVER THE INPUT: true; the input reads as it did. -/
def vmTriesSpec : ChangeSpec := { name := "vmTries", fn := fun _ => fun
  | [d] => { results := [.lit (.bool true)], args := [d] }
  | _ => none }
def vmTriesRow : OpenClaim := { program := "ytgenmjjkhggfjaagreat", sum := "61714679bb31e08ef83b5437761bd93248146c0a6c36064e74b97c59360c7c5d", func := "emissary/emissarylaw20.VmTries", spec := "vmTries", unfollowed := true, recurses := true, apart := false }
def VmTriesSaid : Prop := vmTriesRow.holds Tryz.pinned (OpenSpec.ofChange vmTriesSpec)

/-- ITS FALSE NEIGHBOUR: 'it returns false'. Refute it at one input. -/
def vmTriesWrong : ChangeSpec := { name := "vmTries", fn := fun _ => fun
  | [d] => { results := [.lit (.bool false)], args := [d] }
  | _ => none }
def VmTriesWrongFalsely : Prop := vmTriesRow.holds Tryz.pinned (OpenSpec.ofChange vmTriesWrong)

/-- 'emissarylaw20.VmGives': WHATEVER THE INPUT: true; the input reads as it did. -/
def vmGivesSpec : ChangeSpec := { name := "vmGives", fn := fun _ => fun
  | [d1, d2, d3] => { results := [.lit (.bool true)], args := [d1, d2, d3] }
  | _ => none }
def vmGivesRow : OpenClaim := { program := "ytgenmjjkhggfjaagreat", sum := "61714679bb31e08ef83b5437761bd93248146c0a6c36064e74b97c59360c7c5d", func := "emissary/emissarylaw20.VmGives", spec := "vmGives", unfollowed := true, recurses := true, apart := false }
def VmGivesSaid : Prop := vmGivesRow.holds Tryz.pinned (OpenSpec.ofChange vmGivesSpec)

/-- ITS FALSE NEIGHBOUR: 'it returns false'. Refute it at one input. -/
def vmGivesWrong : ChangeSpec := { name := "vmGives", fn := fun _ => fun
  | [d1, d2, d3] => { results := [.lit (.bool false)], args := [d1, d2, d3] }
  | _ => none }
def VmGivesWrongFalsely : Prop := vmGivesRow.holds Tryz.pinned (OpenSpec.ofChange vmGivesWrong)

/-- 'emissarylaw20.VmRuns': WHATEVER THE INPUT: true; the input reads as it did. -/
def vmRunsSpec : ChangeSpec := { name := "vmRuns", fn := fun _ => fun
  | [d1, d2, d3] => { results := [.lit (.bool true)], args := [d1, d2, d3] }
  | _ => none }
def vmRunsRow : OpenClaim := { program := "ytgenmjjkhggfjaagreat", sum := "61714679bb31e08ef83b5437761bd93248146c0a6c36064e74b97c59360c7c5d", func := "emissary/emissarylaw20.VmRuns", spec := "vmRuns", unfollowed := true, recurses := true, apart := false }
def VmRunsSaid : Prop := vmRunsRow.holds Tryz.pinned (OpenSpec.ofChange vmRunsSpec)

/-- ITS FALSE NEIGHBOUR: 'it returns false'. Refute it at one input. -/
def vmRunsWrong : ChangeSpec := { name := "vmRuns", fn := fun _ => fun
  | [d1, d2, d3] => { results := [.lit (.bool false)], args := [d1, d2, d3] }
  | _ => none }
def VmRunsWrongFalsely : Prop := vmRunsRow.holds Tryz.pinned (OpenSpec.ofChange vmRunsWrong)

/- THE SECOND FORM. 'bulk': how many values and letters a reading holds, each counted each time it is reached (what is shared counts as often as it is met; a slice's spare places count too). A statement '..UptoSaid' is the law's where the arguments, and the package variables that the reading takes, are together of bulk at most 1048576: NARROWER than '..Said'. Prove '..Said' where nothing that the law and all that it calls make is longer than what came in: it says more and counts as full. Else prove '..UptoSaid'. A law counts once. -/
mutual
def uptoBulk {H : Type} : DataW H → Nat
  | .lit (.string bytes) => bytes.length + 1
  | .lit _ => 1
  | .nil => 1
  | .ptr d => uptoBulk d + 1
  | .slice elems spare => uptoBulkAll elems + uptoBulkAll spare + 1
  | .agg parts => uptoBulkAll parts + 1
  | .iface _ d => uptoBulk d + 1
  | .map entries => uptoBulkEntries entries + 1
  | .held _ => 1
def uptoBulkAll {H : Type} : List (DataW H) → Nat
  | [] => 0
  | d :: r => uptoBulk d + uptoBulkAll r
def uptoBulkEntries {H : Type} : List (Lit × DataW H) → Nat
  | [] => 0
  | x :: r => uptoBulkEntry x + uptoBulkEntries r
def uptoBulkEntry {H : Type} : Lit × DataW H → Nat
  | (.string bytes, d) => bytes.length + uptoBulk d + 1
  | (_, d) => uptoBulk d + 1
 end
def uptoSmall : (H : Type) → List (DataW H) → Bool := fun _ ds => decide (uptoBulkAll ds ≤ 1048576)
def OpenSpec.upto (s : _root_.Go.ChangeSpec) : _root_.Go.OpenSpec := { _root_.Go.OpenSpec.ofChange s with cond := some uptoSmall }

/-- 'emissarylaw20.VmSmall', WHERE WHAT IT READS IS OF BULK AT MOST 1048576: true; the input reads as it did. -/
def vmSmallUptoRow : OpenClaim := { program := "ytgenmjjkhggfjaagreat", sum := "61714679bb31e08ef83b5437761bd93248146c0a6c36064e74b97c59360c7c5d", func := "emissary/emissarylaw20.VmSmall", spec := "vmSmall", unfollowed := true, recurses := true, apart := false, narrowed := true }
def VmSmallUptoSaid : Prop := vmSmallUptoRow.holds Tryz.pinned (OpenSpec.upto vmSmallSpec)

/-- 'emissarylaw20.VmStuck', WHERE WHAT IT READS IS OF BULK AT MOST 1048576: true; the input reads as it did. -/
def vmStuckUptoRow : OpenClaim := { program := "ytgenmjjkhggfjaagreat", sum := "61714679bb31e08ef83b5437761bd93248146c0a6c36064e74b97c59360c7c5d", func := "emissary/emissarylaw20.VmStuck", spec := "vmStuck", unfollowed := true, recurses := true, apart := false, narrowed := true }
def VmStuckUptoSaid : Prop := vmStuckUptoRow.holds Tryz.pinned (OpenSpec.upto vmStuckSpec)

/-- 'emissarylaw20.VmTries', WHERE WHAT IT READS IS OF BULK AT MOST 1048576: true; the input reads as it did. -/
def vmTriesUptoRow : OpenClaim := { program := "ytgenmjjkhggfjaagreat", sum := "61714679bb31e08ef83b5437761bd93248146c0a6c36064e74b97c59360c7c5d", func := "emissary/emissarylaw20.VmTries", spec := "vmTries", unfollowed := true, recurses := true, apart := false, narrowed := true }
def VmTriesUptoSaid : Prop := vmTriesUptoRow.holds Tryz.pinned (OpenSpec.upto vmTriesSpec)

/-- 'emissarylaw20.VmGives', WHERE WHAT IT READS IS OF BULK AT MOST 1048576: true; the input reads as it did. -/
def vmGivesUptoRow : OpenClaim := { program := "ytgenmjjkhggfjaagreat", sum := "61714679bb31e08ef83b5437761bd93248146c0a6c36064e74b97c59360c7c5d", func := "emissary/emissarylaw20.VmGives", spec := "vmGives", unfollowed := true, recurses := true, apart := false, narrowed := true }
def VmGivesUptoSaid : Prop := vmGivesUptoRow.holds Tryz.pinned (OpenSpec.upto vmGivesSpec)

/-- 'emissarylaw20.VmRuns', WHERE WHAT IT READS IS OF BULK AT MOST 1048576: true; the input reads as it did. -/
def vmRunsUptoRow : OpenClaim := { program := "ytgenmjjkhggfjaagreat", sum := "61714679bb31e08ef83b5437761bd93248146c0a6c36064e74b97c59360c7c5d", func := "emissary/emissarylaw20.VmRuns", spec := "vmRuns", unfollowed := true, recurses := true, apart := false, narrowed := true }
def VmRunsUptoSaid : Prop := vmRunsUptoRow.holds Tryz.pinned (OpenSpec.upto vmRunsSpec)

end Rows
end Go.Proofs.YtgenmjjkhggfjaaGreat
