/- VmSmall's way 6, with 0 to 20 words, some at once: the evaluator says true. -/
import Derived.Test.YtgenmjjkhggfjaaGreatEnts
namespace Go.Proofs.YtgenmjjkhggfjaaGreat.small
theorem way6at0 : (Go.AE.andB (saysM 400 3 [.i .i64 (Int.ofNat 6), .i .i64 (Int.ofNat 0)]) (Go.AE.andB (saysM 400 3 [.i .i64 (Int.ofNat 6), .i .i64 (Int.ofNat 1)]) (Go.AE.andB (saysM 400 3 [.i .i64 (Int.ofNat 6), .i .i64 (Int.ofNat 2)]) true))) = true := by kernel_rfl
theorem way6at3 : (Go.AE.andB (saysM 400 3 [.i .i64 (Int.ofNat 6), .i .i64 (Int.ofNat 3)]) (Go.AE.andB (saysM 400 3 [.i .i64 (Int.ofNat 6), .i .i64 (Int.ofNat 4)]) (Go.AE.andB (saysM 400 3 [.i .i64 (Int.ofNat 6), .i .i64 (Int.ofNat 5)]) true))) = true := by kernel_rfl
theorem way6at6 : (Go.AE.andB (saysM 400 3 [.i .i64 (Int.ofNat 6), .i .i64 (Int.ofNat 6)]) (Go.AE.andB (saysM 400 3 [.i .i64 (Int.ofNat 6), .i .i64 (Int.ofNat 7)]) (Go.AE.andB (saysM 400 3 [.i .i64 (Int.ofNat 6), .i .i64 (Int.ofNat 8)]) true))) = true := by kernel_rfl
theorem way6at9 : (Go.AE.andB (saysM 400 3 [.i .i64 (Int.ofNat 6), .i .i64 (Int.ofNat 9)]) (Go.AE.andB (saysM 400 3 [.i .i64 (Int.ofNat 6), .i .i64 (Int.ofNat 10)]) (Go.AE.andB (saysM 400 3 [.i .i64 (Int.ofNat 6), .i .i64 (Int.ofNat 11)]) true))) = true := by kernel_rfl
theorem way6at12 : (Go.AE.andB (saysM 400 3 [.i .i64 (Int.ofNat 6), .i .i64 (Int.ofNat 12)]) (Go.AE.andB (saysM 400 3 [.i .i64 (Int.ofNat 6), .i .i64 (Int.ofNat 13)]) (Go.AE.andB (saysM 400 3 [.i .i64 (Int.ofNat 6), .i .i64 (Int.ofNat 14)]) true))) = true := by kernel_rfl
theorem way6at15 : (Go.AE.andB (saysM 400 3 [.i .i64 (Int.ofNat 6), .i .i64 (Int.ofNat 15)]) (Go.AE.andB (saysM 400 3 [.i .i64 (Int.ofNat 6), .i .i64 (Int.ofNat 16)]) (Go.AE.andB (saysM 400 3 [.i .i64 (Int.ofNat 6), .i .i64 (Int.ofNat 17)]) true))) = true := by kernel_rfl
theorem way6at18 : (Go.AE.andB (saysM 400 3 [.i .i64 (Int.ofNat 6), .i .i64 (Int.ofNat 18)]) (Go.AE.andB (saysM 400 3 [.i .i64 (Int.ofNat 6), .i .i64 (Int.ofNat 19)]) (Go.AE.andB (saysM 400 3 [.i .i64 (Int.ofNat 6), .i .i64 (Int.ofNat 20)]) true))) = true := by kernel_rfl
end Go.Proofs.YtgenmjjkhggfjaaGreat.small
