/- VmSmall's way 6, with 21 to 40 words, some at once: the evaluator says true. -/
import Derived.Test.YtgenmjjkhggfjaaGreatEnts
namespace Go.Proofs.YtgenmjjkhggfjaaGreat.small
theorem way6at21 : (Go.AE.andB (saysM 400 3 [.i .i64 (Int.ofNat 6), .i .i64 (Int.ofNat 21)]) (Go.AE.andB (saysM 400 3 [.i .i64 (Int.ofNat 6), .i .i64 (Int.ofNat 22)]) (Go.AE.andB (saysM 400 3 [.i .i64 (Int.ofNat 6), .i .i64 (Int.ofNat 23)]) true))) = true := by kernel_rfl
theorem way6at24 : (Go.AE.andB (saysM 400 3 [.i .i64 (Int.ofNat 6), .i .i64 (Int.ofNat 24)]) (Go.AE.andB (saysM 400 3 [.i .i64 (Int.ofNat 6), .i .i64 (Int.ofNat 25)]) (Go.AE.andB (saysM 400 3 [.i .i64 (Int.ofNat 6), .i .i64 (Int.ofNat 26)]) true))) = true := by kernel_rfl
theorem way6at27 : (Go.AE.andB (saysM 400 3 [.i .i64 (Int.ofNat 6), .i .i64 (Int.ofNat 27)]) (Go.AE.andB (saysM 400 3 [.i .i64 (Int.ofNat 6), .i .i64 (Int.ofNat 28)]) (Go.AE.andB (saysM 400 3 [.i .i64 (Int.ofNat 6), .i .i64 (Int.ofNat 29)]) true))) = true := by kernel_rfl
theorem way6at30 : (Go.AE.andB (saysM 400 3 [.i .i64 (Int.ofNat 6), .i .i64 (Int.ofNat 30)]) (Go.AE.andB (saysM 400 3 [.i .i64 (Int.ofNat 6), .i .i64 (Int.ofNat 31)]) (Go.AE.andB (saysM 400 3 [.i .i64 (Int.ofNat 6), .i .i64 (Int.ofNat 32)]) true))) = true := by kernel_rfl
theorem way6at33 : (Go.AE.andB (saysM 400 3 [.i .i64 (Int.ofNat 6), .i .i64 (Int.ofNat 33)]) true) = true := by kernel_rfl
theorem way6at34 : (Go.AE.andB (saysM 400 3 [.i .i64 (Int.ofNat 6), .i .i64 (Int.ofNat 34)]) true) = true := by kernel_rfl
theorem way6at35 : (Go.AE.andB (saysM 400 3 [.i .i64 (Int.ofNat 6), .i .i64 (Int.ofNat 35)]) true) = true := by kernel_rfl
theorem way6at36 : (Go.AE.andB (saysM 400 3 [.i .i64 (Int.ofNat 6), .i .i64 (Int.ofNat 36)]) true) = true := by kernel_rfl
theorem way6at37 : (Go.AE.andB (saysM 400 3 [.i .i64 (Int.ofNat 6), .i .i64 (Int.ofNat 37)]) true) = true := by kernel_rfl
theorem way6at38 : (Go.AE.andB (saysM 400 3 [.i .i64 (Int.ofNat 6), .i .i64 (Int.ofNat 38)]) true) = true := by kernel_rfl
theorem way6at39 : (Go.AE.andB (saysM 400 3 [.i .i64 (Int.ofNat 6), .i .i64 (Int.ofNat 39)]) true) = true := by kernel_rfl
theorem way6at40 : (Go.AE.andB (saysM 400 3 [.i .i64 (Int.ofNat 6), .i .i64 (Int.ofNat 40)]) true) = true := by kernel_rfl
end Go.Proofs.YtgenmjjkhggfjaaGreat.small
