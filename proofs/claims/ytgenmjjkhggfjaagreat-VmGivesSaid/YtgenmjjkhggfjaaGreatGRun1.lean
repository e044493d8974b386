/- VmGives at the depth 1: the evaluator says true, for a nil row and rows of 0 to 8 words. -/
import Derived.Test.YtgenmjjkhggfjaaGreatGOpen
namespace Go.Proofs.YtgenmjjkhggfjaaGreat.gives
open Go Go.AE
theorem main1_0 : (andB (asked [] .nils (Int.ofNat 1) (Int.ofNat 0)) (andB (asked [] (.sl 0 0 0 0 none 1) (Int.ofNat 1) (Int.ofNat 0)) (andB (asked [.o 0] (.sl 0 0 0 1 none 1) (Int.ofNat 1) (Int.ofNat 0)) (andB (asked [.o 0, .o 1] (.sl 0 0 0 2 none 1) (Int.ofNat 1) (Int.ofNat 0)) (andB (asked [.o 0, .o 1, .o 2] (.sl 0 0 0 3 none 1) (Int.ofNat 1) (Int.ofNat 0)) (andB (asked [.o 0, .o 1, .o 2, .o 3] (.sl 0 0 0 4 none 1) (Int.ofNat 1) (Int.ofNat 0)) (andB (asked [.o 0, .o 1, .o 2, .o 3, .o 4] (.sl 0 0 0 5 none 1) (Int.ofNat 1) (Int.ofNat 0)) (andB (asked [.o 0, .o 1, .o 2, .o 3, .o 4, .o 5] (.sl 0 0 0 6 none 1) (Int.ofNat 1) (Int.ofNat 0)) (andB (asked [.o 0, .o 1, .o 2, .o 3, .o 4, .o 5, .o 6] (.sl 0 0 0 7 none 1) (Int.ofNat 1) (Int.ofNat 0)) (andB (asked [.o 0, .o 1, .o 2, .o 3, .o 4, .o 5, .o 6, .o 7] (.sl 0 0 0 8 none 1) (Int.ofNat 1) (Int.ofNat 0)) true)))))))))) = true := by kernel_rfl
end Go.Proofs.YtgenmjjkhggfjaaGreat.gives
