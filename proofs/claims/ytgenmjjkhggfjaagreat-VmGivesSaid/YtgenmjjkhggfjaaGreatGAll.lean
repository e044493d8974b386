/- VmGives: the evaluator says true, whatever the depth, the row's length and the place. -/
import Derived.Test.YtgenmjjkhggfjaaGreatGEdge
import Derived.Test.YtgenmjjkhggfjaaGreatGRun1
import Derived.Test.YtgenmjjkhggfjaaGreatGRun2
import Derived.Test.YtgenmjjkhggfjaaGreatGRun3
import Derived.Test.YtgenmjjkhggfjaaGreatGRun4
namespace Go.Proofs.YtgenmjjkhggfjaaGreat.gives
open Go Go.AE
theorem and1 {a b : Bool} (h : andB a b = true) : a = true := by cases a <;> first | rfl | cases h
theorem and2 {a b : Bool} (h : andB a b = true) : b = true := by cases a <;> first | exact h | cases h
/-- The words of a row of so many, where it is looked at. -/
def wordsOf : Nat → List AV
  | 0 => []
  | 1 => [.o 0]
  | 2 => [.o 0, .o 1]
  | 3 => [.o 0, .o 1, .o 2]
  | 4 => [.o 0, .o 1, .o 2, .o 3]
  | 5 => [.o 0, .o 1, .o 2, .o 3, .o 4]
  | 6 => [.o 0, .o 1, .o 2, .o 3, .o 4, .o 5]
  | 7 => [.o 0, .o 1, .o 2, .o 3, .o 4, .o 5, .o 6]
  | 8 => [.o 0, .o 1, .o 2, .o 3, .o 4, .o 5, .o 6, .o 7]
  | _ + 9 => []
theorem nil (d g : Int) : asked [] .nils d g = true := by
  cases d with
  | negSucc n => exact belowN n g
  | ofNat n =>
    match n with
    | 0 =>
      cases g with
      | negSucc m => exact and1 (neg0 m)
      | ofNat m =>
        exact and1 (ge0 m)
    | 1 =>
      cases g with
      | negSucc m => exact and1 (neg1 m)
      | ofNat m =>
        match m with
        | 0 => exact and1 (main1_0)
        | m + 1 => exact and1 (ge1 m)
    | 2 =>
      cases g with
      | negSucc m => exact and1 (neg2 m)
      | ofNat m =>
        match m with
        | 0 => exact and1 (main2_0)
        | 1 => exact and1 (main2_1)
        | m + 2 => exact and1 (ge2 m)
    | 3 =>
      cases g with
      | negSucc m => exact and1 (neg3 m)
      | ofNat m =>
        match m with
        | 0 => exact and1 (main3_0)
        | 1 => exact and1 (main3_1)
        | 2 => exact and1 (main3_2)
        | m + 3 => exact and1 (ge3 m)
    | 4 =>
      cases g with
      | negSucc m => exact and1 (neg4 m)
      | ofNat m =>
        match m with
        | 0 => exact and1 (main4_0)
        | 1 => exact and1 (main4_1)
        | 2 => exact and1 (main4_2)
        | 3 => exact and1 (main4_3)
        | m + 4 => exact and1 (ge4 m)
    | n + 5 => exact aboveN n g
theorem len0 (d g : Int) : asked [] (.sl 0 0 0 0 none 1) d g = true := by
  cases d with
  | negSucc n => exact below _ 0 n g
  | ofNat n =>
    match n with
    | 0 =>
      cases g with
      | negSucc m => exact and1 (and2 (neg0 m))
      | ofNat m =>
        exact and1 (and2 (ge0 m))
    | 1 =>
      cases g with
      | negSucc m => exact and1 (and2 (neg1 m))
      | ofNat m =>
        match m with
        | 0 => exact and1 (and2 (main1_0))
        | m + 1 => exact and1 (and2 (ge1 m))
    | 2 =>
      cases g with
      | negSucc m => exact and1 (and2 (neg2 m))
      | ofNat m =>
        match m with
        | 0 => exact and1 (and2 (main2_0))
        | 1 => exact and1 (and2 (main2_1))
        | m + 2 => exact and1 (and2 (ge2 m))
    | 3 =>
      cases g with
      | negSucc m => exact and1 (and2 (neg3 m))
      | ofNat m =>
        match m with
        | 0 => exact and1 (and2 (main3_0))
        | 1 => exact and1 (and2 (main3_1))
        | 2 => exact and1 (and2 (main3_2))
        | m + 3 => exact and1 (and2 (ge3 m))
    | 4 =>
      cases g with
      | negSucc m => exact and1 (and2 (neg4 m))
      | ofNat m =>
        match m with
        | 0 => exact and1 (and2 (main4_0))
        | 1 => exact and1 (and2 (main4_1))
        | 2 => exact and1 (and2 (main4_2))
        | 3 => exact and1 (and2 (main4_3))
        | m + 4 => exact and1 (and2 (ge4 m))
    | n + 5 => exact above _ 0 n g
theorem len1 (d g : Int) : asked [.o 0] (.sl 0 0 0 1 none 1) d g = true := by
  cases d with
  | negSucc n => exact below _ 1 n g
  | ofNat n =>
    match n with
    | 0 =>
      cases g with
      | negSucc m => exact and1 (and2 (and2 (neg0 m)))
      | ofNat m =>
        exact and1 (and2 (and2 (ge0 m)))
    | 1 =>
      cases g with
      | negSucc m => exact and1 (and2 (and2 (neg1 m)))
      | ofNat m =>
        match m with
        | 0 => exact and1 (and2 (and2 (main1_0)))
        | m + 1 => exact and1 (and2 (and2 (ge1 m)))
    | 2 =>
      cases g with
      | negSucc m => exact and1 (and2 (and2 (neg2 m)))
      | ofNat m =>
        match m with
        | 0 => exact and1 (and2 (and2 (main2_0)))
        | 1 => exact and1 (and2 (and2 (main2_1)))
        | m + 2 => exact and1 (and2 (and2 (ge2 m)))
    | 3 =>
      cases g with
      | negSucc m => exact and1 (and2 (and2 (neg3 m)))
      | ofNat m =>
        match m with
        | 0 => exact and1 (and2 (and2 (main3_0)))
        | 1 => exact and1 (and2 (and2 (main3_1)))
        | 2 => exact and1 (and2 (and2 (main3_2)))
        | m + 3 => exact and1 (and2 (and2 (ge3 m)))
    | 4 =>
      cases g with
      | negSucc m => exact and1 (and2 (and2 (neg4 m)))
      | ofNat m =>
        match m with
        | 0 => exact and1 (and2 (and2 (main4_0)))
        | 1 => exact and1 (and2 (and2 (main4_1)))
        | 2 => exact and1 (and2 (and2 (main4_2)))
        | 3 => exact and1 (and2 (and2 (main4_3)))
        | m + 4 => exact and1 (and2 (and2 (ge4 m)))
    | n + 5 => exact above _ 1 n g
theorem len2 (d g : Int) : asked [.o 0, .o 1] (.sl 0 0 0 2 none 1) d g = true := by
  cases d with
  | negSucc n => exact below _ 2 n g
  | ofNat n =>
    match n with
    | 0 =>
      cases g with
      | negSucc m => exact and1 (and2 (and2 (and2 (neg0 m))))
      | ofNat m =>
        exact and1 (and2 (and2 (and2 (ge0 m))))
    | 1 =>
      cases g with
      | negSucc m => exact and1 (and2 (and2 (and2 (neg1 m))))
      | ofNat m =>
        match m with
        | 0 => exact and1 (and2 (and2 (and2 (main1_0))))
        | m + 1 => exact and1 (and2 (and2 (and2 (ge1 m))))
    | 2 =>
      cases g with
      | negSucc m => exact and1 (and2 (and2 (and2 (neg2 m))))
      | ofNat m =>
        match m with
        | 0 => exact and1 (and2 (and2 (and2 (main2_0))))
        | 1 => exact and1 (and2 (and2 (and2 (main2_1))))
        | m + 2 => exact and1 (and2 (and2 (and2 (ge2 m))))
    | 3 =>
      cases g with
      | negSucc m => exact and1 (and2 (and2 (and2 (neg3 m))))
      | ofNat m =>
        match m with
        | 0 => exact and1 (and2 (and2 (and2 (main3_0))))
        | 1 => exact and1 (and2 (and2 (and2 (main3_1))))
        | 2 => exact and1 (and2 (and2 (and2 (main3_2))))
        | m + 3 => exact and1 (and2 (and2 (and2 (ge3 m))))
    | 4 =>
      cases g with
      | negSucc m => exact and1 (and2 (and2 (and2 (neg4 m))))
      | ofNat m =>
        match m with
        | 0 => exact and1 (and2 (and2 (and2 (main4_0))))
        | 1 => exact and1 (and2 (and2 (and2 (main4_1))))
        | 2 => exact and1 (and2 (and2 (and2 (main4_2))))
        | 3 => exact and1 (and2 (and2 (and2 (main4_3))))
        | m + 4 => exact and1 (and2 (and2 (and2 (ge4 m))))
    | n + 5 => exact above _ 2 n g
theorem len3 (d g : Int) : asked [.o 0, .o 1, .o 2] (.sl 0 0 0 3 none 1) d g = true := by
  cases d with
  | negSucc n => exact below _ 3 n g
  | ofNat n =>
    match n with
    | 0 =>
      cases g with
      | negSucc m => exact and1 (and2 (and2 (and2 (and2 (neg0 m)))))
      | ofNat m =>
        exact and1 (and2 (and2 (and2 (and2 (ge0 m)))))
    | 1 =>
      cases g with
      | negSucc m => exact and1 (and2 (and2 (and2 (and2 (neg1 m)))))
      | ofNat m =>
        match m with
        | 0 => exact and1 (and2 (and2 (and2 (and2 (main1_0)))))
        | m + 1 => exact and1 (and2 (and2 (and2 (and2 (ge1 m)))))
    | 2 =>
      cases g with
      | negSucc m => exact and1 (and2 (and2 (and2 (and2 (neg2 m)))))
      | ofNat m =>
        match m with
        | 0 => exact and1 (and2 (and2 (and2 (and2 (main2_0)))))
        | 1 => exact and1 (and2 (and2 (and2 (and2 (main2_1)))))
        | m + 2 => exact and1 (and2 (and2 (and2 (and2 (ge2 m)))))
    | 3 =>
      cases g with
      | negSucc m => exact and1 (and2 (and2 (and2 (and2 (neg3 m)))))
      | ofNat m =>
        match m with
        | 0 => exact and1 (and2 (and2 (and2 (and2 (main3_0)))))
        | 1 => exact and1 (and2 (and2 (and2 (and2 (main3_1)))))
        | 2 => exact and1 (and2 (and2 (and2 (and2 (main3_2)))))
        | m + 3 => exact and1 (and2 (and2 (and2 (and2 (ge3 m)))))
    | 4 =>
      cases g with
      | negSucc m => exact and1 (and2 (and2 (and2 (and2 (neg4 m)))))
      | ofNat m =>
        match m with
        | 0 => exact and1 (and2 (and2 (and2 (and2 (main4_0)))))
        | 1 => exact and1 (and2 (and2 (and2 (and2 (main4_1)))))
        | 2 => exact and1 (and2 (and2 (and2 (and2 (main4_2)))))
        | 3 => exact and1 (and2 (and2 (and2 (and2 (main4_3)))))
        | m + 4 => exact and1 (and2 (and2 (and2 (and2 (ge4 m)))))
    | n + 5 => exact above _ 3 n g
theorem len4 (d g : Int) : asked [.o 0, .o 1, .o 2, .o 3] (.sl 0 0 0 4 none 1) d g = true := by
  cases d with
  | negSucc n => exact below _ 4 n g
  | ofNat n =>
    match n with
    | 0 =>
      cases g with
      | negSucc m => exact and1 (and2 (and2 (and2 (and2 (and2 (neg0 m))))))
      | ofNat m =>
        exact and1 (and2 (and2 (and2 (and2 (and2 (ge0 m))))))
    | 1 =>
      cases g with
      | negSucc m => exact and1 (and2 (and2 (and2 (and2 (and2 (neg1 m))))))
      | ofNat m =>
        match m with
        | 0 => exact and1 (and2 (and2 (and2 (and2 (and2 (main1_0))))))
        | m + 1 => exact and1 (and2 (and2 (and2 (and2 (and2 (ge1 m))))))
    | 2 =>
      cases g with
      | negSucc m => exact and1 (and2 (and2 (and2 (and2 (and2 (neg2 m))))))
      | ofNat m =>
        match m with
        | 0 => exact and1 (and2 (and2 (and2 (and2 (and2 (main2_0))))))
        | 1 => exact and1 (and2 (and2 (and2 (and2 (and2 (main2_1))))))
        | m + 2 => exact and1 (and2 (and2 (and2 (and2 (and2 (ge2 m))))))
    | 3 =>
      cases g with
      | negSucc m => exact and1 (and2 (and2 (and2 (and2 (and2 (neg3 m))))))
      | ofNat m =>
        match m with
        | 0 => exact and1 (and2 (and2 (and2 (and2 (and2 (main3_0))))))
        | 1 => exact and1 (and2 (and2 (and2 (and2 (and2 (main3_1))))))
        | 2 => exact and1 (and2 (and2 (and2 (and2 (and2 (main3_2))))))
        | m + 3 => exact and1 (and2 (and2 (and2 (and2 (and2 (ge3 m))))))
    | 4 =>
      cases g with
      | negSucc m => exact and1 (and2 (and2 (and2 (and2 (and2 (neg4 m))))))
      | ofNat m =>
        match m with
        | 0 => exact and1 (and2 (and2 (and2 (and2 (and2 (main4_0))))))
        | 1 => exact and1 (and2 (and2 (and2 (and2 (and2 (main4_1))))))
        | 2 => exact and1 (and2 (and2 (and2 (and2 (and2 (main4_2))))))
        | 3 => exact and1 (and2 (and2 (and2 (and2 (and2 (main4_3))))))
        | m + 4 => exact and1 (and2 (and2 (and2 (and2 (and2 (ge4 m))))))
    | n + 5 => exact above _ 4 n g
theorem len5 (d g : Int) : asked [.o 0, .o 1, .o 2, .o 3, .o 4] (.sl 0 0 0 5 none 1) d g = true := by
  cases d with
  | negSucc n => exact below _ 5 n g
  | ofNat n =>
    match n with
    | 0 =>
      cases g with
      | negSucc m => exact and1 (and2 (and2 (and2 (and2 (and2 (and2 (neg0 m)))))))
      | ofNat m =>
        exact and1 (and2 (and2 (and2 (and2 (and2 (and2 (ge0 m)))))))
    | 1 =>
      cases g with
      | negSucc m => exact and1 (and2 (and2 (and2 (and2 (and2 (and2 (neg1 m)))))))
      | ofNat m =>
        match m with
        | 0 => exact and1 (and2 (and2 (and2 (and2 (and2 (and2 (main1_0)))))))
        | m + 1 => exact and1 (and2 (and2 (and2 (and2 (and2 (and2 (ge1 m)))))))
    | 2 =>
      cases g with
      | negSucc m => exact and1 (and2 (and2 (and2 (and2 (and2 (and2 (neg2 m)))))))
      | ofNat m =>
        match m with
        | 0 => exact and1 (and2 (and2 (and2 (and2 (and2 (and2 (main2_0)))))))
        | 1 => exact and1 (and2 (and2 (and2 (and2 (and2 (and2 (main2_1)))))))
        | m + 2 => exact and1 (and2 (and2 (and2 (and2 (and2 (and2 (ge2 m)))))))
    | 3 =>
      cases g with
      | negSucc m => exact and1 (and2 (and2 (and2 (and2 (and2 (and2 (neg3 m)))))))
      | ofNat m =>
        match m with
        | 0 => exact and1 (and2 (and2 (and2 (and2 (and2 (and2 (main3_0)))))))
        | 1 => exact and1 (and2 (and2 (and2 (and2 (and2 (and2 (main3_1)))))))
        | 2 => exact and1 (and2 (and2 (and2 (and2 (and2 (and2 (main3_2)))))))
        | m + 3 => exact and1 (and2 (and2 (and2 (and2 (and2 (and2 (ge3 m)))))))
    | 4 =>
      cases g with
      | negSucc m => exact and1 (and2 (and2 (and2 (and2 (and2 (and2 (neg4 m)))))))
      | ofNat m =>
        match m with
        | 0 => exact and1 (and2 (and2 (and2 (and2 (and2 (and2 (main4_0)))))))
        | 1 => exact and1 (and2 (and2 (and2 (and2 (and2 (and2 (main4_1)))))))
        | 2 => exact and1 (and2 (and2 (and2 (and2 (and2 (and2 (main4_2)))))))
        | 3 => exact and1 (and2 (and2 (and2 (and2 (and2 (and2 (main4_3)))))))
        | m + 4 => exact and1 (and2 (and2 (and2 (and2 (and2 (and2 (ge4 m)))))))
    | n + 5 => exact above _ 5 n g
theorem len6 (d g : Int) : asked [.o 0, .o 1, .o 2, .o 3, .o 4, .o 5] (.sl 0 0 0 6 none 1) d g = true := by
  cases d with
  | negSucc n => exact below _ 6 n g
  | ofNat n =>
    match n with
    | 0 =>
      cases g with
      | negSucc m => exact and1 (and2 (and2 (and2 (and2 (and2 (and2 (and2 (neg0 m))))))))
      | ofNat m =>
        exact and1 (and2 (and2 (and2 (and2 (and2 (and2 (and2 (ge0 m))))))))
    | 1 =>
      cases g with
      | negSucc m => exact and1 (and2 (and2 (and2 (and2 (and2 (and2 (and2 (neg1 m))))))))
      | ofNat m =>
        match m with
        | 0 => exact and1 (and2 (and2 (and2 (and2 (and2 (and2 (and2 (main1_0))))))))
        | m + 1 => exact and1 (and2 (and2 (and2 (and2 (and2 (and2 (and2 (ge1 m))))))))
    | 2 =>
      cases g with
      | negSucc m => exact and1 (and2 (and2 (and2 (and2 (and2 (and2 (and2 (neg2 m))))))))
      | ofNat m =>
        match m with
        | 0 => exact and1 (and2 (and2 (and2 (and2 (and2 (and2 (and2 (main2_0))))))))
        | 1 => exact and1 (and2 (and2 (and2 (and2 (and2 (and2 (and2 (main2_1))))))))
        | m + 2 => exact and1 (and2 (and2 (and2 (and2 (and2 (and2 (and2 (ge2 m))))))))
    | 3 =>
      cases g with
      | negSucc m => exact and1 (and2 (and2 (and2 (and2 (and2 (and2 (and2 (neg3 m))))))))
      | ofNat m =>
        match m with
        | 0 => exact and1 (and2 (and2 (and2 (and2 (and2 (and2 (and2 (main3_0))))))))
        | 1 => exact and1 (and2 (and2 (and2 (and2 (and2 (and2 (and2 (main3_1))))))))
        | 2 => exact and1 (and2 (and2 (and2 (and2 (and2 (and2 (and2 (main3_2))))))))
        | m + 3 => exact and1 (and2 (and2 (and2 (and2 (and2 (and2 (and2 (ge3 m))))))))
    | 4 =>
      cases g with
      | negSucc m => exact and1 (and2 (and2 (and2 (and2 (and2 (and2 (and2 (neg4 m))))))))
      | ofNat m =>
        match m with
        | 0 => exact and1 (and2 (and2 (and2 (and2 (and2 (and2 (and2 (main4_0))))))))
        | 1 => exact and1 (and2 (and2 (and2 (and2 (and2 (and2 (and2 (main4_1))))))))
        | 2 => exact and1 (and2 (and2 (and2 (and2 (and2 (and2 (and2 (main4_2))))))))
        | 3 => exact and1 (and2 (and2 (and2 (and2 (and2 (and2 (and2 (main4_3))))))))
        | m + 4 => exact and1 (and2 (and2 (and2 (and2 (and2 (and2 (and2 (ge4 m))))))))
    | n + 5 => exact above _ 6 n g
theorem len7 (d g : Int) : asked [.o 0, .o 1, .o 2, .o 3, .o 4, .o 5, .o 6] (.sl 0 0 0 7 none 1) d g = true := by
  cases d with
  | negSucc n => exact below _ 7 n g
  | ofNat n =>
    match n with
    | 0 =>
      cases g with
      | negSucc m => exact and1 (and2 (and2 (and2 (and2 (and2 (and2 (and2 (and2 (neg0 m)))))))))
      | ofNat m =>
        exact and1 (and2 (and2 (and2 (and2 (and2 (and2 (and2 (and2 (ge0 m)))))))))
    | 1 =>
      cases g with
      | negSucc m => exact and1 (and2 (and2 (and2 (and2 (and2 (and2 (and2 (and2 (neg1 m)))))))))
      | ofNat m =>
        match m with
        | 0 => exact and1 (and2 (and2 (and2 (and2 (and2 (and2 (and2 (and2 (main1_0)))))))))
        | m + 1 => exact and1 (and2 (and2 (and2 (and2 (and2 (and2 (and2 (and2 (ge1 m)))))))))
    | 2 =>
      cases g with
      | negSucc m => exact and1 (and2 (and2 (and2 (and2 (and2 (and2 (and2 (and2 (neg2 m)))))))))
      | ofNat m =>
        match m with
        | 0 => exact and1 (and2 (and2 (and2 (and2 (and2 (and2 (and2 (and2 (main2_0)))))))))
        | 1 => exact and1 (and2 (and2 (and2 (and2 (and2 (and2 (and2 (and2 (main2_1)))))))))
        | m + 2 => exact and1 (and2 (and2 (and2 (and2 (and2 (and2 (and2 (and2 (ge2 m)))))))))
    | 3 =>
      cases g with
      | negSucc m => exact and1 (and2 (and2 (and2 (and2 (and2 (and2 (and2 (and2 (neg3 m)))))))))
      | ofNat m =>
        match m with
        | 0 => exact and1 (and2 (and2 (and2 (and2 (and2 (and2 (and2 (and2 (main3_0)))))))))
        | 1 => exact and1 (and2 (and2 (and2 (and2 (and2 (and2 (and2 (and2 (main3_1)))))))))
        | 2 => exact and1 (and2 (and2 (and2 (and2 (and2 (and2 (and2 (and2 (main3_2)))))))))
        | m + 3 => exact and1 (and2 (and2 (and2 (and2 (and2 (and2 (and2 (and2 (ge3 m)))))))))
    | 4 =>
      cases g with
      | negSucc m => exact and1 (and2 (and2 (and2 (and2 (and2 (and2 (and2 (and2 (neg4 m)))))))))
      | ofNat m =>
        match m with
        | 0 => exact and1 (and2 (and2 (and2 (and2 (and2 (and2 (and2 (and2 (main4_0)))))))))
        | 1 => exact and1 (and2 (and2 (and2 (and2 (and2 (and2 (and2 (and2 (main4_1)))))))))
        | 2 => exact and1 (and2 (and2 (and2 (and2 (and2 (and2 (and2 (and2 (main4_2)))))))))
        | 3 => exact and1 (and2 (and2 (and2 (and2 (and2 (and2 (and2 (and2 (main4_3)))))))))
        | m + 4 => exact and1 (and2 (and2 (and2 (and2 (and2 (and2 (and2 (and2 (ge4 m)))))))))
    | n + 5 => exact above _ 7 n g
theorem len8 (d g : Int) : asked [.o 0, .o 1, .o 2, .o 3, .o 4, .o 5, .o 6, .o 7] (.sl 0 0 0 8 none 1) d g = true := by
  cases d with
  | negSucc n => exact below _ 8 n g
  | ofNat n =>
    match n with
    | 0 =>
      cases g with
      | negSucc m => exact and1 (and2 (and2 (and2 (and2 (and2 (and2 (and2 (and2 (and2 (neg0 m))))))))))
      | ofNat m =>
        exact and1 (and2 (and2 (and2 (and2 (and2 (and2 (and2 (and2 (and2 (ge0 m))))))))))
    | 1 =>
      cases g with
      | negSucc m => exact and1 (and2 (and2 (and2 (and2 (and2 (and2 (and2 (and2 (and2 (neg1 m))))))))))
      | ofNat m =>
        match m with
        | 0 => exact and1 (and2 (and2 (and2 (and2 (and2 (and2 (and2 (and2 (and2 (main1_0))))))))))
        | m + 1 => exact and1 (and2 (and2 (and2 (and2 (and2 (and2 (and2 (and2 (and2 (ge1 m))))))))))
    | 2 =>
      cases g with
      | negSucc m => exact and1 (and2 (and2 (and2 (and2 (and2 (and2 (and2 (and2 (and2 (neg2 m))))))))))
      | ofNat m =>
        match m with
        | 0 => exact and1 (and2 (and2 (and2 (and2 (and2 (and2 (and2 (and2 (and2 (main2_0))))))))))
        | 1 => exact and1 (and2 (and2 (and2 (and2 (and2 (and2 (and2 (and2 (and2 (main2_1))))))))))
        | m + 2 => exact and1 (and2 (and2 (and2 (and2 (and2 (and2 (and2 (and2 (and2 (ge2 m))))))))))
    | 3 =>
      cases g with
      | negSucc m => exact and1 (and2 (and2 (and2 (and2 (and2 (and2 (and2 (and2 (and2 (neg3 m))))))))))
      | ofNat m =>
        match m with
        | 0 => exact and1 (and2 (and2 (and2 (and2 (and2 (and2 (and2 (and2 (and2 (main3_0))))))))))
        | 1 => exact and1 (and2 (and2 (and2 (and2 (and2 (and2 (and2 (and2 (and2 (main3_1))))))))))
        | 2 => exact and1 (and2 (and2 (and2 (and2 (and2 (and2 (and2 (and2 (and2 (main3_2))))))))))
        | m + 3 => exact and1 (and2 (and2 (and2 (and2 (and2 (and2 (and2 (and2 (and2 (ge3 m))))))))))
    | 4 =>
      cases g with
      | negSucc m => exact and1 (and2 (and2 (and2 (and2 (and2 (and2 (and2 (and2 (and2 (neg4 m))))))))))
      | ofNat m =>
        match m with
        | 0 => exact and1 (and2 (and2 (and2 (and2 (and2 (and2 (and2 (and2 (and2 (main4_0))))))))))
        | 1 => exact and1 (and2 (and2 (and2 (and2 (and2 (and2 (and2 (and2 (and2 (main4_1))))))))))
        | 2 => exact and1 (and2 (and2 (and2 (and2 (and2 (and2 (and2 (and2 (and2 (main4_2))))))))))
        | 3 => exact and1 (and2 (and2 (and2 (and2 (and2 (and2 (and2 (and2 (and2 (main4_3))))))))))
        | m + 4 => exact and1 (and2 (and2 (and2 (and2 (and2 (and2 (and2 (and2 (and2 (ge4 m))))))))))
    | n + 5 => exact above _ 8 n g
theorem every (n : Nat) (d g : Int) : asked (wordsOf n) (.sl 0 0 0 n none 1) d g = true := by
  match n with
  | 0 => exact len0 d g
  | 1 => exact len1 d g
  | 2 => exact len2 d g
  | 3 => exact len3 d g
  | 4 => exact len4 d g
  | 5 => exact len5 d g
  | 6 => exact len6 d g
  | 7 => exact len7 d g
  | 8 => exact len8 d g
  | n + 9 =>
    cases d with
    | negSucc k => exact below [] _ k g
    | ofNat k =>
      match k with
      | 0 => exact long0 [] n g
      | 1 => exact long1 [] n g
      | 2 => exact long2 [] n g
      | 3 => exact long3 [] n g
      | 4 => exact long4 [] n g
      | k + 5 => exact above [] _ k g
end Go.Proofs.YtgenmjjkhggfjaaGreat.gives
