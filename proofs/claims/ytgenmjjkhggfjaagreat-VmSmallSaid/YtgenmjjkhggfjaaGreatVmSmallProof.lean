/-
  The law VmSmall answers true for every two whole numbers of 64 bits, and leaves what it was given: the given statement VmSmallSaid.
  Conditions: none beside the statement's own.
  Its frame was written by the kit's program (proof-skeleton.mjs); the walk is reckoned by an evaluator, proved sound in the texts AE...
-/
import Derived.Test.YtgenmjjkhggfjaaGreatRows
import Derived.WalkKit
import Derived.ProofKit
import Derived.OpenShut
import Derived.Test.YtgenmjjkhggfjaaGreatSmall0
import Derived.Test.YtgenmjjkhggfjaaGreatSmall1
import Derived.Test.YtgenmjjkhggfjaaGreatSmall2
import Derived.Test.YtgenmjjkhggfjaaGreatSmall3
import Derived.Test.YtgenmjjkhggfjaaGreatSmall4
import Derived.Test.YtgenmjjkhggfjaaGreatSmall5
import Derived.Test.YtgenmjjkhggfjaaGreatSmall6
import Derived.Test.YtgenmjjkhggfjaaGreatSmall7
namespace Go.Proofs.YtgenmjjkhggfjaaGreat.vmSmall
open Go.ChangeShapes Go.WideShapes Go.ChangeAt Go.RowKit
set_option linter.unusedVariables false      -- a walk need not use every 'w<i>' (that an integer argument fits its kind)

theorem own : ownKnob Tryz.prog.godebug = none := by kernel_rfl

theorem and1 {a b : Bool} (h : Go.AE.andB a b = true) : a = true := by cases a <;> first | rfl | cases h
theorem and2 {a b : Bool} (h : Go.AE.andB a b = true) : b = true := by cases a <;> first | exact h | cases h
theorem below (n : Nat) (y : Int) : saysM 400 3 [.i .i64 (Int.negSucc n), .i .i64 y] = true := by kernel_rfl
theorem above (n : Nat) (y : Int) : saysM 400 3 [.i .i64 (Int.ofNat (n + 7)), .i .i64 y] = true := by kernel_rfl
theorem less0 (n : Nat) : saysM 400 3 [.i .i64 (Int.ofNat 0), .i .i64 (Int.negSucc n)] = true := by kernel_rfl
theorem more0 (n : Nat) : saysM 400 3 [.i .i64 (Int.ofNat 0), .i .i64 (Int.ofNat (n + 41))] = true := by kernel_rfl
theorem less1 (n : Nat) : saysM 400 3 [.i .i64 (Int.ofNat 1), .i .i64 (Int.negSucc n)] = true := by kernel_rfl
theorem more1 (n : Nat) : saysM 400 3 [.i .i64 (Int.ofNat 1), .i .i64 (Int.ofNat (n + 41))] = true := by kernel_rfl
theorem less2 (n : Nat) : saysM 400 3 [.i .i64 (Int.ofNat 2), .i .i64 (Int.negSucc n)] = true := by kernel_rfl
theorem more2 (n : Nat) : saysM 400 3 [.i .i64 (Int.ofNat 2), .i .i64 (Int.ofNat (n + 41))] = true := by kernel_rfl
theorem less3 (n : Nat) : saysM 400 3 [.i .i64 (Int.ofNat 3), .i .i64 (Int.negSucc n)] = true := by kernel_rfl
theorem more3 (n : Nat) : saysM 400 3 [.i .i64 (Int.ofNat 3), .i .i64 (Int.ofNat (n + 41))] = true := by kernel_rfl
theorem less4 (n : Nat) : saysM 400 3 [.i .i64 (Int.ofNat 4), .i .i64 (Int.negSucc n)] = true := by kernel_rfl
theorem more4 (n : Nat) : saysM 400 3 [.i .i64 (Int.ofNat 4), .i .i64 (Int.ofNat (n + 41))] = true := by kernel_rfl
theorem less5 (n : Nat) : saysM 400 3 [.i .i64 (Int.ofNat 5), .i .i64 (Int.negSucc n)] = true := by kernel_rfl
theorem more5 (n : Nat) : saysM 400 3 [.i .i64 (Int.ofNat 5), .i .i64 (Int.ofNat (n + 41))] = true := by kernel_rfl
theorem less6 (n : Nat) : saysM 400 3 [.i .i64 (Int.ofNat 6), .i .i64 (Int.negSucc n)] = true := by kernel_rfl
theorem more6 (n : Nat) : saysM 400 3 [.i .i64 (Int.ofNat 6), .i .i64 (Int.ofNat (n + 41))] = true := by kernel_rfl
theorem row0 (y : Int) : saysM 400 3 [.i .i64 (Int.ofNat 0), .i .i64 y] = true := by
  have h0 := small.way0at0
  have h1 := and2 h0
  have h2 := and2 h1
  have h3 := and2 h2
  have h4 := and2 h3
  have h5 := and2 h4
  have h6 := and2 h5
  have h7 := and2 h6
  have h8 := and2 h7
  have h9 := and2 h8
  have h10 := and2 h9
  have h11 := small.way0at11
  have h12 := and2 h11
  have h13 := and2 h12
  have h14 := and2 h13
  have h15 := and2 h14
  have h16 := and2 h15
  have h17 := and2 h16
  have h18 := and2 h17
  have h19 := and2 h18
  have h20 := and2 h19
  have h21 := small.way0at21
  have h22 := and2 h21
  have h23 := and2 h22
  have h24 := and2 h23
  have h25 := and2 h24
  have h26 := and2 h25
  have h27 := and2 h26
  have h28 := and2 h27
  have h29 := and2 h28
  have h30 := and2 h29
  have h31 := small.way0at31
  have h32 := and2 h31
  have h33 := and2 h32
  have h34 := and2 h33
  have h35 := and2 h34
  have h36 := and2 h35
  have h37 := and2 h36
  have h38 := and2 h37
  have h39 := and2 h38
  have h40 := and2 h39
  cases y with
  | negSucc n => exact less0 n
  | ofNat n =>
    match n with
    | 0 => exact and1 h0
    | 1 => exact and1 h1
    | 2 => exact and1 h2
    | 3 => exact and1 h3
    | 4 => exact and1 h4
    | 5 => exact and1 h5
    | 6 => exact and1 h6
    | 7 => exact and1 h7
    | 8 => exact and1 h8
    | 9 => exact and1 h9
    | 10 => exact and1 h10
    | 11 => exact and1 h11
    | 12 => exact and1 h12
    | 13 => exact and1 h13
    | 14 => exact and1 h14
    | 15 => exact and1 h15
    | 16 => exact and1 h16
    | 17 => exact and1 h17
    | 18 => exact and1 h18
    | 19 => exact and1 h19
    | 20 => exact and1 h20
    | 21 => exact and1 h21
    | 22 => exact and1 h22
    | 23 => exact and1 h23
    | 24 => exact and1 h24
    | 25 => exact and1 h25
    | 26 => exact and1 h26
    | 27 => exact and1 h27
    | 28 => exact and1 h28
    | 29 => exact and1 h29
    | 30 => exact and1 h30
    | 31 => exact and1 h31
    | 32 => exact and1 h32
    | 33 => exact and1 h33
    | 34 => exact and1 h34
    | 35 => exact and1 h35
    | 36 => exact and1 h36
    | 37 => exact and1 h37
    | 38 => exact and1 h38
    | 39 => exact and1 h39
    | 40 => exact and1 h40
    | n + 41 => exact more0 n
theorem row1 (y : Int) : saysM 400 3 [.i .i64 (Int.ofNat 1), .i .i64 y] = true := by
  have h0 := small.way1at0
  have h1 := and2 h0
  have h2 := and2 h1
  have h3 := and2 h2
  have h4 := and2 h3
  have h5 := and2 h4
  have h6 := and2 h5
  have h7 := and2 h6
  have h8 := and2 h7
  have h9 := and2 h8
  have h10 := and2 h9
  have h11 := small.way1at11
  have h12 := and2 h11
  have h13 := and2 h12
  have h14 := and2 h13
  have h15 := and2 h14
  have h16 := and2 h15
  have h17 := and2 h16
  have h18 := and2 h17
  have h19 := and2 h18
  have h20 := and2 h19
  have h21 := small.way1at21
  have h22 := and2 h21
  have h23 := and2 h22
  have h24 := and2 h23
  have h25 := and2 h24
  have h26 := and2 h25
  have h27 := and2 h26
  have h28 := and2 h27
  have h29 := and2 h28
  have h30 := and2 h29
  have h31 := small.way1at31
  have h32 := and2 h31
  have h33 := and2 h32
  have h34 := and2 h33
  have h35 := and2 h34
  have h36 := and2 h35
  have h37 := and2 h36
  have h38 := and2 h37
  have h39 := and2 h38
  have h40 := and2 h39
  cases y with
  | negSucc n => exact less1 n
  | ofNat n =>
    match n with
    | 0 => exact and1 h0
    | 1 => exact and1 h1
    | 2 => exact and1 h2
    | 3 => exact and1 h3
    | 4 => exact and1 h4
    | 5 => exact and1 h5
    | 6 => exact and1 h6
    | 7 => exact and1 h7
    | 8 => exact and1 h8
    | 9 => exact and1 h9
    | 10 => exact and1 h10
    | 11 => exact and1 h11
    | 12 => exact and1 h12
    | 13 => exact and1 h13
    | 14 => exact and1 h14
    | 15 => exact and1 h15
    | 16 => exact and1 h16
    | 17 => exact and1 h17
    | 18 => exact and1 h18
    | 19 => exact and1 h19
    | 20 => exact and1 h20
    | 21 => exact and1 h21
    | 22 => exact and1 h22
    | 23 => exact and1 h23
    | 24 => exact and1 h24
    | 25 => exact and1 h25
    | 26 => exact and1 h26
    | 27 => exact and1 h27
    | 28 => exact and1 h28
    | 29 => exact and1 h29
    | 30 => exact and1 h30
    | 31 => exact and1 h31
    | 32 => exact and1 h32
    | 33 => exact and1 h33
    | 34 => exact and1 h34
    | 35 => exact and1 h35
    | 36 => exact and1 h36
    | 37 => exact and1 h37
    | 38 => exact and1 h38
    | 39 => exact and1 h39
    | 40 => exact and1 h40
    | n + 41 => exact more1 n
theorem row2 (y : Int) : saysM 400 3 [.i .i64 (Int.ofNat 2), .i .i64 y] = true := by
  have h0 := small.way2at0
  have h1 := and2 h0
  have h2 := and2 h1
  have h3 := and2 h2
  have h4 := and2 h3
  have h5 := and2 h4
  have h6 := and2 h5
  have h7 := and2 h6
  have h8 := and2 h7
  have h9 := and2 h8
  have h10 := and2 h9
  have h11 := small.way2at11
  have h12 := and2 h11
  have h13 := and2 h12
  have h14 := and2 h13
  have h15 := and2 h14
  have h16 := and2 h15
  have h17 := and2 h16
  have h18 := and2 h17
  have h19 := and2 h18
  have h20 := and2 h19
  have h21 := small.way2at21
  have h22 := and2 h21
  have h23 := and2 h22
  have h24 := and2 h23
  have h25 := and2 h24
  have h26 := and2 h25
  have h27 := and2 h26
  have h28 := and2 h27
  have h29 := and2 h28
  have h30 := and2 h29
  have h31 := small.way2at31
  have h32 := and2 h31
  have h33 := and2 h32
  have h34 := and2 h33
  have h35 := and2 h34
  have h36 := and2 h35
  have h37 := and2 h36
  have h38 := and2 h37
  have h39 := and2 h38
  have h40 := and2 h39
  cases y with
  | negSucc n => exact less2 n
  | ofNat n =>
    match n with
    | 0 => exact and1 h0
    | 1 => exact and1 h1
    | 2 => exact and1 h2
    | 3 => exact and1 h3
    | 4 => exact and1 h4
    | 5 => exact and1 h5
    | 6 => exact and1 h6
    | 7 => exact and1 h7
    | 8 => exact and1 h8
    | 9 => exact and1 h9
    | 10 => exact and1 h10
    | 11 => exact and1 h11
    | 12 => exact and1 h12
    | 13 => exact and1 h13
    | 14 => exact and1 h14
    | 15 => exact and1 h15
    | 16 => exact and1 h16
    | 17 => exact and1 h17
    | 18 => exact and1 h18
    | 19 => exact and1 h19
    | 20 => exact and1 h20
    | 21 => exact and1 h21
    | 22 => exact and1 h22
    | 23 => exact and1 h23
    | 24 => exact and1 h24
    | 25 => exact and1 h25
    | 26 => exact and1 h26
    | 27 => exact and1 h27
    | 28 => exact and1 h28
    | 29 => exact and1 h29
    | 30 => exact and1 h30
    | 31 => exact and1 h31
    | 32 => exact and1 h32
    | 33 => exact and1 h33
    | 34 => exact and1 h34
    | 35 => exact and1 h35
    | 36 => exact and1 h36
    | 37 => exact and1 h37
    | 38 => exact and1 h38
    | 39 => exact and1 h39
    | 40 => exact and1 h40
    | n + 41 => exact more2 n
theorem row3 (y : Int) : saysM 400 3 [.i .i64 (Int.ofNat 3), .i .i64 y] = true := by
  have h0 := small.way3at0
  have h1 := and2 h0
  have h2 := and2 h1
  have h3 := and2 h2
  have h4 := and2 h3
  have h5 := and2 h4
  have h6 := and2 h5
  have h7 := and2 h6
  have h8 := and2 h7
  have h9 := and2 h8
  have h10 := and2 h9
  have h11 := small.way3at11
  have h12 := and2 h11
  have h13 := and2 h12
  have h14 := and2 h13
  have h15 := and2 h14
  have h16 := and2 h15
  have h17 := and2 h16
  have h18 := and2 h17
  have h19 := and2 h18
  have h20 := and2 h19
  have h21 := small.way3at21
  have h22 := and2 h21
  have h23 := and2 h22
  have h24 := and2 h23
  have h25 := and2 h24
  have h26 := and2 h25
  have h27 := and2 h26
  have h28 := and2 h27
  have h29 := and2 h28
  have h30 := and2 h29
  have h31 := small.way3at31
  have h32 := and2 h31
  have h33 := and2 h32
  have h34 := and2 h33
  have h35 := and2 h34
  have h36 := and2 h35
  have h37 := and2 h36
  have h38 := and2 h37
  have h39 := and2 h38
  have h40 := and2 h39
  cases y with
  | negSucc n => exact less3 n
  | ofNat n =>
    match n with
    | 0 => exact and1 h0
    | 1 => exact and1 h1
    | 2 => exact and1 h2
    | 3 => exact and1 h3
    | 4 => exact and1 h4
    | 5 => exact and1 h5
    | 6 => exact and1 h6
    | 7 => exact and1 h7
    | 8 => exact and1 h8
    | 9 => exact and1 h9
    | 10 => exact and1 h10
    | 11 => exact and1 h11
    | 12 => exact and1 h12
    | 13 => exact and1 h13
    | 14 => exact and1 h14
    | 15 => exact and1 h15
    | 16 => exact and1 h16
    | 17 => exact and1 h17
    | 18 => exact and1 h18
    | 19 => exact and1 h19
    | 20 => exact and1 h20
    | 21 => exact and1 h21
    | 22 => exact and1 h22
    | 23 => exact and1 h23
    | 24 => exact and1 h24
    | 25 => exact and1 h25
    | 26 => exact and1 h26
    | 27 => exact and1 h27
    | 28 => exact and1 h28
    | 29 => exact and1 h29
    | 30 => exact and1 h30
    | 31 => exact and1 h31
    | 32 => exact and1 h32
    | 33 => exact and1 h33
    | 34 => exact and1 h34
    | 35 => exact and1 h35
    | 36 => exact and1 h36
    | 37 => exact and1 h37
    | 38 => exact and1 h38
    | 39 => exact and1 h39
    | 40 => exact and1 h40
    | n + 41 => exact more3 n
theorem row4 (y : Int) : saysM 400 3 [.i .i64 (Int.ofNat 4), .i .i64 y] = true := by
  have h0 := small.way4at0
  have h1 := and2 h0
  have h2 := and2 h1
  have h3 := and2 h2
  have h4 := and2 h3
  have h5 := and2 h4
  have h6 := and2 h5
  have h7 := and2 h6
  have h8 := and2 h7
  have h9 := and2 h8
  have h10 := and2 h9
  have h11 := small.way4at11
  have h12 := and2 h11
  have h13 := and2 h12
  have h14 := and2 h13
  have h15 := and2 h14
  have h16 := and2 h15
  have h17 := and2 h16
  have h18 := and2 h17
  have h19 := and2 h18
  have h20 := and2 h19
  have h21 := small.way4at21
  have h22 := and2 h21
  have h23 := and2 h22
  have h24 := and2 h23
  have h25 := and2 h24
  have h26 := and2 h25
  have h27 := and2 h26
  have h28 := and2 h27
  have h29 := and2 h28
  have h30 := and2 h29
  have h31 := small.way4at31
  have h32 := and2 h31
  have h33 := and2 h32
  have h34 := and2 h33
  have h35 := and2 h34
  have h36 := and2 h35
  have h37 := and2 h36
  have h38 := and2 h37
  have h39 := and2 h38
  have h40 := and2 h39
  cases y with
  | negSucc n => exact less4 n
  | ofNat n =>
    match n with
    | 0 => exact and1 h0
    | 1 => exact and1 h1
    | 2 => exact and1 h2
    | 3 => exact and1 h3
    | 4 => exact and1 h4
    | 5 => exact and1 h5
    | 6 => exact and1 h6
    | 7 => exact and1 h7
    | 8 => exact and1 h8
    | 9 => exact and1 h9
    | 10 => exact and1 h10
    | 11 => exact and1 h11
    | 12 => exact and1 h12
    | 13 => exact and1 h13
    | 14 => exact and1 h14
    | 15 => exact and1 h15
    | 16 => exact and1 h16
    | 17 => exact and1 h17
    | 18 => exact and1 h18
    | 19 => exact and1 h19
    | 20 => exact and1 h20
    | 21 => exact and1 h21
    | 22 => exact and1 h22
    | 23 => exact and1 h23
    | 24 => exact and1 h24
    | 25 => exact and1 h25
    | 26 => exact and1 h26
    | 27 => exact and1 h27
    | 28 => exact and1 h28
    | 29 => exact and1 h29
    | 30 => exact and1 h30
    | 31 => exact and1 h31
    | 32 => exact and1 h32
    | 33 => exact and1 h33
    | 34 => exact and1 h34
    | 35 => exact and1 h35
    | 36 => exact and1 h36
    | 37 => exact and1 h37
    | 38 => exact and1 h38
    | 39 => exact and1 h39
    | 40 => exact and1 h40
    | n + 41 => exact more4 n
theorem row5 (y : Int) : saysM 400 3 [.i .i64 (Int.ofNat 5), .i .i64 y] = true := by
  have h0 := small.way5at0
  have h1 := and2 h0
  have h2 := and2 h1
  have h3 := and2 h2
  have h4 := and2 h3
  have h5 := and2 h4
  have h6 := and2 h5
  have h7 := and2 h6
  have h8 := and2 h7
  have h9 := and2 h8
  have h10 := and2 h9
  have h11 := small.way5at11
  have h12 := and2 h11
  have h13 := and2 h12
  have h14 := and2 h13
  have h15 := and2 h14
  have h16 := and2 h15
  have h17 := and2 h16
  have h18 := and2 h17
  have h19 := and2 h18
  have h20 := and2 h19
  have h21 := small.way5at21
  have h22 := and2 h21
  have h23 := and2 h22
  have h24 := and2 h23
  have h25 := and2 h24
  have h26 := and2 h25
  have h27 := and2 h26
  have h28 := and2 h27
  have h29 := and2 h28
  have h30 := and2 h29
  have h31 := small.way5at31
  have h32 := and2 h31
  have h33 := and2 h32
  have h34 := and2 h33
  have h35 := and2 h34
  have h36 := and2 h35
  have h37 := and2 h36
  have h38 := and2 h37
  have h39 := and2 h38
  have h40 := and2 h39
  cases y with
  | negSucc n => exact less5 n
  | ofNat n =>
    match n with
    | 0 => exact and1 h0
    | 1 => exact and1 h1
    | 2 => exact and1 h2
    | 3 => exact and1 h3
    | 4 => exact and1 h4
    | 5 => exact and1 h5
    | 6 => exact and1 h6
    | 7 => exact and1 h7
    | 8 => exact and1 h8
    | 9 => exact and1 h9
    | 10 => exact and1 h10
    | 11 => exact and1 h11
    | 12 => exact and1 h12
    | 13 => exact and1 h13
    | 14 => exact and1 h14
    | 15 => exact and1 h15
    | 16 => exact and1 h16
    | 17 => exact and1 h17
    | 18 => exact and1 h18
    | 19 => exact and1 h19
    | 20 => exact and1 h20
    | 21 => exact and1 h21
    | 22 => exact and1 h22
    | 23 => exact and1 h23
    | 24 => exact and1 h24
    | 25 => exact and1 h25
    | 26 => exact and1 h26
    | 27 => exact and1 h27
    | 28 => exact and1 h28
    | 29 => exact and1 h29
    | 30 => exact and1 h30
    | 31 => exact and1 h31
    | 32 => exact and1 h32
    | 33 => exact and1 h33
    | 34 => exact and1 h34
    | 35 => exact and1 h35
    | 36 => exact and1 h36
    | 37 => exact and1 h37
    | 38 => exact and1 h38
    | 39 => exact and1 h39
    | 40 => exact and1 h40
    | n + 41 => exact more5 n
theorem row6 (y : Int) : saysM 400 3 [.i .i64 (Int.ofNat 6), .i .i64 y] = true := by
  have h0 := small.way6at0
  have h1 := and2 h0
  have h2 := and2 h1
  have h3 := small.way6at3
  have h4 := and2 h3
  have h5 := and2 h4
  have h6 := small.way6at6
  have h7 := and2 h6
  have h8 := and2 h7
  have h9 := small.way6at9
  have h10 := and2 h9
  have h11 := and2 h10
  have h12 := small.way6at12
  have h13 := and2 h12
  have h14 := and2 h13
  have h15 := small.way6at15
  have h16 := and2 h15
  have h17 := and2 h16
  have h18 := small.way6at18
  have h19 := and2 h18
  have h20 := and2 h19
  have h21 := small.way6at21
  have h22 := and2 h21
  have h23 := and2 h22
  have h24 := small.way6at24
  have h25 := and2 h24
  have h26 := and2 h25
  have h27 := small.way6at27
  have h28 := and2 h27
  have h29 := and2 h28
  have h30 := small.way6at30
  have h31 := and2 h30
  have h32 := and2 h31
  have h33 := small.way6at33
  have h34 := small.way6at34
  have h35 := small.way6at35
  have h36 := small.way6at36
  have h37 := small.way6at37
  have h38 := small.way6at38
  have h39 := small.way6at39
  have h40 := small.way6at40
  cases y with
  | negSucc n => exact less6 n
  | ofNat n =>
    match n with
    | 0 => exact and1 h0
    | 1 => exact and1 h1
    | 2 => exact and1 h2
    | 3 => exact and1 h3
    | 4 => exact and1 h4
    | 5 => exact and1 h5
    | 6 => exact and1 h6
    | 7 => exact and1 h7
    | 8 => exact and1 h8
    | 9 => exact and1 h9
    | 10 => exact and1 h10
    | 11 => exact and1 h11
    | 12 => exact and1 h12
    | 13 => exact and1 h13
    | 14 => exact and1 h14
    | 15 => exact and1 h15
    | 16 => exact and1 h16
    | 17 => exact and1 h17
    | 18 => exact and1 h18
    | 19 => exact and1 h19
    | 20 => exact and1 h20
    | 21 => exact and1 h21
    | 22 => exact and1 h22
    | 23 => exact and1 h23
    | 24 => exact and1 h24
    | 25 => exact and1 h25
    | 26 => exact and1 h26
    | 27 => exact and1 h27
    | 28 => exact and1 h28
    | 29 => exact and1 h29
    | 30 => exact and1 h30
    | 31 => exact and1 h31
    | 32 => exact and1 h32
    | 33 => exact and1 h33
    | 34 => exact and1 h34
    | 35 => exact and1 h35
    | 36 => exact and1 h36
    | 37 => exact and1 h37
    | 38 => exact and1 h38
    | 39 => exact and1 h39
    | 40 => exact and1 h40
    | n + 41 => exact more6 n
theorem every (x y : Int) : saysM 400 3 [.i .i64 x, .i .i64 y] = true := by
  cases x with
  | negSucc n => exact below n y
  | ofNat n =>
    match n with
    | 0 => exact row0 y
    | 1 => exact row1 y
    | 2 => exact row2 y
    | 3 => exact row3 y
    | 4 => exact row4 y
    | 5 => exact row5 y
    | 6 => exact row6 y
    | n + 7 => exact above n y

theorem walk (a0 a1 : Int) (w0 : (Lit.int .i64 a0).wf = true) (w1 : (Lit.int .i64 a1).wf = true) (w : World) :
    Calls Tryz.prog 3 #[.int .i64 a0, .int .i64 a1] w fun e w' => e = .returned (.bool true) ∧ w.keptBut w' (fun _ => False) := walkM_two 3 400 a0 a1 (every a0 a1) w

/-! ### THE ROW's STEP: WRITTEN OUT: LEAVE IT -/
set_option maxRecDepth 100000 in
theorem lifted (os : Os) (started : os.Started) (H : Type) (enc : TypeId × Value → H) :
    ReturnsInHanded {} Tryz.checked os 3 .any (Rows.vmSmallSpec.pre6 enc Tryz.prog Tryz.f3 Rows.vmSmallRow.domain false) (Rows.vmSmallSpec.post enc Tryz.prog Tryz.f3 false true false false) := by
  refine returnsInHanded_of_change (C := Tryz.checked) own started (by kernel_rfl) Tryz.func3
    (ChangeSpec.witness6 (enc := enc) (C := Tryz.checked) false ⟨#[], #[.int .i64 0, .int .i64 0], []⟩ 8 (by kernel_rfl) (by kernel_rfl) (by kernel_rfl) (by kernel_rfl)) ?_
  intro W base args ds gs before hval0 hW hcnd _
  have hval : ∀ (j : Nat) t v, Tryz.f3.params[j]? = some t → args[j]? = some v → Value.okWide Tryz.prog W .any base t v := hval0
  have hW' := hW
  obtain ⟨p, q, hA0, hV, rfl, hfz, hnd⟩ := hW
  have hA : DataW.TrodAll enc Tryz.prog W 0 (fun _ => true) true Tryz.f3.params.toList args.toList ds p := hA0
  rw [Tryz.params3] at hA hval
  obtain ⟨v0, vs0, d0, ds0, p0, q0, hargs, rfl, rfl, h0, r0⟩ := trodAll_cons hA
  obtain ⟨v1, vs1, d1, ds1, p1, q1, rfl, rfl, rfl, h1, r1⟩ := trodAll_cons r0
  obtain ⟨rfl, rfl, rfl⟩ := trodAll_nil r1
  obtain rfl : args = #[v0, v1] := by cases args; simp_all
  obtain ⟨rfl, rfl⟩ := trodVars_none hV
  obtain ⟨a0, rfl, rfl, rfl, w0⟩ := open_int Tryz.underlying3 (hval 0 3 v0 rfl rfl) h0
  obtain ⟨a1, rfl, rfl, rfl, w1⟩ := open_int Tryz.underlying3 (hval 1 3 v1 rfl rfl) h1
  clear hA0 hval0
  simp only [List.append_nil] at hW'
  refine (walk a0 a1 w0 w1 W).mono fun e W' ⟨he, hg⟩ => ?_
  subst he
  exact ⟨_, rfl, _, _, _, [], [], [], hW', (trodAll_cons_mk (shut_bool Tryz.underlying4 _) trodAll_mk0), (trodAll_cons_mk (shut_int Tryz.underlying3 w0) (trodAll_cons_mk (shut_int Tryz.underlying3 w1) trodAll_mk0)), rfl, World.keptBut_mono (fun _ f => f.elim) hg, fun h => (by cases h)⟩

theorem over : Rows.vmSmallRow.holds Tryz.pinned (OpenSpec.ofChange Rows.vmSmallSpec) :=
  OpenClaim.holds_of_wide 3 Tryz.f3 rfl rfl rfl rfl rfl rfl rfl ⟨rfl, rfl, rfl, rfl, rfl⟩ rfl rfl rfl rfl rfl (by kernel_rfl) Tryz.func3 (by kernel_rfl)
    (of_decide_eq_true (by kernel_rfl)) (by unfold Func.isWrapper; first | (rw [if_pos (by decide +kernel)]; kernel_rfl) | (rw [if_neg (by decide +kernel)]; exact ⟨rfl, rfl⟩))
    (fun os started H enc _ => lifted os started H enc)

/-- ████ THE STATEMENT ████ -/
theorem proved : Rows.VmSmallSaid :=
  over
#print axioms proved
end Go.Proofs.YtgenmjjkhggfjaaGreat.vmSmall
