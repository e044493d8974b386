/- Calls that the laws make again and again, and what they come to: each is reckoned once. -/
import Derived.Test.YtgenmjjkhggfjaaGreatWalks1
import Derived.Test.YtgenmjjkhggfjaaGreatAEMemo2
namespace Go.Proofs.YtgenmjjkhggfjaaGreat
open Go
noncomputable def ent0 : Go.AE.Ent := ⟨8, ((.s 5 147696279842) :: []), (.tup ((.agg ((.i .i64 (Int.ofNat 0)) :: ((.sl 80 0 0 1 none 1) :: ((.sl 84 0 0 1 none 1) :: [])))) :: ((.b true) :: []))),
   [⟨80, [(.sl 86 1 0 2 none 2)], (some (0, 0, []))⟩,
    ⟨84, [(.s 3 6513249)], (some (0, 0, []))⟩,
    ⟨86, [(.i .i64 (Int.ofNat 2)), (.i .i64 (Int.ofNat 0)), (.i .i64 (Int.ofNat 10)), (.i .i64 (Int.ofNat 0))], (some (1, 0, ((2, 1) :: [])))⟩], 89⟩
noncomputable def ent1 : Go.AE.Ent := ⟨8, ((.s 14 2436458624078970258130410151372140) :: []), (.tup ((.agg ((.i .i64 (Int.ofNat 0)) :: ((.sl 203 0 0 1 none 1) :: (.nils :: [])))) :: ((.b true) :: []))),
   [⟨203, [(.sl 208 4 0 5 none 2)], (some (0, 0, []))⟩,
    ⟨208, [(.i .i64 (Int.ofNat 1)), (.i .i64 (Int.ofNat 1)), (.i .i64 (Int.ofNat 6)), (.i .i64 (Int.ofNat 0)), (.i .i64 (Int.ofNat 3)), (.i .i64 (Int.ofNat 0)), (.i .i64 (Int.ofNat 7)), (.i .i64 (Int.ofNat 0)), (.i .i64 (Int.ofNat 10)), (.i .i64 (Int.ofNat 0))], (some (4, 0, ((8, 4) :: ((6, 3) :: ((4, 2) :: ((2, 1) :: []))))))⟩], 220⟩
noncomputable def ent2 : Go.AE.Ent := ⟨8, ((.s 5 215291946354) :: []), (.tup ((.agg ((.i .i64 (Int.ofNat 0)) :: ((.sl 94 0 0 1 none 1) :: (.nils :: [])))) :: ((.b true) :: []))),
   [⟨94, [(.sl 99 2 0 3 none 2)], (some (0, 0, []))⟩,
    ⟨99, [(.i .i64 (Int.ofNat 1)), (.i .i64 (Int.ofNat 2)), (.i .i64 (Int.ofNat 29)), (.i .i64 (Int.ofNat 0)), (.i .i64 (Int.ofNat 10)), (.i .i64 (Int.ofNat 0))], (some (2, 0, ((4, 2) :: ((2, 1) :: []))))⟩], 103⟩
noncomputable def ent3 : Go.AE.Ent := ⟨8, ((.s 6 45295264870696) :: []), (.tup ((.agg ((.i .i64 (Int.ofNat 0)) :: ((.sl 266 0 0 1 none 1) :: (.nils :: [])))) :: ((.b true) :: []))),
   [⟨266, [(.sl 271 3 0 4 none 2)], (some (0, 0, []))⟩,
    ⟨271, [(.i .i64 (Int.ofNat 1)), (.i .i64 (Int.ofNat 1)), (.i .i64 (Int.ofNat 1)), (.i .i64 (Int.ofNat 2)), (.i .i64 (Int.ofNat 24)), (.i .i64 (Int.ofNat 0)), (.i .i64 (Int.ofNat 10)), (.i .i64 (Int.ofNat 0))], (some (3, 0, ((6, 3) :: ((4, 2) :: ((2, 1) :: [])))))⟩], 278⟩
noncomputable def ent4 : Go.AE.Ent := ⟨8, ((.s 9 634260548459687993634) :: []), (.tup ((.agg ((.i .i64 (Int.ofNat 0)) :: ((.sl 135 0 0 1 none 1) :: ((.sl 140 1 0 2 none 1) :: [])))) :: ((.b true) :: []))),
   [⟨135, [(.sl 142 3 0 4 none 2)], (some (0, 0, []))⟩,
    ⟨140, [(.s 1 97), (.s 1 98)], (some (1, 0, ((1, 1) :: [])))⟩,
    ⟨142, [(.i .i64 (Int.ofNat 2)), (.i .i64 (Int.ofNat 0)), (.i .i64 (Int.ofNat 2)), (.i .i64 (Int.ofNat 1)), (.i .i64 (Int.ofNat 22)), (.i .i64 (Int.ofNat 0)), (.i .i64 (Int.ofNat 10)), (.i .i64 (Int.ofNat 0))], (some (3, 0, ((6, 3) :: ((4, 2) :: ((2, 1) :: [])))))⟩], 150⟩
noncomputable def ent5 : Go.AE.Ent := ⟨8, ((.s 14 1036951025095455356643032190772776) :: []), (.tup ((.agg ((.i .i64 (Int.ofNat 0)) :: ((.sl 251 1 0 2 none 1) :: (.nils :: [])))) :: ((.b true) :: []))),
   [⟨251, [(.sl 265 3 0 4 none 2), (.sl 262 1 0 2 none 2)], (some (1, 1, ((1, 1) :: [])))⟩,
    ⟨265, [(.i .i64 (Int.ofNat 4)), (.i .i64 (Int.ofNat 1)), (.i .i64 (Int.ofNat 1)), (.i .i64 (Int.ofNat 3)), (.i .i64 (Int.ofNat 9)), (.i .i64 (Int.ofNat 0)), (.i .i64 (Int.ofNat 10)), (.i .i64 (Int.ofNat 0))], (some (3, 0, ((6, 3) :: ((4, 2) :: ((2, 1) :: [])))))⟩,
    ⟨262, [(.i .i64 (Int.ofNat 3)), (.i .i64 (Int.ofNat 0)), (.i .i64 (Int.ofNat 10)), (.i .i64 (Int.ofNat 0))], (some (1, 0, ((2, 1) :: [])))⟩], 272⟩
noncomputable def ent6 : Go.AE.Ent := ⟨8, ((.s 51 147515048281979311116358543150780501065190930577910478449585331728373046942202054159708730996285149478853346187410901591404) :: []), (.tup ((.agg ((.i .i64 (Int.ofNat 0)) :: ((.sl 677 1 0 2 none 1) :: (.nils :: [])))) :: ((.b true) :: []))),
   [⟨677, [(.sl 715 6 0 7 none 2), (.sl 690 11 0 12 none 2)], (some (1, 1, ((1, 1) :: [])))⟩,
    ⟨715, [(.i .i64 (Int.ofNat 5)), (.i .i64 (Int.ofNat 1)), (.i .i64 (Int.ofNat 6)), (.i .i64 (Int.ofNat 0)), (.i .i64 (Int.ofNat 3)), (.i .i64 (Int.ofNat 0)), (.i .i64 (Int.ofNat 1)), (.i .i64 (Int.ofNat 9)), (.i .i64 (Int.ofNat 9)), (.i .i64 (Int.ofNat 0)), (.i .i64 (Int.ofNat 7)), (.i .i64 (Int.ofNat 0)), (.i .i64 (Int.ofNat 10)), (.i .i64 (Int.ofNat 0))], (some (6, 0, ((12, 6) :: ((10, 5) :: ((8, 4) :: ((6, 3) :: ((4, 2) :: ((2, 1) :: []))))))))⟩,
    ⟨690, [(.i .i64 (Int.ofNat 3)), (.i .i64 (Int.ofNat 0)), (.i .i64 (Int.ofNat 1)), (.i .i64 (Int.ofNat 0)), (.i .i64 (Int.ofNat 21)), (.i .i64 (Int.ofNat 0)), (.i .i64 (Int.ofNat 12)), (.i .i64 (Int.ofNat 6)), (.i .i64 (Int.ofNat 1)), (.i .i64 (Int.ofNat 0)), (.i .i64 (Int.ofNat 11)), (.i .i64 (Int.ofNat 11)), (.i .i64 (Int.ofNat 3)), (.i .i64 (Int.ofNat 1)), (.i .i64 (Int.ofNat 3)), (.i .i64 (Int.ofNat 0)), (.i .i64 (Int.ofNat 1)), (.i .i64 (Int.ofNat 1)), (.i .i64 (Int.ofNat 18)), (.i .i64 (Int.ofNat 0)), (.i .i64 (Int.ofNat 9)), (.i .i64 (Int.ofNat 0)), (.i .i64 (Int.ofNat 10)), (.i .i64 (Int.ofNat 0))], (some (11, 10, ((22, 11) :: ((20, 10) :: ((18, 9) :: ((16, 8) :: ((14, 7) :: ((12, 6) :: ((10, 5) :: ((8, 4) :: ((6, 3) :: ((4, 2) :: ((2, 1) :: [])))))))))))))⟩], 732⟩
noncomputable def ent7 : Go.AE.Ent := ⟨8, ((.s 5 215288062001) :: []), (.tup ((.agg ((.i .i64 (Int.ofNat 0)) :: ((.sl 131 0 0 1 none 1) :: (.nils :: [])))) :: ((.b true) :: []))),
   [⟨131, [(.sl 136 3 0 4 none 2)], (some (0, 0, []))⟩,
    ⟨136, [(.i .i64 (Int.ofNat 1)), (.i .i64 (Int.ofNat 1)), (.i .i64 (Int.ofNat 1)), (.i .i64 (Int.ofNat 2)), (.i .i64 (Int.ofNat 17)), (.i .i64 (Int.ofNat 0)), (.i .i64 (Int.ofNat 10)), (.i .i64 (Int.ofNat 0))], (some (3, 0, ((6, 3) :: ((4, 2) :: ((2, 1) :: [])))))⟩], 143⟩
noncomputable def ent8 : Go.AE.Ent := ⟨14, [], (.b true),
   [], 244⟩
noncomputable def ents : List Go.AE.Ent := [ent0, ent1, ent2, ent3, ent4, ent5, ent6, ent7, ent8]
theorem calls_ok (n : Nat) : Go.AE.CallOK Tryz.prog (Go.AE.callF (Go.AE.tabOf (Go.AE.tysOf Tryz.prog) [34] (Go.AE.funsOf Tryz.prog)) n) := Go.AE.call_sound (Tryz.checked.mixed) eqs_ok (Go.AE.names_of names) n
theorem asked0 : Go.AE.callF (Go.AE.tabOf (Go.AE.tysOf Tryz.prog) [34] (Go.AE.funsOf Tryz.prog)) 390 ent0.f ent0.args Go.AE.noHeap (Go.AE.asks ent0) = true := by kernel_rfl
theorem told0 : Go.AE.EntOK Tryz.prog ent0 := Go.AE.ent_of (calls_ok 390) (by kernel_rfl) asked0
theorem asked1 : Go.AE.callF (Go.AE.tabOf (Go.AE.tysOf Tryz.prog) [34] (Go.AE.funsOf Tryz.prog)) 390 ent1.f ent1.args Go.AE.noHeap (Go.AE.asks ent1) = true := by kernel_rfl
theorem told1 : Go.AE.EntOK Tryz.prog ent1 := Go.AE.ent_of (calls_ok 390) (by kernel_rfl) asked1
theorem asked2 : Go.AE.callF (Go.AE.tabOf (Go.AE.tysOf Tryz.prog) [34] (Go.AE.funsOf Tryz.prog)) 390 ent2.f ent2.args Go.AE.noHeap (Go.AE.asks ent2) = true := by kernel_rfl
theorem told2 : Go.AE.EntOK Tryz.prog ent2 := Go.AE.ent_of (calls_ok 390) (by kernel_rfl) asked2
theorem asked3 : Go.AE.callF (Go.AE.tabOf (Go.AE.tysOf Tryz.prog) [34] (Go.AE.funsOf Tryz.prog)) 390 ent3.f ent3.args Go.AE.noHeap (Go.AE.asks ent3) = true := by kernel_rfl
theorem told3 : Go.AE.EntOK Tryz.prog ent3 := Go.AE.ent_of (calls_ok 390) (by kernel_rfl) asked3
theorem asked4 : Go.AE.callF (Go.AE.tabOf (Go.AE.tysOf Tryz.prog) [34] (Go.AE.funsOf Tryz.prog)) 390 ent4.f ent4.args Go.AE.noHeap (Go.AE.asks ent4) = true := by kernel_rfl
theorem told4 : Go.AE.EntOK Tryz.prog ent4 := Go.AE.ent_of (calls_ok 390) (by kernel_rfl) asked4
theorem asked5 : Go.AE.callF (Go.AE.tabOf (Go.AE.tysOf Tryz.prog) [34] (Go.AE.funsOf Tryz.prog)) 390 ent5.f ent5.args Go.AE.noHeap (Go.AE.asks ent5) = true := by kernel_rfl
theorem told5 : Go.AE.EntOK Tryz.prog ent5 := Go.AE.ent_of (calls_ok 390) (by kernel_rfl) asked5
theorem asked6 : Go.AE.callF (Go.AE.tabOf (Go.AE.tysOf Tryz.prog) [34] (Go.AE.funsOf Tryz.prog)) 390 ent6.f ent6.args Go.AE.noHeap (Go.AE.asks ent6) = true := by kernel_rfl
theorem told6 : Go.AE.EntOK Tryz.prog ent6 := Go.AE.ent_of (calls_ok 390) (by kernel_rfl) asked6
theorem asked7 : Go.AE.callF (Go.AE.tabOf (Go.AE.tysOf Tryz.prog) [34] (Go.AE.funsOf Tryz.prog)) 390 ent7.f ent7.args Go.AE.noHeap (Go.AE.asks ent7) = true := by kernel_rfl
theorem told7 : Go.AE.EntOK Tryz.prog ent7 := Go.AE.ent_of (calls_ok 390) (by kernel_rfl) asked7
theorem asked8 : Go.AE.callF (Go.AE.tabOf (Go.AE.tysOf Tryz.prog) [34] (Go.AE.funsOf Tryz.prog)) 390 ent8.f ent8.args Go.AE.noHeap (Go.AE.asks ent8) = true := by kernel_rfl
theorem told8 : Go.AE.EntOK Tryz.prog ent8 := Go.AE.ent_of (calls_ok 390) (by kernel_rfl) asked8
theorem told : ∀ e ∈ ents, Go.AE.EntOK Tryz.prog e := by
  intro e he
  simp only [ents, List.mem_cons, List.not_mem_nil, or_false] at he
  rcases he with rfl | rfl | rfl | rfl | rfl | rfl | rfl | rfl | rfl
  · exact told0
  · exact told1
  · exact told2
  · exact told3
  · exact told4
  · exact told5
  · exact told6
  · exact told7
  · exact told8
/-- The evaluator's question, where some calls are known. -/
noncomputable def saysM (n f : Nat) (l : List Go.AE.AV) : Bool := Go.AE.callM (Go.AE.tabOf (Go.AE.tysOf Tryz.prog) [34] (Go.AE.funsOf Tryz.prog)) ents n f l Go.AE.noHeap (fun v _ => Go.AE.onB v fun b => b)
theorem known_ok (n : Nat) : Go.AE.CallOK Tryz.prog (Go.AE.callM (Go.AE.tabOf (Go.AE.tysOf Tryz.prog) [34] (Go.AE.funsOf Tryz.prog)) ents n) := Go.AE.callM_sound (Tryz.checked.mixed) eqs_ok (Go.AE.names_of names) told n
theorem walkM_two (f n : Nat) (a0 a1 : Int) (h : saysM n f [.i .i64 a0, .i .i64 a1] = true) (w : World) : Calls Tryz.prog f #[.int .i64 a0, .int .i64 a1] w fun e w' => e = .returned (.bool true) ∧ w.keptBut w' (fun _ => False) :=
  Go.AE.law_walkM (args := #[.int .i64 a0, .int .i64 a1]) (known_ok n) (Go.AE.lin_callM _ ents n) (show Go.AE.VRL Go.AE.noEmb [.i .i64 a0, .i .i64 a1] [.int .i64 a0, .int .i64 a1] from ⟨_, _, rfl, rfl, _, _, rfl, rfl, rfl⟩) h w
end Go.Proofs.YtgenmjjkhggfjaaGreat
