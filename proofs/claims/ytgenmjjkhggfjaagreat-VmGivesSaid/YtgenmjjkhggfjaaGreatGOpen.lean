/- VmGives' words are left open: what is made of them by the functions that look at them. -/
import Derived.Test.YtgenmjjkhggfjaaGreatRows
import Derived.Test.YtgenmjjkhggfjaaGreatAFOpens
import Derived.WalkKit
namespace Go.Proofs.YtgenmjjkhggfjaaGreat.gives
open Go Go.AE

theorem eqs_ok : ∀ t ∈ [34], EqOK Tryz.prog t := by
  intro t ht
  have ht : t = 34 := by simpa using ht
  subst ht
  refine ⟨Tryz.stoodInHeld34, Tryz.eqGuardType34, fun fs h f hf => ?_⟩
  rw [Tryz.underlying34] at h
  cases h
  simp at hf
  rcases hf with rfl | rfl <;> decide

theorem names : (Tryz.prog.funcs.toList.all fun fn => fn.body.isNone || !(fn.name == "runtime.NumGoroutine")) = true := by kernel_rfl

noncomputable def tab : Nat → Option CFunc := tabOf (tysOf Tryz.prog) [34] (funsOf Tryz.prog)

/-- A number as a word, as the code reckons it. -/
noncomputable def enc (x : Int) : Int := wrapF .i64 (wrapF .u64 (.ofNat (Nat.lor (toU .u64 (wrapF .u64 (Int.mul (wrapF .u64 x) (.ofNat 2)))) 1)))
/-- A word as a number. -/
def dec (y : Int) : Int := Int.fdiv y (.ofNat 2)

theorem code15 : tab 15 = some ⟨.seq (.reg [⟨some 2, none, .pu (.mv (.c (.i .i64 0))), 0, 0⟩]) (.seq (.reg [⟨none, none, .pu (.mv (.t 0)), 0, 0⟩, ⟨none, none, .pu (.cvi .u64 (.l 0)), 0, 0⟩,
    ⟨none, none, .pu (.bin .shl (.l 0) (.c (.i .u64 (.ofNat 1)))), 0, 0⟩, ⟨none, none, .pu (.bin .or (.l 0) (.c (.i .u64 (.ofNat 1)))), 0, 0⟩, ⟨none, none, .pu (.cvi .i64 (.l 0)), 0, 0⟩, ⟨some 2, none, .pu (.mv (.l 0)), 0, 0⟩]) .ret), [.tmp 2]⟩ := by kernel_rfl
theorem ops_pu (call : Nat → List AV → Heap → KH → Bool) (d : Option Nat) (p : POp) (lo hi : Nat) (l : List COper) (fr : T AV) (ls : List AV) (h : Heap) (K : KF) :
    runOps call (⟨d, none, .pu p, lo, hi⟩ :: l) ⟨fr, ls⟩ h K = runP p ⟨fr, ls⟩ fun v => runOps call l ⟨@Option.rec Nat (fun _ => T AV) fr (fun d => T.set v fr d) d, v :: ls⟩ h K := rfl
theorem p_cvi (kd kd' : IntKind) (n : Int) (fr : T AV) (ls : List AV) (K : KV) : runP (.cvi kd (.l 0)) ⟨fr, .i kd' n :: ls⟩ K = K (.i kd (wrapF kd n)) := kI_eq K kd (wrapF kd n)
theorem p_bin (op : BinOp) (c v : AV) (fr : T AV) (ls : List AV) (K : KV) : runP (.bin op (.l 0) (.c c)) ⟨fr, v :: ls⟩ K = kBin op v c K := rfl
theorem p_mv (v : AV) (fr : T AV) (ls : List AV) (K : KV) : runP (.mv (.l 0)) ⟨fr, v :: ls⟩ K = K v := rfl
theorem eq162 (x : Int) (k : KH) : callF tab 3 162 [.i .i64 x] noHeap k = kBin .and (.i .i64 x) (.i .i64 (.ofNat 1)) fun v => kBin .eql v (.i .i64 (.ofNat 1)) fun v => k v noHeap := by kernel_rfl
theorem eq82 (x : Int) (k : KH) : callF tab 3 82 [.i .i64 x] noHeap k = kBin .and (.i .i64 x) (.i .i64 (.ofNat 1)) fun v => kBin .eql v (.i .i64 (.ofNat 1)) fun v => k v noHeap := by kernel_rfl
theorem eq116 (x : Int) (k : KH) : callF tab 3 116 [.i .i64 x] noHeap k = kBin .shr (.i .i64 x) (.i .u64 (.ofNat 1)) fun v => k v noHeap := by kernel_rfl
theorem eq52 (x : Int) (k : KH) : callF tab 3 52 [.i .i64 x] noHeap k = kBin .shr (.i .i64 x) (.i .u64 (.ofNat 1)) fun v => k v noHeap := by kernel_rfl

theorem b_shl (u : Int) (q : KV) : kBin .shl (.i .u64 u) (.i .u64 (.ofNat 1)) q = q (.i .u64 (wrapF .u64 (Int.mul u (.ofNat 2)))) := kI_eq q .u64 (wrapF .u64 (Int.mul u (.ofNat 2)))
theorem b_or (u : Int) (q : KV) : kBin .or (.i .u64 u) (.i .u64 (.ofNat 1)) q = q (.i .u64 (wrapF .u64 (.ofNat (Nat.lor (toU .u64 u) 1)))) := kI_eq q .u64 (wrapF .u64 (.ofNat (Nat.lor (toU .u64 u) 1)))
theorem b_and (u : Int) (q : KV) : kBin .and (.i .i64 u) (.i .i64 (.ofNat 1)) q = q (.i .i64 (wrapF .i64 (.ofNat (Nat.land (toU .i64 u) 1)))) := kI_eq q .i64 (wrapF .i64 (.ofNat (Nat.land (toU .i64 u) 1)))
theorem b_shr (u : Int) (q : KV) : kBin .shr (.i .i64 u) (.i .u64 (.ofNat 1)) q = q (.i .i64 (dec u)) := kI_eq q .i64 (dec u)

theorem run15 (x : Int) (k : KH) : callF tab 3 15 [.i .i64 x] noHeap k = k (.i .i64 (enc x)) noHeap := by
  have h1 : callF tab 3 15 [.i .i64 x] noHeap k = @Option.rec CFunc (fun _ => Bool) false (fun fn => exec (callF tab 2) fn.body (T.ofList [.i .i64 x] 0 .e) noHeap (retK fn.res k)) (tab 15) := rfl
  rw [h1, code15]
  show runOps (callF tab 2) [⟨none, none, .pu (.cvi .u64 (.l 0)), 0, 0⟩, ⟨none, none, .pu (.bin .shl (.l 0) (.c (.i .u64 (.ofNat 1)))), 0, 0⟩, ⟨none, none, .pu (.bin .or (.l 0) (.c (.i .u64 (.ofNat 1)))), 0, 0⟩,
    ⟨none, none, .pu (.cvi .i64 (.l 0)), 0, 0⟩, ⟨some 2, none, .pu (.mv (.l 0)), 0, 0⟩] ⟨T.set (.i .i64 0) (T.ofList [.i .i64 x] 0 .e) 2, [.i .i64 x]⟩ noHeap (fun fr h => retK [.tmp 2] k .ret fr h) = _
  rw [ops_pu, p_cvi, ops_pu, p_bin, b_shl, ops_pu, p_bin, b_or, ops_pu, p_cvi, ops_pu, p_mv]
  rfl
theorem is_odd {x : Int} (h : Nat.land (toU .i64 x) 1 = 1) (k : KH) : (kBin .and (.i .i64 x) (.i .i64 (.ofNat 1)) fun v => kBin .eql v (.i .i64 (.ofNat 1)) fun v => k v noHeap) = k (.b true) noHeap := by
  rw [b_and, h]; rfl
theorem run162 {x : Int} (h : Nat.land (toU .i64 x) 1 = 1) (k : KH) : callF tab 3 162 [.i .i64 x] noHeap k = k (.b true) noHeap := (eq162 x k).trans (is_odd h k)
theorem run82 {x : Int} (h : Nat.land (toU .i64 x) 1 = 1) (k : KH) : callF tab 3 82 [.i .i64 x] noHeap k = k (.b true) noHeap := (eq82 x k).trans (is_odd h k)
theorem run116 (x : Int) (k : KH) : callF tab 3 116 [.i .i64 x] noHeap k = k (.i .i64 (dec x)) noHeap := (eq116 x k).trans (b_shr x _)
theorem run52 (x : Int) (k : KH) : callF tab 3 52 [.i .i64 x] noHeap k = k (.i .i64 (dec x)) noHeap := (eq52 x k).trans (b_shr x _)

/- Numbers. -/
theorem wrap_i64 (n : Int) : ∃ q : Int, IntKind.wrap .i64 n = n - q * 18446744073709551616 ∧ -9223372036854775808 ≤ IntKind.wrap .i64 n ∧ IntKind.wrap .i64 n ≤ 9223372036854775807 := by
  have hb : IntKind.bits .i64 = 64 := rfl
  have hs : IntKind.signed .i64 = true := rfl
  unfold IntKind.wrap
  simp only [hb, hs, Bool.true_and, decide_eq_true_eq]
  have e1 : (2 : Int) ^ 64 = 18446744073709551616 := by decide
  have e2 : (2 : Int) ^ (64 - 1) = 9223372036854775808 := by decide
  rw [e1, e2]
  by_cases h : n % 18446744073709551616 ≥ 9223372036854775808
  · rw [if_pos h]; exact ⟨n / 18446744073709551616 + 1, by omega, by omega, by omega⟩
  · rw [if_neg h]; exact ⟨n / 18446744073709551616, by omega, by omega, by omega⟩
theorem wrap_in {n : Int} (h1 : -9223372036854775808 ≤ n) (h2 : n ≤ 9223372036854775807) : IntKind.wrap .i64 n = n := by
  obtain ⟨q, h3, h4, h5⟩ := wrap_i64 n
  omega
theorem wrap_u64 (n : Int) : ∃ q : Int, IntKind.wrap .u64 n = n - q * 18446744073709551616 := by
  have hb : IntKind.bits .u64 = 64 := rfl
  have hs : IntKind.signed .u64 = false := rfl
  unfold IntKind.wrap
  simp only [hb, hs, Bool.false_and]
  have e1 : (2 : Int) ^ 64 = 18446744073709551616 := by decide
  rw [e1]
  exact ⟨n / 18446744073709551616, by simp; omega⟩

theorem lor_odd (y : Nat) : Nat.lor y 1 % 2 = 1 := by
  have h : Nat.testBit (y ||| 1) 0 = true := by rw [Nat.testBit_or]; simp
  rw [Nat.testBit_zero] at h
  exact of_decide_eq_true h
theorem land_one (z : Nat) : Nat.land z 1 = z % 2 := Nat.and_one_is_mod z
theorem enc_odd (x : Int) : enc x % 2 = 1 := by
  unfold enc
  rw [wrapF_eq]
  obtain ⟨q, h, _⟩ := wrap_i64 (wrapF .u64 (.ofNat (Nat.lor (toU .u64 (wrapF .u64 (Int.mul (wrapF .u64 x) (.ofNat 2)))) 1)))
  rw [h, wrapF_eq]
  obtain ⟨q', h'⟩ := wrap_u64 (.ofNat (Nat.lor (toU .u64 (wrapF .u64 (Int.mul (wrapF .u64 x) (.ofNat 2)))) 1))
  rw [h']
  have h3 := lor_odd (toU .u64 (wrapF .u64 (Int.mul (wrapF .u64 x) (.ofNat 2))))
  generalize Nat.lor (toU .u64 (wrapF .u64 (Int.mul (wrapF .u64 x) (.ofNat 2)))) 1 = z at h3
  have : (Int.ofNat z) = (z : Int) := rfl
  rw [this]
  omega
theorem enc_in (x : Int) : -9223372036854775808 ≤ enc x ∧ enc x ≤ 9223372036854775807 := by
  unfold enc
  rw [wrapF_eq]
  obtain ⟨_, _, h⟩ := wrap_i64 (wrapF .u64 (.ofNat (Nat.lor (toU .u64 (wrapF .u64 (Int.mul (wrapF .u64 x) (.ofNat 2)))) 1)))
  exact h
theorem odd_bit {x : Int} (h : x % 2 = 1) : Nat.land (toU .i64 x) 1 = 1 := by
  rw [land_one]
  cases x with
  | ofNat a =>
    show a % 2 ^ 64 % 2 = 1
    have : (Int.ofNat a) = (a : Int) := rfl
    rw [this] at h
    omega
  | negSucc a =>
    show (2 ^ 64 - 1 - a % 2 ^ 64) % 2 = 1
    have : Int.negSucc a = -((a : Int) + 1) := rfl
    rw [this] at h
    omega
theorem dec_in {y : Int} (h1 : -9223372036854775808 ≤ y) (h2 : y ≤ 9223372036854775807) : -9223372036854775808 ≤ dec y ∧ dec y ≤ 9223372036854775807 := by
  unfold dec
  have : Int.fdiv y (.ofNat 2) = y / 2 := Int.fdiv_eq_ediv_of_nonneg _ (by decide)
  rw [this]
  omega

/- The words that are open. -/
noncomputable def val (zs : List Int) (k : Nat) : Int := if k < 100 then zs.getD k 0 else if k < 200 then enc (zs.getD (k - 100) 0) else dec (enc (zs.getD (k - 200) 0))
theorem getD_in {zs : List Int} (hz : ∀ n ∈ zs, (Lit.int .i64 n).wf = true) (k : Nat) : -9223372036854775808 ≤ zs.getD k 0 ∧ zs.getD k 0 ≤ 9223372036854775807 := by
  rw [List.getD_eq_getElem?_getD]
  cases h : zs[k]? with
  | none => decide
  | some n =>
    have := hz n (List.mem_of_getElem? h)
    have h2 : (decide (IntKind.min .i64 ≤ n) && decide (n ≤ IntKind.max .i64)) = true := this
    have e1 : IntKind.min .i64 = -9223372036854775808 := by decide
    have e2 : IntKind.max .i64 = 9223372036854775807 := by decide
    rw [e1, e2] at h2
    simp at h2
    exact h2
theorem val_fits {zs : List Int} (hz : ∀ n ∈ zs, (Lit.int .i64 n).wf = true) (k : Nat) : IntKind.wrap .i64 (val zs k) = val zs k := by
  unfold val
  split
  · exact wrap_in (getD_in hz k).1 (getD_in hz k).2
  · split
    · exact wrap_in (enc_in _).1 (enc_in _).2
    · have := enc_in (zs.getD (k - 200) 0)
      exact wrap_in (dec_in this.1 this.2).1 (dec_in this.1 this.2).2
@[reducible] noncomputable def opq (zs : List Int) (hz : ∀ n ∈ zs, (Lit.int .i64 n).wf = true) (ro : Nat) : Opq () := ⟨val zs, val_fits hz, ro⟩

def ents (l : List Nat) : List Ent := l.flatMap fun k => [⟨15, [.o k], .o (100 + k), [], 0⟩, ⟨162, [.o (100 + k)], .b true, [], 0⟩, ⟨116, [.o (100 + k)], .o (200 + k), [], 0⟩, ⟨82, [.o (100 + k)], .b true, [], 0⟩, ⟨52, [.o (100 + k)], .o (200 + k), [], 0⟩]

theorem ents_ok {zs : List Int} {hz : ∀ n ∈ zs, (Lit.int .i64 n).wf = true} {ro : Nat} : ∀ e ∈ ents [0, 1, 2, 3, 4, 5, 6, 7], @EntOK () (opq zs hz ro) Tryz.prog e := by
  intro e he
  letI : Opq () := opq zs hz ro
  obtain ⟨k, hk, he⟩ := List.mem_flatMap.1 he
  have hk8 : k < 8 := by simp at hk; omega
  have v0 : (Opq.val k : Int) = zs.getD k 0 := by show val zs k = _; unfold val; rw [if_pos (by omega)]
  have v1 : (Opq.val (100 + k) : Int) = enc (zs.getD k 0) := by show val zs (100 + k) = _; unfold val; rw [if_neg (by omega), if_pos (by omega), show 100 + k - 100 = k from by omega]
  have v2 : (Opq.val (200 + k) : Int) = dec (enc (zs.getD k 0)) := by show val zs (200 + k) = _; unfold val; rw [if_neg (by omega), if_neg (by omega), show 200 + k - 200 = k from by omega]
  have one : ∀ {f : Nat} {x : Int} {r : AV} {res : Value}, (∀ φ u, @VR () opq0 φ r u → u = res) → (∀ q : KH, callF tab 3 f [.i .i64 x] noHeap q = q r noHeap) →
      (∀ args' w, (callFunc f args').run Tryz.prog w = .ok (.enter f args') w) ∧ ∀ w, Calls Tryz.prog f #[.int .i64 x] w fun e w' => e = .returned res ∧ Still w w' := fun hres hr =>
    pure_call (args := #[.int .i64 _]) Tryz.checked.mixed eqs_ok (names_of names) (show @VRL () opq0 noEmb [.i .i64 _] [.int .i64 _] from ⟨_, _, rfl, rfl, rfl⟩) hres hr
  have num : ∀ {x : Int} φ u, @VR () opq0 φ (.i .i64 x) u → u = .int .i64 x := fun φ u h => h
  have tru : ∀ φ u, @VR () opq0 φ (.b true) u → u = .bool true := fun φ u h => h
  have hodd := odd_bit (enc_odd (zs.getD k 0))
  simp only [List.mem_cons, List.not_mem_nil, or_false] at he
  rcases he with rfl | rfl | rfl | rfl | rfl
  · obtain ⟨h1, h2⟩ := one num (run15 (zs.getD k 0))
    exact open_ent (rv := .int .i64 (enc (zs.getD k 0))) (by rw [VR_o, v1]) h1 (by rw [v0]; exact h2)
  · obtain ⟨h1, h2⟩ := one tru (run162 hodd)
    exact open_ent (rv := .bool true) (VR_b.2 rfl) h1 (by rw [v1]; exact h2)
  · obtain ⟨h1, h2⟩ := one num (run116 (enc (zs.getD k 0)))
    exact open_ent (rv := .int .i64 (dec (enc (zs.getD k 0)))) (by rw [VR_o, v2]) h1 (by rw [v1]; exact h2)
  · obtain ⟨h1, h2⟩ := one tru (run82 hodd)
    exact open_ent (rv := .bool true) (VR_b.2 rfl) h1 (by rw [v1]; exact h2)
  · obtain ⟨h1, h2⟩ := one num (run52 (enc (zs.getD k 0)))
    exact open_ent (rv := .int .i64 (dec (enc (zs.getD k 0)))) (by rw [VR_o, v2]) h1 (by rw [v1]; exact h2)

/-- The evaluator's question of VmGives: the words in the row, the row, the depth, the place. -/
noncomputable def asked (cs : List AV) (a : AV) (d g : Int) : Bool := callM tab (ents [0, 1, 2, 3, 4, 5, 6, 7]) 400 6 [.i .i64 d, a, .i .i64 g] (rowHeap cs) (fun v _ => onB v fun b => b)
end Go.Proofs.YtgenmjjkhggfjaaGreat.gives
