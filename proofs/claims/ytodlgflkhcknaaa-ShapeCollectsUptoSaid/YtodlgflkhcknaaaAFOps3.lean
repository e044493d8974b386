/- Strings as numbers; the other operations that look at no memory. -/
import Derived.Test.YtodlgflkhcknaaaAFOps2
import Derived.Laws.Strings2
import Derived.Laws.Concat
namespace Go.AE
set_option linter.unusedVariables false
variable {oq : Unit} [Opq oq]
open Go

theorem nob_nil : natOfBytes [] = 0 := rfl
theorem nob_cons (b : UInt8) (l : List UInt8) : natOfBytes (b :: l) = b.toNat + 256 * natOfBytes l := rfl
theorem nob_lt : ∀ l : List UInt8, natOfBytes l < 2 ^ (8 * l.length)
  | [] => by simp [nob_nil]
  | b :: l => by
    have h := nob_lt l
    have hb := b.toNat_lt
    rw [nob_cons, List.length_cons, Nat.mul_add, Nat.pow_add]
    have : (2 : Nat) ^ (8 * 1) = 256 := rfl
    rw [this]
    have h2 : 2 ^ 8 = 256 := rfl
    omega

theorem nob_app : ∀ a b : List UInt8, natOfBytes (a ++ b) = natOfBytes a + natOfBytes b * 2 ^ (8 * a.length)
  | [], b => by simp [nob_nil]
  | x :: a, b => by
    rw [List.cons_append, nob_cons, nob_cons, nob_app a b, List.length_cons, Nat.mul_add 8, Nat.pow_add]
    have : (2 : Nat) ^ (8 * 1) = 256 := rfl
    rw [this, ← Nat.mul_assoc, Nat.mul_add, Nat.mul_comm _ 256]
    omega

theorem nob_div : ∀ (l : List UInt8) (i : Nat), natOfBytes l / 2 ^ (8 * i) = natOfBytes (l.drop i)
  | l, 0 => by simp
  | [], i + 1 => by simp [nob_nil]
  | b :: l, i + 1 => by
    have hb := b.toNat_lt
    have h2 : 2 ^ 8 = 256 := rfl
    rw [List.drop_succ_cons, ← nob_div l i, nob_cons, Nat.mul_add, Nat.add_comm (8 * i), Nat.pow_add, ← Nat.div_div_eq_div_mul]
    congr 1
    have : (2 : Nat) ^ (8 * 1) = 256 := rfl
    rw [this]; omega

theorem nob_mod : ∀ (l : List UInt8) (i : Nat), natOfBytes l % 2 ^ (8 * i) = natOfBytes (l.take i)
  | l, 0 => by simp [Nat.mod_one, nob_nil]
  | [], i + 1 => by simp [nob_nil]
  | b :: l, i + 1 => by
    have hb := b.toNat_lt
    have h2 : 2 ^ 8 = 256 := rfl
    have ih := nob_mod l i
    rw [List.take_succ_cons, nob_cons, nob_cons, ← ih, Nat.mul_add, Nat.pow_add]
    have : (2 : Nat) ^ (8 * 1) = 256 := rfl
    rw [this, Nat.mul_comm _ 256, Nat.mod_mul]
    have e1 : (b.toNat + 256 * natOfBytes l) % 256 = b.toNat := by omega
    have e2 : (b.toNat + 256 * natOfBytes l) / 256 = natOfBytes l := by omega
    rw [e1, e2]

theorem nob_byte {l : List UInt8} {i : Nat} {b : UInt8} (h : l[i]? = some b) : byteAt (natOfBytes l) i = b.toNat := by
  show natOfBytes l >>> (8 * i) % 256 = b.toNat
  rw [Nat.shiftRight_eq_div_pow, nob_div]
  have hlt : i < l.length := (List.getElem?_eq_some_iff.1 h).1
  have hb := b.toNat_lt
  have h2 : 2 ^ 8 = 256 := rfl
  have : l.drop i = b :: l.drop (i + 1) := by
    rw [List.drop_eq_getElem_cons hlt]; congr 1
    exact (List.getElem?_eq_some_iff.1 h).2
  rw [this, nob_cons]; omega

theorem nob_inj : ∀ {a b : List UInt8}, a.length = b.length → natOfBytes a = natOfBytes b → a = b
  | [], [], _, _ => rfl
  | x :: a, y :: b, hl, h => by
    rw [nob_cons, nob_cons] at h
    have hx := x.toNat_lt
    have hy := y.toNat_lt
    have h2 : 2 ^ 8 = 256 := rfl
    have h1 : x.toNat = y.toNat := by omega
    have h3 : natOfBytes a = natOfBytes b := by omega
    rw [UInt8.toNat_inj.1 h1, nob_inj (by simpa using hl) h3]

theorem beqS_eq (a b : List UInt8) : beqS a.length (natOfBytes a) b.length (natOfBytes b) = (a == b) := by
  unfold beqS ite'
  cases h : Nat.beq a.length b.length
  · simp only []
    have := beq_ne h
    symm; simp; intro e; rw [e] at this; exact this rfl
  · simp only []
    have h' := beq_eq h
    cases h1 : Nat.beq (natOfBytes a) (natOfBytes b)
    · have := beq_ne h1
      symm; simp; intro e; rw [e] at this; exact this rfl
    · have := nob_inj h' (beq_eq h1)
      rw [this]; simp

theorem sless_eq : ∀ (f : Nat) (a b : List UInt8), b.length < f → sless f a.length (natOfBytes a) b.length (natOfBytes b) = Op.bytesLess a b
  | 0, a, b, h => by omega
  | f + 1, a, [], h => by cases a <;> rfl
  | f + 1, [], y :: b, h => rfl
  | f + 1, x :: a, y :: b, h => by
    have hx := x.toNat_lt
    have hy := y.toNat_lt
    have h2 : 2 ^ 8 = 256 := rfl
    show ite' (Nat.beq (natOfBytes (x :: a) % 256) (natOfBytes (y :: b) % 256)) (sless f a.length (natOfBytes (x :: a) / 256) b.length (natOfBytes (y :: b) / 256))
      (Nat.ble (natOfBytes (x :: a) % 256 + 1) (natOfBytes (y :: b) % 256)) = _
    have e1 : natOfBytes (x :: a) % 256 = x.toNat := by rw [nob_cons]; omega
    have e2 : natOfBytes (y :: b) % 256 = y.toNat := by rw [nob_cons]; omega
    have e3 : natOfBytes (x :: a) / 256 = natOfBytes a := by rw [nob_cons]; omega
    have e4 : natOfBytes (y :: b) / 256 = natOfBytes b := by rw [nob_cons]; omega
    rw [e1, e2, e3, e4, sless_eq f a b (by simp at h; omega)]
    unfold ite'
    cases hb : Nat.beq x.toNat y.toNat
    · have hne := beq_ne hb
      have hne' : (x == y) = false := by simp; intro e; rw [e] at hne; exact hne rfl
      show Nat.ble (x.toNat + 1) y.toNat = (decide (x < y) || (x == y && Op.bytesLess a b))
      rw [hne']
      simp only [Bool.false_and, Bool.or_false]
      rw [Bool.eq_iff_iff, Nat.ble_eq, decide_eq_true_iff, UInt8.lt_iff_toNat_lt]
      omega
    · have := UInt8.toNat_inj.1 (beq_eq hb)
      subst this
      show Op.bytesLess a b = (decide (x < x) || (x == x && Op.bytesLess a b))
      simp

theorem slessS_eq (a b : List UInt8) : slessS a.length (natOfBytes a) b.length (natOfBytes b) = Op.bytesLess a b := sless_eq _ _ _ (Nat.lt_succ_self _)

section
variable {P : Program} {X : CX} {φ : Emb} {e : Env} {a : Act}

theorem VR_str {s : ByteArray} : VR φ (.s s.data.toList.length (natOfBytes s.data.toList)) (.string s) := ⟨s, rfl, rfl, rfl⟩

theorem kStr_sound {op : BinOp} {x y : ByteArray} {k : KV} (h : kStr op x.data.toList.length (natOfBytes x.data.toList) y.data.toList.length (natOfBytes y.data.toList) k = true) :
    ∃ v u, VR φ v u ∧ k v = true ∧ ∀ w, (Op.stringOp op x y).run P w = .ok u w := by
  have t1 : x.toList = x.data.toList := ByteArray.toList_eq _
  have t2 : y.toList = y.data.toList := ByteArray.toList_eq _
  cases op
  case add =>
    obtain ⟨hb, hk⟩ := ite'_and (show ite' (Nat.ble (x.data.toList.length + y.data.toList.length) 9223372036854775807) (k (.s (x.data.toList.length + y.data.toList.length)
      (natOfBytes x.data.toList + (natOfBytes y.data.toList <<< (8 * x.data.toList.length))))) false = true from h)
    have hle := ble_le hb
    refine ⟨_, .string (x ++ y), VR_s.2 ⟨x ++ y, rfl, ?_, ?_⟩, hk, fun w => ?_⟩
    · simp
    · rw [Nat.shiftLeft_eq]
      have : (x ++ y).data.toList = x.data.toList ++ y.data.toList := by simp
      rw [this, nob_app]
    · unfold Op.stringOp
      have : ¬ (((x.size + y.size : Nat) : Int) > IntKind.i64.max) := by
        have h1 : x.size = x.data.toList.length := Array.length_toList.symm
        have h2 : y.size = y.data.toList.length := Array.length_toList.symm
        rw [h1, h2]
        simp only [IntKind.max, IntKind.bits, IntKind.signed]
        simp only [if_true]
        omega
      simp only [if_neg this, Sem.run_pure]
  case eql => exact ⟨_, .bool (x.toList == y.toList), VR_b.2 (by rw [t1, t2, ← beqS_eq]), h, fun w => rfl⟩
  case neq => exact ⟨_, .bool (!(x.toList == y.toList)), VR_b.2 (by rw [t1, t2, ← beqS_eq, ← notB_eq]), h, fun w => rfl⟩
  case lss => exact ⟨_, .bool (Op.bytesLess x.toList y.toList), VR_b.2 (by rw [t1, t2, ← slessS_eq]), h, fun w => rfl⟩
  case leq =>
    refine ⟨_, .bool (Op.bytesLess x.toList y.toList || x.toList == y.toList), VR_b.2 ?_, h, fun w => rfl⟩
    rw [t1, t2, notB_eq, slessS_eq]
    congr 1
    exact bytesLess_total _ _
  case gtr =>
    refine ⟨_, .bool (!(Op.bytesLess x.toList y.toList || x.toList == y.toList)), VR_b.2 ?_, h, fun w => rfl⟩
    rw [t1, t2, slessS_eq, bytesLess_total, Bool.not_not]
  case geq => exact ⟨_, .bool (!Op.bytesLess x.toList y.toList), VR_b.2 (by rw [t1, t2, notB_eq, slessS_eq]), h, fun w => rfl⟩
  all_goals (cases h)
where
  bytesLess_total : ∀ (a b : List UInt8), (Op.bytesLess a b || a == b) = !Op.bytesLess b a
    | [], [] => by simp [Op.bytesLess]
    | [], _ :: _ => by simp [Op.bytesLess]
    | _ :: _, [] => by simp [Op.bytesLess]
    | x :: a, y :: b => by
      have ih := bytesLess_total a b
      simp only [Op.bytesLess]
      by_cases h1 : x < y
      · have h2 : ¬ y < x := fun h => by rw [UInt8.lt_iff_toNat_lt] at h1 h; omega
        have h3 : y ≠ x := fun e => by rw [e] at h1; exact absurd h1 (UInt8.lt_irrefl x)
        simp [h1, h2, h3]
      · by_cases h2 : y < x
        · have h3 : x ≠ y := fun e => by rw [e] at h2; exact absurd h2 (UInt8.lt_irrefl y)
          simp [h1, h2, h3]
        · have h3 : x = y := by
            apply UInt8.toNat_inj.1
            rw [UInt8.lt_iff_toNat_lt] at h1 h2; omega
          subst h3
          simp only [h1, decide_false, Bool.false_or, beq_self_eq_true, Bool.true_and]
          rw [← ih]
          congr 1
          rw [Bool.eq_iff_iff]; simp

theorem kArith_sound {op : BinOp} {kd : IntKind} {x y : Int} {k : KV} (hsh : isShift op = false) (h : kArith op kd x y k = true) :
    ∃ v u, VR φ v u ∧ k v = true ∧ ∀ w t, (binOp op t (.int kd x) (.int kd y)).run P w = .ok u w := by
  have hn : ∀ n, kI k kd n = k (.i kd n) := fun n => kI_eq k kd n
  cases op
  case add => rw [show kArith .add kd x y k = kI k kd (wrapF kd (addI x y)) from rfl, hn, wrapF_eq, addI_eq] at h; exact ⟨_, _, VR_i.2 rfl, h, fun w t => by simp [binOp, Op.intArith]⟩
  case sub => rw [show kArith .sub kd x y k = kI k kd (wrapF kd (x - y)) from rfl, hn, wrapF_eq] at h; exact ⟨_, _, VR_i.2 rfl, h, fun w t => by simp [binOp, Op.intArith]⟩
  case mul => rw [show kArith .mul kd x y k = kI k kd (wrapF kd (x * y)) from rfl, hn, wrapF_eq] at h; exact ⟨_, _, VR_i.2 rfl, h, fun w t => by simp [binOp, Op.intArith]⟩
  case quo =>
    rcases ite'_true (show ite' (beqI y (.ofNat 0)) false (kI k kd (wrapF kd (x.tdiv y))) = true from h) with ⟨_, h1⟩ | ⟨h0, h1⟩
    · cases h1
    · rw [hn, wrapF_eq] at h1
      have h0 : y ≠ 0 := by rw [beqI_eq] at h0; intro e; rw [e] at h0; simp at h0
      exact ⟨_, _, VR_i.2 rfl, h1, fun w t => by simp [binOp, Op.intDiv, h0]⟩
  case rem =>
    rcases ite'_true (show ite' (beqI y (.ofNat 0)) false (kI k kd (x.tmod y)) = true from h) with ⟨_, h1⟩ | ⟨h0, h1⟩
    · cases h1
    · rw [hn] at h1
      have h0 : y ≠ 0 := by rw [beqI_eq] at h0; intro e; rw [e] at h0; simp at h0
      exact ⟨_, _, VR_i.2 rfl, h1, fun w t => by simp [binOp, Op.intDiv, h0]⟩
  case and =>
    rw [show kArith .and kd x y k = kI k kd (wrapF kd (.ofNat (toU kd x &&& toU kd y))) from rfl, hn, wrapF_eq] at h
    exact ⟨_, _, VR_i.2 rfl, h, fun w t => by simp only [binOp, ne_eq, not_true, if_false, Op.intBits, BitVec.toNat_and, toU_eq, Sem.run_pure]; rfl⟩
  case or =>
    rw [show kArith .or kd x y k = kI k kd (wrapF kd (.ofNat (toU kd x ||| toU kd y))) from rfl, hn, wrapF_eq] at h
    exact ⟨_, _, VR_i.2 rfl, h, fun w t => by simp only [binOp, ne_eq, not_true, if_false, Op.intBits, BitVec.toNat_or, toU_eq, Sem.run_pure]; rfl⟩
  case xor =>
    rw [show kArith .xor kd x y k = kI k kd (wrapF kd (.ofNat (toU kd x ^^^ toU kd y))) from rfl, hn, wrapF_eq] at h
    exact ⟨_, _, VR_i.2 rfl, h, fun w t => by simp only [binOp, ne_eq, not_true, if_false, Op.intBits, BitVec.toNat_xor, toU_eq, Sem.run_pure]; rfl⟩
  case eql => exact ⟨_, _, VR_b.2 rfl, h, fun w t => by simp [binOp, Op.intCmp, beqI_eq]⟩
  case neq => exact ⟨_, _, VR_b.2 rfl, h, fun w t => by simp [binOp, Op.intCmp, beqI_eq, notB_eq, bne]⟩
  case lss => exact ⟨_, _, VR_b.2 rfl, h, fun w t => by simp [binOp, Op.intCmp, leI_eq, notB_eq, ← decide_not, Int.not_le]⟩
  case leq => exact ⟨_, _, VR_b.2 rfl, h, fun w t => by simp [binOp, Op.intCmp, leI_eq]⟩
  case gtr => exact ⟨_, _, VR_b.2 rfl, h, fun w t => by simp [binOp, Op.intCmp, leI_eq, notB_eq, ← decide_not, Int.not_le]⟩
  case geq => exact ⟨_, _, VR_b.2 rfl, h, fun w t => by simp [binOp, Op.intCmp, leI_eq]⟩
  all_goals first
    | (cases h; done)
    | (cases hsh; done)

theorem kShift_sound {op : BinOp} {kd kd' : IntKind} {x y : Int} {k : KV} (h : kShift op kd x y k = true) :
    ∃ v u, VR φ v u ∧ k v = true ∧ ∀ w t, (binOp op t (.int kd x) (.int kd' y)).run P w = .ok u w := by
  have hn : ∀ n, kI k kd n = k (.i kd n) := fun n => kI_eq k kd n
  cases y with
  | negSucc y => cases h
  | ofNat y =>
    have hp : (Int.ofNat (Nat.pow 2 (Nat.min y kd.bits))) = (2 : Int) ^ (min y kd.bits) := by
      show ((2 ^ (min y kd.bits) : Nat) : Int) = _
      simp
    have hy : ¬ ((Int.ofNat y) < 0) := by simp
    cases op
    case shl =>
      rw [show kShift .shl kd x (.ofNat y) k = kI k kd (wrapF kd (x * (.ofNat (Nat.pow 2 (Nat.min y kd.bits))))) from rfl, hn, wrapF_eq, hp] at h
      exact ⟨_, _, VR_i.2 rfl, h, fun w t => by simp only [binOp, Op.shift, if_neg hy]; rfl⟩
    case shr =>
      rw [show kShift .shr kd x (.ofNat y) k = kI k kd (x.fdiv (.ofNat (Nat.pow 2 (Nat.min y kd.bits)))) from rfl, hn, hp] at h
      exact ⟨_, _, VR_i.2 rfl, h, fun w t => by simp only [binOp, Op.shift, if_neg hy]; rfl⟩
    all_goals (cases h)

theorem kBin_sound {op : BinOp} {va vb : AV} {x y : Value} {k : KV} (ha : VR φ va x) (hb : VR φ vb y) (h : kBin op va vb k = true) :
    ∃ v u, VR φ v u ∧ k v = true ∧ ∀ w t, (binOp op t x y).run P w = .ok u w := by
  rcases onISO_true h with ⟨kd, n, rfl, h1⟩ | ⟨n, m, rfl, h1⟩ | ⟨i, rfl, h1⟩
  · obtain ⟨kd', n', rfl, h2⟩ := onI_true h1
    cases VR_i.1 ha; cases VR_i.1 hb
    rcases ite'_true h2 with ⟨hs, h3⟩ | ⟨hs, h3⟩
    · exact kShift_sound h3
    · obtain ⟨hk, h4⟩ := ite'_and h3
      cases beqK_eq hk
      exact kArith_sound hs h4
  · obtain ⟨n', m', rfl, h2⟩ := onS_true h1
    obtain ⟨s, rfl, rfl, rfl⟩ := VR_s.1 ha
    obtain ⟨s', rfl, rfl, rfl⟩ := VR_s.1 hb
    obtain ⟨v, u, hv, hk, hr⟩ := kStr_sound (P := P) (φ := φ) h2
    refine ⟨v, u, hv, hk, fun w t => ?_⟩
    rw [← hr w]
    cases op <;> first | rfl | (cases h2; done)
  · obtain ⟨j, rfl, h2⟩ := onO_true h1
    obtain ⟨hk, h3⟩ := ite'_and h2
    cases beq_eq hk
    cases VR_o.1 ha; cases VR_o.1 hb
    have he : beqI (Opq.val i) (Opq.val i) = true := by rw [beqI_eq]; simp
    cases op <;> first
      | (cases h3; done)
      | exact kArith_sound rfl (show kArith .eql .i64 (Opq.val i) (Opq.val i) k = true from by show k (.b (beqI _ _)) = true; rw [he]; exact h3)
      | exact kArith_sound rfl (show kArith .neq .i64 (Opq.val i) (Opq.val i) k = true from by show k (.b (notB (beqI _ _))) = true; rw [he]; exact h3)
end

end Go.AE
