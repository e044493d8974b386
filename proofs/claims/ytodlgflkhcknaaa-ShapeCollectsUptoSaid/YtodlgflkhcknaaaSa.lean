import Derived.Test.YtodlgflkhcknaaaGp
import Derived.Test.YtodlgflkhcknaaaSym2
set_option linter.unusedVariables false
/- Words, tags: the small functions. -/
namespace Go.Proofs.Ytodlgflkhcknaaa.gcc
open Go Go.AE
set_option linter.unusedSimpArgs false
set_option maxRecDepth 100000

theorem sInt {x : Int} (hx : In62 x) (n : Nat) (h : Heap) (k : KH) : cal (n + 1) 24 [iv x] h k = k (iv (2 * x + 1)) h := by
  rw [run24]; simp only [ofL_cons, ofL_nil, Nat.zero_add, Nat.reduceAdd]
  have a1 := fun k => bw_shl' hx k
  have a2 := fun k => bw_or' hx k
  simp (maxSteps := 1000000) -implicitDefEqProofs only [c24, ↓x_seq, ↓x_reg, ↓o_consS, ↓r_pu, ↓p_mv, ↓e_c, ↓o_nil, ↓nrm_n, ↓o_consN, ↓e_t, ne_eq, nx2, not_false_eq_true, ↓getK_other, ↓getK_same, ↓p_bin, ↓e_l0, ↓a1, ↓a2, ↓x_ret, ↓ret_r, ↓res_t1, ↓one1]
theorem sNum (x : Int) (n : Nat) (h : Heap) (k : KH) : cal (n + 1) 37 [iv x] h k = k (iv (x / 2)) h := by
  rw [run37]; simp only [ofL_cons, ofL_nil, Nat.zero_add, Nat.reduceAdd]
  simp (maxSteps := 1000000) -implicitDefEqProofs only [c37, ↓x_seq, ↓x_reg, ↓o_consS, ↓r_pu, ↓p_mv, ↓e_c, ↓o_nil, ↓nrm_n, ↓o_consN, ↓e_t, ne_eq, nx2, not_false_eq_true, ↓getK_other, ↓getK_same, ↓p_bin, ↓e_l0, ↓bw_shr, ↓x_ret, ↓ret_r, ↓res_t1, ↓one1]
theorem sIsInt (x : Int) (n : Nat) (h : Heap) (k : KH) : cal (n + 1) 52 [iv x] h k = k (.b (decide (x % 2 = 1))) h := by
  rw [run52]; simp only [ofL_cons, ofL_nil, Nat.zero_add, Nat.reduceAdd]
  simp (maxSteps := 1000000) -implicitDefEqProofs only [c52, ↓x_seq, ↓x_reg, ↓o_consS, ↓r_pu, ↓p_mv, ↓e_c, ↓o_nil, ↓nrm_n, ↓o_consN, ↓e_t, ne_eq, nx2, not_false_eq_true, ↓getK_other, ↓getK_same, ↓p_bin, ↓e_l0, ↓bw_and', ↓b_eql, ↓x_ret, ↓ret_r, ↓res_t1, ↓one1]
theorem wrap_in (x : Int) : -9223372036854775808 ≤ IntKind.wrap .i64 x ∧ IntKind.wrap .i64 x ≤ 9223372036854775807 := by
  have hb : IntKind.bits .i64 = 64 := rfl
  have hs : IntKind.signed .i64 = true := rfl
  unfold IntKind.wrap
  simp only [hb, hs, Bool.true_and, decide_eq_true_eq]
  have e1 : (2 : Int) ^ 64 = 18446744073709551616 := by decide
  have e2 : (2 : Int) ^ (64 - 1) = 9223372036854775808 := by decide
  rw [e1, e2]
  by_cases h : x % 18446744073709551616 ≥ 9223372036854775808
  · rw [if_pos h]; omega
  · rw [if_neg h]; omega
theorem bu_shl (x : Int) (k : KV) : kBin .shl (.i .u64 x) (.i .u64 1) k = k (.i .u64 (IntKind.wrap .u64 (x * 2))) := by
  show kI k .u64 (wrapF .u64 (Int.mul x (.ofNat 2))) = _
  rw [kI_eq, wrapF_eq]; rfl
theorem bu_or (x : Int) (k : KV) : kBin .or (.i .u64 x) (.i .u64 1) k = k (.i .u64 (IntKind.wrap .u64 ((Nat.lor (toU .u64 x) 1 : Nat) : Int))) := by
  show kI k .u64 (wrapF .u64 (.ofNat (Nat.lor (toU .u64 x) 1))) = _
  rw [kI_eq, wrapF_eq]; rfl
theorem xInt (x : Int) : ∃ y, (-9223372036854775808 ≤ y ∧ y ≤ 9223372036854775807) ∧ ∀ (n : Nat) (h : Heap) (k : KH), cal (n + 1) 55 [iv x] h k = k (iv y) h := by
  apply Exists.intro
  refine ⟨?_, fun n h k => ?_⟩
  rotate_left
  · rw [run55]; simp only [ofL_cons, ofL_nil, Nat.zero_add, Nat.reduceAdd]
    simp (maxSteps := 1000000) -implicitDefEqProofs only [c55, ↓x_seq, ↓x_reg, ↓o_consS, ↓r_pu, ↓p_mv, ↓e_c, ↓o_nil, ↓nrm_n, ↓o_consN, ↓e_t, ne_eq, nx2, not_false_eq_true, ↓getK_other, ↓getK_same, ↓p_cvi, ↓e_l0, ↓n_io, ↓p_bin, ↓bu_shl, ↓bu_or, ↓x_ret, ↓ret_r, ↓res_t1, ↓one1]
    rfl
  · exact wrap_in _
theorem xNum (x : Int) (n : Nat) (h : Heap) (k : KH) : cal (n + 1) 54 [iv x] h k = k (iv (x / 2)) h := by
  rw [run54]; simp only [ofL_cons, ofL_nil, Nat.zero_add, Nat.reduceAdd]
  simp (maxSteps := 1000000) -implicitDefEqProofs only [c54, ↓x_seq, ↓x_reg, ↓o_consS, ↓r_pu, ↓p_mv, ↓e_c, ↓o_nil, ↓nrm_n, ↓o_consN, ↓e_t, ne_eq, nx2, not_false_eq_true, ↓getK_other, ↓getK_same, ↓p_bin, ↓e_l0, ↓bw_shr, ↓x_ret, ↓ret_r, ↓res_t1, ↓one1]
/-- A number of 63 digits. -/
theorem xWrap (x : Int) : ∃ y, In62 y ∧ ∀ (n : Nat) (h : Heap) (k : KH), cal (n + 2) 49 [iv x] h k = k (iv y) h := by
  obtain ⟨y, hy, e⟩ := xInt x
  refine ⟨y / 2, ⟨by omega, by omega⟩, fun n h k => ?_⟩
  have a1 := fun k => e n h k
  have a2 := fun k => xNum y n h k
  rw [run49]; simp only [ofL_cons, ofL_nil, Nat.zero_add, Nat.reduceAdd]
  simp (maxSteps := 1000000) -implicitDefEqProofs only [c49, ↓x_seq, ↓x_reg, ↓o_consS, ↓r_pu, ↓p_mv, ↓e_c, ↓o_nil, ↓nrm_n, ↓o_consN, ↓e_t, ne_eq, nx2, not_false_eq_true, ↓getK_other, ↓getK_same, ↓r_ef, ↓m_callf, ↓es_cons, ↓e_l0, ↓es_nil, ↓a1, ↓a2, ↓x_ret, ↓ret_r, ↓res_t1, ↓one1]
/-- How many kids a tag has. -/
def kidsOf (t : Int) : Int := if t = 1 then 0 else if t = 4 then 1 else if t = 2 ∨ t = 3 ∨ t = 5 then 2 else -1
theorem xKids (t : Int) (n : Nat) (h : Heap) (k : KH) : cal (n + 1) 50 [iv t] h k = k (iv (kidsOf t)) h := by
  rw [run50]; simp only [ofL_cons, ofL_nil, Nat.zero_add, Nat.reduceAdd]
  unfold kidsOf
  have e (c : Int) (hc : ¬ t = c) := fun k => b_eqlF hc k
  by_cases h1 : t = 1
  · subst h1; simp (maxSteps := 1000000) -implicitDefEqProofs only [c50, ↓x_seq, ↓x_reg, ↓o_consS, ↓r_pu, ↓p_mv, ↓e_c, ↓o_nil, ↓nrm_n, ↓e_t, ne_eq, nx2, not_false_eq_true, ↓getK_other, ↓getK_same, ↓x_block, ↓o_consN, ↓p_bin, ↓b_eqlT, ↓e_l0, ↓x_cond, ↓n_b, ↓x_ret, ↓nrm_r, ↓ret_r, ↓res_t1, ↓one1]; rfl
  · have a1 := fun k => b_eqlF h1 k
    by_cases h4 : t = 4
    · subst h4; simp (maxSteps := 1000000) -implicitDefEqProofs only [c50, ↓x_seq, ↓x_reg, ↓o_consS, ↓r_pu, ↓p_mv, ↓e_c, ↓o_nil, ↓nrm_n, ↓e_t, ne_eq, nx2, not_false_eq_true, ↓getK_other, ↓getK_same, ↓x_block, ↓o_consN, ↓p_bin, ↓a1, ↓e_l0, ↓x_cond, ↓n_b, nx1, ↓b_eqlT, ↓x_ret, ↓nrm_r, ↓ret_r, ↓res_t1, ↓one1]; rfl
    · have a4 := fun k => b_eqlF h4 k
      by_cases h2 : t = 2
      · subst h2; simp (maxSteps := 1000000) -implicitDefEqProofs only [c50, ↓x_seq, ↓x_reg, ↓o_consS, ↓r_pu, ↓p_mv, ↓e_c, ↓o_nil, ↓nrm_n, ↓e_t, ne_eq, nx2, not_false_eq_true, ↓getK_other, ↓getK_same, ↓x_block, ↓o_consN, ↓p_bin, ↓a1, ↓e_l0, ↓x_cond, ↓n_b, nx1, ↓a4, Nat.reduceEqDiff, ↓b_eqlT, ↓x_skip, ↓x_ret, ↓nrm_r, ↓ret_r, ↓res_t1, ↓one1]; rfl
      · have a2 := fun k => b_eqlF h2 k
        by_cases h3 : t = 3
        · subst h3; simp (maxSteps := 1000000) -implicitDefEqProofs only [c50, ↓x_seq, ↓x_reg, ↓o_consS, ↓r_pu, ↓p_mv, ↓e_c, ↓o_nil, ↓nrm_n, ↓e_t, ne_eq, nx2, not_false_eq_true, ↓getK_other, ↓getK_same, ↓x_block, ↓o_consN, ↓p_bin, ↓a1, ↓e_l0, ↓x_cond, ↓n_b, nx1, ↓a4, Nat.reduceEqDiff, ↓a2, ↓b_eqlT, ↓x_skip, ↓x_ret, ↓nrm_r, ↓ret_r, ↓res_t1, ↓one1]; rfl
        · have a3 := fun k => b_eqlF h3 k
          by_cases h5 : t = 5
          · subst h5; simp (maxSteps := 1000000) -implicitDefEqProofs only [c50, ↓x_seq, ↓x_reg, ↓o_consS, ↓r_pu, ↓p_mv, ↓e_c, ↓o_nil, ↓nrm_n, ↓e_t, ne_eq, nx2, not_false_eq_true, ↓getK_other, ↓getK_same, ↓x_block, ↓o_consN, ↓p_bin, ↓a1, ↓e_l0, ↓x_cond, ↓n_b, nx1, ↓a4, Nat.reduceEqDiff, ↓a2, ↓a3, ↓b_eqlT, ↓x_ret, ↓nrm_r, ↓ret_r, ↓res_t1, ↓one1]; rfl
          · have a5 := fun k => b_eqlF h5 k
            simp (maxSteps := 1000000) -implicitDefEqProofs only [c50, ↓x_seq, ↓x_reg, ↓o_consS, ↓r_pu, ↓p_mv, ↓e_c, ↓o_nil, ↓nrm_n, ↓e_t, ne_eq, nx2, not_false_eq_true, ↓getK_other, ↓getK_same, ↓x_block, ↓o_consN, ↓p_bin, ↓a1, ↓e_l0, ↓x_cond, ↓n_b, nx1, ↓a4, Nat.reduceEqDiff, ↓a2, ↓a3, ↓a5, ↓x_skip, ↓x_ret, ↓ret_r, ↓res_t1, ↓one1]
            rw [if_neg h1, if_neg h4, if_neg (by omega)]
theorem sKids (t : Int) (n : Nat) (h : Heap) (k : KH) : cal (n + 1) 56 [iv t] h k = k (iv (kidsOf t)) h := by
  rw [run56]; simp only [ofL_cons, ofL_nil, Nat.zero_add, Nat.reduceAdd]
  unfold kidsOf
  by_cases h1 : t = 1
  · subst h1; simp (maxSteps := 1000000) -implicitDefEqProofs only [c56, ↓x_seq, ↓x_reg, ↓o_consS, ↓r_pu, ↓p_mv, ↓e_c, ↓o_nil, ↓nrm_n, ↓e_t, ne_eq, nx2, not_false_eq_true, ↓getK_other, ↓getK_same, ↓x_block, ↓o_consN, ↓p_bin, ↓b_eqlT, ↓e_l0, ↓x_cond, ↓n_b, ↓x_ret, ↓nrm_r, ↓ret_r, ↓res_t1, ↓one1]; rfl
  · have a1 := fun k => b_eqlF h1 k
    by_cases h2 : t = 2
    · subst h2; simp (maxSteps := 1000000) -implicitDefEqProofs only [c56, ↓x_seq, ↓x_reg, ↓o_consS, ↓r_pu, ↓p_mv, ↓e_c, ↓o_nil, ↓nrm_n, ↓e_t, ne_eq, nx2, not_false_eq_true, ↓getK_other, ↓getK_same, ↓x_block, ↓o_consN, ↓p_bin, ↓a1, ↓e_l0, ↓x_cond, ↓n_b, nx1, ↓b_eqlT, ↓x_skip, ↓x_ret, ↓nrm_r, ↓ret_r, ↓res_t1, ↓one1]; rfl
    · have a2 := fun k => b_eqlF h2 k
      by_cases h3 : t = 3
      · subst h3; simp (maxSteps := 1000000) -implicitDefEqProofs only [c56, ↓x_seq, ↓x_reg, ↓o_consS, ↓r_pu, ↓p_mv, ↓e_c, ↓o_nil, ↓nrm_n, ↓e_t, ne_eq, nx2, not_false_eq_true, ↓getK_other, ↓getK_same, ↓x_block, ↓o_consN, ↓p_bin, ↓a1, ↓e_l0, ↓x_cond, ↓n_b, nx1, ↓a2, Nat.reduceEqDiff, ↓b_eqlT, ↓x_skip, ↓x_ret, ↓nrm_r, ↓ret_r, ↓res_t1, ↓one1]; rfl
      · have a3 := fun k => b_eqlF h3 k
        by_cases h5 : t = 5
        · subst h5; simp (maxSteps := 1000000) -implicitDefEqProofs only [c56, ↓x_seq, ↓x_reg, ↓o_consS, ↓r_pu, ↓p_mv, ↓e_c, ↓o_nil, ↓nrm_n, ↓e_t, ne_eq, nx2, not_false_eq_true, ↓getK_other, ↓getK_same, ↓x_block, ↓o_consN, ↓p_bin, ↓a1, ↓e_l0, ↓x_cond, ↓n_b, nx1, ↓a2, Nat.reduceEqDiff, ↓a3, ↓b_eqlT, ↓x_ret, ↓nrm_r, ↓ret_r, ↓res_t1, ↓one1]; rfl
        · have a5 := fun k => b_eqlF h5 k
          by_cases h4 : t = 4
          · subst h4; simp (maxSteps := 1000000) -implicitDefEqProofs only [c56, ↓x_seq, ↓x_reg, ↓o_consS, ↓r_pu, ↓p_mv, ↓e_c, ↓o_nil, ↓nrm_n, ↓e_t, ne_eq, nx2, not_false_eq_true, ↓getK_other, ↓getK_same, ↓x_block, ↓o_consN, ↓p_bin, ↓a1, ↓e_l0, ↓x_cond, ↓n_b, nx1, ↓a2, Nat.reduceEqDiff, ↓a3, ↓a5, ↓b_eqlT, ↓x_ret, ↓nrm_r, ↓ret_r, ↓res_t1, ↓one1]; rfl
          · have a4 := fun k => b_eqlF h4 k
            simp (maxSteps := 1000000) -implicitDefEqProofs only [c56, ↓x_seq, ↓x_reg, ↓o_consS, ↓r_pu, ↓p_mv, ↓e_c, ↓o_nil, ↓nrm_n, ↓e_t, ne_eq, nx2, not_false_eq_true, ↓getK_other, ↓getK_same, ↓x_block, ↓o_consN, ↓p_bin, ↓a1, ↓e_l0, ↓x_cond, ↓n_b, nx1, ↓a2, Nat.reduceEqDiff, ↓a3, ↓a5, ↓a4, ↓x_skip, ↓x_ret, ↓ret_r, ↓res_t1, ↓one1]
            rw [if_neg h1, if_neg h4, if_neg (by omega)]
end Go.Proofs.Ytodlgflkhcknaaa.gcc

/- Graphs: what they stand for in the evaluator's memory. -/
namespace Go.Proofs.Ytodlgflkhcknaaa.gcc
open Go Go.AE
set_option linter.unusedSimpArgs false
set_option maxRecDepth 100000

/-- A value of a graph: an int, or which block. -/
abbrev Rf := Bool × Int
/-- A block of a graph: its tag, its string (how long, its bytes as a number), its kids. -/
structure Bl where
  tag : Int
  sn : Nat
  sv : Nat
  kids : List Rf

/-- A row of values that can be read; its number is below N. -/
def KidsR (h : Heap) (N : Nat) (v : AV) (ks : List Rf) : Prop :=
  (ks = [] ∧ v = .nils) ∨ ∃ id t off cap o, v = .sl id t off ks.length cap 2 ∧ id < N ∧ h.tr.get id = some o ∧ ∀ (j : Nat) (r : Rf), ks[j]? = some r → (∀ k, rdK o t (off + j * 2) k = k (.b r.1)) ∧ ∀ k, rdK o t (off + j * 2 + 1) k = k (iv r.2)
/-- A row of blocks that can be read. -/
def BlksR (h : Heap) (N : Nat) (v : AV) (bs : List Bl) : Prop :=
  (bs = [] ∧ v = .nils) ∨ ∃ id t off cap o, v = .sl id t off bs.length cap 3 ∧ id < N ∧ h.tr.get id = some o ∧ ∀ (j : Nat) b, bs[j]? = some b → (∀ k, rdK o t (off + j * 3) k = k (iv b.tag)) ∧
    (∀ k, rdK o t (off + j * 3 + 1) k = k (.s b.sn b.sv)) ∧ ∃ kv, (∀ k, rdK o t (off + j * 3 + 1 + 1) k = k kv) ∧ KidsR h N kv b.kids

/-- Nothing below N has turned. -/
def Lo (h h' : Heap) (N : Nat) : Prop := ∀ id, id < N → h'.tr.get id = h.tr.get id
theorem Lo.of {h h' : Heap} {S : List Nat} {N : Nat} (k : Kp h h' S) (hN : N ≤ h.next) (hS : ∀ i ∈ S, N ≤ i) : Lo h h' N := fun id hi => k.2 id (by omega) fun hm => by have := hS _ hm; omega
theorem Lo.trans {h h1 h2 : Heap} {N : Nat} (a : Lo h h1 N) (b : Lo h1 h2 N) : Lo h h2 N := fun id hi => (b id hi).trans (a id hi)
theorem KidsR.keep {h h' : Heap} {N : Nat} {v : AV} {ks : List Rf} (r : KidsR h N v ks) (k : Lo h h' N) : KidsR h' N v ks := by
  rcases r with r | ⟨id, t, off, cap, o, rfl, hi, ho, hr⟩
  · exact .inl r
  · exact .inr ⟨id, t, off, cap, o, rfl, hi, by rw [k id hi]; exact ho, hr⟩
theorem BlksR.keep {h h' : Heap} {N : Nat} {v : AV} {bs : List Bl} (r : BlksR h N v bs) (k : Lo h h' N) : BlksR h' N v bs := by
  rcases r with r | ⟨id, t, off, cap, o, rfl, hi, ho, hr⟩
  · exact .inl r
  · exact .inr ⟨id, t, off, cap, o, rfl, hi, by rw [k id hi]; exact ho, fun j b hb => by
      obtain ⟨h1, h2, kv, h3, h4⟩ := hr j b hb
      exact ⟨h1, h2, kv, h3, h4.keep k⟩⟩
theorem KidsR.len {h : Heap} {N : Nat} {v : AV} {ks : List Rf} (r : KidsR h N v ks) (k : KV) : lenK v k = k (iv (ks.length : Int)) := by
  rcases r with ⟨rfl, rfl⟩ | ⟨id, t, off, cap, o, rfl, hi, ho, hr⟩ <;> rfl
theorem BlksR.len {h : Heap} {N : Nat} {v : AV} {bs : List Bl} (r : BlksR h N v bs) (k : KV) : lenK v k = k (iv (bs.length : Int)) := by
  rcases r with ⟨rfl, rfl⟩ | ⟨id, t, off, cap, o, rfl, hi, ho, hr⟩ <;> rfl
theorem s_slc (id t o n : Nat) (c : Option Nat) (s : Nat) : sameV (.sl id t o n c s) (.sl id t o n c s) = true := by
  show ite' (Nat.beq id id) (ite' (Nat.beq t t) (ite' (Nat.beq o o) (ite' (Nat.beq n n) (ite' (Nat.beq s s) _ false) false) false) false) false = true
  rw [AE.beq_self, AE.beq_self, AE.beq_self, AE.beq_self, AE.beq_self]
  cases c with
  | none => rfl
  | some c => exact AE.beq_self c
theorem s_b (b : Bool) : sameV (.b b) (.b b) = true := by cases b <;> rfl
theorem beqS_dec (a b c d : Nat) : beqS a b c d = decide (a = c ∧ b = d) := by
  show ite' (Nat.beq a c) (Nat.beq b d) false = _
  rw [beq_dec, beq_dec]
  by_cases h1 : a = c <;> by_cases h2 : b = d <;> simp [h1, h2, ite']
theorem s_s (n v : Nat) : sameV (.s n v) (.s n v) = true := by
  show beqS n v n v = true
  rw [beqS_dec]; simp
theorem KidsR.cells {h : Heap} {N : Nat} {v : AV} {ks : List Rf} (r : KidsR h N v ks) : cellsOf v = [v] ∧ oneC v = true ∧ sameV v v = true := by
  rcases r with ⟨rfl, rfl⟩ | ⟨id, t, off, cap, o, rfl, hi, ho, hr⟩
  · exact ⟨rfl, rfl, rfl⟩
  · exact ⟨rfl, rfl, s_slc _ _ _ _ _ _⟩
theorem BlksR.cells {h : Heap} {N : Nat} {v : AV} {bs : List Bl} (r : BlksR h N v bs) : cellsOf v = [v] ∧ oneC v = true ∧ sameV v v = true := by
  rcases r with ⟨rfl, rfl⟩ | ⟨id, t, off, cap, o, rfl, hi, ho, hr⟩
  · exact ⟨rfl, rfl, rfl⟩
  · exact ⟨rfl, rfl, s_slc _ _ _ _ _ _⟩
theorem b_neqs (n v m w : Nat) (k : KV) : kBin .neq (.s n v) (.s m w) k = k (.b (!decide (n = m ∧ v = w))) := by
  show k (.b (notB (beqS n v m w))) = _
  rw [notB_eq, beqS_dec]

/-- May a block be in a graph? -/
def goodB (b : Bl) : Prop := kidsOf b.tag = (b.kids.length : Int) ∧ ((b.sn = 0 ∧ b.sv = 0) ∨ b.tag = 1)
/-- The kids, one by one. -/
def OKs (R : Rf → Nat → Nat → Prop) : List Rf → Nat → Nat → Prop
  | [], n, n' => n' = n
  | r :: rs, n, n' => ∃ m, R r n m ∧ OKs R rs m n'
/-- A value is one of the graph; so many blocks were there ahead, so many are there behind it. -/
def OKr (bs : List Bl) : Nat → Rf → Nat → Nat → Prop
  | 0, _, _, _ => False
  | f + 1, r, n, n' => (r.1 = true ∧ In62 r.2 ∧ n' = n) ∨ (r.1 = false ∧ 0 ≤ r.2 ∧ r.2 < n ∧ n' = n) ∨
      (r.1 = false ∧ r.2 = n ∧ ∃ b, bs[n]? = some b ∧ goodB b ∧ OKs (OKr bs f) b.kids (n + 1) n')
theorem OKs.mono {R R' : Rf → Nat → Nat → Prop} (h : ∀ r n n', R r n n' → R' r n n') : ∀ {l : List Rf} {n n' : Nat}, OKs R l n n' → OKs R' l n n'
  | [], _, _, h1 => h1
  | _ :: _, _, _, ⟨m, h1, h2⟩ => ⟨m, h _ _ _ h1, OKs.mono h h2⟩
theorem OKr.succ {bs : List Bl} : ∀ {f : Nat} {r : Rf} {n n' : Nat}, OKr bs f r n n' → OKr bs (f + 1) r n n'
  | 0, _, _, _, h => h.elim
  | f + 1, r, n, n', h => by
    rcases h with h | h | ⟨h1, h2, b, h3, h4, h5⟩
    · exact .inl h
    · exact .inr (.inl h)
    · exact .inr (.inr ⟨h1, h2, b, h3, h4, h5.mono fun _ _ _ h => h.succ⟩)
theorem OKs.le {R : Rf → Nat → Nat → Prop} (h : ∀ r n n', R r n n' → n ≤ n') : ∀ {l : List Rf} {n n' : Nat}, OKs R l n n' → n ≤ n'
  | [], _, _, h1 => Nat.le_of_eq h1.symm
  | _ :: _, _, _, ⟨m, h1, h2⟩ => Nat.le_trans (h _ _ _ h1) (OKs.le h h2)
theorem OKr.le {bs : List Bl} : ∀ {f : Nat} {r : Rf} {n n' : Nat}, OKr bs f r n n' → n ≤ n'
  | 0, _, _, _, h => h.elim
  | f + 1, r, n, n', h => by
    rcases h with ⟨_, _, h⟩ | ⟨_, _, _, h⟩ | ⟨h1, h2, b, h3, h4, h5⟩
    · omega
    · omega
    · have := h5.le fun _ _ _ h => h.le; omega
end Go.Proofs.Ytodlgflkhcknaaa.gcc

/- The document's look at a graph: may it be one? -/
namespace Go.Proofs.Ytodlgflkhcknaaa.gcc
open Go Go.AE
set_option linter.unusedSimpArgs false
set_option maxRecDepth 100000

/-- What counts: how many blocks came, is all well. -/
def CR (h : Heap) (q : Nat) (vb : AV) (n : Nat) (ok : Bool) : Prop := ∃ c, h.tr.get q = some (.st c 5) ∧ c.get 2 = some vb ∧ c.get 3 = some (iv n) ∧ c.get 4 = some (.b ok)
theorem CR.keep {h h' : Heap} {S : List Nat} {q : Nat} {vb : AV} {n : Nat} {ok : Bool} (c : CR h q vb n ok) (k : Kp h h' S) (hs : Sc h) (hq : q ∉ S) : CR h' q vb n ok := by
  obtain ⟨c, h1, h2⟩ := c
  exact ⟨c, k.get hs h1 hq, h2⟩

section
variable {N q : Nat} {vb : AV} {bs : List Bl}

theorem cImm {h : Heap} {n : Nat} {ok : Bool} {x : Int} (c : CR h q vb n ok) (hs : Sc h) (m : Nat) :
    ∃ h' ok', (∀ k : KH, cal (m + 3) 38 [.p q 0 0, .agg [.b true, iv x]] h k = k .u h') ∧ CR h' q vb n ok' ∧ Sc h' ∧ Kp h h' [q] ∧ (ok' = true → ok = true ∧ In62 x) := by
  obtain ⟨c, hq, c2, c3, c4⟩ := c
  have hqn : q ≠ h.next := Nat.ne_of_lt (hs _ _ hq)
  obtain ⟨y, hy, ey⟩ := xWrap x
  have fin : ∀ (o : Go.AE.Obj) (b : Bool), (b = true → ok = true ∧ In62 x) → CR (updO (addO h o) q (.st (c.set (.b b) 4) 5)) q vb n b ∧ Sc (updO (addO h o) q (.st (c.set (.b b) 4) 5)) ∧ Kp h (updO (addO h o) q (.st (c.set (.b b) 4) 5)) [q] ∧ (b = true → ok = true ∧ In62 x) := fun o b hb => by
    have hq' : (addO h o).tr.get q = some (.st c 5) := by rw [get_add, if_neg hqn]; exact hq
    refine ⟨⟨_, by rw [get_upd, if_pos rfl], ?_, ?_, ?_⟩, (hs.add o).upd hq' _, ((Kp.add h o []).mono (by simp)).trans (Kp.upd _ _ _) (fun i hi _ => hi), hb⟩
    · rw [get_other _ _ (by decide)]; exact c2
    · rw [get_other _ _ (by decide)]; exact c3
    · rw [get_same]
  cases ok with
  | false =>
    apply Exists.intro
    refine ⟨false, fun k => ?_, ?_⟩
    · rw [run38]; simp only [ofL_cons, ofL_nil, Nat.zero_add, Nat.reduceAdd]
      simp (maxSteps := 1000000) -implicitDefEqProofs only [c38, ↓x_seq, ↓x_reg, ↓o_consS, ↓r_al, ↓m_box, ↓e_t, ↓getK_same, ↓o_nil, ↓nrm_n, ↓c_agg, ofL_cons, ↓ofL_nil, Nat.zero_add, len_2]
      simp (maxSteps := 1000000) -implicitDefEqProofs only [c38T0, ↓x_seq, ↓x_reg, ↓o_consN, ↓r_pu, ↓p_fad, ↓e_t, ↓getK_same, ↓n_p, ↓o_consS, ↓r_rd, ↓m_ld, ↓e_l0, ↓ga_new2, Nat.zero_add, Nat.reduceLT, ↓m_st0, ne_eq, nx1, not_false_eq_true, ↓getK_other, ↓o_nil, ↓nrm_n]
      simp (maxSteps := 1000000) -implicitDefEqProofs only [c38T1, ↓x_cond, ↓e_t, ↓getK_same, ↓n_b]
      simp (maxSteps := 1000000) -implicitDefEqProofs only [c38T2, ↓x_seq, ↓x_dreg, ↓d_puN, ↓p_mv, ↓e_t, ne_eq, reduceCtorEq, not_false_eq_true, ↓getK_other, nx1, ↓getK_same, ↓p_nilck, ↓e_l0, ↓n_pf, ↓p_fad, ↓n_p, ↓d_rdN, ↓m_ld, hqn, ↓ga_old, ↓t_get hq, Nat.zero_add, Nat.reduceLT, ↓m_st0, ↓t_get c4, ↓d_gtpuN, ↓g_b, ↓d_gtrdN, ↓e_l1, ↓d_gtefN, ↓e_l2, ↓e_l3, ↓e_l4, ↓e_l5, ↓p_pick, ↓e_l6, ↓n_b, ↓e_c, ↓e_l12, ↓d_efN, ↓m_store, ↓c_b, len_1, beq_dec, decide_true, ↓d_nil, ↓rev_cons, ↓rev_nil, k_nil, ↓nrm_n, ↓x_ret, ↓nrm_r, ↓ret_r, ↓res_none, ↓one_none, and_t, ↓wrs1, ↓one_b, ↓w_st, i_t]
      rfl
    · exact fin _ _ (fun h => by cases h)
  | true =>
    apply Exists.intro
    refine ⟨decide (y = x), fun k => ?_, ?_⟩
    · rw [run38]; simp only [ofL_cons, ofL_nil, Nat.zero_add, Nat.reduceAdd]
      simp (maxSteps := 1000000) -implicitDefEqProofs only [c38, ↓x_seq, ↓x_reg, ↓o_consS, ↓r_al, ↓m_box, ↓e_t, ↓getK_same, ↓o_nil, ↓nrm_n, ↓c_agg, ofL_cons, ↓ofL_nil, Nat.zero_add, len_2]
      simp (maxSteps := 1000000) -implicitDefEqProofs only [c38T0, ↓x_seq, ↓x_reg, ↓o_consN, ↓r_pu, ↓p_fad, ↓e_t, ↓getK_same, ↓n_p, ↓o_consS, ↓r_rd, ↓m_ld, ↓e_l0, ↓ga_new2, Nat.zero_add, Nat.reduceLT, ↓m_st0, ne_eq, nx1, not_false_eq_true, ↓getK_other, ↓o_nil, ↓nrm_n]
      simp (maxSteps := 1000000) -implicitDefEqProofs only [c38T1, ↓x_cond, ↓e_t, ↓getK_same, ↓n_b]
      simp (maxSteps := 1000000) -implicitDefEqProofs only [c38T2, ↓x_seq, ↓x_dreg, ↓d_puN, ↓p_mv, ↓e_t, ne_eq, reduceCtorEq, not_false_eq_true, ↓getK_other, nx1, ↓getK_same, ↓p_nilck, ↓e_l0, ↓n_pf, ↓p_fad, ↓n_p, ↓d_rdN, ↓m_ld, hqn, ↓ga_old, ↓t_get hq, Nat.zero_add, Nat.reduceLT, ↓m_st0, ↓t_get c4, ↓d_gtpuN, ↓g_b, Nat.reduceEqDiff, ↓d_gtrdN, ↓e_l1, ↓ga_new2, ↓d_gtefN, ↓e_l2, ↓m_callf, ↓es_cons, ↓es_nil, ↓ey, ↓e_l3, ↓e_l4, ↓e_l5, ↓p_bin, ↓b_eql, ↓p_pick, ↓e_l6, ↓n_b, ↓e_l12, ↓d_efN, ↓m_store, ↓c_b, len_1, beq_dec, decide_true, ↓d_nil, ↓rev_cons, ↓rev_nil, decide_false, k_cons, ↓ka_cons, ble_dec, Nat.zero_le, i_t, ↓s_i, Nat.reduceLeDiff, Nat.reduceAdd, i_f, ↓ka_nil, and_t, ↓k_nil, ↓nrm_n, ↓x_ret, ↓nrm_r, ↓ret_r, ↓res_none, ↓one_none, ↓wrs1, ↓one_b, ↓w_st]
      rfl
    · exact fin _ _ (fun h => ⟨rfl, (of_decide_eq_true h) ▸ hy⟩)

/-- Not a number: out of the graph, or there already. -/
theorem cOut {h : Heap} {n : Nat} {ok : Bool} {x : Int} (c : CR h q vb n ok) (hs : Sc h) (rb : BlksR h N vb bs) (hno : ok = false ∨ x < 0 ∨ (n : Int) < x ∨ (bs.length : Int) ≤ x) (m : Nat) :
    ∃ h', (∀ k : KH, cal (m + 3) 38 [.p q 0 0, .agg [.b false, iv x]] h k = k .u h') ∧ CR h' q vb n false ∧ Sc h' ∧ Kp h h' [q] := by
  obtain ⟨c, hq, c2, c3, c4⟩ := c
  have hqn : q ≠ h.next := Nat.ne_of_lt (hs _ _ hq)
  have fin : ∀ (o : Go.AE.Obj), CR (updO (addO h o) q (.st (c.set (.b false) 4) 5)) q vb n false ∧ Sc (updO (addO h o) q (.st (c.set (.b false) 4) 5)) ∧ Kp h (updO (addO h o) q (.st (c.set (.b false) 4) 5)) [q] := fun o => by
    have hq' : (addO h o).tr.get q = some (.st c 5) := by rw [get_add, if_neg hqn]; exact hq
    refine ⟨⟨_, by rw [get_upd, if_pos rfl], ?_, ?_, ?_⟩, (hs.add o).upd hq' _, ((Kp.add h o []).mono (by simp)).trans (Kp.upd _ _ _) (fun i hi _ => hi)⟩
    · rw [get_other _ _ (by decide)]; exact c2
    · rw [get_other _ _ (by decide)]; exact c3
    · rw [get_same]
  have hl := fun k => rb.len k
  cases ok with
  | false =>
    apply Exists.intro
    refine ⟨fun k => ?_, ?_⟩
    · rw [run38]; simp only [ofL_cons, ofL_nil, Nat.zero_add, Nat.reduceAdd]
      simp (maxSteps := 1000000) -implicitDefEqProofs only [c38, ↓x_seq, ↓x_reg, ↓o_consS, ↓r_al, ↓m_box, ↓e_t, ↓getK_same, ↓o_nil, ↓nrm_n, ↓c_agg, ofL_cons, ↓ofL_nil, Nat.zero_add, len_2]
      simp (maxSteps := 1000000) -implicitDefEqProofs only [c38T0, ↓x_seq, ↓x_reg, ↓o_consN, ↓r_pu, ↓p_fad, ↓e_t, ↓getK_same, ↓n_p, ↓o_consS, ↓r_rd, ↓m_ld, ↓e_l0, ↓ga_new2, Nat.zero_add, Nat.reduceLT, ↓m_st0, ne_eq, nx1, not_false_eq_true, ↓getK_other, ↓o_nil, ↓nrm_n]
      simp (maxSteps := 1000000) -implicitDefEqProofs only [c38T1, ↓x_cond, ↓e_t, ↓getK_same, ↓n_b, ↓x_skip, ↓nrm_n]
      simp (maxSteps := 1000000) -implicitDefEqProofs only [c38T3, ↓x_seq, ↓x_dreg, ↓d_puN, ↓p_mv, ↓e_t, ne_eq, reduceCtorEq, not_false_eq_true, ↓getK_other, nx1, ↓getK_same, ↓p_nilck, ↓e_l0, ↓n_pf, ↓p_fad, ↓n_p, ↓d_rdN, ↓m_ld, hqn, ↓ga_old, ↓t_get hq, Nat.zero_add, Nat.reduceLT, ↓m_st0, ↓t_get c4, ↓p_not, ↓n_b, ↓d_gpuN, ↓g_b, ↓rec_nf, ↓d_grdN, ↓e_l1, ↓e_l2, ↓p_pick, ↓e_l3, ↓e_c, ↓e_l4, ↓e_l5, ↓e_l6, ↓e_l7, ↓e_l8, ↓d_puS, ↓e_l9, ↓d_nil, ↓rev_nil, beq_dec, decide_true, k_nil, ↓nrm_n, and_t]
      simp (maxSteps := 1000000) -implicitDefEqProofs only [c38T4, ↓x_cond, ↓e_t, ↓getK_same, ↓n_b]
      simp (maxSteps := 1000000) -implicitDefEqProofs only [c38T5, ↓x_seq, ↓x_reg, ↓o_consN, ↓r_pu, ↓p_mv, ↓e_t, ne_eq, reduceCtorEq, not_false_eq_true, ↓getK_other, nx1, ↓getK_same, ↓p_nilck, ↓e_l0, ↓n_pf, ↓p_fad, ↓n_p, ↓r_ef, ↓m_store, ↓e_c, ↓c_b, len_1, beq_dec, decide_true, hqn, ↓ga_old, ↓t_get hq, Nat.zero_add, ↓o_nil, ↓nrm_n, ↓x_ret, ↓nrm_r, ↓ret_r, ↓res_none, ↓one_none, ↓wrs1, ↓one_b, Nat.reduceLT, ↓w_st, i_t]
      rfl
    · exact fin _
  | true =>
    by_cases h1 : x < 0
    · have a1 := fun k => b_lssT (a := x) (b := 0) h1 k
      apply Exists.intro
      refine ⟨fun k => ?_, ?_⟩
      · rw [run38]; simp only [ofL_cons, ofL_nil, Nat.zero_add, Nat.reduceAdd]
        simp (maxSteps := 1000000) -implicitDefEqProofs only [c38, ↓x_seq, ↓x_reg, ↓o_consS, ↓r_al, ↓m_box, ↓e_t, ↓getK_same, ↓o_nil, ↓nrm_n, ↓c_agg, ofL_cons, ↓ofL_nil, Nat.zero_add, len_2]
        simp (maxSteps := 1000000) -implicitDefEqProofs only [c38T0, ↓x_seq, ↓x_reg, ↓o_consN, ↓r_pu, ↓p_fad, ↓e_t, ↓getK_same, ↓n_p, ↓o_consS, ↓r_rd, ↓m_ld, ↓e_l0, ↓ga_new2, Nat.zero_add, Nat.reduceLT, ↓m_st0, ne_eq, nx1, not_false_eq_true, ↓getK_other, ↓o_nil, ↓nrm_n]
        simp (maxSteps := 1000000) -implicitDefEqProofs only [c38T1, ↓x_cond, ↓e_t, ↓getK_same, ↓n_b, ↓x_skip, ↓nrm_n]
        simp (maxSteps := 1000000) -implicitDefEqProofs only [c38T3, ↓x_seq, ↓x_dreg, ↓d_puN, ↓p_mv, ↓e_t, ne_eq, reduceCtorEq, not_false_eq_true, ↓getK_other, nx1, ↓getK_same, ↓p_nilck, ↓e_l0, ↓n_pf, ↓p_fad, ↓n_p, ↓d_rdN, ↓m_ld, hqn, ↓ga_old, ↓t_get hq, Nat.zero_add, Nat.reduceLT, ↓m_st0, ↓t_get c4, ↓p_not, ↓n_b, ↓d_gpuN, ↓g_b, ↓rec_nt, Nat.reduceEqDiff, ↓d_grdN, ↓e_l1, ↓ga_new2, ↓e_l2, ↓p_bin, ↓e_c, ↓a1, ↓p_pick, ↓e_l3, ↓e_l4, ↓e_l5, ↓e_l6, ↓e_l7, ↓e_l8, ↓d_puS, ↓e_l9, ↓d_nil, ↓rev_nil, ↓nn_t, beq_dec, decide_true, k_nil, ↓nrm_n, and_t]
        simp (maxSteps := 1000000) -implicitDefEqProofs only [c38T4, ↓x_cond, ↓e_t, ↓getK_same, ↓n_b]
        simp (maxSteps := 1000000) -implicitDefEqProofs only [c38T5, ↓x_seq, ↓x_reg, ↓o_consN, ↓r_pu, ↓p_mv, ↓e_t, ne_eq, reduceCtorEq, not_false_eq_true, ↓getK_other, nx1, ↓getK_same, ↓p_nilck, ↓e_l0, ↓n_pf, ↓p_fad, ↓n_p, ↓r_ef, ↓m_store, ↓e_c, ↓c_b, len_1, beq_dec, decide_true, hqn, ↓ga_old, ↓t_get hq, Nat.zero_add, ↓o_nil, ↓nrm_n, ↓x_ret, ↓nrm_r, ↓ret_r, ↓res_none, ↓one_none, ↓wrs1, ↓one_b, Nat.reduceLT, ↓w_st, i_t]
        rfl
      · exact fin _
    · have a1 := fun k => b_lssF (a := x) (b := 0) h1 k
      by_cases h2 : (n : Int) < x
      · have a2 := fun k => b_gtrT (a := x) (b := (n : Int)) h2 k
        apply Exists.intro
        refine ⟨fun k => ?_, ?_⟩
        · rw [run38]; simp only [ofL_cons, ofL_nil, Nat.zero_add, Nat.reduceAdd]
          simp (maxSteps := 1000000) -implicitDefEqProofs only [c38, ↓x_seq, ↓x_reg, ↓o_consS, ↓r_al, ↓m_box, ↓e_t, ↓getK_same, ↓o_nil, ↓nrm_n, ↓c_agg, ofL_cons, ↓ofL_nil, Nat.zero_add, len_2]
          simp (maxSteps := 1000000) -implicitDefEqProofs only [c38T0, ↓x_seq, ↓x_reg, ↓o_consN, ↓r_pu, ↓p_fad, ↓e_t, ↓getK_same, ↓n_p, ↓o_consS, ↓r_rd, ↓m_ld, ↓e_l0, ↓ga_new2, Nat.zero_add, Nat.reduceLT, ↓m_st0, ne_eq, nx1, not_false_eq_true, ↓getK_other, ↓o_nil, ↓nrm_n]
          simp (maxSteps := 1000000) -implicitDefEqProofs only [c38T1, ↓x_cond, ↓e_t, ↓getK_same, ↓n_b, ↓x_skip, ↓nrm_n]
          simp (maxSteps := 1000000) -implicitDefEqProofs only [c38T3, ↓x_seq, ↓x_dreg, ↓d_puN, ↓p_mv, ↓e_t, ne_eq, reduceCtorEq, not_false_eq_true, ↓getK_other, nx1, ↓getK_same, ↓p_nilck, ↓e_l0, ↓n_pf, ↓p_fad, ↓n_p, ↓d_rdN, ↓m_ld, hqn, ↓ga_old, ↓t_get hq, Nat.zero_add, Nat.reduceLT, ↓m_st0, ↓t_get c4, ↓p_not, ↓n_b, ↓d_gpuN, ↓g_b, ↓rec_nt, Nat.reduceEqDiff, ↓d_grdN, ↓e_l1, ↓ga_new2, ↓e_l2, ↓p_bin, ↓e_c, ↓a1, ↓p_pick, ↓e_l3, ↓e_l4, ↓e_l5, ↓t_get c3, ↓e_l6, ↓a2, ↓e_l7, ↓e_l8, ↓d_puS, ↓e_l9, ↓d_nil, ↓rev_nil, ↓nn_t, beq_dec, decide_true, k_nil, ↓nrm_n, and_t]
          simp (maxSteps := 1000000) -implicitDefEqProofs only [c38T4, ↓x_cond, ↓e_t, ↓getK_same, ↓n_b]
          simp (maxSteps := 1000000) -implicitDefEqProofs only [c38T5, ↓x_seq, ↓x_reg, ↓o_consN, ↓r_pu, ↓p_mv, ↓e_t, ne_eq, reduceCtorEq, not_false_eq_true, ↓getK_other, nx1, ↓getK_same, ↓p_nilck, ↓e_l0, ↓n_pf, ↓p_fad, ↓n_p, ↓r_ef, ↓m_store, ↓e_c, ↓c_b, len_1, beq_dec, decide_true, hqn, ↓ga_old, ↓t_get hq, Nat.zero_add, ↓o_nil, ↓nrm_n, ↓x_ret, ↓nrm_r, ↓ret_r, ↓res_none, ↓one_none, ↓wrs1, ↓one_b, Nat.reduceLT, ↓w_st, i_t]
          rfl
        · exact fin _
      · have a2 := fun k => b_gtrF (a := x) (b := (n : Int)) h2 k
        have hno' : (bs.length : Int) ≤ x := by
          rcases hno with h | h | h | h
          · cases h
          · omega
          · omega
          · exact h
        have a3 := fun k => b_geqT (a := x) (b := (bs.length : Int)) hno' k
        apply Exists.intro
        refine ⟨fun k => ?_, ?_⟩
        · rw [run38]; simp only [ofL_cons, ofL_nil, Nat.zero_add, Nat.reduceAdd]
          simp (maxSteps := 1000000) -implicitDefEqProofs only [c38, ↓x_seq, ↓x_reg, ↓o_consS, ↓r_al, ↓m_box, ↓e_t, ↓getK_same, ↓o_nil, ↓nrm_n, ↓c_agg, ofL_cons, ↓ofL_nil, Nat.zero_add, len_2]
          simp (maxSteps := 1000000) -implicitDefEqProofs only [c38T0, ↓x_seq, ↓x_reg, ↓o_consN, ↓r_pu, ↓p_fad, ↓e_t, ↓getK_same, ↓n_p, ↓o_consS, ↓r_rd, ↓m_ld, ↓e_l0, ↓ga_new2, Nat.zero_add, Nat.reduceLT, ↓m_st0, ne_eq, nx1, not_false_eq_true, ↓getK_other, ↓o_nil, ↓nrm_n]
          simp (maxSteps := 1000000) -implicitDefEqProofs only [c38T1, ↓x_cond, ↓e_t, ↓getK_same, ↓n_b, ↓x_skip, ↓nrm_n]
          simp (maxSteps := 1000000) -implicitDefEqProofs only [c38T3, ↓x_seq, ↓x_dreg, ↓d_puN, ↓p_mv, ↓e_t, ne_eq, reduceCtorEq, not_false_eq_true, ↓getK_other, nx1, ↓getK_same, ↓p_nilck, ↓e_l0, ↓n_pf, ↓p_fad, ↓n_p, ↓d_rdN, ↓m_ld, hqn, ↓ga_old, ↓t_get hq, Nat.zero_add, Nat.reduceLT, ↓m_st0, ↓t_get c4, ↓p_not, ↓n_b, ↓d_gpuN, ↓g_b, ↓rec_nt, Nat.reduceEqDiff, ↓d_grdN, ↓e_l1, ↓ga_new2, ↓e_l2, ↓p_bin, ↓e_c, ↓a1, ↓p_pick, ↓e_l3, ↓e_l4, ↓e_l5, ↓t_get c3, ↓e_l6, ↓a2, ↓e_l7, ↓t_get c2, ↓p_len, ↓hl, ↓e_l8, ↓a3, ↓d_puS, ↓e_l9, ↓d_nil, ↓rev_nil, ↓nn_t, beq_dec, decide_true, k_nil, ↓nrm_n, and_t]
          simp (maxSteps := 1000000) -implicitDefEqProofs only [c38T4, ↓x_cond, ↓e_t, ↓getK_same, ↓n_b]
          simp (maxSteps := 1000000) -implicitDefEqProofs only [c38T5, ↓x_seq, ↓x_reg, ↓o_consN, ↓r_pu, ↓p_mv, ↓e_t, ne_eq, reduceCtorEq, not_false_eq_true, ↓getK_other, nx1, ↓getK_same, ↓p_nilck, ↓e_l0, ↓n_pf, ↓p_fad, ↓n_p, ↓r_ef, ↓m_store, ↓e_c, ↓c_b, len_1, beq_dec, decide_true, hqn, ↓ga_old, ↓t_get hq, Nat.zero_add, ↓o_nil, ↓nrm_n, ↓x_ret, ↓nrm_r, ↓ret_r, ↓res_none, ↓one_none, ↓wrs1, ↓one_b, Nat.reduceLT, ↓w_st, i_t]
          rfl
        · exact fin _
theorem cOld {h : Heap} {n : Nat} {x : Int} (c : CR h q vb n true) (hs : Sc h) (rb : BlksR h N vb bs) (h0 : 0 ≤ x) (h1 : x < n) (h2 : x < bs.length) (m : Nat) :
    ∃ h', (∀ k : KH, cal (m + 3) 38 [.p q 0 0, .agg [.b false, iv x]] h k = k .u h') ∧ CR h' q vb n true ∧ Sc h' ∧ Kp h h' [q] := by
  have c' := c
  obtain ⟨c, hq, c2, c3, c4⟩ := c
  have hqn : q ≠ h.next := Nat.ne_of_lt (hs _ _ hq)
  have hl := fun k => rb.len k
  have a1 := fun k => b_lssF (a := x) (b := 0) (by omega) k
  have a2 := fun k => b_gtrF (a := x) (b := (n : Int)) (by omega) k
  have a3 := fun k => b_geqF (a := x) (b := (bs.length : Int)) (by omega) k
  have a4 := fun k => b_lssT (a := x) (b := (n : Int)) (by omega) k
  apply Exists.intro
  refine ⟨fun k => ?_, ?_⟩
  · rw [run38]; simp only [ofL_cons, ofL_nil, Nat.zero_add, Nat.reduceAdd]
    simp (maxSteps := 1000000) -implicitDefEqProofs only [c38, ↓x_seq, ↓x_reg, ↓o_consS, ↓r_al, ↓m_box, ↓e_t, ↓getK_same, ↓o_nil, ↓nrm_n, ↓c_agg, ofL_cons, ↓ofL_nil, Nat.zero_add, len_2]
    simp (maxSteps := 1000000) -implicitDefEqProofs only [c38T0, ↓x_seq, ↓x_reg, ↓o_consN, ↓r_pu, ↓p_fad, ↓e_t, ↓getK_same, ↓n_p, ↓o_consS, ↓r_rd, ↓m_ld, ↓e_l0, ↓ga_new2, Nat.zero_add, Nat.reduceLT, ↓m_st0, ne_eq, nx1, not_false_eq_true, ↓getK_other, ↓o_nil, ↓nrm_n]
    simp (maxSteps := 1000000) -implicitDefEqProofs only [c38T1, ↓x_cond, ↓e_t, ↓getK_same, ↓n_b, ↓x_skip, ↓nrm_n]
    simp (maxSteps := 1000000) -implicitDefEqProofs only [c38T3, ↓x_seq, ↓x_dreg, ↓d_puN, ↓p_mv, ↓e_t, ne_eq, reduceCtorEq, not_false_eq_true, ↓getK_other, nx1, ↓getK_same, ↓p_nilck, ↓e_l0, ↓n_pf, ↓p_fad, ↓n_p, ↓d_rdN, ↓m_ld, hqn, ↓ga_old, ↓t_get hq, Nat.zero_add, Nat.reduceLT, ↓m_st0, ↓t_get c4, ↓p_not, ↓n_b, ↓d_gpuN, ↓g_b, ↓rec_nt, Nat.reduceEqDiff, ↓d_grdN, ↓e_l1, ↓ga_new2, ↓e_l2, ↓p_bin, ↓e_c, ↓a1, ↓p_pick, ↓e_l3, ↓e_l4, ↓e_l5, ↓t_get c3, ↓e_l6, ↓a2, ↓e_l7, ↓t_get c2, ↓p_len, ↓hl, ↓e_l8, ↓a3, ↓d_puS, ↓e_l9, ↓d_nil, ↓rev_nil, ↓nn_t, beq_dec, decide_true, k_nil, ↓nrm_n, and_t]
    simp (maxSteps := 1000000) -implicitDefEqProofs only [c38T4, ↓x_cond, ↓e_t, ↓getK_same, ↓n_b, ↓x_skip, ↓nrm_n]
    simp (maxSteps := 1000000) -implicitDefEqProofs only [c38T6, ↓x_seq, ↓x_dreg, ↓d_puN, ↓p_fad, ↓e_t, ne_eq, Nat.reduceEqDiff, not_false_eq_true, ↓getK_other, ↓getK_same, ↓n_p, ↓d_rdN, ↓m_ld, ↓e_l0, ↓ga_new2, Nat.zero_add, Nat.reduceLT, ↓m_st0, ↓p_mv, reduceCtorEq, nx1, ↓p_nilck, ↓n_pf, hqn, ↓ga_old, ↓t_get hq, ↓t_get c3, ↓d_puS, ↓p_bin, ↓e_l4, ↓a4, ↓d_nil, ↓rev_nil, beq_dec, decide_true, k_nil, ↓nrm_n, ↓x_cond, ↓n_b, ↓x_ret, ↓nrm_r, ↓ret_r, ↓res_none, ↓one_none, and_t]
    rfl
  · exact ⟨c'.keep (Kp.add _ _ []) hs (by simp), hs.add _, (Kp.add _ _ _)⟩

/-- What the frame holds while the kids are looked at. -/
def F38 (fr : Fr) (q b : Nat) (j : Nat) : Prop := fr.get 0 = some (.p q 0 0) ∧ fr.get 4 = some (.p b 0 0) ∧ fr.get 5 = some (iv j)
theorem cEnd {h : Heap} {b : Nat} {cb : T AV} {kv : AV} {ks : List Rf} (hb : h.tr.get b = some (.st cb 3)) (hc : cb.get 2 = some kv) (rk : KidsR h N kv ks) {fr : Fr} (F : F38 fr q b ks.length) (m f : Nat) :
    ∃ fr', ∀ k, iter (exec (cal m) c38L0) (f + 1) fr h k = k (.exit 0) fr' h := by
  obtain ⟨f0, f4, f5⟩ := F
  have hl := fun k => rk.len k
  have a1 := fun k => b_lssF (a := (ks.length : Int)) (b := (ks.length : Int)) (by omega) k
  apply Exists.intro
  intro k
  rw [it_succ]
  simp (maxSteps := 1000000) -implicitDefEqProofs only [c38L0, ↓x_seq, ↓x_reg, ↓o_consN, ↓r_pu, ↓p_mv, ↓e_t, ↓t_get f5, ↓p_fad, ↓t_get f4, ↓n_p, ↓r_rd, ↓m_ld, ↓e_l0, ↓t_get hb, Nat.zero_add, Nat.reduceLT, ↓m_st0, ↓t_get hc, ↓p_len, ↓hl, ↓o_consS, ↓p_bin, ↓e_l3, ↓a1, ↓o_nil, ↓nrm_n, ↓x_cond, ↓getK_same, ↓n_b, ↓x_exit, ↓nrm_e]
  rfl
theorem cStep {h h' : Heap} {b : Nat} {cb : T AV} {kv : AV} {ks : List Rf} (hb : h.tr.get b = some (.st cb 3)) (hc : cb.get 2 = some kv) (rk : KidsR h N kv ks) {j : Nat} {r : Rf} (hj : ks[j]? = some r) (hsz : ks.length ≤ 10) {fr : Fr} (F : F38 fr q b j) {m : Nat}
    (e : ∀ k : KH, cal m 38 [.p q 0 0, .agg [.b r.1, iv r.2]] h k = k .u h') (f : Nat) :
    ∃ fr', (∀ k, iter (exec (cal m) c38L0) (f + 1) fr h k = iter (exec (cal m) c38L0) f fr' h' k) ∧ F38 fr' q b (j + 1) := by
  obtain ⟨f0, f4, f5⟩ := F
  have hl := fun k => rk.len k
  have hjl : j < ks.length := (List.getElem?_eq_some_iff.1 hj).1
  have a1 := fun k => b_lssT (a := (j : Int)) (b := (ks.length : Int)) (by omega) k
  have a2 := fun k => b_add (a := (j : Int)) (b := 1) (by omega) (by omega) k
  have a3 : decide (j + 1 ≤ ks.length) = true := decide_eq_true hjl
  rcases rk with ⟨rfl, _⟩ | ⟨id, t, off, cap, o, rfl, hi, ho, hr⟩
  · simp at hj
  obtain ⟨r1, r2⟩ := hr j r hj
  apply Exists.intro
  refine ⟨fun k => ?_, ?_⟩
  · rw [it_succ]
    simp (maxSteps := 1000000) -implicitDefEqProofs only [c38L0, ↓x_seq, ↓x_reg, ↓o_consN, ↓r_pu, ↓p_mv, ↓e_t, ↓t_get f5, ↓p_fad, ↓t_get f4, ↓n_p, ↓r_rd, ↓m_ld, ↓e_l0, ↓t_get hb, Nat.zero_add, Nat.reduceLT, ↓m_st0, ↓t_get hc, ↓p_len, ↓hl, ↓o_consS, ↓p_bin, ↓e_l3, ↓a1, ↓o_nil, ↓nrm_n, ↓x_cond, ↓getK_same, ↓n_b, ↓x_skip]
    simp (maxSteps := 1000000) -implicitDefEqProofs only [c38T14, ↓x_seq, ↓x_block, ↓x_reg, ↓o_consN, ↓r_pu, ↓p_mv, ↓e_t, ne_eq, reduceCtorEq, not_false_eq_true, ↓getK_other, ↓t_get f0, ↓p_fad, Nat.reduceEqDiff, ↓t_get f4, ↓n_p, ↓r_rd, ↓m_ld, ↓e_l0, ↓t_get hb, Nat.zero_add, Nat.reduceLT, ↓m_st0, ↓t_get hc, ↓t_get f5, ↓p_iad, ↓e_l1, ↓n_sl, ↓evN_of, ↓n_i, ↓int_n, ble_dec, a3, ↓m_ldn, ↓t_get ho, ↓rds_2, ↓r1, ↓r2, ↓r_ef, ↓m_callf, ↓es_cons, ↓e_l5, ↓es_nil, ↓e, ↓o_nil, ↓nrm_n, i_t]
    simp (maxSteps := 1000000) -implicitDefEqProofs only [c38T15, ↓x_reg, ↓o_consN, ↓r_pu, ↓p_mv, ↓e_t, ne_eq, Nat.reduceEqDiff, not_false_eq_true, ↓getK_other, ↓t_get f5, ↓p_bin, ↓e_l0, ↓e_c, ↓a2, ↓o_consS, ↓o_nil, ↓nrm_n]
    rfl
  · refine ⟨?_, ?_, ?_⟩ <;> simp only [get_same, get_other, ne_eq, Nat.reduceEqDiff, not_false_eq_true, f0, f4, f5]
    rfl
end
end Go.Proofs.Ytodlgflkhcknaaa.gcc

/- The document's look at a graph, whole. -/
namespace Go.Proofs.Ytodlgflkhcknaaa.gcc
open Go Go.AE
set_option linter.unusedSimpArgs false
set_option maxRecDepth 100000

section
variable {N q : Nat} {vb : AV} {bs : List Bl}

/-- What a call of 'ref' comes to. -/
def CRun (bs : List Bl) (N q : Nat) (vb : AV) (m : Nat) (R : Rf → Nat → Nat → Prop) (n0 : Nat) : Prop :=
  ∀ (r : Rf) (n : Nat) (ok : Bool) (h : Heap), CR h q vb n ok → BlksR h N vb bs → Sc h → N ≤ h.next → n0 ≤ n → n ≤ bs.length →
    ∃ h' n' ok', (∀ k : KH, cal m 38 [.p q 0 0, .agg [.b r.1, iv r.2]] h k = k .u h') ∧ CR h' q vb n' ok' ∧ Sc h' ∧ Kp h h' [q] ∧ n ≤ n' ∧ n' ≤ bs.length ∧ (ok' = true → ok = true ∧ R r n n')

theorem cLoop {m n0 : Nat} {R : Rf → Nat → Nat → Prop} (hNq : N ≤ q) (IH : CRun bs N q vb m R n0) {b : Nat} {cb : T AV} {kv : AV} {ks : List Rf} (hc : cb.get 2 = some kv) (hbN : b ≠ q) (hsz : ks.length ≤ 10) (f : Nat) :
    ∀ (d j n : Nat) (ok : Bool) (h : Heap) (fr : Fr), j + d = ks.length → h.tr.get b = some (.st cb 3) → KidsR h N kv ks → F38 fr q b j → CR h q vb n ok → BlksR h N vb bs → Sc h → N ≤ h.next → n0 ≤ n → n ≤ bs.length →
      ∃ fr' h' n' ok', (∀ k, iter (exec (cal m) c38L0) (d + (f + 1)) fr h k = k (.exit 0) fr' h') ∧ CR h' q vb n' ok' ∧ Sc h' ∧ Kp h h' [q] ∧ n ≤ n' ∧ n' ≤ bs.length ∧ (ok' = true → ok = true ∧ OKs R (ks.drop j) n n')
  | 0, j, n, ok, h, fr, hd, hb, rk, F, c, rb, hs, hN, h0, hl => by
    have hj : j = ks.length := by omega
    subst hj
    obtain ⟨fr', e⟩ := cEnd hb hc rk F m f
    refine ⟨fr', h, n, ok, fun k => ?_, c, hs, Kp.refl _ _, Nat.le_refl _, hl, fun ho => ⟨ho, ?_⟩⟩
    · rw [Nat.zero_add]; exact e k
    · rw [List.drop_length]; rfl
  | d + 1, j, n, ok, h, fr, hd, hb, rk, F, c, rb, hs, hN, h0, hl => by
    have hj : ks[j]? = some ks[j] := List.getElem?_eq_getElem (by omega)
    obtain ⟨h1, n1, ok1, e1, c1, s1, k1, l1, u1, g1⟩ := IH ks[j] n ok h c rb hs hN h0 hl
    obtain ⟨fr1, e2, F1⟩ := cStep hb hc rk hj hsz F e1 (d + (f + 1))
    have lo := Lo.of k1 hN (fun i hi => by simp at hi; omega)
    obtain ⟨fr', h', n', ok', e3, c3, s3, k3, l3, u3, g3⟩ := cLoop hNq IH hc hbN hsz f d (j + 1) n1 ok1 h1 fr1 (by omega) (k1.get hs hb (by simp [hbN])) (rk.keep lo) F1 c1 (rb.keep lo) s1 (Nat.le_trans hN k1.1) (by omega) u1
    refine ⟨fr', h', n', ok', fun k => ?_, c3, s3, k1.trans k3 (fun i hi _ => hi), by omega, u3, fun ho => ?_⟩
    · rw [show d + 1 + (f + 1) = d + (f + 1) + 1 from by omega, e2, e3]
    · obtain ⟨g4, g5⟩ := g3 ho
      obtain ⟨g6, g7⟩ := g1 g4
      refine ⟨g6, ?_⟩
      rw [List.drop_eq_getElem_cons (by omega)]
      exact ⟨n1, g7, g5⟩

theorem kidsOf_le (t : Int) : kidsOf t ≤ 2 := by
  unfold kidsOf
  split
  · omega
  · split
    · omega
    · split <;> omega

/-- A block that is new: behind the copy. -/
theorem cBlock {m n : Nat} {R : Rf → Nat → Nat → Prop} (hNq : N ≤ q) (IH : CRun bs N q vb (m + 2) R (n + 1)) {h : Heap} {b0 : Nat} {cb : T AV} {b : Bl} {kv : AV} {fr : Fr} (hn : n < bs.length)
    (c : CR h q vb (n + 1) true) (rb : BlksR h N vb bs) (hs : Sc h) (hN : N ≤ h.next) (rk : KidsR h N kv b.kids) (hb0 : h.tr.get b0 = some (.st cb 3)) (hne : b0 ≠ q)
    (q2 : cb.get 0 = some (iv b.tag)) (q3 : cb.get 1 = some (.s b.sn b.sv)) (q4 : cb.get 2 = some kv) (f0 : fr.get 0 = some (.p q 0 0)) (f4 : fr.get 4 = some (.p b0 0 0)) :
    ∃ h' n' ok', (∀ k : KH, exec (cal (m + 2)) c38T9 fr h (retK [] k) = k .u h') ∧ CR h' q vb n' ok' ∧ Sc h' ∧ Kp h h' [q] ∧ n ≤ n' ∧ n' ≤ bs.length ∧ (ok' = true → goodB b ∧ OKs R b.kids (n + 1) n') := by
  obtain ⟨kc, ko, ksm⟩ := rk.cells
  have hkl := fun k => rk.len k
  have d1 := fun h k => xKids b.tag (m + 1) h k
  have bad : ∀ (fr : Fr), fr.get 0 = some (.p q 0 0) → ∃ h', (∀ K : KE, exec (cal (m + 2)) c38T11 fr h K = K .ret fr h') ∧ CR h' q vb (n + 1) false ∧ Sc h' ∧ Kp h h' [q] := fun fr g0 => by
    obtain ⟨c', e1, e2, e3, e4⟩ := c
    refine ⟨updO h q (.st (c'.set (.b false) 4) 5), fun K => ?_, ⟨_, by rw [get_upd, if_pos rfl], ?_, ?_, ?_⟩, hs.upd e1 _, Kp.upd _ _ _⟩
    · simp (maxSteps := 1000000) -implicitDefEqProofs only [c38T11, ↓x_seq, ↓x_reg, ↓o_consN, ↓r_pu, ↓p_mv, ↓e_t, ↓t_get g0, ↓p_nilck, ↓e_l0, ↓n_pf, ↓p_fad, ↓n_p, ↓r_ef, ↓m_store, ↓e_c, ↓c_b, len_1, beq_dec, decide_true, ↓t_get e1, Nat.zero_add, ↓o_nil, ↓nrm_n, ↓x_ret, ↓wrs1, ↓one_b, Nat.reduceLT, ↓w_st, i_t]
    · rw [get_other _ _ (by decide)]; exact e2
    · rw [get_other _ _ (by decide)]; exact e3
    · rw [get_same]
  by_cases g1 : kidsOf b.tag = (b.kids.length : Int)
  · have b1 := fun k => b_neqF (a := kidsOf b.tag) (b := (b.kids.length : Int)) g1 k
    have hsz : b.kids.length ≤ 10 := by have := kidsOf_le b.tag; omega
    have good : ((b.sn = 0 ∧ b.sv = 0) ∨ b.tag = 1) → ∃ h' n' ok', (∀ k : KH, exec (cal (m + 2)) c38T12 (T.set (.b false) fr 95) h (retK [] k) = k .u h') ∧ CR h' q vb n' ok' ∧ Sc h' ∧ Kp h h' [q] ∧ n ≤ n' ∧ n' ≤ bs.length ∧ (ok' = true → goodB b ∧ OKs R b.kids (n + 1) n') := fun hg => by
      obtain ⟨fr', h', n', ok', e1, c1, s1, k1, l1, u1, g1'⟩ := cLoop (m := m + 2) hNq IH q4 hne hsz (1000000 - b.kids.length - 1) b.kids.length 0 (n + 1) true h (T.set (iv 0) (T.set (.b false) fr 95) 5) (by omega) hb0 rk
        ⟨by simp only [get_other, get_same, ne_eq, Nat.reduceEqDiff, not_false_eq_true, f0], by simp only [get_other, get_same, ne_eq, Nat.reduceEqDiff, not_false_eq_true, f4], by simp only [get_same]; rfl⟩ c rb hs hN (Nat.le_refl _) hn
      rw [show b.kids.length + (1000000 - b.kids.length - 1 + 1) = 1000000 from by omega] at e1
      refine ⟨h', n', ok', fun k => ?_, c1, s1, k1, by omega, u1, fun ho => ?_⟩
      · simp (maxSteps := 1000000) -implicitDefEqProofs only [c38T12, ↓x_seq, ↓x_reg, ↓o_consS, ↓r_pu, ↓p_mv, ↓e_c, ↓o_nil, ↓nrm_n]
        simp (maxSteps := 1000000) -implicitDefEqProofs only [c38T13, ↓x_block, ↓x_loop, ↓e1, ↓rec_bb, ↓ret_nrm, ↓res_none, ↓one_none]
      · obtain ⟨_, g2⟩ := g1' ho
        rw [List.drop_zero] at g2
        exact ⟨⟨g1, hg⟩, g2⟩
    by_cases g2 : b.sn = 0 ∧ b.sv = 0
    · obtain ⟨h', n', ok', e, rest⟩ := good (.inl g2)
      refine ⟨h', n', ok', fun k => ?_, rest⟩
      obtain ⟨g3, g4⟩ := g2
      rw [g3, g4] at q3
      have b2 : ∀ k, kBin .neq (.s 0 0) (.s 0 0) k = k (.b false) := fun k => rfl
      simp (maxSteps := 1000000) -implicitDefEqProofs only [c38T9, ↓x_seq, ↓x_dreg, ↓d_puN, ↓p_fad, ↓e_t, ↓t_get f4, ↓n_p, ↓d_rdN, ↓m_ld, ↓e_l0, ↓t_get hb0, Nat.zero_add, Nat.reduceLT, ↓m_st0, ↓t_get q2, ↓d_efN, ↓m_callf, ↓es_cons, ↓es_nil, ↓d1, ↓t_get q4, ↓p_len, ↓hkl, ↓p_bin, ↓e_l3, ↓b1, ↓p_mv, ↓d_gpuN, ↓g_b, ↓d_grdN, ↓e_l1, ↓t_get q3, ↓e_l2, ↓e_c, ↓b2, ↓d_gtpuN, ↓d_gtrdN, ↓e_l7, ↓p_pick, ↓n_b, ↓d_puS, ↓e_l8, ↓d_nil, ↓rev_cons, ↓rev_nil, beq_dec, decide_true, nx1, decide_false, ↓beq11, k_cons, ↓ka_cons, ble_dec, Nat.zero_le, i_t, ksm, Nat.reduceLeDiff, ↓ka_nil, and_t, ↓k_nil, ↓nrm_n]
      simp (maxSteps := 1000000) -implicitDefEqProofs only [c38T10, ↓x_cond, ↓e_t, ↓getK_same, ↓n_b, ↓x_skip, ↓nrm_n, ↓e]
    · have b2 : ∀ k, kBin .neq (.s b.sn b.sv) (.s 0 0) k = k (.b true) := fun k => by rw [b_neqs, decide_eq_false g2]; rfl
      by_cases g3 : b.tag = 1
      · obtain ⟨h', n', ok', e, rest⟩ := good (.inr g3)
        refine ⟨h', n', ok', fun k => ?_, rest⟩
        have b3 := fun k => b_neqF (a := b.tag) (b := 1) g3 k
        simp (maxSteps := 1000000) -implicitDefEqProofs only [c38T9, ↓x_seq, ↓x_dreg, ↓d_puN, ↓p_fad, ↓e_t, ↓t_get f4, ↓n_p, ↓d_rdN, ↓m_ld, ↓e_l0, ↓t_get hb0, Nat.zero_add, Nat.reduceLT, ↓m_st0, ↓t_get q2, ↓d_efN, ↓m_callf, ↓es_cons, ↓es_nil, ↓d1, ↓t_get q4, ↓p_len, ↓hkl, ↓p_bin, ↓e_l3, ↓b1, ↓p_mv, ↓d_gpuN, ↓g_b, ↓d_grdN, ↓e_l1, ↓t_get q3, ↓e_l2, ↓e_c, ↓b2, ↓d_gtpuN, ↓d_gtrdN, ↓b3, ↓e_l7, ↓p_pick, ↓n_b, ↓d_puS, ↓e_l8, ↓d_nil, ↓rev_cons, ↓rev_nil, beq_dec, decide_true, nx1, decide_false, ↓beq11, k_cons, ↓ka_cons, ble_dec, Nat.zero_le, i_t, ksm, Nat.reduceLeDiff, ↓ka_nil, and_t, ↓k_nil, ↓nrm_n]
        simp (maxSteps := 1000000) -implicitDefEqProofs only [c38T10, ↓x_cond, ↓e_t, ↓getK_same, ↓n_b, ↓x_skip, ↓nrm_n, ↓e]
      · have b3 := fun k => b_neqT (a := b.tag) (b := 1) g3 k
        obtain ⟨h', e, cr, hs', kp⟩ := bad (T.set (.b true) fr 95) (by rw [get_other _ _ (by decide)]; exact f0)
        refine ⟨h', n + 1, false, fun k => ?_, cr, hs', kp, by omega, by omega, fun h => by cases h⟩
        simp (maxSteps := 1000000) -implicitDefEqProofs only [c38T9, ↓x_seq, ↓x_dreg, ↓d_puN, ↓p_fad, ↓e_t, ↓t_get f4, ↓n_p, ↓d_rdN, ↓m_ld, ↓e_l0, ↓t_get hb0, Nat.zero_add, Nat.reduceLT, ↓m_st0, ↓t_get q2, ↓d_efN, ↓m_callf, ↓es_cons, ↓es_nil, ↓d1, ↓t_get q4, ↓p_len, ↓hkl, ↓p_bin, ↓e_l3, ↓b1, ↓p_mv, ↓d_gpuN, ↓g_b, ↓d_grdN, ↓e_l1, ↓t_get q3, ↓e_l2, ↓e_c, ↓b2, ↓d_gtpuN, ↓d_gtrdN, ↓b3, ↓e_l7, ↓p_pick, ↓n_b, ↓d_puS, ↓e_l8, ↓d_nil, ↓rev_cons, ↓rev_nil, beq_dec, decide_true, nx1, decide_false, ↓beq11, k_cons, ↓ka_cons, ble_dec, Nat.zero_le, i_t, ksm, Nat.reduceLeDiff, ↓ka_nil, and_t, ↓k_nil, ↓nrm_n]
        simp (maxSteps := 1000000) -implicitDefEqProofs only [c38T10, ↓x_cond, ↓e_t, ↓getK_same, ↓n_b, ↓e, ↓nrm_r, ↓ret_r, ↓res_none, ↓one_none]
  · have b1 := fun k => b_neqT (a := kidsOf b.tag) (b := (b.kids.length : Int)) g1 k
    obtain ⟨h', e, cr, hs', kp⟩ := bad (T.set (.b true) fr 95) (by rw [get_other _ _ (by decide)]; exact f0)
    refine ⟨h', n + 1, false, fun k => ?_, cr, hs', kp, by omega, by omega, fun h => by cases h⟩
    simp (maxSteps := 1000000) -implicitDefEqProofs only [c38T9, ↓x_seq, ↓x_dreg, ↓d_puN, ↓p_fad, ↓e_t, ↓t_get f4, ↓n_p, ↓d_rdN, ↓m_ld, ↓e_l0, ↓t_get hb0, Nat.zero_add, Nat.reduceLT, ↓m_st0, ↓t_get q2, ↓d_efN, ↓m_callf, ↓es_cons, ↓es_nil, ↓d1, ↓t_get q4, ↓p_len, ↓hkl, ↓p_bin, ↓e_l3, ↓b1, ↓p_mv, ↓d_gpuN, ↓g_b, ↓d_grdN, ↓e_l1, ↓e_l2, ↓d_gtpuN, ↓g_u, ↓d_gtrdN, ↓e_l7, ↓d_puS, ↓p_pick, ↓e_l8, ↓n_b, ↓e_c, ↓d_nil, ↓rev_cons, ↓rev_nil, beq_dec, decide_true, nx1, decide_false, k_cons, ↓ka_cons, ble_dec, Nat.zero_le, i_t, ksm, Nat.reduceLeDiff, ↓ka_nil, and_t, ↓k_nil, ↓nrm_n]
    simp (maxSteps := 1000000) -implicitDefEqProofs only [c38T10, ↓x_cond, ↓e_t, ↓getK_same, ↓n_b, ↓e, ↓nrm_r, ↓ret_r, ↓res_none, ↓one_none]

theorem cNew {m n : Nat} {R : Rf → Nat → Nat → Prop} (hNq : N ≤ q) (IH : CRun bs N q vb (m + 2) R (n + 1)) {h : Heap} (c : CR h q vb n true) (rb : BlksR h N vb bs) (hs : Sc h) (hN : N ≤ h.next) (hlen : (bs.length : Int) < 4611686018427387904) {b : Bl} (hb : bs[n]? = some b) :
    ∃ h' n' ok', (∀ k : KH, cal (m + 3) 38 [.p q 0 0, .agg [.b false, iv n]] h k = k .u h') ∧ CR h' q vb n' ok' ∧ Sc h' ∧ Kp h h' [q] ∧ n ≤ n' ∧ n' ≤ bs.length ∧ (ok' = true → goodB b ∧ OKs R b.kids (n + 1) n') := by
  have hnl : n < bs.length := (List.getElem?_eq_some_iff.1 hb).1
  have rb0 := rb
  obtain ⟨c, hq, c2, c3, c4⟩ := c
  have hqn : q ≠ h.next := Nat.ne_of_lt (hs _ _ hq)
  have hqn1 : q ≠ h.next + 1 := by have := hs _ _ hq; omega
  have hl := fun k => rb.len k
  have a1 := fun k => b_lssF (a := (n : Int)) (b := 0) (by omega) k
  have a2 := fun k => b_gtrF (a := (n : Int)) (b := (n : Int)) (by omega) k
  have a3 := fun k => b_geqF (a := (n : Int)) (b := (bs.length : Int)) (by omega) k
  have a4 := fun k => b_lssF (a := (n : Int)) (b := (n : Int)) (by omega) k
  have a5 := fun k => b_add (a := (n : Int)) (b := 1) (by omega) (by omega) k
  rcases rb with ⟨rfl, _⟩ | ⟨id, t, off, cap, o, rfl, hi, ho, hr⟩
  · simp at hb
  obtain ⟨r1, r2, kv, r3, rk⟩ := hr n b hb
  obtain ⟨kc, ko, ksm⟩ := rk.cells
  have a6 : decide (n + 1 ≤ bs.length) = true := decide_eq_true hnl
  have hidq : id ≠ q := by omega
  have hidn : id ≠ h.next := by omega
  have hidn1 : id ≠ h.next + 1 := by omega
  have hkl := fun k => rk.len k
  -- the memory behind the block's copy
  let box : Go.AE.Obj := .st (T.set (iv n) (T.set (.b false) .e 0) 1) 2
  let H1 := addO h box
  let c1 : T AV := c.set (iv ((n : Int) + 1)) 3
  let H2 := updO H1 q (.st c1 5)
  let cb0 : T AV := T.set .nils (T.set (.s 0 0) (T.set (iv 0) .e 0) 1) 2
  let H3 := addO H2 (.st cb0 3)
  let cb : T AV := ((cb0.set (iv b.tag) 0).set (.s b.sn b.sv) 1).set kv 2
  let H4 := updO H3 (h.next + 1) (.st cb 3)
  have s1 : Sc H1 := hs.add _
  have hq1 : H1.tr.get q = some (.st c 5) := by rw [get_add, if_neg hqn]; exact hq
  have s2 : Sc H2 := s1.upd hq1 _
  have s3 : Sc H3 := s2.add _
  have hb3 : H3.tr.get (h.next + 1) = some (.st cb0 3) := by rw [get_add]; exact if_pos rfl
  have s4 : Sc H4 := s3.upd hb3 _
  have k1 : Kp h H1 [q] := (Kp.add h box []).mono (by simp)
  have k2 : Kp h H2 [q] := k1.trans (Kp.upd _ _ _) (fun i hi _ => hi)
  have k3 : Kp h H3 [q] := k2.trans (Kp.add _ _ []) (fun i hi _ => by simp at hi)
  have k4 : Kp h H4 [q] := k3.trans (Kp.upd _ _ _) (fun i hi hl => by simp at hi; omega)
  have lo4 := Lo.of k4 hN (fun i hi => by simp at hi; omega)
  have hb4 : H4.tr.get (h.next + 1) = some (.st cb 3) := by rw [get_upd]; exact if_pos rfl
  have hq4 : H4.tr.get q = some (.st c1 5) := by
    rw [get_upd, if_neg hqn1, get_add, if_neg (show q ≠ H2.next from hqn1), get_upd, if_pos rfl]
  have cr4 : CR H4 q (.sl id t off bs.length cap 3) (n + 1) true := ⟨c1, hq4, by rw [get_other _ _ (by decide)]; exact c2, by rw [get_same]; rfl, by rw [get_other _ _ (by decide)]; exact c4⟩
  let fr4 : Fr := T.set (.p (h.next + 1) 0 0) (T.set (.b false) (T.set (.b false) (T.set (.b false) (T.set (.p h.next 0 0) (T.set (.agg [.b false, iv n]) (T.set (.p q 0 0) .e 0) 1) 3) 7) 52) 62) 4
  have first : ∀ k : KH, cal (m + 3) 38 [.p q 0 0, .agg [.b false, iv n]] h k = exec (cal (m + 2)) c38T9 fr4 H4 (retK [] k) := fun k => by
    rw [run38]; simp only [ofL_cons, ofL_nil, Nat.zero_add, Nat.reduceAdd]
    simp (maxSteps := 1000000) -implicitDefEqProofs only [c38, ↓x_seq, ↓x_reg, ↓o_consS, ↓r_al, ↓m_box, ↓e_t, ↓getK_same, ↓o_nil, ↓nrm_n, ↓c_agg, ofL_cons, ↓ofL_nil, Nat.zero_add, len_2]
    simp (maxSteps := 1000000) -implicitDefEqProofs only [c38T0, ↓x_seq, ↓x_reg, ↓o_consN, ↓r_pu, ↓p_fad, ↓e_t, ↓getK_same, ↓n_p, ↓o_consS, ↓r_rd, ↓m_ld, ↓e_l0, ↓ga_new2, Nat.zero_add, Nat.reduceLT, ↓m_st0, ne_eq, nx1, not_false_eq_true, ↓getK_other, ↓o_nil, ↓nrm_n]
    simp (maxSteps := 1000000) -implicitDefEqProofs only [c38T1, ↓x_cond, ↓e_t, ↓getK_same, ↓n_b, ↓x_skip, ↓nrm_n]
    simp (maxSteps := 1000000) -implicitDefEqProofs only [c38T3, ↓x_seq, ↓x_dreg, ↓d_puN, ↓p_mv, ↓e_t, ne_eq, reduceCtorEq, not_false_eq_true, ↓getK_other, nx1, ↓getK_same, ↓p_nilck, ↓e_l0, ↓n_pf, ↓p_fad, ↓n_p, ↓d_rdN, ↓m_ld, hqn, ↓ga_old, ↓t_get hq, Nat.zero_add, Nat.reduceLT, ↓m_st0, ↓t_get c4, ↓p_not, ↓n_b, ↓d_gpuN, ↓g_b, ↓rec_nt, Nat.reduceEqDiff, ↓d_grdN, ↓e_l1, ↓ga_new2, ↓e_l2, ↓p_bin, ↓e_c, ↓a1, ↓p_pick, ↓e_l3, ↓e_l4, ↓e_l5, ↓t_get c3, ↓e_l6, ↓a2, ↓e_l7, ↓t_get c2, ↓p_len, ↓hl, ↓e_l8, ↓a3, ↓d_puS, ↓e_l9, ↓d_nil, ↓rev_nil, ↓nn_t, beq_dec, decide_true, k_nil, ↓nrm_n, and_t]
    simp (maxSteps := 1000000) -implicitDefEqProofs only [c38T4, ↓x_cond, ↓e_t, ↓getK_same, ↓n_b, ↓x_skip, ↓nrm_n]
    simp (maxSteps := 1000000) -implicitDefEqProofs only [c38T6, ↓x_seq, ↓x_dreg, ↓d_puN, ↓p_fad, ↓e_t, ne_eq, Nat.reduceEqDiff, not_false_eq_true, ↓getK_other, ↓getK_same, ↓n_p, ↓d_rdN, ↓m_ld, ↓e_l0, ↓ga_new2, Nat.zero_add, Nat.reduceLT, ↓m_st0, ↓p_mv, reduceCtorEq, nx1, ↓p_nilck, ↓n_pf, hqn, ↓ga_old, ↓t_get hq, ↓t_get c3, ↓d_puS, ↓p_bin, ↓e_l4, ↓a4, ↓d_nil, ↓rev_nil, beq_dec, decide_true, k_nil, ↓nrm_n, ↓x_cond, ↓n_b, ↓x_skip, and_t]
    simp (maxSteps := 1000000) -implicitDefEqProofs only [c38T7, ↓x_seq, ↓x_reg, ↓o_consN, ↓r_pu, ↓p_mv, ↓e_t, ne_eq, reduceCtorEq, not_false_eq_true, ↓getK_other, nx1, ↓getK_same, ↓p_nilck, ↓e_l0, ↓n_pf, ↓p_fad, ↓n_p, ↓r_rd, ↓m_ld, hqn, ↓ga_old, ↓t_get hq, Nat.zero_add, Nat.reduceLT, ↓m_st0, ↓t_get c3, ↓p_bin, ↓e_c, ↓a5, ↓e_l4, ↓r_ef, ↓m_store, ↓e_l2, ↓c_i, len_1, beq_dec, decide_true, ↓o_nil, ↓nrm_n, ↓wrs1, ↓one_i, ↓w_st, i_t]
    simp (maxSteps := 1000000) -implicitDefEqProofs only [c38T8, ↓x_seq, ↓x_dreg, ↓d_puN, ↓p_mv, ↓e_t, ne_eq, reduceCtorEq, not_false_eq_true, ↓getK_other, nx1, ↓getK_same, ↓p_nilck, ↓e_l0, ↓n_pf, ↓p_fad, ↓n_p, ↓d_rdN, ↓m_ld, ↓gu_same, Nat.zero_add, Nat.reduceLT, ↓m_st0, ↓t_get c2, Nat.reduceEqDiff, hqn.symm, ↓gu_other, ↓ga_new2, ↓p_iad, ↓e_l2, ↓n_sl, ↓evN_of, ↓n_i, ↓int_n, ble_dec, a6, ↓m_ldn, hidq, hidn, ↓ga_old, ↓t_get ho, ↓rds_3, ↓r1, ↓r2, ↓r3, ↓d_alS, ↓m_new, ↓d_efN, ↓m_store, ↓e_l1, ↓c_agg, len_3, beq_dec, decide_true, next_updO, next_addO, ↓ofL_cons, ↓ofL_nil, Nat.reduceAdd, ↓d_nil, ↓rev_cons, ↓rev_nil, k_nil, ↓nrm_n, and_t, wrs_3, ↓one_i, ↓w_st, ↓one_s, ko, i_t]
    rfl
  have q2 : cb.get 0 = some (iv b.tag) := by simp only [cb, get_other, get_same, ne_eq, Nat.reduceEqDiff, not_false_eq_true]
  have q3 : cb.get 1 = some (.s b.sn b.sv) := by simp only [cb, get_other, get_same, ne_eq, Nat.reduceEqDiff, not_false_eq_true]
  have q4 : cb.get 2 = some kv := by simp only [cb, get_same]
  have f0 : fr4.get 0 = some (.p q 0 0) := by simp only [fr4, get_other, get_same, ne_eq, Nat.reduceEqDiff, not_false_eq_true]
  have f4 : fr4.get 4 = some (.p (h.next + 1) 0 0) := by simp only [fr4, get_same]
  obtain ⟨h', n', ok', e, g1, g2, g3, g4⟩ := cBlock hNq IH hnl cr4 (rb0.keep lo4) s4 (Nat.le_trans hN k4.1) (rk.keep lo4) hb4 (Ne.symm hqn1) q2 q3 q4 f0 f4
  exact ⟨h', n', ok', fun k => (first k).trans (e k), g1, g2, k4.trans g3 (fun i hi _ => hi), g4⟩

/-- A value is looked at. -/
theorem cRef (hNq : N ≤ q) (hlen : (bs.length : Int) < 4611686018427387904) : ∀ (f n0 : Nat), bs.length < f + n0 → CRun bs N q vb (f + 3) (OKr bs f) n0
  | 0, n0, hf => fun r n ok h c rb hs hN h0 hl => by omega
  | f + 1, n0, hf => fun r n ok h c rb hs hN h0 hl => by
    obtain ⟨imm, x⟩ := r
    cases imm with
    | true =>
      obtain ⟨h', ok', e, c', s', k', g⟩ := cImm (x := x) c hs (f + 1)
      exact ⟨h', n, ok', e, c', s', k', Nat.le_refl _, hl, fun ho => ⟨(g ho).1, .inl ⟨rfl, (g ho).2, rfl⟩⟩⟩
    | false =>
      by_cases hno : ok = false ∨ x < 0 ∨ (n : Int) < x ∨ (bs.length : Int) ≤ x
      · obtain ⟨h', e, c', s', k'⟩ := cOut c hs rb hno (f + 1)
        exact ⟨h', n, false, e, c', s', k', Nat.le_refl _, hl, fun ho => by cases ho⟩
      · have hok : ok = true := by
          cases ok with
          | true => rfl
          | false => exact absurd (.inl rfl) hno
        subst hok
        have h1 : ¬ x < 0 := fun h => hno (.inr (.inl h))
        have h2 : ¬ (n : Int) < x := fun h => hno (.inr (.inr (.inl h)))
        have h3 : ¬ (bs.length : Int) ≤ x := fun h => hno (.inr (.inr (.inr h)))
        by_cases h4 : x < n
        · obtain ⟨h', e, c', s', k'⟩ := cOld c hs rb (by omega) h4 (by omega) (f + 1)
          exact ⟨h', n, true, e, c', s', k', Nat.le_refl _, hl, fun ho => ⟨rfl, .inr (.inl ⟨rfl, by omega, h4, rfl⟩)⟩⟩
        · have hx : x = n := by omega
          subst hx
          have hb : bs[n]? = some bs[n] := List.getElem?_eq_getElem (by omega)
          obtain ⟨h', n', ok', e, c', s', k', l1, l2, g⟩ := cNew (m := f + 1) hNq (cRef hNq hlen f (n + 1) (by omega)) c rb hs hN hlen hb
          exact ⟨h', n', ok', e, c', s', k', l1, l2, fun ho => ⟨rfl, .inr (.inr ⟨rfl, rfl, _, hb, g ho⟩)⟩⟩
end
end Go.Proofs.Ytodlgflkhcknaaa.gcc

/- The document's two questions of a graph: is it one, how many words does it need. -/
namespace Go.Proofs.Ytodlgflkhcknaaa.gcc
open Go Go.AE
set_option linter.unusedSimpArgs false
set_option maxRecDepth 100000

section
variable {N : Nat} {vb : AV} {bs : List Bl}

theorem xIs {h : Heap} {ri : Bool} {rn : Int} (rb : BlksR h N vb bs) (hs : Sc h) (hN : N ≤ h.next) (hlen : (bs.length : Int) < 4611686018427387904) (f : Nat) (hf : bs.length < f) :
    ∃ h' ok, (∀ k : KH, cal (f + 4) 20 [.agg [.b ri, iv rn, vb]] h k = k (.b ok) h') ∧ Sc h' ∧ Kp h h' [] ∧ (ok = true → OKr bs f (ri, rn) 0 bs.length) := by
  obtain ⟨kc, ko, ksm⟩ := rb.cells
  obtain ⟨box, hbox⟩ : ∃ x : Go.AE.Obj, x = .st (T.set vb (T.set (iv rn) (T.set (.b ri) .e 0) 1) 2) 3 := ⟨_, rfl⟩
  obtain ⟨cc, hcc⟩ : ∃ x : T AV, x = T.set (.b true) (T.set (iv 0) (T.set vb (T.set (iv rn) (T.set (.b ri) .e 0) 1) 2) 3) 4 := ⟨_, rfl⟩
  obtain ⟨H, hH⟩ : ∃ x, x = addO (addO h box) (.st cc 5) := ⟨_, rfl⟩
  obtain ⟨fr, hfr⟩ : ∃ x : Fr, x = T.set (.p (h.next + 1) 0 0) (T.set (.b false) (T.set (.p h.next 0 0) (T.set (.agg [.b ri, iv rn, vb]) .e 0) 1) 2) 3 := ⟨_, rfl⟩
  have s2 : Sc H := by rw [hH]; exact (hs.add _).add _
  have k2 : Kp h H [] := by rw [hH]; exact (Kp.add h box []).trans (Kp.add _ _ _) (fun i hi _ => hi)
  have lo2 := Lo.of k2 hN (fun i hi => by simp at hi)
  have hb : H.tr.get h.next = some box := by rw [hH]; simp [get_add, next_addO]
  have hq : H.tr.get (h.next + 1) = some (.st cc 5) := by rw [hH]; simp [get_add, next_addO]
  have cr : CR H (h.next + 1) vb 0 true := by
    refine ⟨cc, hq, ?_, ?_, ?_⟩ <;> rw [hcc] <;> simp only [get_other, get_same, ne_eq, Nat.reduceEqDiff, not_false_eq_true]
    rfl
  have first : ∀ k : KH, cal (f + 4) 20 [.agg [.b ri, iv rn, vb]] h k = exec (cal (f + 3)) c20T1 fr H (retK [.tmp 2] k) := fun k => by
    rw [hH, hfr, hcc, hbox, run20]; simp only [ofL_cons, ofL_nil, Nat.zero_add, Nat.reduceAdd]
    simp (maxSteps := 1000000) -implicitDefEqProofs only [c20, ↓x_seq, ↓x_reg, ↓o_consS, ↓r_al, ↓m_box, ↓e_t, ↓getK_same, ↓r_pu, ↓p_mv, ↓e_c, ↓o_nil, ↓nrm_n, ↓c_agg, ofL_cons, ↓ofL_nil, Nat.zero_add, Nat.reduceAdd, len_3]
    simp (maxSteps := 1000000) -implicitDefEqProofs only [c20T0, ↓x_seq, ↓x_reg, ↓o_consN, ↓r_rd, ↓m_ldn, ↓e_t, ne_eq, nx1, not_false_eq_true, ↓getK_other, ↓getK_same, ↓n_p, ↓ga_new2, ↓rds_3, Nat.reduceLT, ↓m_st0, nx2, Nat.zero_add, Nat.reduceAdd, ↓r_pu, ↓p_bld, ↓fill_agg3, ↓e_l0, ↓c_agg, len_3, beq_dec, decide_true, ↓len_5, ble_dec, Nat.reduceLeDiff, ↓fill_cons, ↓e_c, put_35, ↓fill_nil, ↓r_al, ↓m_box, ↓o_consS, ↓p_mv, ↓o_nil, ↓nrm_n, next_addO, ↓c_b, ↓fv54, ↓ofL_cons, ↓ofL_nil, i_t]
  have b0 : box = .st (T.set vb (T.set (iv rn) (T.set (.b ri) .e 0) 1) 2) 3 := hbox
  have f1 : fr.get 1 = some (.p h.next 0 0) := by rw [hfr]; simp only [get_other, get_same, ne_eq, Nat.reduceEqDiff, not_false_eq_true]
  have f3 : fr.get 3 = some (.p (h.next + 1) 0 0) := by rw [hfr]; simp only [get_same]
  clear hH hfr hcc hbox
  obtain ⟨h', n', ok', e, c', s', k', l1, l2, g⟩ := cRef (N := N) (q := h.next + 1) (vb := vb) (bs := bs) (by omega) hlen f 0 (by omega) (ri, rn) 0 true H cr (rb.keep lo2) s2 (Nat.le_trans hN k2.1) (Nat.le_refl _) (Nat.zero_le _)
  obtain ⟨c1, g1, g2, g3, g4⟩ := c'
  have hb' : h'.tr.get h.next = some box := k'.get s2 hb (by simp)
  have hl := fun k => rb.len k
  have e' : ∀ k : KH, cal (f + 3) 38 [.p (h.next + 1) 0 0, .agg [.b ri, iv rn]] H k = k .u h' := e
  subst b0
  refine ⟨h', ok' && decide ((n' : Int) = bs.length), fun k => ?_, s', k2.trans k' (fun i hi hl => by simp at hi; omega), fun ho => ?_⟩
  · rw [first]
    cases ok' with
    | false =>
      simp (maxSteps := 1000000) -implicitDefEqProofs only [c20T1, ↓x_seq, ↓x_reg, ↓o_consN, ↓r_pu, ↓p_mv, ↓e_t, ↓t_get f3, ↓p_fad, ↓t_get f1, ↓n_p, ↓r_rd, ↓m_ldn, ↓e_l0, ↓t_get hb, ↓rds_2, Nat.zero_add, Nat.reduceLT, ↓m_st0, ne_eq, nx2, not_false_eq_true, ↓getK_other, nx1, ↓getK_same, ↓r_ef, ↓m_callf, ↓es_cons, ↓e_l2, ↓es_nil, ↓e', ↓o_nil, ↓nrm_n, Bool.false_and]
      simp (maxSteps := 1000000) -implicitDefEqProofs only [c20T2, ↓x_seq, ↓x_dreg, ↓d_puN, ↓p_mv, ↓e_t, ↓t_get f3, ↓p_nilck, ↓e_l0, ↓n_pf, ↓p_fad, ↓n_p, ↓d_rdN, ↓m_ld, ↓t_get g1, Nat.zero_add, Nat.reduceLT, ↓m_st0, ↓t_get g4, ↓d_gtpuN, ↓g_b, ↓e_l1, ↓e_l2, ↓d_gtrdN, ↓e_l3, ↓e_l4, ↓e_l5, ↓e_l6, ↓e_l7, ↓p_pick, ↓e_l8, ↓n_b, ↓e_c, ↓d_puS, ↓d_nil, ↓rev_nil, beq_dec, decide_true, k_nil, ↓nrm_n, ↓x_ret, ↓ret_r, ↓res_t1, ↓getK_same, ↓one1, and_t]
    | true =>
      simp (maxSteps := 1000000) -implicitDefEqProofs only [c20T1, ↓x_seq, ↓x_reg, ↓o_consN, ↓r_pu, ↓p_mv, ↓e_t, ↓t_get f3, ↓p_fad, ↓t_get f1, ↓n_p, ↓r_rd, ↓m_ldn, ↓e_l0, ↓t_get hb, ↓rds_2, Nat.zero_add, Nat.reduceLT, ↓m_st0, ne_eq, nx2, not_false_eq_true, ↓getK_other, nx1, ↓getK_same, ↓r_ef, ↓m_callf, ↓es_cons, ↓e_l2, ↓es_nil, ↓e', ↓o_nil, ↓nrm_n, Bool.true_and]
      simp (maxSteps := 1000000) -implicitDefEqProofs only [c20T2, ↓x_seq, ↓x_dreg, ↓d_puN, ↓p_mv, ↓e_t, ↓t_get f3, ↓p_nilck, ↓e_l0, ↓n_pf, ↓p_fad, ↓n_p, ↓d_rdN, ↓m_ld, ↓t_get g1, Nat.zero_add, Nat.reduceLT, ↓m_st0, ↓t_get g4, ↓d_gtpuN, ↓g_b, ↓e_l1, ↓e_l2, ↓d_gtrdN, ↓e_l3, ↓t_get g3, ↓e_l4, ↓t_get f1, ↓e_l5, ↓t_get hb', ↓getK_same, ↓e_l6, ↓p_len, ↓hl, ↓e_l7, ↓p_bin, ↓b_eql, ↓p_pick, ↓e_l8, ↓n_b, ↓d_puS, ↓d_nil, ↓rev_nil, beq_dec, decide_true, k_nil, ↓nrm_n, ↓x_ret, ↓ret_r, ↓res_t1, ↓one1, and_t]
  · simp at ho
    obtain ⟨h1, h2⟩ := ho
    have := (g h1).2
    rw [show n' = bs.length from by omega] at this
    exact this

/-- How many words a graph needs. -/
def wordsB : List Bl → Nat
  | [] => 0
  | b :: bs => 1 + b.sn + b.kids.length + wordsB bs
def F21 (fr : Fr) (q : Nat) (x i : Nat) : Prop := fr.get 1 = some (.p q 0 0) ∧ fr.get 3 = some (iv x) ∧ fr.get 4 = some (iv i)
theorem wStep {h : Heap} {q : Nat} {cb : T AV} (rb : BlksR h N vb bs) (hq : h.tr.get q = some (.st cb 3)) (hc : cb.get 2 = some vb) (hlen : bs.length ≤ 300000) (m f i x : Nat) (fr : Fr) (hi : i < bs.length) (F : F21 fr q x i) (hw : (x + (1 + bs[i].sn + bs[i].kids.length) : Int) ≤ 4611686018427387904) :
    ∃ fr1, (∀ k, iter (exec (cal m) c21L0) (f + 1) fr h k = iter (exec (cal m) c21L0) f fr1 h k) ∧ F21 fr1 q (x + (1 + bs[i].sn + bs[i].kids.length)) (i + 1) := by
    obtain ⟨f1, f3, f4⟩ := F
    have hb : bs[i]? = some bs[i] := List.getElem?_eq_getElem (by omega)
    have hl := fun k => rb.len k
    rcases rb with ⟨rfl, _⟩ | ⟨id, t, off, cap, o, rfl, hid, ho, hr⟩
    · simp at hi
    obtain ⟨r1, r2, kv, r3, rk⟩ := hr i _ hb
    have hkl := fun k => rk.len k
    have a1 := fun k => b_lssT (a := (i : Int)) (b := (bs.length : Int)) (by omega) k
    have a2 := fun k => b_add (a := (i : Int)) (b := 1) (by omega) (by omega) k
    have a3 : decide (i + 1 ≤ bs.length) = true := decide_eq_true (by omega)
    have a4 := fun k => b_add (a := (x : Int)) (b := 1) (by omega) (by omega) k
    have a5 := fun k => b_add (a := (x : Int) + 1) (b := (bs[i].sn : Int)) (by omega) (by omega) k
    have a6 := fun k => b_add (a := (x : Int) + 1 + (bs[i].sn : Int)) (b := (bs[i].kids.length : Int)) (by omega) (by omega) k
    apply Exists.intro
    refine ⟨fun k => ?_, ?_, ?_, ?_⟩
    · rw [it_succ]
      simp (maxSteps := 1000000) -implicitDefEqProofs only [c21L0, ↓x_seq, ↓x_reg, ↓o_consN, ↓r_pu, ↓p_mv, ↓e_t, ↓t_get f4, ↓p_fad, ↓t_get f1, ↓n_p, ↓r_rd, ↓m_ld, ↓e_l0, ↓t_get hq, Nat.zero_add, Nat.reduceLT, ↓m_st0, ↓t_get hc, ↓p_len, ↓hl, ↓o_consS, ↓p_bin, ↓e_l3, ↓a1, ↓o_nil, ↓nrm_n, ↓x_cond, ↓getK_same, ↓n_b, ↓x_skip]
      simp (maxSteps := 1000000) -implicitDefEqProofs only [c21T3, ↓x_seq, ↓x_block, ↓x_dreg, ↓d_puN, ↓p_mv, ↓e_t, ne_eq, Nat.reduceEqDiff, not_false_eq_true, ↓getK_other, ↓t_get f3, ↓p_bin, ↓e_l0, ↓e_c, ↓a4, ↓p_fad, ↓t_get f1, ↓n_p, ↓d_rdN, ↓m_ld, ↓t_get hq, Nat.zero_add, Nat.reduceLT, ↓m_st0, ↓t_get hc, ↓t_get f4, ↓p_iad, ↓e_l1, ↓n_sl, ↓evN_of, ↓n_i, ↓int_n, ble_dec, a3, ↓t_get ho, ↓r2, ↓p_lens, ↓n_s, ↓e_l7, ↓a5, ↓r3, ↓p_len, ↓hkl, ↓a6, ↓d_puS, ↓d_nil, ↓rev_nil, beq_dec, decide_true, k_nil, ↓nrm_n, and_t, i_t]
      simp (maxSteps := 1000000) -implicitDefEqProofs only [c21T4, ↓x_reg, ↓o_consN, ↓r_pu, ↓p_mv, ↓e_t, ne_eq, nx1', not_false_eq_true, ↓getK_other, Nat.reduceEqDiff, ↓t_get f4, ↓p_bin, ↓e_l0, ↓e_c, ↓a2, ↓o_consS, ↓o_nil, ↓nrm_n]
      rfl
    · simp only [get_other, get_same, ne_eq, Nat.reduceEqDiff, not_false_eq_true, f1]
    · simp only [get_other, get_same, ne_eq, Nat.reduceEqDiff, not_false_eq_true]; congr 3; omega
    · simp only [get_other, get_same, ne_eq, Nat.reduceEqDiff, not_false_eq_true]; rfl
theorem wLoop {h : Heap} {q : Nat} {cb : T AV} (rb : BlksR h N vb bs) (hq : h.tr.get q = some (.st cb 3)) (hc : cb.get 2 = some vb) (hlen : bs.length ≤ 300000) (m f : Nat) : ∀ (d i x : Nat) (fr : Fr), i + d = bs.length → F21 fr q x i → (x + wordsB (bs.drop i) : Int) ≤ 4611686018427387904 →
    ∃ fr', (∀ k, iter (exec (cal m) c21L0) (d + (f + 1)) fr h k = k (.exit 0) fr' h) ∧ fr'.get 3 = some (iv ((x + wordsB (bs.drop i) : Nat) : Int))
  | 0, i, x, fr, hd, F, hw => by
    obtain ⟨f1, f3, f4⟩ := F
    have hi : i = bs.length := by omega
    subst hi
    have hl := fun k => rb.len k
    have a1 := fun k => b_lssF (a := (bs.length : Int)) (b := (bs.length : Int)) (by omega) k
    apply Exists.intro
    refine ⟨fun k => ?_, ?_⟩
    · rw [Nat.zero_add, it_succ]
      simp (maxSteps := 1000000) -implicitDefEqProofs only [c21L0, ↓x_seq, ↓x_reg, ↓o_consN, ↓r_pu, ↓p_mv, ↓e_t, ↓t_get f4, ↓p_fad, ↓t_get f1, ↓n_p, ↓r_rd, ↓m_ld, ↓e_l0, ↓t_get hq, Nat.zero_add, Nat.reduceLT, ↓m_st0, ↓t_get hc, ↓p_len, ↓hl, ↓o_consS, ↓p_bin, ↓e_l3, ↓a1, ↓o_nil, ↓nrm_n, ↓x_cond, ↓getK_same, ↓n_b, ↓x_exit, ↓nrm_e]
      rfl
    · rw [get_other _ _ (by decide), f3, List.drop_length]; rfl
  | d + 1, i, x, fr, hd, F, hw => by
    have hdr : bs.drop i = bs[i] :: bs.drop (i + 1) := List.drop_eq_getElem_cons (by omega)
    have hwd : wordsB (bs.drop i) = 1 + bs[i].sn + bs[i].kids.length + wordsB (bs.drop (i + 1)) := by rw [hdr]; rfl
    obtain ⟨fr1, e1, F1⟩ := wStep rb hq hc hlen m (d + (f + 1)) i x fr (by omega) F (by omega)
    obtain ⟨fr', e2, g⟩ := wLoop rb hq hc hlen m f d (i + 1) _ fr1 (by omega) F1 (by omega)
    refine ⟨fr', fun k => ?_, ?_⟩
    · rw [show d + 1 + (f + 1) = d + (f + 1) + 1 from by omega, e1, e2]
    · rw [g, hwd]; congr 3; omega
theorem xWordsB {h : Heap} {ri : Bool} {rn : Int} (rb : BlksR h N vb bs) (hs : Sc h) (hN : N ≤ h.next) (hlen : bs.length ≤ 300000) (hw : (wordsB bs : Int) ≤ 4611686018427387904) (m : Nat) :
    ∃ h', (∀ k : KH, cal (m + 1) 21 [.agg [.b ri, iv rn, vb]] h k = k (iv (wordsB bs)) h') ∧ Sc h' ∧ Kp h h' [] := by
  obtain ⟨kc, ko, ksm⟩ := rb.cells
  obtain ⟨cb, hcb⟩ : ∃ x : T AV, x = T.set vb (T.set (iv rn) (T.set (.b ri) .e 0) 1) 2 := ⟨_, rfl⟩
  obtain ⟨H, hH⟩ : ∃ x, x = addO h (.st cb 3) := ⟨_, rfl⟩
  have s2 : Sc H := by rw [hH]; exact hs.add _
  have k2 : Kp h H [] := by rw [hH]; exact Kp.add h _ []
  have lo2 := Lo.of k2 hN (fun i hi => by simp at hi)
  have hb : H.tr.get h.next = some (.st cb 3) := by rw [hH]; simp [get_add, next_addO]
  have hc : cb.get 2 = some vb := by rw [hcb, get_same]
  obtain ⟨fr, hfr⟩ : ∃ x : Fr, x = T.set (iv 0) (T.set (iv 0) (T.set (iv 0) (T.set (.p h.next 0 0) (T.set (.agg [.b ri, iv rn, vb]) .e 0) 1) 2) 3) 4 := ⟨_, rfl⟩
  have F : F21 fr h.next 0 0 := by
    refine ⟨?_, ?_, ?_⟩ <;> rw [hfr] <;> simp only [get_other, get_same, ne_eq, Nat.reduceEqDiff, not_false_eq_true] <;> rfl
  obtain ⟨fr', e, g⟩ := wLoop (rb.keep lo2) hb hc hlen m (1000000 - bs.length - 1) bs.length 0 0 fr (by omega) F (by rw [List.drop_zero]; omega)
  rw [show bs.length + (1000000 - bs.length - 1 + 1) = 1000000 from by omega] at e
  rw [List.drop_zero, Nat.zero_add] at g
  refine ⟨H, fun k => ?_, s2, k2⟩
  have e' := fun K => e K
  rw [hH, hfr, hcb] at e'
  rw [hH, run21]; simp only [ofL_cons, ofL_nil, Nat.zero_add, Nat.reduceAdd]
  simp (maxSteps := 1000000) -implicitDefEqProofs only [c21, ↓x_seq, ↓x_reg, ↓o_consS, ↓r_al, ↓m_box, ↓e_t, ↓getK_same, ↓r_pu, ↓p_mv, ↓e_c, ↓o_nil, ↓nrm_n, ↓c_agg, ofL_cons, ↓ofL_nil, Nat.zero_add, Nat.reduceAdd, len_3]
  simp (maxSteps := 1000000) -implicitDefEqProofs only [c21T0, ↓x_seq, ↓x_reg, ↓o_consS, ↓r_pu, ↓p_mv, ↓e_c, ↓o_nil, ↓nrm_n]
  simp (maxSteps := 1000000) -implicitDefEqProofs only [c21T1, ↓x_seq, ↓x_reg, ↓o_consS, ↓r_pu, ↓p_mv, ↓e_c, ↓o_nil, ↓nrm_n, ↓o_consN, ↓e_t, ↓e_l0, ↓x_ret, ↓ret_r, ↓res_t1, ↓getK_same, ↓one1]
  simp (maxSteps := 1000000) -implicitDefEqProofs only [c21T2, ↓x_block, ↓x_loop, ↓e', ↓rec_bb, ↓nrm_n, ↓t_get g]
  rw [hcb]
end
end Go.Proofs.Ytodlgflkhcknaaa.gcc

/- The package's look at a graph: one that the document takes is taken. -/
namespace Go.Proofs.Ytodlgflkhcknaaa.gcc
open Go Go.AE
set_option linter.unusedSimpArgs false
set_option maxRecDepth 100000

/-- What counts the blocks. -/
def KR (h : Heap) (q : Nat) (vb : AV) (n : Nat) : Prop := ∃ c, h.tr.get q = some (.st c 4) ∧ c.get 2 = some vb ∧ c.get 3 = some (iv n)

section
variable {N q : Nat} {vb : AV} {bs : List Bl}

theorem kImm {h : Heap} {n : Nat} {x : Int} (c : KR h q vb n) (hs : Sc h) (hx : In62 x) (m : Nat) :
    ∃ h', (∀ k : KH, cal (m + 1) 51 [.p q 0 0, .agg [.b true, iv x]] h k = k (.b true) h') ∧ KR h' q vb n ∧ Sc h' ∧ Kp h h' [q] := by
  obtain ⟨c, hq, c2, c3⟩ := c
  have hqn : q ≠ h.next := Nat.ne_of_lt (hs _ _ hq)
  have hqn1 : q ≠ h.next + 1 := by have := hs _ _ hq; omega
  have a1 := fun k => b_geqT (a := x) (b := -4611686018427387904) hx.1 k
  have a2 := fun k => b_lssT (a := x) (b := 4611686018427387904) hx.2 k
  have e0 : (Int.negSucc 4611686018427387903) = -4611686018427387904 := rfl
  apply Exists.intro
  refine ⟨fun k => ?_, ?_, ?_, ?_⟩
  · rw [run51]; simp only [ofL_cons, ofL_nil, Nat.zero_add, Nat.reduceAdd]
    simp (maxSteps := 1000000) -implicitDefEqProofs only [c51, ↓x_seq, ↓x_reg, ↓o_consS, ↓r_al, ↓m_box, ↓e_t, ne_eq, nx1, not_false_eq_true, ↓getK_other, ↓getK_same, ↓r_pu, ↓p_mv, ↓e_c, ↓o_nil, ↓nrm_n, ↓c_p, ofL_cons, ↓ofL_nil, len_1, next_addO, ↓c_agg, Nat.zero_add, len_2]
    simp (maxSteps := 1000000) -implicitDefEqProofs only [c51T0, ↓x_seq, ↓x_block, ↓x_reg, ↓o_consN, ↓r_pu, ↓p_fad, ↓e_t, ne_eq, nx1, not_false_eq_true, ↓getK_other, ↓getK_same, ↓n_p, ↓r_rd, ↓m_ld, ↓e_l0, next_addO, ↓ga_new2, Nat.zero_add, Nat.reduceLT, ↓m_st0, ↓o_consS, ↓p_mv, ↓o_nil, ↓nrm_n, ↓nrm_e, beq_dec, ↓nrm_r, ↓ret_r, ↓res_t1, ↓one1]
    simp (maxSteps := 1000000) -implicitDefEqProofs only [c51T1, ↓x_cond, ↓e_t, ↓getK_same, ↓n_b]
    simp (maxSteps := 1000000) -implicitDefEqProofs only [c51T2, e0, ↓x_seq, ↓x_reg, ↓o_consN, ↓r_pu, ↓p_fad, ↓e_t, ne_eq, Nat.reduceEqDiff, not_false_eq_true, ↓getK_other, nx1, ↓getK_same, ↓n_p, ↓r_rd, ↓m_ld, ↓e_l0, next_addO, ↓ga_new2, Nat.zero_add, Nat.reduceLT, ↓m_st0, ↓p_bin, ↓e_c, ↓a1, ↓p_mv, ↓o_guardTN, ↓g_b, ↓e_l1, ↓e_l2, ↓a2, ↓p_pick, ↓e_l3, ↓n_b, ↓o_consS, ↓o_nil, ↓nrm_n, ↓x_ret]
    rfl
  · exact ⟨c, by simp [get_add, next_addO, hqn, hqn1, hq], c2, c3⟩
  · exact (hs.add _).add _
  · exact ((Kp.add h _ []).trans (Kp.add _ _ []) (fun i hi _ => hi)).mono (by simp)
theorem kOld {h : Heap} {n : Nat} {x : Int} (c : KR h q vb n) (hs : Sc h) (h0 : 0 ≤ x) (h1 : x < n) (m : Nat) :
    ∃ h', (∀ k : KH, cal (m + 1) 51 [.p q 0 0, .agg [.b false, iv x]] h k = k (.b true) h') ∧ KR h' q vb n ∧ Sc h' ∧ Kp h h' [q] := by
  obtain ⟨c, hq, c2, c3⟩ := c
  have hqn : q ≠ h.next := Nat.ne_of_lt (hs _ _ hq)
  have hqn1 : q ≠ h.next + 1 := by have := hs _ _ hq; omega
  have a1 := fun k => b_neqT (a := x) (b := (n : Int)) (by omega) k
  have a2 := fun k => b_geqT (a := x) (b := 0) h0 k
  have a3 := fun k => b_lssT (a := x) (b := (n : Int)) h1 k
  apply Exists.intro
  refine ⟨fun k => ?_, ?_, ?_, ?_⟩
  · rw [run51]; simp only [ofL_cons, ofL_nil, Nat.zero_add, Nat.reduceAdd]
    simp (maxSteps := 1000000) -implicitDefEqProofs only [c51, ↓x_seq, ↓x_reg, ↓o_consS, ↓r_al, ↓m_box, ↓e_t, ne_eq, nx1, not_false_eq_true, ↓getK_other, ↓getK_same, ↓r_pu, ↓p_mv, ↓e_c, ↓o_nil, ↓nrm_n, ↓c_p, ofL_cons, ↓ofL_nil, len_1, next_addO, ↓c_agg, Nat.zero_add, len_2]
    simp (maxSteps := 1000000) -implicitDefEqProofs only [c51T0, ↓x_seq, ↓x_block, ↓x_reg, ↓o_consN, ↓r_pu, ↓p_fad, ↓e_t, ne_eq, nx1, not_false_eq_true, ↓getK_other, ↓getK_same, ↓n_p, ↓r_rd, ↓m_ld, ↓e_l0, next_addO, ↓ga_new2, Nat.zero_add, Nat.reduceLT, ↓m_st0, ↓o_consS, ↓p_mv, ↓o_nil, ↓nrm_n, ↓nrm_e, beq_dec, ↓nrm_r, ↓ret_r, ↓res_t1, ↓one1]
    simp (maxSteps := 1000000) -implicitDefEqProofs only [c51T1, ↓x_cond, ↓e_t, ↓getK_same, ↓n_b]
    simp (maxSteps := 1000000) -implicitDefEqProofs only [c51T3, ↓x_seq, ↓x_dreg, ↓d_puN, ↓p_fad, ↓e_t, ne_eq, Nat.reduceEqDiff, not_false_eq_true, ↓getK_other, nx1, ↓getK_same, ↓n_p, ↓d_rdN, ↓m_ld, ↓e_l0, next_addO, ↓ga_new2, Nat.zero_add, Nat.reduceLT, ↓m_st0, nx2, ↓ga_old, ↓p_nilck, ↓n_pf, hqn1, hqn, ↓t_get hq, ↓t_get c3, ↓p_bin, ↓e_l4, ↓a1, ↓d_puS, ↓p_mv, ↓d_nil, ↓rev_nil, beq_dec, decide_true, k_nil, ↓nrm_n, and_t]
    simp (maxSteps := 1000000) -implicitDefEqProofs only [c51T4, ↓x_cond, ↓e_t, ↓getK_same, ↓n_b]
    simp (maxSteps := 1000000) -implicitDefEqProofs only [c51T5, ↓x_seq, ↓x_dreg, ↓d_puN, ↓p_fad, ↓e_t, ne_eq, Nat.reduceEqDiff, not_false_eq_true, ↓getK_other, nx1, ↓getK_same, ↓n_p, ↓d_rdN, ↓m_ld, ↓e_l0, next_addO, ↓ga_new2, Nat.zero_add, Nat.reduceLT, ↓m_st0, ↓p_bin, ↓e_c, ↓a2, ↓p_mv, ↓d_gtpuN, ↓g_b, ↓d_gtrdN, ↓e_l1, ↓e_l2, nx2, ↓ga_old, ↓e_l3, ↓p_nilck, ↓n_pf, ↓e_l4, ↓e_l5, hqn1, hqn, ↓t_get hq, ↓t_get c3, ↓e_l6, ↓a3, ↓p_pick, ↓e_l7, ↓n_b, ↓d_puS, ↓d_nil, ↓rev_nil, beq_dec, decide_true, k_nil, ↓nrm_n, ↓x_ret, and_t]
    rfl
  · exact ⟨c, by simp [get_add, next_addO, hqn, hqn1, hq], c2, c3⟩
  · exact (hs.add _).add _
  · exact ((Kp.add h _ []).trans (Kp.add _ _ []) (fun i hi _ => hi)).mono (by simp)

/-- What a call of 'ref' comes to. -/
def KRun (bs : List Bl) (N q : Nat) (vb : AV) (m : Nat) (R : Rf → Nat → Nat → Prop) : Prop :=
  ∀ (r : Rf) (n n' : Nat) (h : Heap), KR h q vb n → BlksR h N vb bs → Sc h → N ≤ h.next → R r n n' →
    ∃ h', (∀ k : KH, cal m 51 [.p q 0 0, .agg [.b r.1, iv r.2]] h k = k (.b true) h') ∧ KR h' q vb n' ∧ Sc h' ∧ Kp h h' [q]
/-- The function that is handed on. -/
theorem kFun {m : Nat} {R : Rf → Nat → Nat → Prop} (hNq : N ≤ q) (IH : KRun bs N q vb m R) {b0 : Nat} {cb : T AV} {h : Heap} (hb : h.tr.get b0 = some (.st cb 1)) (hc : cb.get 0 = some (.p q 0 0)) (hne : b0 ≠ q) {r : Rf} {n n' : Nat} (c : KR h q vb n) (rb : BlksR h N vb bs) (hs : Sc h) (hN : N ≤ h.next) (hR : R r n n') :
    ∃ h', (∀ k : KH, cal (m + 1) 58 [.agg [.b r.1, iv r.2], .p b0 0 0] h k = k (.b false) h') ∧ KR h' q vb n' ∧ Sc h' ∧ Kp h h' [q] := by
  obtain ⟨H, hH⟩ : ∃ x, x = addO h (.st (T.set (iv r.2) (T.set (.b r.1) .e 0) 1) 2) := ⟨_, rfl⟩
  have s2 : Sc H := by rw [hH]; exact hs.add _
  have k2 : Kp h H [] := by rw [hH]; exact Kp.add h _ []
  have lo2 := Lo.of k2 hN (fun i hi => by simp at hi)
  obtain ⟨c, hq, c2, c3⟩ := c
  obtain ⟨h', e, c', s', k'⟩ := IH r n n' H ⟨c, k2.get hs hq (by simp), c2, c3⟩ (rb.keep lo2) s2 (Nat.le_trans hN k2.1) hR
  have hbn : b0 ≠ h.next := Nat.ne_of_lt (hs _ _ hb)
  rw [hH] at e
  refine ⟨h', fun k => ?_, c', s', (k2.mono (by simp)).trans k' (fun i hi _ => hi)⟩
  rw [run58]; simp only [ofL_cons, ofL_nil, Nat.zero_add, Nat.reduceAdd]
  simp (maxSteps := 1000000) -implicitDefEqProofs only [c58, ↓x_seq, ↓x_reg, ↓o_consS, ↓r_al, ↓m_box, ↓e_t, ne_eq, nx1, not_false_eq_true, ↓getK_other, ↓getK_same, ↓r_pu, ↓p_mv, ↓e_c, ↓o_nil, ↓nrm_n, ↓o_consN, ↓r_rd, ↓m_ld, nx2, ↓n_p, hbn, ↓ga_old, ↓t_get hb, Nat.reduceLT, ↓m_st0, ↓t_get hc, ↓m_ldn, ↓ga_new2, ↓rds_2, ↓c_agg, len_2, ofL_cons, ↓ofL_nil, Nat.zero_add, ↓r_ef, ↓m_callf, ↓es_cons, ↓e_l1, ↓e_l0, ↓es_nil, ↓p_not, ↓x_ret, ↓ret_r, ↓res_t1, ↓one1, ↓e, ↓n_b, ↓nn_t]

def F60 (fr : Fr) (kv : AV) (b0 L j : Nat) : Prop := fr.get 0 = some kv ∧ fr.get 1 = some (.f 58 [] [.p b0 0 0]) ∧ fr.get 7 = some (iv L) ∧ fr.get 8 = some (iv j)
theorem kStep {h h' : Heap} {b0 : Nat} {kv : AV} {ks : List Rf} (rk : KidsR h N kv ks) {j : Nat} {r : Rf} (hj : ks[j]? = some r) (hsz : ks.length ≤ 10) {fr : Fr} (F : F60 fr kv b0 ks.length j) {m : Nat}
    (e : ∀ k : KH, cal m 58 [.agg [.b r.1, iv r.2], .p b0 0 0] h k = k (.b false) h') (f : Nat) :
    ∃ fr', (∀ k, iter (exec (cal m) c60L0) (f + 1) fr h k = iter (exec (cal m) c60L0) f fr' h' k) ∧ F60 fr' kv b0 ks.length (j + 1) := by
  obtain ⟨f0, f1, f7, f8⟩ := F
  have hjl : j < ks.length := (List.getElem?_eq_some_iff.1 hj).1
  have a1 := fun k => b_lssT (a := (j : Int)) (b := (ks.length : Int)) (by omega) k
  have a2 := fun k => b_add (a := (j : Int)) (b := 1) (by omega) (by omega) k
  have a3 : decide (j + 1 ≤ ks.length) = true := decide_eq_true hjl
  rcases rk with ⟨rfl, _⟩ | ⟨id, t, off, cap, o, rfl, hi, ho, hr⟩
  · simp at hj
  obtain ⟨r1, r2⟩ := hr j r hj
  apply Exists.intro
  refine ⟨fun k => ?_, ?_, ?_, ?_, ?_⟩
  · rw [it_succ]
    simp (maxSteps := 1000000) -implicitDefEqProofs only [c60L0, ↓x_seq, ↓x_reg, ↓o_consS, ↓r_pu, ↓p_bin, ↓e_t, ↓t_get f8, ↓t_get f7, ↓a1, ↓o_nil, ↓nrm_n]
    simp (maxSteps := 1000000) -implicitDefEqProofs only [c60T2, ↓x_seq, ↓x_cond, ↓e_t, ↓getK_same, ↓n_b, ↓x_skip, ↓nrm_n]
    simp (maxSteps := 1000000) -implicitDefEqProofs only [c60T3, ↓x_seq, ↓x_block, ↓x_reg, ↓o_consN, ↓r_pu, ↓p_mv, ↓e_t, ne_eq, nx1, not_false_eq_true, ↓getK_other, ↓t_get f8, ↓o_consS, ↓e_l0, ↓o_nil, ↓nrm_n, ↓p_bin, ↓e_c, ↓nrm_e, beq_dec, ↓nrm_r]
    simp (maxSteps := 1000000) -implicitDefEqProofs only [c60T4, ↓x_seq, ↓x_reg, ↓o_consN, ↓r_pu, ↓p_mv, ↓e_t, ne_eq, Nat.reduceEqDiff, not_false_eq_true, ↓getK_other, ↓t_get f1, reduceCtorEq, ↓t_get f0, ↓getK_same, ↓p_iad, ↓e_l1, ↓n_sl, ↓evN_of, ↓e_l0, ↓n_i, ↓int_n, ble_dec, a3, ↓r_rd, ↓m_ldn, ↓n_p, ↓t_get ho, ↓rds_2, ↓r1, ↓r2, ↓o_consS, ↓r_ef, ↓m_callv, ↓e_l4, ↓n_f, ↓es_cons, ↓es_nil, ↓ap_cl, List.cons_append, List.nil_append, ↓o_nil, ↓nrm_n, ↓x_cond, ↓x_skip, nx1, ↓t_get f8, ↓a2, ↓x_ret, ↓e, ↓n_b, i_t]
    rfl
  all_goals simp only [get_same, get_other, ne_eq, Nat.reduceEqDiff, not_false_eq_true, f0, f1, f7]
  rfl
theorem kLoop {m : Nat} {R : Rf → Nat → Nat → Prop} (hNq : N ≤ q) (IH : KRun bs N q vb m R) {b0 : Nat} {cb : T AV} {kv : AV} {ks : List Rf} (hc : cb.get 0 = some (.p q 0 0)) (hne : b0 ≠ q) (hsz : ks.length ≤ 10) (f : Nat) :
    ∀ (d j n n' : Nat) (h : Heap) (fr : Fr), j + d = ks.length → h.tr.get b0 = some (.st cb 1) → KidsR h N kv ks → F60 fr kv b0 ks.length j → KR h q vb n → BlksR h N vb bs → Sc h → N ≤ h.next → OKs R (ks.drop j) n n' →
      ∃ fr' h', (∀ k, iter (exec (cal (m + 1)) c60L0) (d + (f + 1)) fr h k = k (.exit 0) fr' h') ∧ KR h' q vb n' ∧ Sc h' ∧ Kp h h' [q]
  | 0, j, n, n', h, fr, hd, hb, rk, F, c, rb, hs, hN, ho => by
    obtain ⟨f0, f1, f7, f8⟩ := F
    have hj : j = ks.length := by omega
    subst hj
    rw [List.drop_length] at ho
    have ho : n' = n := ho
    subst ho
    have a1 := fun k => b_lssF (a := (ks.length : Int)) (b := (ks.length : Int)) (by omega) k
    apply Exists.intro
    refine ⟨h, fun k => ?_, c, hs, Kp.refl _ _⟩
    rw [Nat.zero_add, it_succ]
    simp (maxSteps := 1000000) -implicitDefEqProofs only [c60L0, ↓x_seq, ↓x_reg, ↓o_consS, ↓r_pu, ↓p_bin, ↓e_t, ↓t_get f8, ↓t_get f7, ↓a1, ↓o_nil, ↓nrm_n]
    simp (maxSteps := 1000000) -implicitDefEqProofs only [c60T2, ↓x_seq, ↓x_cond, ↓e_t, ↓getK_same, ↓n_b, ↓x_exit, ↓nrm_e]
    rfl
  | d + 1, j, n, n', h, fr, hd, hb, rk, F, c, rb, hs, hN, ho => by
    have hj : ks[j]? = some ks[j] := List.getElem?_eq_getElem (by omega)
    rw [List.drop_eq_getElem_cons (by omega)] at ho
    obtain ⟨n1, o1, o2⟩ := ho
    obtain ⟨h1, e1, c1, s1, k1⟩ := kFun hNq IH hb hc hne c rb hs hN o1
    obtain ⟨fr1, e2, F1⟩ := kStep rk hj hsz F e1 (d + (f + 1))
    have lo := Lo.of k1 hN (fun i hi => by simp at hi; omega)
    obtain ⟨fr', h', e3, c3, s3, k3⟩ := kLoop hNq IH hc hne hsz f d (j + 1) n1 n' h1 fr1 (by omega) (k1.get hs hb (by simp [hne])) (rk.keep lo) F1 c1 (rb.keep lo) s1 (Nat.le_trans hN k1.1) o2
    refine ⟨fr', h', fun k => ?_, c3, s3, k1.trans k3 (fun i hi _ => hi)⟩
    rw [show d + 1 + (f + 1) = d + (f + 1) + 1 from by omega, e2, e3]
/-- Are all kids as they may be? -/
theorem kAll {m : Nat} {R : Rf → Nat → Nat → Prop} (hNq : N ≤ q) (IH : KRun bs N q vb m R) {b0 : Nat} {cb : T AV} {kv : AV} {ks : List Rf} {h : Heap} (hb : h.tr.get b0 = some (.st cb 1)) (hc : cb.get 0 = some (.p q 0 0)) (hne : b0 ≠ q) (hsz : ks.length ≤ 10)
    (rk : KidsR h N kv ks) {n n' : Nat} (c : KR h q vb n) (rb : BlksR h N vb bs) (hs : Sc h) (hN : N ≤ h.next) (ho : OKs R ks n n') :
    ∃ h', (∀ k : KH, cal (m + 3) 57 [kv, .f 58 [] [.p b0 0 0]] h k = k (.b false) h') ∧ KR h' q vb n' ∧ Sc h' ∧ Kp h h' [q] := by
  obtain ⟨fr, hfr⟩ : ∃ x : Fr, x = T.set (iv 0) (T.set (iv ks.length) (T.set (iv 0) (T.set (.f 58 [] [.p b0 0 0]) (T.set kv .e 0) 1) 4) 7) 8 := ⟨_, rfl⟩
  have F : F60 fr kv b0 ks.length 0 := by
    refine ⟨?_, ?_, ?_, ?_⟩ <;> rw [hfr] <;> simp only [get_other, get_same, ne_eq, Nat.reduceEqDiff, not_false_eq_true]
    rfl
  obtain ⟨fr', h', e, c', s', k'⟩ := kLoop hNq IH hc hne hsz (1000000 - ks.length - 1) ks.length 0 n n' h fr (by omega) hb rk F c rb hs hN (by rw [List.drop_zero]; exact ho)
  rw [show ks.length + (1000000 - ks.length - 1 + 1) = 1000000 from by omega, hfr] at e
  have hl := fun k => rk.len k
  have e60 : ∀ k : KH, cal (m + 2) 60 [kv, .f 58 [] [.p b0 0 0]] h k = k (iv (-1)) h' := fun k => by
    rw [run60]; simp only [ofL_cons, ofL_nil, Nat.zero_add, Nat.reduceAdd]
    simp (maxSteps := 1000000) -implicitDefEqProofs only [c60, ↓x_seq, ↓x_reg, ↓o_consS, ↓r_pu, ↓p_mv, ↓e_c, ↓o_nil, ↓nrm_n]
    simp (maxSteps := 1000000) -implicitDefEqProofs only [c60T0, ↓x_seq, ↓x_reg, ↓o_consN, ↓r_pu, ↓p_mv, ↓e_t, ne_eq, reduceCtorEq, not_false_eq_true, ↓getK_other, nx1, ↓getK_same, ↓o_consS, ↓p_len, ↓e_l0, ↓hl, ↓e_c, ↓o_nil, ↓nrm_n, ↓x_ret, ↓ret_r, ↓res_t1, ↓one1]
    simp (maxSteps := 1000000) -implicitDefEqProofs only [c60T1, ↓x_block, ↓x_loop, ↓e, ↓rec_bb, ↓nrm_n]
  have a1 := fun k => b_geqF (a := -1) (b := 0) (by omega) k
  refine ⟨h', fun k => ?_, c', s', k'⟩
  rw [run57]; simp only [ofL_cons, ofL_nil, Nat.zero_add, Nat.reduceAdd]
  simp (maxSteps := 1000000) -implicitDefEqProofs only [c57, ↓x_seq, ↓x_reg, ↓o_consS, ↓r_pu, ↓p_mv, ↓e_c, ↓o_nil, ↓nrm_n, ↓o_consN, ↓e_t, ne_eq, reduceCtorEq, not_false_eq_true, ↓getK_other, nx1, ↓getK_same, Nat.reduceEqDiff, ↓r_ef, ↓m_callf, ↓es_cons, ↓e_l1, ↓e_l0, ↓es_nil, ↓e60, ↓p_bin, ↓a1, ↓x_ret, ↓ret_r, ↓res_t1, ↓one1]
end
end Go.Proofs.Ytodlgflkhcknaaa.gcc

/- The package's look at a graph, whole. -/
namespace Go.Proofs.Ytodlgflkhcknaaa.gcc
open Go Go.AE
set_option linter.unusedSimpArgs false
set_option maxRecDepth 100000

section
variable {N q : Nat} {vb : AV} {bs : List Bl}

/-- Behind a new block's copy. -/
theorem kBlock {m n n' : Nat} {R : Rf → Nat → Nat → Prop} (hNq : N ≤ q) (IH : KRun bs N q vb m R) {h : Heap} {b0 bx : Nat} {cb cx : T AV} {b : Bl} {kv : AV} {fr : Fr}
    (c : KR h q vb (n + 1)) (rb : BlksR h N vb bs) (hs : Sc h) (hN : N ≤ h.next) (rk : KidsR h N kv b.kids) (hb0 : h.tr.get b0 = some (.st cb 3)) (hbx : h.tr.get bx = some (.st cx 1)) (hcx : cx.get 0 = some (.p q 0 0)) (hnx : bx ≠ q)
    (q2 : cb.get 0 = some (iv b.tag)) (q3 : cb.get 1 = some (.s b.sn b.sv)) (q4 : cb.get 2 = some kv) (f2 : fr.get 2 = some (.p bx 0 0)) (f5 : fr.get 5 = some (.p b0 0 0)) (hg : goodB b) (ho : OKs R b.kids (n + 1) n') :
    ∃ h', (∀ k : KH, exec (cal (m + 3)) c51T9 fr h (retK [.tmp 4] k) = k (.b true) h') ∧ KR h' q vb n' ∧ Sc h' ∧ Kp h h' [q] := by
  obtain ⟨kc, ko, ksm⟩ := rk.cells
  obtain ⟨g1, g2⟩ := hg
  have hkl := fun k => rk.len k
  have hsz : b.kids.length ≤ 10 := by have := kidsOf_le b.tag; omega
  obtain ⟨h', e, c', s', k'⟩ := kAll hNq IH hbx hcx hnx hsz rk c rb hs hN ho
  have d1 := fun h k => sKids b.tag (m + 2) h k
  have b1 := fun k => b_neqF (a := (b.kids.length : Int)) (b := kidsOf b.tag) g1.symm k
  refine ⟨h', fun k => ?_, c', s', k'⟩
  by_cases g3 : b.tag = 1
  · have b3 := fun k => b_neqF (a := b.tag) (b := 1) g3 k
    simp (maxSteps := 1000000) -implicitDefEqProofs only [c51T9, ↓x_seq, ↓x_dreg, ↓d_puN, ↓p_fad, ↓e_t, ↓t_get f5, ↓n_p, ↓d_rdN, ↓m_ld, ↓e_l0, ↓t_get hb0, Nat.zero_add, Nat.reduceLT, ↓m_st0, ↓t_get q4, ↓p_len, ↓hkl, ↓t_get q2, ↓d_efN, ↓m_callf, ↓es_cons, ↓es_nil, ↓d1, ↓p_bin, ↓e_l3, ↓b1, ↓p_mv, ↓d_gpuN, ↓g_b, ↓d_grdN, ↓e_l1, ↓e_l2, ↓e_c, ↓b3, ↓d_gtpuN, ↓d_gtrdN, ↓e_l7, ↓p_pick, ↓n_b, ↓d_puS, ↓e_l8, ↓d_nil, ↓rev_cons, ↓rev_nil, beq_dec, nx1, decide_false, decide_true, ↓beq11, k_cons, ↓ka_cons, ble_dec, Nat.zero_le, i_t, ksm, Nat.reduceLeDiff, ↓ka_nil, and_t, ↓k_nil, ↓nrm_n, ↓x_cond, ↓getK_same, ↓x_skip]
    simp (maxSteps := 1000000) -implicitDefEqProofs only [c51T10, ↓x_seq, ↓x_reg, ↓o_consN, ↓r_pu, ↓p_fad, ↓e_t, ne_eq, Nat.reduceEqDiff, not_false_eq_true, ↓getK_other, ↓t_get f5, ↓n_p, ↓r_rd, ↓m_ld, ↓e_l0, ↓t_get hb0, Nat.zero_add, Nat.reduceLT, ↓m_st0, ↓t_get q4, ↓p_mkf, ↓es_cons, ↓t_get f2, ↓es_nil, ↓r_ef, ↓m_callf, ↓e_l1, ↓e, ↓p_not, ↓n_b, ↓o_consS, ↓p_mv, ↓o_nil, ↓nrm_n, ↓x_ret, ↓ret_r, ↓res_t1, ↓getK_same, ↓one1, ↓nn_f]
  · have b3 := fun k => b_neqT (a := b.tag) (b := 1) g3 k
    obtain ⟨g4, g5⟩ : b.sn = 0 ∧ b.sv = 0 := by
      rcases g2 with g2 | g2
      · exact g2
      · exact absurd g2 g3
    rw [g4, g5] at q3
    have b2 : ∀ k, kBin .neq (.s 0 0) (.s 0 0) k = k (.b false) := fun k => rfl
    simp (maxSteps := 1000000) -implicitDefEqProofs only [c51T9, ↓x_seq, ↓x_dreg, ↓d_puN, ↓p_fad, ↓e_t, ↓t_get f5, ↓n_p, ↓d_rdN, ↓m_ld, ↓e_l0, ↓t_get hb0, Nat.zero_add, Nat.reduceLT, ↓m_st0, ↓t_get q4, ↓p_len, ↓hkl, ↓t_get q2, ↓d_efN, ↓m_callf, ↓es_cons, ↓es_nil, ↓d1, ↓p_bin, ↓e_l3, ↓b1, ↓p_mv, ↓d_gpuN, ↓g_b, ↓d_grdN, ↓e_l1, ↓e_l2, ↓e_c, ↓b3, ↓d_gtpuN, ↓d_gtrdN, ↓t_get q3, ↓b2, ↓e_l7, ↓p_pick, ↓n_b, ↓d_puS, ↓e_l8, ↓d_nil, ↓rev_cons, ↓rev_nil, beq_dec, nx1, decide_false, decide_true, ↓beq11, k_cons, ↓ka_cons, ble_dec, Nat.zero_le, i_t, ksm, Nat.reduceLeDiff, ↓ka_nil, and_t, ↓k_nil, ↓nrm_n, ↓x_cond, ↓getK_same, ↓x_skip]
    simp (maxSteps := 1000000) -implicitDefEqProofs only [c51T10, ↓x_seq, ↓x_reg, ↓o_consN, ↓r_pu, ↓p_fad, ↓e_t, ne_eq, Nat.reduceEqDiff, not_false_eq_true, ↓getK_other, ↓t_get f5, ↓n_p, ↓r_rd, ↓m_ld, ↓e_l0, ↓t_get hb0, Nat.zero_add, Nat.reduceLT, ↓m_st0, ↓t_get q4, ↓p_mkf, ↓es_cons, ↓t_get f2, ↓es_nil, ↓r_ef, ↓m_callf, ↓e_l1, ↓e, ↓p_not, ↓n_b, ↓o_consS, ↓p_mv, ↓o_nil, ↓nrm_n, ↓x_ret, ↓ret_r, ↓res_t1, ↓getK_same, ↓one1, ↓nn_f]

theorem kNew {m n n' : Nat} {R : Rf → Nat → Nat → Prop} (hNq : N ≤ q) (IH : KRun bs N q vb m R) {h : Heap} (c : KR h q vb n) (rb : BlksR h N vb bs) (hs : Sc h) (hN : N ≤ h.next) (hlen : (bs.length : Int) < 4611686018427387904) {b : Bl} (hb : bs[n]? = some b) (hg : goodB b) (ho' : OKs R b.kids (n + 1) n') :
    ∃ h', (∀ k : KH, cal (m + 4) 51 [.p q 0 0, .agg [.b false, iv n]] h k = k (.b true) h') ∧ KR h' q vb n' ∧ Sc h' ∧ Kp h h' [q] := by
  have hnl : n < bs.length := (List.getElem?_eq_some_iff.1 hb).1
  have rb0 := rb
  obtain ⟨c, hq, c2, c3⟩ := c
  have hqn : q ≠ h.next := Nat.ne_of_lt (hs _ _ hq)
  have hqn1 : q ≠ h.next + 1 := by have := hs _ _ hq; omega
  have hqn2 : q ≠ h.next + 1 + 1 := by have := hs _ _ hq; omega
  have hl := fun k => rb.len k
  have a1 := fun k => b_neqF (a := (n : Int)) (b := (n : Int)) rfl k
  have a3 := fun k => b_geqF (a := (n : Int)) (b := (bs.length : Int)) (by omega) k
  have a5 := fun k => b_add (a := (n : Int)) (b := 1) (by omega) (by omega) k
  rcases rb with ⟨rfl, _⟩ | ⟨id, t, off, cap, o, rfl, hi, ho, hr⟩
  · simp at hb
  obtain ⟨r1, r2, kv, r3, rk⟩ := hr n b hb
  obtain ⟨kc, ko, ksm⟩ := rk.cells
  have a6 : decide (n + 1 ≤ bs.length) = true := decide_eq_true hnl
  have hidq : id ≠ q := by omega
  have hidn : id ≠ h.next := by omega
  have hidn1 : id ≠ h.next + 1 := by omega
  have hidn2 : id ≠ h.next + 1 + 1 := by omega
  obtain ⟨cb, hcb⟩ : ∃ x : T AV, x = T.set kv (T.set (.s b.sn b.sv) (T.set (iv b.tag) (T.set .nils (T.set (.s 0 0) (T.set (iv 0) .e 0) 1) 2) 0) 1) 2 := ⟨_, rfl⟩
  obtain ⟨H3, hH3⟩ : ∃ x, x = addO (addO (addO h (.st (T.set (.p q 0 0) .e 0) 1)) (.st (T.set (iv n) (T.set (.b false) .e 0) 1) 2)) (.st (T.set .nils (T.set (.s 0 0) (T.set (iv 0) .e 0) 1) 2) 3) := ⟨_, rfl⟩
  obtain ⟨H, hH⟩ : ∃ x, x = updO (updO H3 (h.next + 1 + 1) (.st cb 3)) q (.st (c.set (iv ((n : Int) + 1)) 3) 4) := ⟨_, rfl⟩
  obtain ⟨fr, hfr⟩ : ∃ x : Fr, x = T.set (.p (h.next + 1 + 1) 0 0) (T.set (.b false) (T.set (.b false) (T.set (.b false) (T.set (.b false) (T.set (.p (h.next + 1) 0 0) (T.set (.p h.next 0 0) (T.set (.agg [.b false, iv n]) (T.set (.p q 0 0) .e 0) 1) 2) 3) 4) 6) 17) 37) 5 := ⟨_, rfl⟩
  have s3 : Sc H3 := by rw [hH3]; exact ((hs.add _).add _).add _
  have k3 : Kp h H3 [q] := by rw [hH3]; exact (((Kp.add h _ []).trans (Kp.add _ _ []) (fun i hi _ => hi)).trans (Kp.add _ _ []) (fun i hi _ => hi)).mono (by simp)
  have g3 : H3.tr.get (h.next + 1 + 1) = some (.st (T.set .nils (T.set (.s 0 0) (T.set (iv 0) .e 0) 1) 2) 3) := by rw [hH3, get_add]; exact if_pos rfl
  have s3' := s3.upd g3 (.st cb 3)
  have q3' : (updO H3 (h.next + 1 + 1) (.st cb 3)).tr.get q = some (.st c 4) := by rw [get_upd, if_neg hqn2, hH3]; simp [get_add, next_addO, hqn, hqn1, hqn2, hq]
  have s4 : Sc H := by rw [hH]; exact s3'.upd q3' _
  have k4 : Kp h H [q] := by
    rw [hH]
    exact (k3.trans (Kp.upd _ _ _) (fun i hi hl => by simp at hi; omega)).trans (Kp.upd _ _ _) (fun i hi _ => hi)
  have lo4 := Lo.of k4 hN (fun i hi => by simp at hi; omega)
  have hb4 : H.tr.get (h.next + 1 + 1) = some (.st cb 3) := by rw [hH, get_upd, if_neg (Ne.symm hqn2), get_upd, if_pos rfl]
  have hx4 : H.tr.get h.next = some (.st (T.set (.p q 0 0) .e 0) 1) := by rw [hH, get_upd, if_neg (Ne.symm hqn), get_upd, if_neg (by omega), hH3]; simp [get_add, next_addO]; omega
  have cr4 : KR H q (.sl id t off bs.length cap 3) (n + 1) := ⟨c.set (iv ((n : Int) + 1)) 3, by rw [hH, get_upd, if_pos rfl], by rw [get_other _ _ (by decide)]; exact c2, by rw [get_same]; rfl⟩
  have first : ∀ k : KH, cal (m + 4) 51 [.p q 0 0, .agg [.b false, iv n]] h k = exec (cal (m + 3)) c51T9 fr H (retK [.tmp 4] k) := fun k => by
    rw [hH, hH3, hfr, hcb, run51]; simp only [ofL_cons, ofL_nil, Nat.zero_add, Nat.reduceAdd]
    simp (maxSteps := 1000000) -implicitDefEqProofs only [c51, ↓x_seq, ↓x_reg, ↓o_consS, ↓r_al, ↓m_box, ↓e_t, ne_eq, nx1, not_false_eq_true, ↓getK_other, ↓getK_same, ↓r_pu, ↓p_mv, ↓e_c, ↓o_nil, ↓nrm_n, ↓c_p, ofL_cons, ↓ofL_nil, len_1, next_addO, ↓c_agg, Nat.zero_add, len_2]
    simp (maxSteps := 1000000) -implicitDefEqProofs only [c51T0, ↓x_seq, ↓x_block, ↓x_reg, ↓o_consN, ↓r_pu, ↓p_fad, ↓e_t, ne_eq, nx1, not_false_eq_true, ↓getK_other, ↓getK_same, ↓n_p, ↓r_rd, ↓m_ld, ↓e_l0, next_addO, ↓ga_new2, Nat.zero_add, Nat.reduceLT, ↓m_st0, ↓o_consS, ↓p_mv, ↓o_nil, ↓nrm_n, ↓nrm_e, beq_dec, ↓nrm_r, ↓ret_r, ↓res_t1, ↓one1]
    simp (maxSteps := 1000000) -implicitDefEqProofs only [c51T1, ↓x_cond, ↓e_t, ↓getK_same, ↓n_b]
    simp (maxSteps := 1000000) -implicitDefEqProofs only [c51T3, ↓x_seq, ↓x_dreg, ↓d_puN, ↓p_fad, ↓e_t, ne_eq, Nat.reduceEqDiff, not_false_eq_true, ↓getK_other, nx1, ↓getK_same, ↓n_p, ↓d_rdN, ↓m_ld, ↓e_l0, next_addO, ↓ga_new2, Nat.zero_add, Nat.reduceLT, ↓m_st0, nx2, ↓ga_old, ↓p_nilck, ↓n_pf, hqn1, hqn, ↓t_get hq, ↓t_get c3, ↓p_bin, ↓e_l4, ↓a1, ↓d_puS, ↓p_mv, ↓d_nil, ↓rev_nil, beq_dec, decide_true, k_nil, ↓nrm_n, and_t]
    simp (maxSteps := 1000000) -implicitDefEqProofs only [c51T4, ↓x_cond, ↓e_t, ↓getK_same, ↓n_b]
    simp (maxSteps := 1000000) -implicitDefEqProofs only [c51T6, ↓x_seq, ↓x_dreg, ↓d_rdN, ↓m_ld, ↓e_t, ne_eq, Nat.reduceEqDiff, not_false_eq_true, ↓getK_other, nx2, nx1, ↓getK_same, ↓n_p, next_addO, ↓ga_old, ↓ga_new2, Nat.reduceLT, ↓m_st0, ↓d_puN, ↓p_nilck, ↓e_l0, ↓n_pf, ↓p_fad, hqn1, hqn, ↓t_get hq, Nat.zero_add, ↓t_get c3, ↓t_get c2, ↓p_len, ↓hl, ↓p_bin, ↓e_l6, ↓a3, ↓d_puS, ↓p_mv, ↓d_nil, ↓rev_nil, beq_dec, decide_true, k_nil, ↓nrm_n, ↓x_cond, ↓n_b, ↓x_skip, and_t]
    simp (maxSteps := 1000000) -implicitDefEqProofs only [c51T7, ↓x_seq, ↓x_dreg, ↓d_rdN, ↓m_ld, ↓e_t, ne_eq, Nat.reduceEqDiff, not_false_eq_true, ↓getK_other, nx2, nx1, ↓getK_same, ↓n_p, next_addO, ↓ga_old, ↓ga_new2, Nat.reduceLT, ↓m_st0, ↓d_puN, ↓p_nilck, ↓e_l0, ↓n_pf, ↓p_fad, hqn1, hqn, ↓t_get hq, Nat.zero_add, ↓t_get c2, ↓t_get c3, ↓p_iad, ↓e_l4, ↓n_sl, ↓evN_of, ↓n_i, ↓int_n, ble_dec, a6, ↓m_ldn, hidn1, hidn, ↓t_get ho, ↓rds_3, ↓r1, ↓r2, ↓r3, ↓d_alS, ↓m_new, ↓d_efN, ↓m_store, ↓e_l1, ↓c_agg, len_3, beq_dec, decide_true, ↓ofL_cons, ↓ofL_nil, Nat.reduceAdd, ↓d_nil, ↓rev_cons, ↓rev_nil, k_nil, ↓nrm_n, and_t, wrs_3, ↓one_i, ↓w_st, ↓one_s, ko, i_t]
    simp (maxSteps := 1000000) -implicitDefEqProofs only [c51T8, ↓x_seq, ↓x_reg, ↓o_consN, ↓r_rd, ↓m_ld, ↓e_t, ne_eq, Nat.reduceEqDiff, not_false_eq_true, ↓getK_other, nx2, nx1, ↓getK_same, ↓n_p, ↓gu_other, next_addO, ↓ga_old, ↓ga_new2, Nat.reduceLT, ↓m_st0, ↓r_pu, ↓p_nilck, ↓e_l0, ↓n_pf, ↓p_fad, hqn2, hqn1, hqn, ↓t_get hq, Nat.zero_add, ↓t_get c3, ↓p_bin, ↓e_c, ↓a5, ↓e_l4, ↓r_ef, ↓m_store, ↓e_l2, ↓c_i, len_1, beq_dec, decide_true, ↓o_nil, ↓nrm_n, ↓wrs1, ↓one_i, ↓w_st, i_t]
  have q2 : cb.get 0 = some (iv b.tag) := by rw [hcb]; simp only [get_other, get_same, ne_eq, Nat.reduceEqDiff, not_false_eq_true]
  have q3 : cb.get 1 = some (.s b.sn b.sv) := by rw [hcb]; simp only [get_other, get_same, ne_eq, Nat.reduceEqDiff, not_false_eq_true]
  have q4 : cb.get 2 = some kv := by rw [hcb]; simp only [get_same]
  have f2 : fr.get 2 = some (.p h.next 0 0) := by rw [hfr]; simp only [get_other, get_same, ne_eq, Nat.reduceEqDiff, not_false_eq_true]
  have f5 : fr.get 5 = some (.p (h.next + 1 + 1) 0 0) := by rw [hfr]; simp only [get_same]
  obtain ⟨h', e, g1, g2, g4⟩ := kBlock hNq IH cr4 (rb0.keep lo4) s4 (Nat.le_trans hN k4.1) (rk.keep lo4) hb4 hx4 (get_same _ _ _) (Ne.symm hqn) q2 q3 q4 f2 f5 hg ho'
  exact ⟨h', fun k => (first k).trans (e k), g1, g2, k4.trans g4 (fun i hi _ => hi)⟩

theorem kRef (hNq : N ≤ q) (hlen : (bs.length : Int) < 4611686018427387904) : ∀ (f : Nat), KRun bs N q vb (4 * f + 1) (OKr bs f)
  | 0 => fun r n n' h c rb hs hN ho => ho.elim
  | f + 1 => fun r n n' h c rb hs hN ho => by
    obtain ⟨imm, x⟩ := r
    rcases ho with ⟨rfl, h2, rfl⟩ | ⟨rfl, h2, h3, rfl⟩ | ⟨rfl, h2, b, h3, h4, h5⟩
    · exact kImm c hs h2 (4 * f + 4)
    · exact kOld c hs h2 h3 (4 * f + 4)
    · have h2 : x = n := h2
      subst h2
      exact kNew hNq (kRef hNq hlen f) c rb hs hN hlen h3 h4 h5

/-- A graph that the document takes is taken. -/
theorem sIs {h : Heap} {ri : Bool} {rn : Int} (rb : BlksR h N vb bs) (hs : Sc h) (hN : N ≤ h.next) (hlen : (bs.length : Int) < 4611686018427387904) (f : Nat) (ho : OKr bs f (ri, rn) 0 bs.length) :
    ∃ h', (∀ k : KH, cal (4 * f + 2) 40 [.agg [.b ri, iv rn, vb]] h k = k (.b true) h') ∧ Sc h' ∧ Kp h h' [] := by
  obtain ⟨kc, ko, ksm⟩ := rb.cells
  obtain ⟨box, hbox⟩ : ∃ x : Go.AE.Obj, x = .st (T.set vb (T.set (iv rn) (T.set (.b ri) .e 0) 1) 2) 3 := ⟨_, rfl⟩
  obtain ⟨cc, hcc⟩ : ∃ x : T AV, x = T.set (iv 0) (T.set vb (T.set (iv rn) (T.set (.b ri) .e 0) 1) 2) 3 := ⟨_, rfl⟩
  obtain ⟨H, hH⟩ : ∃ x, x = addO (addO h box) (.st cc 4) := ⟨_, rfl⟩
  obtain ⟨fr, hfr⟩ : ∃ x : Fr, x = T.set (.p (h.next + 1) 0 0) (T.set (.b false) (T.set (.p h.next 0 0) (T.set (.agg [.b ri, iv rn, vb]) .e 0) 1) 2) 3 := ⟨_, rfl⟩
  have s2 : Sc H := by rw [hH]; exact (hs.add _).add _
  have k2 : Kp h H [] := by rw [hH]; exact (Kp.add h box []).trans (Kp.add _ _ _) (fun i hi _ => hi)
  have lo2 := Lo.of k2 hN (fun i hi => by simp at hi)
  have hb : H.tr.get h.next = some box := by rw [hH]; simp [get_add, next_addO]
  have hq : H.tr.get (h.next + 1) = some (.st cc 4) := by rw [hH]; simp [get_add, next_addO]
  have cr : KR H (h.next + 1) vb 0 := by
    refine ⟨cc, hq, ?_, ?_⟩ <;> rw [hcc] <;> simp only [get_other, get_same, ne_eq, Nat.reduceEqDiff, not_false_eq_true]
    rfl
  have first : ∀ k : KH, cal (4 * f + 2) 40 [.agg [.b ri, iv rn, vb]] h k = exec (cal (4 * f + 1)) c40T1 fr H (retK [.tmp 2] k) := fun k => by
    rw [hH, hfr, hcc, hbox, run40]; simp only [ofL_cons, ofL_nil, Nat.zero_add, Nat.reduceAdd]
    simp (maxSteps := 1000000) -implicitDefEqProofs only [c40, ↓x_seq, ↓x_reg, ↓o_consS, ↓r_al, ↓m_box, ↓e_t, ↓getK_same, ↓r_pu, ↓p_mv, ↓e_c, ↓o_nil, ↓nrm_n, ↓c_agg, ofL_cons, ↓ofL_nil, Nat.zero_add, Nat.reduceAdd, len_3]
    simp (maxSteps := 1000000) -implicitDefEqProofs only [c40T0, ↓x_seq, ↓x_reg, ↓o_consN, ↓r_rd, ↓m_ldn, ↓e_t, ne_eq, nx1, not_false_eq_true, ↓getK_other, ↓getK_same, ↓n_p, ↓ga_new2, ↓rds_3, Nat.reduceLT, ↓m_st0, nx2, Nat.zero_add, Nat.reduceAdd, ↓r_pu, ↓p_bld, ↓fill_agg3, ↓e_l0, ↓c_agg, len_3, beq_dec, decide_true, ↓len_4, ble_dec, Nat.reduceLeDiff, ↓fill_nil, ↓r_al, ↓m_box, ↓o_consS, ↓p_mv, ↓o_nil, ↓nrm_n, next_addO, put_34, ofL_cons, ↓ofL_nil, i_t]
  have b0 : box = .st (T.set vb (T.set (iv rn) (T.set (.b ri) .e 0) 1) 2) 3 := hbox
  have f1 : fr.get 1 = some (.p h.next 0 0) := by rw [hfr]; simp only [get_other, get_same, ne_eq, Nat.reduceEqDiff, not_false_eq_true]
  have f3 : fr.get 3 = some (.p (h.next + 1) 0 0) := by rw [hfr]; simp only [get_same]
  clear hH hfr hcc hbox
  obtain ⟨h', e, c', s', k'⟩ := kRef (N := N) (q := h.next + 1) (vb := vb) (bs := bs) (by omega) hlen f (ri, rn) 0 bs.length H cr (rb.keep lo2) s2 (Nat.le_trans hN k2.1) ho
  obtain ⟨c1, g1, g2, g3⟩ := c'
  have hb' : h'.tr.get h.next = some box := k'.get s2 hb (by simp)
  have hl := fun k => rb.len k
  have e' : ∀ k : KH, cal (4 * f + 1) 51 [.p (h.next + 1) 0 0, .agg [.b ri, iv rn]] H k = k (.b true) h' := e
  subst b0
  have a1 := fun k => b_eqlT (a := (bs.length : Int)) (b := (bs.length : Int)) rfl k
  refine ⟨h', fun k => ?_, s', k2.trans k' (fun i hi hl => by simp at hi; omega)⟩
  rw [first]
  simp (maxSteps := 1000000) -implicitDefEqProofs only [c40T1, ↓x_seq, ↓x_dreg, ↓d_puN, ↓p_mv, ↓e_t, ↓t_get f3, ↓p_fad, ↓t_get f1, ↓n_p, ↓d_rdN, ↓m_ldn, ↓e_l0, ↓t_get hb, ↓rds_2, Nat.zero_add, Nat.reduceLT, ↓m_st0, ne_eq, nx2, not_false_eq_true, ↓getK_other, nx1, ↓getK_same, ↓d_efN, ↓m_callf, ↓es_cons, ↓e_l2, ↓es_nil, ↓e', ↓d_gtpuN, ↓g_b, ↓e_l1, ↓p_nilck, ↓n_pf, ↓d_gtrdN, ↓e_l3, ↓m_ld, ↓t_get g1, ↓t_get g3, ↓e_l4, ↓e_l5, ↓t_get hb', ↓e_l6, ↓p_len, ↓hl, ↓e_l7, ↓p_bin, ↓a1, ↓p_pick, ↓e_l8, ↓n_b, ↓d_puS, ↓d_nil, ↓rev_cons, ↓rev_nil, beq_dec, decide_true, ↓beq11, k_nil, ↓nrm_n, ↓x_ret, ↓ret_r, ↓res_t1, ↓one1, and_t]
end
end Go.Proofs.Ytodlgflkhcknaaa.gcc
