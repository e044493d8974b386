import Derived.Test.YtodlgflkhcknaaaSa
set_option linter.unusedVariables false
/- A string is put into a heap. -/
namespace Go.Proofs.Ytodlgflkhcknaaa.gcc
open Go Go.AE
set_option linter.unusedSimpArgs false
set_option maxRecDepth 100000

/-- A string's bytes as words. -/
def bytesW (n sv : Nat) : List Int := (List.range n).map fun i => 2 * (byteAt sv i : Int) + 1
theorem bytesW_get {n sv i : Nat} (h : i < n) : (bytesW n sv)[i]? = some (2 * (byteAt sv i : Int) + 1) := by
  unfold bytesW; rw [List.getElem?_map, List.getElem?_range h]; rfl
theorem bytesW_len (n sv : Nat) : (bytesW n sv).length = n := by simp [bytesW]
theorem byte_lt (v i : Nat) : byteAt v i < 256 := Nat.mod_lt _ (by decide)

section
variable {h : Heap} {p m : Nat} {size : Int} {L : List Cl}
def F44 (fr : Fr) (p q sn sv i : Nat) : Prop :=
  fr.get 0 = some (.p p 0 0) ∧ fr.get 1 = some (.s sn sv) ∧ fr.get 6 = some (.sl q 0 0 sn (some sn) 1) ∧ fr.get 12 = some (iv sn) ∧ fr.get 13 = some (iv i)
theorem step44 {q sn sv i : Nat} {cells : T AV} (hq : h.tr.get q = some (.st cells sn)) (hi : i < sn) (hn : sn ≤ 100000) {fr : Fr} (F : F44 fr p q sn sv i) (n f : Nat) :
    ∃ fr', (∀ k, iter (exec (cal (n + 1)) c44L0) (f + 1) fr h k = iter (exec (cal (n + 1)) c44L0) f fr' (updO h q (.st (cells.set (iv (2 * (byteAt sv i : Int) + 1)) i) sn)) k) ∧ F44 fr' p q sn sv (i + 1) := by
  obtain ⟨f0, f1, f6, f12, f13⟩ := F
  have hb := byte_lt sv i
  have a1 := fun k => b_lssT (a := (i : Int)) (b := (sn : Int)) (by omega) k
  have a2 := fun k => b_add (a := (i : Int)) (b := 1) (by omega) (by omega) k
  have a3 : decide (i + 1 ≤ sn) = true := decide_eq_true hi
  have a4 : IntKind.wrap .i64 ((byteAt sv i : Nat) : Int) = (byteAt sv i : Int) := w64 (by omega) (by omega)
  have a6 := fun h k => sInt (x := (byteAt sv i : Int)) ⟨by omega, by omega⟩ n h k
  have a5 : ∀ k, wrK (.st cells sn) 0 (i * 1) (iv (2 * (byteAt sv i : Int) + 1)) k = k (.st (cells.set (iv (2 * (byteAt sv i : Int) + 1)) i) sn) := fun k => by
    rw [Nat.mul_one]; exact w_st rfl hi k
  apply Exists.intro
  apply And.intro
  · intro k
    rw [it_succ]
    simp (maxSteps := 1000000) -implicitDefEqProofs only [c44L0, ↓x_seq, ↓x_reg, ↓o_consS, ↓r_pu, ↓p_bin, ↓e_t, ↓t_get f13, ↓t_get f12, ↓a1, ↓o_nil, ↓nrm_n]
    simp (maxSteps := 1000000) -implicitDefEqProofs only [c44T3, ↓x_seq, ↓x_cond, ↓e_t, ↓getK_same, ↓n_b, ↓x_skip, ↓nrm_n]
    simp (maxSteps := 1000000) -implicitDefEqProofs only [c44T4, ↓x_seq, ↓x_block, ↓x_reg, ↓o_consN, ↓r_pu, ↓p_mv, ↓e_t, ne_eq, nx1, not_false_eq_true, ↓getK_other, ↓t_get f13, ↓o_consS, ↓e_l0, ↓o_nil, ↓nrm_n, ↓p_bin, ↓e_c, ↓nrm_e, beq_dec, ↓nrm_r]
    simp (maxSteps := 1000000) -implicitDefEqProofs only [c44T5, ↓x_reg, ↓o_consN, ↓r_pu, ↓p_mv, ↓e_t, ne_eq, nx1, not_false_eq_true, ↓getK_other, Nat.reduceEqDiff, ↓t_get f6, ↓getK_same, ↓t_get f1, ↓p_idxs, ↓e_l1, ↓n_s, ↓evN_of, ↓e_l0, ↓n_i, ↓int_n, ble_dec, a3, ↓p_cvi, ↓n_io, ↓r_ef, ↓m_callf, ↓es_cons, ↓es_nil, a4, ↓p_iad, ↓e_l6, ↓n_sl, ↓e_l5, ↓m_store, ↓n_p, beq_dec, Nat.zero_add, ↓o_nil, ↓t_get f13, ↓a2, i_t, ↓a6, ↓c_i, len_1, decide_true, ↓t_get hq, ↓wrs1, ↓a5]
    rfl
  · refine ⟨?_, ?_, ?_, ?_, ?_⟩ <;> simp only [get_same, get_other, ne_eq, Nat.reduceEqDiff, not_false_eq_true, f0, f1, f6, f12, f13]
    rfl
theorem loop44 {q sn sv : Nat} (hn : sn ≤ 100000) (n f : Nat) : ∀ (d i : Nat) (h : Heap) (fr : Fr) (cells : T AV), i + d = sn → Sc h → h.tr.get q = some (.st cells sn) → F44 fr p q sn sv i → (∀ j, j < i → cells.get j = some (iv (2 * (byteAt sv j : Int) + 1))) →
    ∃ fr' h' cells', (∀ k, iter (exec (cal (n + 1)) c44L0) (d + (f + 1)) fr h k = k (.exit 0) fr' h') ∧ F44 fr' p q sn sv sn ∧ h'.tr.get q = some (.st cells' sn) ∧ (∀ j, j < sn → cells'.get j = some (iv (2 * (byteAt sv j : Int) + 1))) ∧ Kp h h' [q] ∧ Sc h' ∧ h'.next = h.next
  | 0, i, h, fr, cells, hd, hs, hq, F, hc => by
    have hi : i = sn := by omega
    subst hi
    have F' := F
    obtain ⟨f0, f1, f6, f12, f13⟩ := F
    have a1 := fun k => b_lssF (a := (i : Int)) (b := (i : Int)) (by omega) k
    obtain ⟨fr', hfr⟩ : ∃ x : Fr, x = T.set (.b false) fr 14 := ⟨_, rfl⟩
    refine ⟨fr', h, cells, fun k => ?_, ?_, hq, hc, Kp.refl _ _, hs, rfl⟩
    · rw [Nat.zero_add, it_succ, hfr]
      simp (maxSteps := 1000000) -implicitDefEqProofs only [c44L0, ↓x_seq, ↓x_reg, ↓o_consS, ↓r_pu, ↓p_bin, ↓e_t, ↓t_get f13, ↓t_get f12, ↓a1, ↓o_nil, ↓nrm_n]
      simp (maxSteps := 1000000) -implicitDefEqProofs only [c44T3, ↓x_seq, ↓x_cond, ↓e_t, ↓getK_same, ↓n_b, ↓x_exit, ↓nrm_e]
    · rw [hfr]
      refine ⟨?_, ?_, ?_, ?_, ?_⟩ <;> simp only [get_same, get_other, ne_eq, Nat.reduceEqDiff, not_false_eq_true, f0, f1, f6, f12, f13]
  | d + 1, i, h, fr, cells, hd, hs, hq, F, hc => by
    obtain ⟨fr1, e1, F1⟩ := step44 (p := p) hq (by omega) hn F n (d + (f + 1))
    have hk := Kp.upd h q (.st (cells.set (iv (2 * (byteAt sv i : Int) + 1)) i) sn)
    obtain ⟨fr', h', cells', e2, F2, g1, g2, g3, g4, g5⟩ := loop44 hn n f d (i + 1) _ fr1 (cells.set (iv (2 * (byteAt sv i : Int) + 1)) i) (by omega) (hs.upd hq _) (by rw [get_upd]; exact if_pos rfl) F1 (fun j hj => by
      rw [get_set]
      split
      · rename_i e; subst e; rfl
      · exact hc j (by omega))
    refine ⟨fr', h', cells', fun k => ?_, F2, g1, g2, hk.trans g3 (fun i hi _ => hi), g4, g5⟩
    rw [show d + 1 + (f + 1) = d + (f + 1) + 1 from by omega, e1, e2]

theorem sPut (r : RH h p m size L) (hs : Sc h) {sn sv : Nat} (hfit : (used L + (1 + sn) : Int) ≤ size) (hsz : size ≤ 20000) (n : Nat) :
    ∃ h' c, (∀ k : KH, cal (n + 4) 44 [.p p 0 0, .s sn sv] h k = k (.tup [iv (2 * used L), .b true]) h') ∧ c.tag = 1 ∧ c.fl = bytesW sn sv ∧ RH h' p m size (L ++ [c]) ∧ Sc h' ∧ Kp h h' [p, m] ∧ ∀ i ∈ fpC c, h.next ≤ i := by
  have hn : sn ≤ 100000 := by omega
  obtain ⟨H, hH⟩ : ∃ x, x = addO h (.st (T.ofList (repL [iv 0] sn) 0 .e) (Nat.mul sn 1)) := ⟨_, rfl⟩
  obtain ⟨fr, hfr⟩ : ∃ x : Fr, x = T.set (iv 0) (T.set (iv sn) (T.set (.sl h.next 0 0 sn (some sn) 1) (T.set (.b false) (T.set (iv 0) (T.set (.s sn sv) (T.set (.p p 0 0) .e 0) 1) 4) 5) 6) 12) 13 := ⟨_, rfl⟩
  have s2 : Sc H := by rw [hH]; exact hs.add _
  have k2 : Kp h H [] := by rw [hH]; exact Kp.add h _ []
  have hq : H.tr.get h.next = some (.st (T.ofList (repL [iv 0] sn) 0 .e) sn) := by rw [hH, get_add, if_pos rfl, show Nat.mul sn 1 = sn from Nat.mul_one _]
  have F : F44 fr p h.next sn sv 0 := by
    refine ⟨?_, ?_, ?_, ?_, ?_⟩ <;> rw [hfr] <;> simp only [get_other, get_same, ne_eq, Nat.reduceEqDiff, not_false_eq_true]
    rfl
  obtain ⟨fr', h1, cells, e1, F1, g1, g2, g3, g4, g5⟩ := loop44 (p := p) (q := h.next) (sv := sv) hn (n + 2) (1000000 - sn - 1) sn 0 H fr _ (by omega) s2 hq F (fun j hj => by omega)
  rw [show sn + (1000000 - sn - 1 + 1) = 1000000 from by omega] at e1
  have k1 : Kp h h1 [] := k2.trans g3 (fun i hi hl => by simp at hi; omega)
  have r1 := r.keep k1 hs (by simp) (by simp) (fun _ _ => by simp)
  have rv : RowR h1 (.sl h.next 0 0 sn (some sn) 1) (bytesW sn sv) := .inr ⟨h.next, 0, 0, some sn, _, by rw [bytesW_len], g1, fun j x hj k => by
    have hl := (List.getElem?_eq_some_iff.1 hj).1
    rw [bytesW_len] at hl
    rw [bytesW_get hl] at hj
    cases hj
    rw [Nat.zero_add, m_st0 _ _ _ _ hl, t_get (g2 j hl)]⟩
  obtain ⟨h', c, e2, c1, c2, r2, s3, k3, i3⟩ := rAlloc r1 g4 (tag := 1) (by omega) (by omega) rv (by rw [bytesW_len]; exact hfit) hsz n
  refine ⟨h', c, fun k => ?_, c1, c2, r2, s3, (k1.mono (by simp)).trans k3 (fun i hi _ => hi), fun i hi => Nat.le_trans k1.1 (i3 i hi)⟩
  obtain ⟨f0, f1, f6, f12, f13⟩ := F1
  rw [hH, hfr] at e1
  have a2 : decide (sn ≤ 16777216) = true := decide_eq_true (by omega)
  have a3 : decide (Nat.mul 8 sn ≤ 16777216) = true := decide_eq_true (by show 8 * sn ≤ 16777216; omega)
  have a4 : ∀ k, lenK (.sl h.next 0 0 sn (some sn) 1) k = k (iv sn) := fun k => rfl
  rw [run44]; simp only [ofL_cons, ofL_nil, Nat.zero_add, Nat.reduceAdd]
  simp (maxSteps := 1000000) -implicitDefEqProofs only [c44, ↓x_seq, ↓x_reg, ↓o_consS, ↓r_pu, ↓p_mv, ↓e_c, ↓o_nil, ↓nrm_n]
  simp (maxSteps := 1000000) -implicitDefEqProofs only [c44T0, ↓x_seq, ↓x_reg, ↓o_consN, ↓r_pu, ↓p_mv, ↓e_t, ne_eq, Nat.reduceEqDiff, not_false_eq_true, ↓getK_other, ↓getK_same, ↓p_lens, ↓e_l0, ↓n_s, ↓r_al, ↓m_mks, ↓evN_of, ↓n_i, ↓int_n, ble_dec, Nat.le_refl, decide_true, a2, a3, ↓o_consS, ↓o_nil, ↓nrm_n, i_t]
  simp (maxSteps := 1000000) -implicitDefEqProofs only [c44T1, ↓x_seq, ↓x_reg, ↓o_consN, ↓r_pu, ↓p_mv, ↓e_t, ↓getK_same, ↓o_consS, ↓p_len, ↓e_l0, ↓a4, ↓e_c, ↓o_nil, ↓nrm_n]
  simp (maxSteps := 1000000) -implicitDefEqProofs only [c44T2, c44T6, ↓x_seq, ↓x_reg, ↓o_consN, ↓r_pu, ↓p_mv, ↓e_t, ↓r_ef, ↓m_callf, ↓es_cons, ↓e_l1, ↓e_c, ↓e_l0, ↓es_nil, ↓p_ext, ↓o_consS, ↓o_nil, ↓nrm_n, ↓x_ret, ↓ret_r, ↓res_t2, ne_eq, nx1, not_false_eq_true, ↓getK_other, ↓getK_same, ↓one2, ↓x_block, ↓x_loop, ↓e1, ↓rec_bb, ↓t_get f0, ↓t_get f6, ↓e2, ↓n_tup, ↓nth0, ↓nth1]
end
end Go.Proofs.Ytodlgflkhcknaaa.gcc

/- A string is taken out of a heap. -/
namespace Go.Proofs.Ytodlgflkhcknaaa.gcc
open Go Go.AE
set_option linter.unusedSimpArgs false
set_option maxRecDepth 100000

/-- A byte as an abstract value. -/
abbrev bv (n : Nat) : AV := .i .u8 (n : Int)
theorem bytesK_cons (b : Nat) (hb : b < 256) (l : List AV) (acc sh : Nat) (K : Nat → Bool) : bytesK (bv b :: l) acc sh K = bytesK l (acc + b <<< sh) (sh + 8) K := by
  show ite' (Nat.ble b 255) (bytesK l (acc + b <<< sh) (sh + 8) K) false = _
  rw [Nat.ble_eq_true_of_le (by omega)]; rfl
theorem bytesK_all (sv : Nat) (K : Nat → Bool) : ∀ (d s : Nat), bytesK ((List.range' s d).map fun i => bv (byteAt sv i)) (sv % 2 ^ (8 * s)) (8 * s) K = K (sv % 2 ^ (8 * (s + d)))
  | 0, s => rfl
  | d + 1, s => by
    rw [List.range'_succ, List.map_cons, bytesK_cons _ (byte_lt _ _)]
    have h1 : sv % 2 ^ (8 * s) + byteAt sv s <<< (8 * s) = sv % 2 ^ (8 * (s + 1)) := by
      rw [show 8 * (s + 1) = 8 * s + 8 from by omega, Nat.pow_add, Nat.mod_mul, Nat.shiftLeft_eq]
      congr 1
      rw [Nat.mul_comm]
      congr 1
      show Nat.mod (Nat.shiftRight sv (Nat.mul 8 s)) 256 = _
      have e1 : Nat.shiftRight sv (Nat.mul 8 s) = sv / 2 ^ (8 * s) := Nat.shiftRight_eq_div_pow sv (8 * s)
      rw [e1]
      rfl
    rw [h1, show 8 * s + 8 = 8 * (s + 1) from by omega, bytesK_all sv K d (s + 1), show s + 1 + d = s + (d + 1) from by omega]
theorem bytesK_str {sn sv : Nat} (h : sv < 256 ^ sn) (K : Nat → Bool) : bytesK ((List.range sn).map fun i => bv (byteAt sv i)) 0 0 K = K sv := by
  have := bytesK_all sv K sn 0
  rw [Nat.mul_zero, Nat.pow_zero, Nat.mod_one, Nat.zero_add, ← List.range_eq_range'] at this
  rw [this]
  congr 1
  rw [Nat.pow_mul]
  exact Nat.mod_eq_of_lt h
theorem rds_bytes {o : Go.AE.Obj} {t : Nat} : ∀ {l : List AV} {off : Nat}, (∀ (j : Nat) x, l[j]? = some x → ∀ k, rdK o t (off + j) k = k x) → ∀ k, rdsK o t l.length off k = k l
  | [], off, _, k => rfl
  | x :: l, off, h, k => by
    show rdK o t off (fun v => rdsK o t l.length (off + 1) fun vs => k (v :: vs)) = _
    have h0 := h 0 x rfl
    rw [Nat.add_zero] at h0
    rw [h0]
    exact rds_bytes (l := l) (off := off + 1) (fun j y hj => by rw [Nat.add_assoc, Nat.add_comm 1 j]; exact h (j + 1) y hj) (fun vs => k (x :: vs))

section
variable {h : Heap} {p m : Nat} {size : Int} {L : List Cl} {w : Int} {c : Cl} {sn sv : Nat}
def F59 (fr : Fr) (p q : Nat) (w : Int) (sn i : Nat) : Prop :=
  fr.get 0 = some (.p p 0 0) ∧ fr.get 1 = some (iv w) ∧ fr.get 6 = some (.sl q 0 0 sn (some sn) 1) ∧ fr.get 20 = some (iv sn) ∧ fr.get 21 = some (iv i)
theorem step59 (r : RH h p m size L) (hfl : flOf L w = bytesW sn sv) {q i : Nat} {cells : T AV} (hq : h.tr.get q = some (.st cells sn)) (hi : i < sn) (hn : sn ≤ 100000) {fr : Fr} (F : F59 fr p q w sn i) (n f : Nat) :
    ∃ fr', (∀ k, iter (exec (cal (n + 3)) c59L0) (f + 1) fr h k = iter (exec (cal (n + 3)) c59L0) f fr' (updO h q (.st (cells.set (bv (byteAt sv i)) i) sn)) k) ∧ F59 fr' p q w sn (i + 1) := by
  obtain ⟨f0, f1, f6, f20, f21⟩ := F
  have hb := byte_lt sv i
  have a1 := fun k => b_lssT (a := (i : Int)) (b := (sn : Int)) (by omega) k
  have a2 := fun k => b_add (a := (i : Int)) (b := 1) (by omega) (by omega) k
  have a3 : decide (i + 1 ≤ sn) = true := decide_eq_true hi
  have a4 := fun k => rField r w i n k
  rw [hfl, bytesW_get hi] at a4
  have e2 : (2 * (byteAt sv i : Int) + 1) / 2 = (byteAt sv i : Int) := by omega
  have e3 : decide ((2 * (byteAt sv i : Int) + 1) % 2 = 1) = true := decide_eq_true (by omega)
  have a6 := fun h k => sNum (2 * (byteAt sv i : Int) + 1) (n + 2) h k
  rw [e2] at a6
  have a7 := fun h k => sIsInt (2 * (byteAt sv i : Int) + 1) (n + 2) h k
  rw [e3] at a7
  have a8 := fun k => b_lssF (a := (byteAt sv i : Int)) (b := 0) (by omega) k
  have a9 := fun k => b_geqF (a := (byteAt sv i : Int)) (b := 256) (by omega) k
  have ew : IntKind.wrap .u8 ((byteAt sv i : Nat) : Int) = (byteAt sv i : Int) := by
    have hbb : IntKind.bits .u8 = 8 := rfl
    have hss : IntKind.signed .u8 = false := rfl
    unfold IntKind.wrap
    simp only [hbb, hss, Bool.false_and]
    have e1 : (2 : Int) ^ 8 = 256 := by decide
    rw [e1]; simp; omega
  have a5 : ∀ k, wrK (.st cells sn) 0 (i * 1) (bv (byteAt sv i)) k = k (.st (cells.set (bv (byteAt sv i)) i) sn) := fun k => by
    rw [Nat.mul_one]; exact w_st rfl hi k
  apply Exists.intro
  apply And.intro
  · intro k
    rw [it_succ]
    simp (maxSteps := 1000000) -implicitDefEqProofs only [c59L0, ↓x_seq, ↓x_reg, ↓o_consS, ↓r_pu, ↓p_bin, ↓e_t, ↓t_get f21, ↓t_get f20, ↓a1, ↓o_nil, ↓nrm_n]
    simp (maxSteps := 1000000) -implicitDefEqProofs only [c59T4, ↓x_seq, ↓x_cond, ↓e_t, ↓getK_same, ↓n_b, ↓x_skip, ↓nrm_n]
    simp (maxSteps := 1000000) -implicitDefEqProofs only [c59T5, ↓x_seq, ↓x_block, ↓x_reg, ↓o_consN, ↓r_pu, ↓p_mv, ↓e_t, ne_eq, nx1, not_false_eq_true, ↓getK_other, ↓t_get f21, ↓o_consS, ↓e_l0, ↓o_nil, ↓nrm_n, ↓p_bin, ↓e_c, ↓nrm_e, beq_dec, ↓nrm_r]
    simp (maxSteps := 1000000) -implicitDefEqProofs only [c59T6, ↓x_seq, ↓x_reg, ↓o_consN, ↓r_pu, ↓p_mv, ↓e_t, ne_eq, reduceCtorEq, not_false_eq_true, ↓getK_other, ↓t_get f0, Nat.reduceEqDiff, ↓t_get f1, ↓getK_same, ↓r_ef, ↓m_callf, ↓es_cons, ↓e_l2, ↓e_l1, ↓e_l0, ↓es_nil, ↓a4, ↓p_ext, ↓n_tup, ↓nth0, ↓nth1, ↓o_consS, ↓o_nil, ↓nrm_n]
    simp (maxSteps := 1000000) -implicitDefEqProofs only [c59T7, ↓x_seq, ↓x_reg, ↓o_consN, ↓r_pu, ↓p_mv, ↓e_t, ↓getK_same, ↓r_ef, ↓m_callf, ↓es_cons, ↓e_l0, ↓es_nil, ↓a6, ↓o_consS, ↓o_nil, ↓nrm_n]
    simp (maxSteps := 1000000) -implicitDefEqProofs only [c59T8, ↓x_seq, ↓x_reg, ↓o_consN, ↓r_pu, ↓p_mv, ↓e_t, ne_eq, nx2, not_false_eq_true, ↓getK_other, ↓getK_same, ↓r_ef, ↓m_callf, ↓es_cons, ↓e_l0, ↓es_nil, ↓a7, ↓p_not, ↓n_b, ↓o_guardN, ↓g_b, ↓rec_nt, ↓e_l1, ↓p_bin, ↓e_c, ↓a8, ↓p_pick, ↓e_l2, ↓a9, ↓o_consS, ↓o_nil, ↓nrm_n, ↓x_cond, ↓x_skip]
    simp (maxSteps := 1000000) -implicitDefEqProofs only [c59T9, ↓x_reg, ↓o_consN, ↓r_pu, ↓p_mv, ↓e_t, ne_eq, Nat.reduceEqDiff, not_false_eq_true, ↓getK_other, nx2, nx1, ↓t_get f6, ↓getK_same, ↓r_ef, ↓m_callf, ↓es_cons, ↓e_l0, ↓es_nil, ↓a6, ↓p_cvi, ↓n_io, ↓p_iad, ↓e_l4, ↓n_sl, ↓evN_of, ↓e_l3, ↓n_i, ↓int_n, ble_dec, a3, ↓m_store, ↓n_p, ↓e_l1, ↓c_i, ew, len_1, beq_dec, decide_true, ↓t_get hq, Nat.zero_add, ↓o_nil, ↓t_get f21, ↓a2, ↓wrs1, ↓a5, i_t]
    rfl
  · refine ⟨?_, ?_, ?_, ?_, ?_⟩ <;> simp only [get_same, get_other, ne_eq, Nat.reduceEqDiff, not_false_eq_true, f0, f1, f6, f20, f21]
    rfl
theorem loop59 {q : Nat} (hqp : q ≠ p) (hqm : q ≠ m) (hqL : q ∉ fpL L) (hfl : flOf L w = bytesW sn sv) (hn : sn ≤ 100000) (n f : Nat) : ∀ (d i : Nat) (h : Heap) (fr : Fr) (cells : T AV), i + d = sn → RH h p m size L → Sc h → h.tr.get q = some (.st cells sn) → F59 fr p q w sn i → (∀ j, j < i → cells.get j = some (bv (byteAt sv j))) →
    ∃ fr' h' cells', (∀ k, iter (exec (cal (n + 3)) c59L0) (d + (f + 1)) fr h k = k (.exit 0) fr' h') ∧ fr'.get 6 = some (.sl q 0 0 sn (some sn) 1) ∧ h'.tr.get q = some (.st cells' sn) ∧ (∀ j, j < sn → cells'.get j = some (bv (byteAt sv j))) ∧ Kp h h' [q] ∧ Sc h'
  | 0, i, h, fr, cells, hd, r, hs, hq, F, hc => by
    have hi : i = sn := by omega
    subst hi
    obtain ⟨f0, f1, f6, f20, f21⟩ := F
    have a1 := fun k => b_lssF (a := (i : Int)) (b := (i : Int)) (by omega) k
    refine ⟨T.set (.b false) fr 22, h, cells, fun k => ?_, by rw [get_other _ _ (by decide)]; exact f6, hq, hc, Kp.refl _ _, hs⟩
    rw [Nat.zero_add, it_succ]
    simp (maxSteps := 1000000) -implicitDefEqProofs only [c59L0, ↓x_seq, ↓x_reg, ↓o_consS, ↓r_pu, ↓p_bin, ↓e_t, ↓t_get f21, ↓t_get f20, ↓a1, ↓o_nil, ↓nrm_n]
    simp (maxSteps := 1000000) -implicitDefEqProofs only [c59T4, ↓x_seq, ↓x_cond, ↓e_t, ↓getK_same, ↓n_b, ↓x_exit, ↓nrm_e]
  | d + 1, i, h, fr, cells, hd, r, hs, hq, F, hc => by
    obtain ⟨fr1, e1, F1⟩ := step59 r hfl hq (by omega) hn F n (d + (f + 1))
    have hk := Kp.upd h q (.st (cells.set (bv (byteAt sv i)) i) sn)
    obtain ⟨fr', h', cells', e2, F2, g1, g2, g3, g4⟩ := loop59 hqp hqm hqL hfl hn n f d (i + 1) _ fr1 (cells.set (bv (byteAt sv i)) i) (by omega) (r.keep hk hs (by simp [Ne.symm hqp]) (by simp [Ne.symm hqm]) (fun z hz hn => by simp at hn; exact hqL (hn ▸ hz))) (hs.upd hq _) (by rw [get_upd]; exact if_pos rfl) F1 (fun j hj => by
      rw [get_set]
      split
      · rename_i e; subst e; rfl
      · exact hc j (by omega))
    refine ⟨fr', h', cells', fun k => ?_, F2, g1, g2, hk.trans g3 (fun i hi _ => hi), g4⟩
    rw [show d + 1 + (f + 1) = d + (f + 1) + 1 from by omega, e1, e2]

/-- A string's bytes. -/
theorem sText (r : RH h p m size L) (hs : Sc h) (hl : look 0 L w = some c) (ht : c.tag = 1) (hc : c.fl = bytesW sn sv) (hsv : sv < 256 ^ sn) (hn : sn ≤ 100000) (n : Nat) :
    ∃ h', (∀ k : KH, cal (n + 4) 59 [.p p 0 0, iv w] h k = k (.tup [.s sn sv, .b true]) h') ∧ Sc h' ∧ Kp h h' [] := by
  have hfl : flOf L w = bytesW sn sv := by unfold flOf; rw [hl]; exact hc
  have htg : tagOf L w = 1 := by unfold tagOf; rw [hl]; exact ht
  have lt := r.lt hs
  obtain ⟨H, hH⟩ : ∃ x, x = addO h (.st (T.ofList (repL [.i .u8 0] sn) 0 .e) (Nat.mul sn 1)) := ⟨_, rfl⟩
  obtain ⟨fr, hfr⟩ : ∃ x : Fr, x = T.set (iv 0) (T.set (iv sn) (T.set (.sl h.next 0 0 sn (some sn) 1) (T.set (.b false) (T.set (.b false) (T.set (.s 0 0) (T.set (iv w) (T.set (.p p 0 0) .e 0) 1) 4) 5) 14) 6) 20) 21 := ⟨_, rfl⟩
  have s2 : Sc H := by rw [hH]; exact hs.add _
  have k2 : Kp h H [] := by rw [hH]; exact Kp.add h _ []
  have hq : H.tr.get h.next = some (.st (T.ofList (repL [.i .u8 0] sn) 0 .e) sn) := by rw [hH, get_add, if_pos rfl, show Nat.mul sn 1 = sn from Nat.mul_one _]
  have F : F59 fr p h.next w sn 0 := by
    refine ⟨?_, ?_, ?_, ?_, ?_⟩ <;> rw [hfr] <;> simp only [get_other, get_same, ne_eq, Nat.reduceEqDiff, not_false_eq_true]
    rfl
  obtain ⟨fr', h1, cells, e1, F1, g1, g2, g3, g4⟩ := loop59 (p := p) (m := m) (L := L) (size := size) (w := w) (q := h.next) (by omega) (by omega) (fun hi => by have := lt.2.2 _ hi; omega) hfl hn n (1000000 - sn - 1) sn 0 H fr _ (by omega) (r.keep k2 hs (by simp) (by simp) (fun _ _ => by simp)) s2 hq F (fun j hj => by omega)
  rw [show sn + (1000000 - sn - 1 + 1) = 1000000 from by omega, hH, hfr] at e1
  refine ⟨h1, fun k => ?_, g4, k2.trans g3 (fun i hi hl => by simp at hi; omega)⟩
  have a0 := fun k => rTag r w (n + 1) k
  rw [htg] at a0
  have a1 := fun k => rLen r w (n + 1) k
  rw [hfl, bytesW_len] at a1
  have a2 : decide (sn ≤ 16777216) = true := decide_eq_true (by omega)
  have a3 : decide (Nat.mul 1 sn ≤ 16777216) = true := decide_eq_true (by show 1 * sn ≤ 16777216; omega)
  have a4 : ∀ k, lenK (.sl h.next 0 0 sn (some sn) 1) k = k (iv sn) := fun k => rfl
  have a5 := fun k => b_neqF (a := 1) (b := 1) rfl k
  have a6 : ∀ k : List AV → Bool, rdsK (.st cells sn) 0 sn 0 k = k ((List.range sn).map fun i => bv (byteAt sv i)) := fun k => by
    have := rds_bytes (o := .st cells sn) (t := 0) (l := (List.range sn).map fun i => bv (byteAt sv i)) (off := 0) (fun j x hj k => by
      rw [List.getElem?_map] at hj
      obtain ⟨i, hi, rfl⟩ := Option.map_eq_some_iff.1 hj
      obtain ⟨hl, hi2⟩ := List.getElem?_eq_some_iff.1 hi
      simp at hl hi2
      subst hi2
      rw [Nat.zero_add, m_st0 _ _ _ _ hl, t_get (g2 j hl)]) k
    rw [List.length_map, List.length_range] at this
    exact this
  have a7 := fun K => bytesK_str hsv K
  rw [run59]; simp only [ofL_cons, ofL_nil, Nat.zero_add, Nat.reduceAdd]
  simp (maxSteps := 1000000) -implicitDefEqProofs only [c59, ↓x_seq, ↓x_reg, ↓o_consS, ↓r_pu, ↓p_mv, ↓e_c, ↓o_nil, ↓nrm_n]
  simp (maxSteps := 1000000) -implicitDefEqProofs only [c59T0, ↓x_seq, ↓x_reg, ↓o_consN, ↓r_pu, ↓p_mv, ↓e_t, ne_eq, reduceCtorEq, not_false_eq_true, ↓getK_other, nx1, ↓getK_same, Nat.reduceEqDiff, ↓r_ef, ↓m_callf, ↓es_cons, ↓e_l1, ↓e_l0, ↓es_nil, ↓a0, ↓o_consS, ↓p_bin, ↓e_c, ↓a5, ↓o_nil, ↓nrm_n, ↓x_cond, ↓n_b, ↓x_skip]
  simp (maxSteps := 1000000) -implicitDefEqProofs only [c59T1, ↓x_seq, ↓x_reg, ↓o_consN, ↓r_pu, ↓p_mv, ↓e_t, ne_eq, reduceCtorEq, not_false_eq_true, ↓getK_other, nx1, ↓getK_same, Nat.reduceEqDiff, ↓r_ef, ↓m_callf, ↓es_cons, ↓e_l1, ↓e_l0, ↓es_nil, ↓a1, ↓r_al, ↓m_mksb, ↓evN_of, ↓n_i, ↓int_n, ble_dec, Nat.le_refl, decide_true, a2, a3, ↓o_consS, ↓o_nil, ↓nrm_n, i_t]
  simp (maxSteps := 1000000) -implicitDefEqProofs only [c59T2, ↓x_seq, ↓x_reg, ↓o_consN, ↓r_pu, ↓p_mv, ↓e_t, ↓getK_same, ↓o_consS, ↓p_len, ↓e_l0, ↓a4, ↓e_c, ↓o_nil, ↓nrm_n]
  simp (maxSteps := 1000000) -implicitDefEqProofs only [c59T3, c59T10, ↓x_seq, ↓x_reg, ↓o_consN, ↓r_pu, ↓p_mv, ↓e_t, ↓r_rd, ↓m_b2s, ↓e_l0, ↓o_consS, ↓e_c, ↓o_nil, ↓nrm_n, ↓x_ret, ↓ret_r, ↓res_t2, ne_eq, nx1, not_false_eq_true, ↓getK_other, ↓getK_same, ↓one2, ↓x_block, ↓x_loop, ↓e1, ↓rec_bb, ↓t_get F1, ↓n_sl, ↓t_get g1, ↓a6, ↓a7]
end
end Go.Proofs.Ytodlgflkhcknaaa.gcc

/- Build's functions: a block's size, a block that is made, a value's word. -/
namespace Go.Proofs.Ytodlgflkhcknaaa.gcc
open Go Go.AE
set_option linter.unusedSimpArgs false
set_option maxRecDepth 100000

section
variable {h : Heap} {p m N : Nat} {size : Int} {L : List Cl}

theorem sFields {tag : Int} {sn sv : Nat} {kv : AV} {ks : List Rf} (rk : KidsR h N kv ks) (hs : Sc h) (hn : (sn + ks.length : Int) ≤ 4611686018427387904) (n : Nat) :
    ∃ h', (∀ k : KH, cal (n + 1) 41 [.agg [iv tag, .s sn sv, kv]] h k = k (iv ((sn : Int) + ks.length)) h') ∧ Sc h' ∧ Kp h h' [] := by
  obtain ⟨kc, ko, ksm⟩ := rk.cells
  have hkl := fun k => rk.len k
  have a1 := fun k => b_add (a := (sn : Int)) (b := (ks.length : Int)) (by omega) (by omega) k
  apply Exists.intro
  refine ⟨fun k => ?_, ?_, ?_⟩
  · rw [run41]; simp only [ofL_cons, ofL_nil, Nat.zero_add, Nat.reduceAdd]
    simp (maxSteps := 1000000) -implicitDefEqProofs only [c41, ↓x_seq, ↓x_reg, ↓o_consS, ↓r_al, ↓m_box, ↓e_t, ↓getK_same, ↓r_pu, ↓p_mv, ↓e_c, ↓o_nil, ↓nrm_n, ↓o_consN, ↓p_fad, ne_eq, nx1, not_false_eq_true, ↓getK_other, ↓n_p, ↓r_rd, ↓m_ld, ↓e_l0, ↓ga_new2, Nat.zero_add, ↓c_agg, len_3, Nat.reduceLT, ↓m_st0, ofL_cons, ↓ofL_nil, Nat.reduceAdd, ↓p_lens, ↓p_len, ↓p_bin, ↓e_l3, ↓x_ret, ↓ret_r, ↓res_t1, ↓one1, ↓hkl, ↓n_s, ↓a1]
    rfl
  · exact hs.add _
  · exact Kp.add _ _ _

theorem sMakeS (r : RH h p m size L) (hs : Sc h) {bh bb : Nat} {ch cb : T AV} {sn sv : Nat} (hh : h.tr.get bh = some (.st ch 1)) (hc : ch.get 0 = some (.p p 0 0)) (hb : h.tr.get bb = some (.st cb 3)) (hcb : cb.get 1 = some (.s sn sv)) (hfit : (used L + (1 + sn) : Int) ≤ size) (hsz : size ≤ 20000) (n : Nat) :
    ∃ h' c, (∀ k : KH, cal (n + 5) 43 [.p bh 0 0, .p bb 0 0] h k = k (.tup [iv (2 * used L), .b true]) h') ∧ c.tag = 1 ∧ c.fl = bytesW sn sv ∧ RH h' p m size (L ++ [c]) ∧ Sc h' ∧ Kp h h' [p, m] ∧ ∀ i ∈ fpC c, h.next ≤ i := by
  obtain ⟨h', c, e, rest⟩ := sPut r hs (sn := sn) (sv := sv) hfit hsz n
  refine ⟨h', c, fun k => ?_, rest⟩
  rw [run43]; simp only [ofL_cons, ofL_nil, Nat.zero_add, Nat.reduceAdd]
  simp (maxSteps := 1000000) -implicitDefEqProofs only [c43, ↓x_seq, ↓x_reg, ↓o_consS, ↓r_pu, ↓p_mv, ↓e_c, ↓o_nil, ↓nrm_n, ↓o_consN, ↓r_rd, ↓m_ld, ↓e_t, ne_eq, reduceCtorEq, not_false_eq_true, ↓getK_other, nx2, nx1, ↓getK_same, ↓n_p, ↓t_get hh, Nat.reduceLT, ↓m_st0, ↓t_get hc, ↓p_fad, ↓e_l0, ↓t_get hb, Nat.zero_add, ↓t_get hcb, ↓r_ef, ↓m_callf, ↓es_cons, ↓e_l2, ↓es_nil, ↓e, ↓p_ext, ↓n_tup, ↓nth0, ↓e_l1, ↓nth1, ↓x_ret, ↓ret_r, ↓res_t2, ↓one2]

theorem sMakeB (r : RH h p m size L) (hs : Sc h) {bh bb : Nat} {ch cb : T AV} {tag : Int} {kv : AV} {ks : List Rf} (hh : h.tr.get bh = some (.st ch 1)) (hc : ch.get 0 = some (.p p 0 0)) (hb : h.tr.get bb = some (.st cb 3)) (ht : cb.get 0 = some (iv tag)) (hk : cb.get 2 = some kv) (rk : KidsR h N kv ks)
    (t1 : 1 ≤ tag) (t8 : tag ≤ 8) (hfit : (used L + (1 + ks.length) : Int) ≤ size) (hsz : size ≤ 20000) (n : Nat) :
    ∃ h' c, (∀ k : KH, cal (n + 4) 42 [.p bh 0 0, .p bb 0 0] h k = k (.tup [iv (2 * used L), .b true]) h') ∧ c.tag = tag ∧ c.fl.length = ks.length ∧ RH h' p m size (L ++ [c]) ∧ Sc h' ∧ Kp h h' [p, m] ∧ ∀ i ∈ fpC c, h.next ≤ i := by
  obtain ⟨H, hH⟩ : ∃ x, x = addO h (.st (T.ofList (repL [iv 0] ks.length) 0 .e) (Nat.mul ks.length 1)) := ⟨_, rfl⟩
  have s2 : Sc H := by rw [hH]; exact hs.add _
  have k2 : Kp h H [] := by rw [hH]; exact Kp.add h _ []
  have hrep : ∀ n : Nat, repL [iv 0] n = List.replicate n (iv 0) := fun n => by
    induction n with
    | zero => rfl
    | succ n ih => show appL [iv 0] (repL [iv 0] n) = _; rw [appL_eq, ih]; rfl
  have hq : H.tr.get h.next = some (.st (T.ofList (repL [iv 0] ks.length) 0 .e) ks.length) := by rw [hH, get_add, if_pos rfl, show Nat.mul ks.length 1 = ks.length from Nat.mul_one _]
  have r2 := r.keep k2 hs (by simp) (by simp) (fun _ _ => by simp)
  have rv : RowR H (.sl h.next 0 0 ks.length (some ks.length) 1) (List.replicate ks.length 0) := .inr ⟨h.next, 0, 0, some ks.length, _, by rw [List.length_replicate], hq, fun j x hj k => by
    obtain ⟨hl, hx⟩ := List.getElem?_eq_some_iff.1 hj
    simp at hl hx
    subst hx
    rw [Nat.zero_add, m_st0 _ _ _ _ hl, getK_eq, get_ofList, if_pos ⟨Nat.zero_le _, by rw [hrep, List.length_replicate]; omega⟩, Nat.sub_zero, hrep, List.getElem?_replicate, if_pos hl]⟩
  obtain ⟨h', c, e2, c1, c2, r3, s3, k3, i3⟩ := rAlloc r2 s2 (tag := tag) t1 t8 rv (by rw [List.length_replicate]; exact hfit) hsz n
  rw [hH] at e2
  have hkl := fun k => rk.len k
  have hbn : bh ≠ h.next := Nat.ne_of_lt (hs _ _ hh)
  have a2 : decide (ks.length ≤ 16777216) = true := decide_eq_true (by omega)
  have a3 : decide (Nat.mul 8 ks.length ≤ 16777216) = true := decide_eq_true (by show 8 * ks.length ≤ 16777216; omega)
  have ksm := rk.cells.2.2
  refine ⟨h', c, fun k => ?_, c1, by rw [c2, List.length_replicate], r3, s3, (k2.mono (by simp)).trans k3 (fun i hi _ => hi), fun i hi => Nat.le_trans k2.1 (i3 i hi)⟩
  rw [run42]; simp only [ofL_cons, ofL_nil, Nat.zero_add, Nat.reduceAdd]
  simp (maxSteps := 1000000) -implicitDefEqProofs only [c42, ↓x_seq, ↓x_reg, ↓o_consS, ↓r_pu, ↓p_mv, ↓e_c, ↓o_nil, ↓nrm_n, ↓x_dreg, ↓d_rdN, ↓m_ld, ↓e_t, ne_eq, reduceCtorEq, not_false_eq_true, ↓getK_other, nx2, nx1, ↓getK_same, ↓n_p, ↓t_get hh, Nat.reduceLT, ↓m_st0, ↓t_get hc, ↓d_puN, ↓p_fad, ↓e_l0, ↓t_get hb, Nat.zero_add, ↓t_get ht, ↓t_get hk, ↓p_len, ↓hkl, ↓d_alN, ↓m_mks, ↓evN_of, ↓n_i, ↓int_n, ble_dec, Nat.le_refl, decide_true, a2, a3, ↓d_efN, ↓m_callf, ↓es_cons, ↓e_l6, ↓e_l4, ↓es_nil, ↓e2, ↓p_ext, ↓n_tup, ↓nth0, ↓e_l1, ↓nth1, ↓d_puS, ↓d_nil, ↓rev_cons, ↓rev_nil, beq_dec, k_nil, ↓x_ret, ↓ret_r, ↓res_t2, ↓one2, and_t, i_t]

/-- The word of a value of the graph. -/
def wordOf (A : List Int) (r : Rf) : Int := if r.1 = true then 2 * r.2 + 1 else A.getD r.2.toNat 0
theorem sWord {bl : Nat} {cl : T AV} {v : AV} {A : List Int} {r : Rf} (hs : Sc h) (hb : h.tr.get bl = some (.st cl 1)) (hc : cl.get 0 = some v) (g : GR h v (A.map iv)) (hr : (r.1 = true ∧ In62 r.2) ∨ (r.1 = false ∧ 0 ≤ r.2 ∧ r.2 < A.length)) (n : Nat) :
    ∃ h', (∀ k : KH, cal (n + 2) 45 [.agg [.b r.1, iv r.2], .p bl 0 0] h k = k (iv (wordOf A r)) h') ∧ Sc h' ∧ Kp h h' [] := by
  obtain ⟨imm, x⟩ := r
  have hbn : bl ≠ h.next := Nat.ne_of_lt (hs _ _ hb)
  rcases hr with ⟨h1, h2⟩ | ⟨h1, h2, h3⟩
  · have h1 : imm = true := h1
    subst h1
    have a1 := fun h k => sInt h2 n h k
    apply Exists.intro
    refine ⟨fun k => ?_, ?_, ?_⟩
    · rw [run45]; simp only [ofL_cons, ofL_nil, Nat.zero_add, Nat.reduceAdd]
      simp (maxSteps := 1000000) -implicitDefEqProofs only [c45, ↓x_seq, ↓x_reg, ↓o_consS, ↓r_al, ↓m_box, ↓e_t, ne_eq, nx1, not_false_eq_true, ↓getK_other, ↓getK_same, ↓r_pu, ↓p_mv, ↓e_c, ↓o_nil, ↓nrm_n, ↓c_agg, ofL_cons, ↓ofL_nil, Nat.zero_add, len_2]
      simp (maxSteps := 1000000) -implicitDefEqProofs only [c45T0, ↓x_seq, ↓x_reg, ↓o_consN, ↓r_pu, ↓p_fad, ↓e_t, ne_eq, nx1, not_false_eq_true, ↓getK_other, ↓getK_same, ↓n_p, ↓o_consS, ↓r_rd, ↓m_ld, ↓e_l0, ↓ga_new2, Nat.zero_add, Nat.reduceLT, ↓m_st0, ↓o_nil, ↓nrm_n]
      simp (maxSteps := 1000000) -implicitDefEqProofs only [c45T1, ↓x_cond, ↓e_t, ↓getK_same, ↓n_b]
      simp (maxSteps := 1000000) -implicitDefEqProofs only [c45T2, ↓x_seq, ↓x_reg, ↓o_consN, ↓r_pu, ↓p_fad, ↓e_t, ne_eq, Nat.reduceEqDiff, not_false_eq_true, ↓getK_other, nx1, ↓getK_same, ↓n_p, ↓r_rd, ↓m_ld, ↓e_l0, ↓ga_new2, Nat.zero_add, Nat.reduceLT, ↓m_st0, ↓r_ef, ↓m_callf, ↓es_cons, ↓es_nil, ↓a1, ↓o_consS, ↓p_mv, ↓o_nil, ↓nrm_n, ↓x_ret, ↓nrm_r, ↓ret_r, ↓res_t1, ↓one1]
      rfl
    · exact hs.add _
    · exact Kp.add _ _ _
  · have h1 : imm = false := h1
    subst h1
    obtain ⟨i, rfl⟩ : ∃ i : Nat, x = i := ⟨x.toNat, by omega⟩
    have hi : i < A.length := by
      have h3 : (i : Int) < A.length := h3
      omega
    obtain ⟨id, t, o, rfl, ho, hrd⟩ := g.read (j := i) (x := iv A[i]) (by rw [List.getElem?_map, List.getElem?_eq_getElem hi]; rfl)
    have hidn : id ≠ h.next := Nat.ne_of_lt (hs _ _ ho)
    have a3 : decide (i + 1 ≤ (A.map iv).length) = true := decide_eq_true (by simp; omega)
    have hrd' : ∀ k, rdK o t (i * 1) k = k (iv A[i]) := fun k => by rw [Nat.mul_one]; exact hrd k
    have hw : wordOf A (false, (i : Int)) = A[i] := by
      show (if false = true then _ else A.getD (i : Int).toNat 0) = _
      rw [if_neg (by decide), Int.toNat_natCast, List.getD_eq_getElem?_getD, List.getElem?_eq_getElem hi]; rfl
    apply Exists.intro
    refine ⟨fun k => ?_, ?_, ?_⟩
    · rw [run45, hw]; simp only [ofL_cons, ofL_nil, Nat.zero_add, Nat.reduceAdd]
      simp (maxSteps := 1000000) -implicitDefEqProofs only [c45, ↓x_seq, ↓x_reg, ↓o_consS, ↓r_al, ↓m_box, ↓e_t, ne_eq, nx1, not_false_eq_true, ↓getK_other, ↓getK_same, ↓r_pu, ↓p_mv, ↓e_c, ↓o_nil, ↓nrm_n, ↓c_agg, ofL_cons, ↓ofL_nil, Nat.zero_add, len_2]
      simp (maxSteps := 1000000) -implicitDefEqProofs only [c45T0, ↓x_seq, ↓x_reg, ↓o_consN, ↓r_pu, ↓p_fad, ↓e_t, ne_eq, nx1, not_false_eq_true, ↓getK_other, ↓getK_same, ↓n_p, ↓o_consS, ↓r_rd, ↓m_ld, ↓e_l0, ↓ga_new2, Nat.zero_add, Nat.reduceLT, ↓m_st0, ↓o_nil, ↓nrm_n]
      simp (maxSteps := 1000000) -implicitDefEqProofs only [c45T1, ↓x_cond, ↓e_t, ↓getK_same, ↓n_b, ↓x_skip, ↓nrm_n]
      simp (maxSteps := 1000000) -implicitDefEqProofs only [c45T3, ↓x_seq, ↓x_reg, ↓o_consN, ↓r_rd, ↓m_ld, ↓e_t, ne_eq, Nat.reduceEqDiff, not_false_eq_true, ↓getK_other, nx2, nx1, ↓getK_same, ↓n_p, hbn, ↓ga_old, ↓t_get hb, Nat.reduceLT, ↓m_st0, ↓t_get hc, ↓r_pu, ↓p_fad, ↓e_l0, ↓ga_new2, Nat.zero_add, ↓p_iad, ↓e_l2, ↓n_sl, ↓evN_of, ↓n_i, ↓int_n, ble_dec, a3, hidn, ↓t_get ho, ↓o_consS, ↓p_mv, ↓o_nil, ↓nrm_n, ↓x_ret, ↓ret_r, ↓res_t1, ↓one1, ↓hrd', i_t]
      rfl
    · exact hs.add _
    · exact Kp.add _ _ _
end
end Go.Proofs.Ytodlgflkhcknaaa.gcc

/- Build: how many words are needed. -/
namespace Go.Proofs.Ytodlgflkhcknaaa.gcc
open Go Go.AE
set_option linter.unusedSimpArgs false
set_option maxRecDepth 100000

section
variable {N : Nat} {vb : AV} {bs : List Bl}

/-- What the frame of Build holds: the heap's place, the graph's. -/
def FB2 (fr : Fr) (bh bg : Nat) : Prop := fr.get 2 = some (.p bh 0 0) ∧ fr.get 3 = some (.p bg 0 0)
def FB0 (fr : Fr) (vb : AV) (L x i : Nat) : Prop := fr.get 24 = some vb ∧ fr.get 25 = some (iv L) ∧ fr.get 26 = some (iv i) ∧ fr.get 6 = some (iv x)

/-- A block's copy. -/
noncomputable def cpB (b : Bl) (kv : AV) : T AV := T.set kv (T.set (.s b.sn b.sv) (T.set (iv b.tag) (T.set .nils (T.set (.s 0 0) (T.set (iv 0) .e 0) 1) 2) 0) 1) 2
theorem cpB0 (b : Bl) (kv : AV) : (cpB b kv).get 0 = some (iv b.tag) := by unfold cpB; simp only [get_other, get_same, ne_eq, Nat.reduceEqDiff, not_false_eq_true]
theorem cpB1 (b : Bl) (kv : AV) : (cpB b kv).get 1 = some (.s b.sn b.sv) := by unfold cpB; simp only [get_other, get_same, ne_eq, Nat.reduceEqDiff, not_false_eq_true]
theorem cpB2 (b : Bl) (kv : AV) : (cpB b kv).get 2 = some kv := by unfold cpB; simp only [get_same]

theorem nStep {h : Heap} {bh bg : Nat} (rb : BlksR h N vb bs) (hs : Sc h) (hN : N ≤ h.next) (hlen : bs.length ≤ 300000) (n f i x : Nat) (fr : Fr) (hi : i < bs.length) (F2 : FB2 fr bh bg) (F : FB0 fr vb bs.length x i) (hw : (x + (1 + bs[i].sn + bs[i].kids.length) : Int) ≤ 4611686018427387904) :
    ∃ fr1 h1, (∀ k, iter (exec (cal (n + 1)) c25L0) (f + 1) fr h k = iter (exec (cal (n + 1)) c25L0) f fr1 h1 k) ∧ FB2 fr1 bh bg ∧ FB0 fr1 vb bs.length (x + (1 + bs[i].sn + bs[i].kids.length)) (i + 1) ∧ Sc h1 ∧ Kp h h1 [] := by
  obtain ⟨g2, g3⟩ := F2
  obtain ⟨f24, f25, f26, f6⟩ := F
  have hb : bs[i]? = some bs[i] := List.getElem?_eq_getElem (by omega)
  rcases rb with ⟨rfl, _⟩ | ⟨id, t, off, cap, o, rfl, hid, ho, hr⟩
  · simp at hi
  obtain ⟨r1, r2, kv, r3, rk⟩ := hr i _ hb
  obtain ⟨kc, ko, ksm⟩ := rk.cells
  have hidn : id ≠ h.next := by omega
  have a1 := fun k => b_lssT (a := (i : Int)) (b := (bs.length : Int)) (by omega) k
  have a2 := fun k => b_add (a := (i : Int)) (b := 1) (by omega) (by omega) k
  have a3 : decide (i + 1 ≤ bs.length) = true := decide_eq_true (by omega)
  have a4 := fun k => b_add (a := 1) (b := (bs[i].sn : Int) + bs[i].kids.length) (by omega) (by omega) k
  have a5 := fun k => b_add (a := (x : Int)) (b := 1 + ((bs[i].sn : Int) + bs[i].kids.length)) (by omega) (by omega) k
  obtain ⟨H, hH⟩ : ∃ x, x = updO (addO h (.st (T.set .nils (T.set (.s 0 0) (T.set (iv 0) .e 0) 1) 2) 3)) h.next (.st (cpB bs[i] kv) 3) := ⟨_, rfl⟩
  have hq : (addO h (.st (T.set .nils (T.set (.s 0 0) (T.set (iv 0) .e 0) 1) 2) 3)).tr.get h.next = some (.st (T.set .nils (T.set (.s 0 0) (T.set (iv 0) .e 0) 1) 2) 3) := by rw [get_add, if_pos rfl]
  have s2 : Sc H := by rw [hH]; exact (hs.add _).upd hq _
  have k2 : Kp h H [] := by rw [hH]; exact (Kp.add h _ []).trans (Kp.upd _ _ _) (fun z hz hl => by simp at hz; omega)
  have lo2 := Lo.of k2 hN (fun i hi => by simp at hi)
  obtain ⟨h1, e, s1, k1⟩ := sFields (tag := bs[i].tag) (sn := bs[i].sn) (sv := bs[i].sv) (rk.keep lo2) s2 (by omega) n
  rw [hH] at e
  unfold cpB at e
  apply Exists.intro
  refine ⟨h1, fun k => ?_, ⟨?_, ?_⟩, ⟨?_, ?_, ?_, ?_⟩, s1, k2.trans k1 (fun i hi _ => hi)⟩
  · rw [it_succ]
    simp (maxSteps := 1000000) -implicitDefEqProofs only [c25L0, ↓x_seq, ↓x_reg, ↓o_consS, ↓r_pu, ↓p_bin, ↓e_t, ↓t_get f26, ↓t_get f25, ↓a1, ↓o_nil, ↓nrm_n]
    simp (maxSteps := 1000000) -implicitDefEqProofs only [c25T4, ↓x_seq, ↓x_cond, ↓e_t, ↓getK_same, ↓n_b, ↓x_skip, ↓nrm_n]
    simp (maxSteps := 1000000) -implicitDefEqProofs only [c25T5, ↓x_seq, ↓x_block, ↓x_reg, ↓o_consN, ↓r_pu, ↓p_iad, ↓e_t, ne_eq, Nat.reduceEqDiff, not_false_eq_true, ↓getK_other, ↓t_get f24, ↓n_sl, ↓evN_of, nx1, ↓t_get f26, ↓n_i, ↓int_n, ble_dec, a3, ↓r_rd, ↓m_ldn, ↓e_l0, ↓n_p, ↓t_get ho, ↓rds_3, ↓r1, ↓r2, ↓r3, ↓o_consS, ↓r_al, ↓m_new, ↓r_ef, ↓m_store, ↓e_l1, ↓c_agg, len_3, beq_dec, decide_true, ↓ga_new2, ↓ofL_cons, ↓ofL_nil, Nat.zero_add, Nat.reduceAdd, ↓o_nil, ↓nrm_n, ↓p_bin, ↓e_c, ↓p_mv, ↓nrm_e, ↓nrm_r, wrs_3, ↓one_i, Nat.reduceLT, ↓w_st, ↓one_s, ko, i_t]
    simp (maxSteps := 1000000) -implicitDefEqProofs only [c25T6, ↓x_reg, ↓o_consN, ↓r_pu, ↓p_mv, ↓e_t, ne_eq, nx2, not_false_eq_true, ↓getK_other, Nat.reduceEqDiff, ↓t_get f6, ↓r_rd, ↓m_ldn, ↓getK_same, ↓n_p, ↓gu_same, ↓rds_3, Nat.reduceLT, ↓m_st0, nx1, Nat.zero_add, Nat.reduceAdd, ↓r_ef, ↓m_callf, ↓es_cons, ↓e_l0, ↓es_nil, ↓e, ↓p_bin, ↓e_c, ↓a4, ↓e_l3, ↓a5, ↓o_consS, ↓o_nil, ↓t_get f26, ↓a2]
    rfl
  · simp only [get_other, get_same, ne_eq, Nat.reduceEqDiff, not_false_eq_true, g2]
  · simp only [get_other, get_same, ne_eq, Nat.reduceEqDiff, not_false_eq_true, g3]
  · simp only [get_other, get_same, ne_eq, Nat.reduceEqDiff, not_false_eq_true, f24]
  · simp only [get_other, get_same, ne_eq, Nat.reduceEqDiff, not_false_eq_true, f25]
  · simp only [get_other, get_same, ne_eq, Nat.reduceEqDiff, not_false_eq_true]; rfl
  · simp only [get_other, get_same, ne_eq, Nat.reduceEqDiff, not_false_eq_true]; congr 3; omega
theorem nLoop {bh bg : Nat} (hlen : bs.length ≤ 300000) (n f : Nat) : ∀ (d i x : Nat) (h : Heap) (fr : Fr), i + d = bs.length → BlksR h N vb bs → Sc h → N ≤ h.next → FB2 fr bh bg → FB0 fr vb bs.length x i → (x + wordsB (bs.drop i) : Int) ≤ 4611686018427387904 →
    ∃ fr' h', (∀ k, iter (exec (cal (n + 1)) c25L0) (d + (f + 1)) fr h k = k (.exit 0) fr' h') ∧ FB2 fr' bh bg ∧ fr'.get 6 = some (iv ((x + wordsB (bs.drop i) : Nat) : Int)) ∧ Sc h' ∧ Kp h h' []
  | 0, i, x, h, fr, hd, rb, hs, hN, F2, F, hw => by
    have hi : i = bs.length := by omega
    subst hi
    obtain ⟨g2, g3⟩ := F2
    obtain ⟨f24, f25, f26, f6⟩ := F
    have a1 := fun k => b_lssF (a := (bs.length : Int)) (b := (bs.length : Int)) (by omega) k
    refine ⟨T.set (.b false) fr 27, h, fun k => ?_, ⟨?_, ?_⟩, ?_, hs, Kp.refl _ _⟩
    · rw [Nat.zero_add, it_succ]
      simp (maxSteps := 1000000) -implicitDefEqProofs only [c25L0, ↓x_seq, ↓x_reg, ↓o_consS, ↓r_pu, ↓p_bin, ↓e_t, ↓t_get f26, ↓t_get f25, ↓a1, ↓o_nil, ↓nrm_n]
      simp (maxSteps := 1000000) -implicitDefEqProofs only [c25T4, ↓x_seq, ↓x_cond, ↓e_t, ↓getK_same, ↓n_b, ↓x_exit, ↓nrm_e]
    · rw [get_other _ _ (by decide)]; exact g2
    · rw [get_other _ _ (by decide)]; exact g3
    · rw [get_other _ _ (by decide), f6, List.drop_length]; rfl
  | d + 1, i, x, h, fr, hd, rb, hs, hN, F2, F, hw => by
    have hdr : bs.drop i = bs[i] :: bs.drop (i + 1) := List.drop_eq_getElem_cons (by omega)
    have hwd : wordsB (bs.drop i) = 1 + bs[i].sn + bs[i].kids.length + wordsB (bs.drop (i + 1)) := by rw [hdr]; rfl
    obtain ⟨fr1, h1, e1, G2, G, s1, k1⟩ := nStep rb hs hN hlen n (d + (f + 1)) i x fr (by omega) F2 F (by omega)
    have lo := Lo.of k1 hN (fun i hi => by simp at hi)
    obtain ⟨fr', h', e2, G3, g6, s2, k2⟩ := nLoop hlen n f d (i + 1) _ h1 fr1 (by omega) (rb.keep lo) s1 (Nat.le_trans hN k1.1) G2 G (by omega)
    refine ⟨fr', h', fun k => ?_, G3, ?_, s2, k1.trans k2 (fun i hi _ => hi)⟩
    · rw [show d + 1 + (f + 1) = d + (f + 1) + 1 from by omega, e1, e2]
    · rw [g6, hwd]; congr 3; omega
end
end Go.Proofs.Ytodlgflkhcknaaa.gcc

/- Build: the blocks are made. -/
namespace Go.Proofs.Ytodlgflkhcknaaa.gcc
open Go Go.AE
set_option linter.unusedSimpArgs false
set_option maxRecDepth 100000

theorem good_tag {b : Bl} (g : goodB b) : (b.tag = 1 ∧ b.kids = []) ∨ (b.tag ≠ 1 ∧ 2 ≤ b.tag ∧ b.tag ≤ 5 ∧ b.sn = 0 ∧ b.sv = 0) := by
  obtain ⟨h1, h2⟩ := g
  unfold kidsOf at h1
  by_cases e1 : b.tag = 1
  · rw [if_pos e1] at h1
    exact .inl ⟨e1, List.length_eq_zero_iff.1 (by omega)⟩
  · rw [if_neg e1] at h1
    rcases h2 with h2 | h2
    · refine .inr ⟨e1, ?_, ?_, h2.1, h2.2⟩
      · by_cases e4 : b.tag = 4
        · omega
        · rw [if_neg e4] at h1
          by_cases e5 : b.tag = 2 ∨ b.tag = 3 ∨ b.tag = 5
          · omega
          · rw [if_neg e5] at h1; omega
      · by_cases e4 : b.tag = 4
        · omega
        · rw [if_neg e4] at h1
          by_cases e5 : b.tag = 2 ∨ b.tag = 3 ∨ b.tag = 5
          · omega
          · rw [if_neg e5] at h1; omega
    · exact absurd h2 e1

theorem RH.notSt1 {h : Heap} {p m : Nat} {size : Int} {L : List Cl} (r : RH h p m size L) {q : Nat} {c : T AV} (hq : h.tr.get q = some (.st c 1)) : q ≠ p ∧ q ≠ m ∧ q ∉ fpL L := by
  obtain ⟨d, g1, _⟩ := r.hd
  refine ⟨fun e => (by rw [e, g1] at hq; cases hq), fun e => (by rw [e, r.mp] at hq; cases hq), fun hi => ?_⟩
  obtain ⟨x, hx, hi⟩ := List.mem_flatMap.1 hi
  obtain ⟨⟨s, s1, s2⟩, s3⟩ := r.bl x hx
  simp only [fpC, List.mem_cons] at hi
  rcases hi with rfl | hi
  · rw [s1] at hq; cases hq
  · exact s3.notSt hq hi

section
variable {h : Heap} {p m N : Nat} {size : Int} {L : List Cl}
/-- A block of the graph is made. -/
theorem sMake (r : RH h p m size L) (hs : Sc h) {bh bb : Nat} {ch : T AV} {b : Bl} {kv : AV} (hh : h.tr.get bh = some (.st ch 1)) (hc : ch.get 0 = some (.p p 0 0)) (hb : h.tr.get bb = some (.st (cpB b kv) 3)) (rk : KidsR h N kv b.kids) (hg : goodB b)
    (hfit : (used L + (1 + b.sn + b.kids.length) : Int) ≤ size) (hsz : size ≤ 20000) (n : Nat) :
    ∃ h' c, ((b.tag = 1 → ∀ k : KH, cal (n + 5) 43 [.p bh 0 0, .p bb 0 0] h k = k (.tup [iv (2 * used L), .b true]) h') ∧ (b.tag ≠ 1 → ∀ k : KH, cal (n + 5) 42 [.p bh 0 0, .p bb 0 0] h k = k (.tup [iv (2 * used L), .b true]) h')) ∧
      c.tag = b.tag ∧ c.fl.length = b.sn + b.kids.length ∧ (b.tag = 1 → c.fl = bytesW b.sn b.sv) ∧ RH h' p m size (L ++ [c]) ∧ Sc h' ∧ Kp h h' [p, m] ∧ ∀ i ∈ fpC c, h.next ≤ i := by
  rcases good_tag hg with ⟨h1, h2⟩ | ⟨h1, h2, h3, h4, h5⟩
  · obtain ⟨h', c, e, c1, c2, rest⟩ := sMakeS r hs hh hc hb (cpB1 b kv) (by rw [h2] at hfit; simp at hfit; omega) hsz n
    exact ⟨h', c, ⟨fun _ => e, fun h => absurd h1 h⟩, by rw [c1, h1], by rw [c2, bytesW_len, h2]; rfl, fun _ => c2, rest⟩
  · obtain ⟨h', c, e, c1, c2, rest⟩ := sMakeB r hs hh hc hb (cpB0 b kv) (cpB2 b kv) rk (by omega) (by omega) (by omega) hsz (n + 1)
    exact ⟨h', c, ⟨fun h => absurd h h1, fun _ => e⟩, c1, by rw [c2, h4]; omega, fun h => absurd h h1, rest⟩
end

/-- Where the blocks will be. -/
def addrs (u : Nat) (bs : List Bl) (i : Nat) : List Int := (List.range i).map fun j => 2 * ((u + wordsB (bs.take j) : Nat) : Int)
theorem addrs_succ (u : Nat) (bs : List Bl) (i : Nat) : addrs u bs (i + 1) = addrs u bs i ++ [2 * ((u + wordsB (bs.take i) : Nat) : Int)] := by unfold addrs; rw [List.range_succ, List.map_append]; rfl
theorem addrs_len (u : Nat) (bs : List Bl) (i : Nat) : (addrs u bs i).length = i := by simp [addrs]
theorem words_app (a b : List Bl) : wordsB (a ++ b) = wordsB a + wordsB b := by
  induction a with
  | nil => simp [wordsB]
  | cons x a ih => simp only [List.cons_append, wordsB, ih]; omega
theorem words_take {bs : List Bl} {i : Nat} {b : Bl} (hb : bs[i]? = some b) : wordsB (bs.take (i + 1)) = wordsB (bs.take i) + (1 + b.sn + b.kids.length) := by
  rw [List.take_add_one, hb, words_app]; rfl
theorem words_le (bs : List Bl) (i : Nat) : wordsB (bs.take i) ≤ wordsB bs := by
  have := words_app (bs.take i) (bs.drop i)
  rw [List.take_append_drop] at this
  omega

/-- While the blocks are made. -/
structure AL (h : Heap) (N bh q9 p m : Nat) (size : Int) (L0 cs : List Cl) (bs : List Bl) (i : Nat) (v : AV) : Prop where
  rh : RH h p m size (L0 ++ cs)
  ln : cs.length = i
  pr : ∀ (j : Nat) c b, cs[j]? = some c → bs[j]? = some b → c.tag = b.tag ∧ c.fl.length = b.sn + b.kids.length ∧ (b.tag = 1 → c.fl = bytesW b.sn b.sv)
  us : used cs = wordsB (bs.take i)
  gr : GR h v ((addrs (used L0) bs i).map iv)
  ds : ∀ z ∈ rid v, z ∉ fpL (L0 ++ cs)
  b9 : ∃ c, h.tr.get q9 = some (.st c 1) ∧ c.get 0 = some v
  bx : ∃ c, h.tr.get bh = some (.st c 1) ∧ c.get 0 = some (.p p 0 0)
  ne : bh ≠ q9
  lo : N ≤ p ∧ N ≤ m ∧ N ≤ q9 ∧ (∀ z ∈ fpL (L0 ++ cs), N ≤ z) ∧ ∀ z ∈ rid v, N ≤ z
def FB1 (fr : Fr) (vb : AV) (q9 L i : Nat) : Prop := fr.get 9 = some (.p q9 0 0) ∧ fr.get 44 = some vb ∧ fr.get 45 = some (iv L) ∧ fr.get 46 = some (iv i)

section
variable {N bh bg q9 p m : Nat} {size : Int} {L0 : List Cl} {vb : AV} {bs : List Bl}
theorem aStep {h : Heap} {cs : List Cl} {i : Nat} {v : AV} (A : AL h N bh q9 p m size L0 cs bs i v) (rb : BlksR h N vb bs) (hs : Sc h) (hN : N ≤ h.next) (hfit : (used L0 + wordsB bs : Int) ≤ size) (hsz : size ≤ 20000) (hlen : bs.length ≤ 300000) (hi : i < bs.length) (hg : goodB bs[i]) {fr : Fr} (F2 : FB2 fr bh bg) (F : FB1 fr vb q9 bs.length i) (n f : Nat) :
    ∃ fr' h' cs' v', (∀ k, iter (exec (cal (n + 5)) c25L1) (f + 1) fr h k = iter (exec (cal (n + 5)) c25L1) f fr' h' k) ∧ FB2 fr' bh bg ∧ FB1 fr' vb q9 bs.length (i + 1) ∧ AL h' N bh q9 p m size L0 cs' bs (i + 1) v' ∧ Sc h' ∧ Lo h h' N ∧ h.next ≤ h'.next ∧ (∀ z c, h.tr.get z = some (.st c 3) → z ≠ p → h'.tr.get z = some (.st c 3)) := by
  obtain ⟨g2, g3⟩ := F2
  obtain ⟨f9, f44, f45, f46⟩ := F
  have hb : bs[i]? = some bs[i] := List.getElem?_eq_getElem (by omega)
  rcases rb with ⟨rfl, _⟩ | ⟨id, t, off, cap, o, rfl, hid, ho, hr⟩
  · simp at hi
  obtain ⟨r1, r2, kv, r3, rk⟩ := hr i _ hb
  obtain ⟨kc, ko, ksm⟩ := rk.cells
  have hidn : id ≠ h.next := by omega
  obtain ⟨ch, hh, hch⟩ := A.bx
  obtain ⟨c9, h9, hc9⟩ := A.b9
  have hbn : bh ≠ h.next := Nat.ne_of_lt (hs _ _ hh)
  have h9n : q9 ≠ h.next := Nat.ne_of_lt (hs _ _ h9)
  obtain ⟨n9p, n9m, n9f⟩ := A.rh.notSt1 h9
  obtain ⟨nhp, nhm, nhf⟩ := A.rh.notSt1 hh
  have hlt := A.rh.lt hs
  -- the copy
  obtain ⟨H, hH⟩ : ∃ x, x = updO (addO h (.st (T.set .nils (T.set (.s 0 0) (T.set (iv 0) .e 0) 1) 2) 3)) h.next (.st (cpB bs[i] kv) 3) := ⟨_, rfl⟩
  have hq : (addO h (.st (T.set .nils (T.set (.s 0 0) (T.set (iv 0) .e 0) 1) 2) 3)).tr.get h.next = some (.st (T.set .nils (T.set (.s 0 0) (T.set (iv 0) .e 0) 1) 2) 3) := by rw [get_add, if_pos rfl]
  have s2 : Sc H := by rw [hH]; exact (hs.add _).upd hq _
  have k2 : Kp h H [] := by rw [hH]; exact (Kp.add h _ []).trans (Kp.upd _ _ _) (fun z hz hl => by simp at hz; omega)
  have lo2 := Lo.of k2 hN (fun i hi => by simp at hi)
  have hbb : H.tr.get h.next = some (.st (cpB bs[i] kv) 3) := by rw [hH, get_upd]; exact if_pos rfl
  have hnx : H.next = h.next + 1 := by rw [hH]; rfl
  have rh2 := A.rh.keep k2 hs (by simp) (by simp) (fun _ _ => by simp)
  have uap : used (L0 ++ cs) = used L0 + wordsB (bs.take i) := by rw [used_app, A.us]
  have hwt := words_take hb
  have hwl := words_le bs (i + 1)
  -- the block
  obtain ⟨h1, c, e1, c1, c2, c3, rh1, s1, k1, i1⟩ := sMake rh2 s2 (k2.get hs hh (by simp)) hch hbb (rk.keep lo2) hg (by omega) hsz n
  have k01 : Kp h h1 [p, m] := (k2.mono (by simp)).trans k1 (fun i hi _ => hi)
  -- the row of words
  have gr1 : GR h1 v ((addrs (used L0) bs i).map iv) := A.gr.keep k01 hs (fun z hz hm => by
    obtain ⟨d, d1, _⟩ := A.rh.hd
    simp only [List.mem_cons, List.not_mem_nil, or_false] at hm
    rcases hm with rfl | rfl
    · exact A.gr.notSt d1 hz
    · exact A.gr.notMp A.rh.mp hz)
  obtain ⟨w, hw⟩ : ∃ w : Int, w = 2 * ((used (L0 ++ cs) : Nat) : Int) := ⟨_, rfl⟩
  obtain ⟨H2, hH2⟩ : ∃ x, x = addO h1 (.st (T.set (iv w) .e 0) 1) := ⟨_, rfl⟩
  have s3 : Sc H2 := by rw [hH2]; exact s1.add _
  have k3 : Kp h1 H2 [] := by rw [hH2]; exact Kp.add _ _ _
  have gr2 := gr1.keep k3 s1 (fun _ _ => by simp)
  obtain ⟨v', h3, e3, gr3, s4, k4, i4⟩ := app_one (b := 8) (by omega) gr2 s3 (x := iv w) rfl (by simp [addrs_len]; omega)
  have cell' : cellsOf v' = [v'] ∧ oneC v' = true := by
    rcases gr3 with ⟨h1, rfl⟩ | ⟨id, t, cells, minv, segs, h1, rfl, h3, h4⟩ <;> exact ⟨rfl, rfl⟩
  have n9v : q9 ∉ rid v := A.gr.notSt h9
  have nhv : bh ∉ rid v := A.gr.notSt hh
  have k13 : Kp h1 h3 (rid v) := (k3.mono (by simp)).trans k4 (fun i hi _ => hi)
  have k03 : Kp h h3 (p :: m :: rid v) := (k01.mono (fun z hz => by simp at hz ⊢; rcases hz with h | h <;> simp [h])).trans k13 (fun z hz _ => by simp [hz])
  have h93 : h3.tr.get q9 = some (.st c9 1) := k03.get hs h9 (by simp [n9p, n9m, n9v])
  have hh3 : h3.tr.get bh = some (.st ch 1) := k03.get hs hh (by simp [nhp, nhm, nhv])
  have s5 := s4.upd h93 (.st (c9.set v' 0) 1)
  have k5 := Kp.upd h3 q9 (.st (c9.set v' 0) 1)
  have k05 : Kp h (updO h3 q9 (.st (c9.set v' 0) 1)) (p :: m :: q9 :: rid v) := (k03.mono (fun z hz => by simp at hz ⊢; rcases hz with h | h | h <;> simp [h])).trans k5 (fun z hz _ => by simp at hz; simp [hz])
  have fc : ∀ z ∈ fpC c, h.next < z := fun z hz => by have := i1 z hz; omega
  have fL : ∀ z, z ∈ fpL (L0 ++ (cs ++ [c])) → z ∈ fpL (L0 ++ cs) ∨ z ∈ fpC c := fun z hz => by rw [← List.append_assoc] at hz; exact fpL_snoc.1 hz
  have vlt : ∀ z ∈ rid v, z < h.next := A.gr.lt hs
  have dsn : ∀ z ∈ rid v, z ∉ fpL (L0 ++ (cs ++ [c])) := fun z hz hm => by
    rcases fL z hm with h1 | h1
    · exact A.ds z hz h1
    · have := fc z h1; have := vlt z hz; omega
  have rh3 : RH h3 p m size (L0 ++ (cs ++ [c])) := by
    rw [← List.append_assoc]
    refine rh1.keep k13 s1 (fun hm => ?_) (fun hm => ?_) (fun z hz hm => ?_)
    · obtain ⟨d, d1, _⟩ := A.rh.hd; exact A.gr.notSt d1 hm
    · exact A.gr.notMp A.rh.mp hm
    · exact dsn z hm (by rw [← List.append_assoc]; exact hz)
  have rh5 : RH (updO h3 q9 (.st (c9.set v' 0) 1)) p m size (L0 ++ (cs ++ [c])) := by
    obtain ⟨a, b, d⟩ := rh3.notSt1 h93
    exact rh3.keep k5 s4 (by simp [Ne.symm a]) (by simp [Ne.symm b]) (fun z hz hm => by simp at hm; exact d (hm ▸ hz))
  have a1 := fun k => b_lssT (a := (i : Int)) (b := (bs.length : Int)) (by omega) k
  have a2 := fun k => b_add (a := (i : Int)) (b := 1) (by omega) (by omega) k
  have a3 : decide (i + 1 ≤ bs.length) = true := decide_eq_true (by omega)
  rw [hH] at e1
  unfold cpB at e1
  rw [← hw] at e1
  rw [hH2] at e3
  have h91 : h1.tr.get q9 = some (.st c9 1) := k01.get hs h9 (by simp [n9p, n9m])
  have step : ∃ fr', (∀ k, iter (exec (cal (n + 5)) c25L1) (f + 1) fr h k = iter (exec (cal (n + 5)) c25L1) f fr' (updO h3 q9 (.st (c9.set v' 0) 1)) k) ∧ FB2 fr' bh bg ∧ FB1 fr' (.sl id t off bs.length cap 3) q9 bs.length (i + 1) := by
    by_cases ht : bs[i].tag = 1
    · have e1' := e1.1 ht
      have a4 := fun k => b_eqlT (a := bs[i].tag) (b := 1) ht k
      apply Exists.intro
      refine ⟨fun k => ?_, ⟨?_, ?_⟩, ⟨?_, ?_, ?_, ?_⟩⟩
      · rw [it_succ]
        simp (maxSteps := 1000000) -implicitDefEqProofs only [c25L1, ↓x_seq, ↓x_reg, ↓o_consS, ↓r_pu, ↓p_bin, ↓e_t, ↓t_get f46, ↓t_get f45, ↓a1, ↓o_nil, ↓nrm_n]
        simp (maxSteps := 1000000) -implicitDefEqProofs only [c25T11, ↓x_seq, ↓x_cond, ↓e_t, ↓getK_same, ↓n_b, ↓x_skip, ↓nrm_n]
        simp (maxSteps := 1000000) -implicitDefEqProofs only [c25T12, ↓x_seq, ↓x_block, ↓x_reg, ↓o_consN, ↓r_pu, ↓p_iad, ↓e_t, ne_eq, Nat.reduceEqDiff, not_false_eq_true, ↓getK_other, ↓t_get f44, ↓n_sl, ↓evN_of, nx1, ↓t_get f46, ↓n_i, ↓int_n, ble_dec, a3, ↓r_rd, ↓m_ldn, ↓e_l0, ↓n_p, ↓t_get ho, ↓rds_3, ↓r1, ↓r2, ↓r3, ↓o_consS, ↓r_al, ↓m_new, ↓r_ef, ↓m_store, ↓e_l1, ↓c_agg, len_3, beq_dec, decide_true, ↓ga_new2, ↓ofL_cons, ↓ofL_nil, Nat.zero_add, Nat.reduceAdd, ↓o_nil, ↓nrm_n, ↓p_bin, ↓e_c, ↓p_mv, ↓nrm_e, ↓nrm_r, wrs_3, ↓one_i, Nat.reduceLT, ↓w_st, ↓one_s, ko, i_t]
        simp (maxSteps := 1000000) -implicitDefEqProofs only [c25T13, ↓x_seq, ↓x_reg, ↓o_consN, ↓r_pu, ↓p_mkf, ↓es_cons, ↓e_t, ne_eq, Nat.reduceEqDiff, not_false_eq_true, ↓getK_other, ↓t_get g2, ↓getK_same, ↓es_nil, ↓o_consS, ↓p_mv, ↓e_l0, ↓o_nil, ↓nrm_n]
        simp (maxSteps := 1000000) -implicitDefEqProofs only [c25T14, ↓x_seq, ↓x_reg, ↓o_consN, ↓r_pu, ↓p_fad, ↓e_t, ne_eq, nx1, not_false_eq_true, ↓getK_other, ↓getK_same, ↓n_p, ↓r_rd, ↓m_ld, ↓e_l0, ↓gu_same, Nat.zero_add, Nat.reduceLT, ↓m_st0, nx2, ↓o_consS, ↓p_bin, ↓e_c, ↓a4, ↓o_nil, ↓nrm_n, ↓x_cond, ↓n_b, ↓p_mkf, ↓es_cons, Nat.reduceEqDiff, ↓t_get g2, ↓es_nil, ↓p_mv]
        simp (maxSteps := 1000000) -implicitDefEqProofs only [c25T15, ↓x_seq, ↓x_reg, ↓o_consN, ↓r_pu, ↓p_mv, ↓e_t, ↓getK_same, ↓r_ef, ↓m_callv, ↓e_l0, ↓n_f, ↓es_nil, ↓ap_cl, List.nil_append, ↓p_ext, ↓e_l1, ↓o_consS, ↓o_nil, ↓nrm_n, ↓e1', ↓n_tup, ↓nth0, ↓nth1]
        simp (maxSteps := 1000000) -implicitDefEqProofs only [c25T16, ↓x_reg, ↓o_consN, ↓r_rd, ↓m_ld, ↓e_t, ne_eq, Nat.reduceEqDiff, not_false_eq_true, ↓getK_other, nx2, ↓t_get f9, ↓n_p, ↓t_get h91, Nat.reduceLT, ↓m_st0, ↓t_get hc9, ↓r_pu, ↓p_mv, ↓getK_same, ↓r_al, ↓bsl1, ↓e_l0, ↓c_i, ↓bslK_of, ↓r_ef, ↓m_app, ↓e_l2, ↓src_new, ↓e3, ↓m_store, cell'.1, len_1, beq_dec, decide_true, ↓t_get h93, ↓o_nil, nx1, ↓t_get f46, ↓a2, ↓wrs1, cell'.2, ↓w_st, i_t]
        rfl
      · simp only [get_other, get_same, ne_eq, Nat.reduceEqDiff, not_false_eq_true, g2]
      · simp only [get_other, get_same, ne_eq, Nat.reduceEqDiff, not_false_eq_true, g3]
      · simp only [get_other, get_same, ne_eq, Nat.reduceEqDiff, not_false_eq_true, f9]
      · simp only [get_other, get_same, ne_eq, Nat.reduceEqDiff, not_false_eq_true, f44]
      · simp only [get_other, get_same, ne_eq, Nat.reduceEqDiff, not_false_eq_true, f45]
      · simp only [get_other, get_same, ne_eq, Nat.reduceEqDiff, not_false_eq_true]; rfl
    · have e1' := e1.2 ht
      have a4 := fun k => b_eqlF (a := bs[i].tag) (b := 1) ht k
      apply Exists.intro
      refine ⟨fun k => ?_, ⟨?_, ?_⟩, ⟨?_, ?_, ?_, ?_⟩⟩
      · rw [it_succ]
        simp (maxSteps := 1000000) -implicitDefEqProofs only [c25L1, ↓x_seq, ↓x_reg, ↓o_consS, ↓r_pu, ↓p_bin, ↓e_t, ↓t_get f46, ↓t_get f45, ↓a1, ↓o_nil, ↓nrm_n]
        simp (maxSteps := 1000000) -implicitDefEqProofs only [c25T11, ↓x_seq, ↓x_cond, ↓e_t, ↓getK_same, ↓n_b, ↓x_skip, ↓nrm_n]
        simp (maxSteps := 1000000) -implicitDefEqProofs only [c25T12, ↓x_seq, ↓x_block, ↓x_reg, ↓o_consN, ↓r_pu, ↓p_iad, ↓e_t, ne_eq, Nat.reduceEqDiff, not_false_eq_true, ↓getK_other, ↓t_get f44, ↓n_sl, ↓evN_of, nx1, ↓t_get f46, ↓n_i, ↓int_n, ble_dec, a3, ↓r_rd, ↓m_ldn, ↓e_l0, ↓n_p, ↓t_get ho, ↓rds_3, ↓r1, ↓r2, ↓r3, ↓o_consS, ↓r_al, ↓m_new, ↓r_ef, ↓m_store, ↓e_l1, ↓c_agg, len_3, beq_dec, decide_true, ↓ga_new2, ↓ofL_cons, ↓ofL_nil, Nat.zero_add, Nat.reduceAdd, ↓o_nil, ↓nrm_n, ↓p_bin, ↓e_c, ↓p_mv, ↓nrm_e, ↓nrm_r, wrs_3, ↓one_i, Nat.reduceLT, ↓w_st, ↓one_s, ko, i_t]
        simp (maxSteps := 1000000) -implicitDefEqProofs only [c25T13, ↓x_seq, ↓x_reg, ↓o_consN, ↓r_pu, ↓p_mkf, ↓es_cons, ↓e_t, ne_eq, Nat.reduceEqDiff, not_false_eq_true, ↓getK_other, ↓t_get g2, ↓getK_same, ↓es_nil, ↓o_consS, ↓p_mv, ↓e_l0, ↓o_nil, ↓nrm_n]
        simp (maxSteps := 1000000) -implicitDefEqProofs only [c25T14, ↓x_seq, ↓x_reg, ↓o_consN, ↓r_pu, ↓p_fad, ↓e_t, ne_eq, nx1, not_false_eq_true, ↓getK_other, ↓getK_same, ↓n_p, ↓r_rd, ↓m_ld, ↓e_l0, ↓gu_same, Nat.zero_add, Nat.reduceLT, ↓m_st0, nx2, ↓o_consS, ↓p_bin, ↓e_c, ↓a4, ↓o_nil, ↓nrm_n, ↓x_cond, ↓n_b, ↓x_skip]
        simp (maxSteps := 1000000) -implicitDefEqProofs only [c25T15, ↓x_seq, ↓x_reg, ↓o_consN, ↓r_pu, ↓p_mv, ↓e_t, ne_eq, Nat.reduceEqDiff, not_false_eq_true, ↓getK_other, ↓getK_same, ↓r_ef, ↓m_callv, ↓e_l0, ↓n_f, ↓es_nil, ↓ap_cl, List.nil_append, ↓p_ext, ↓e_l1, ↓o_consS, ↓o_nil, ↓nrm_n, ↓e1', ↓n_tup, ↓nth0, ↓nth1]
        simp (maxSteps := 1000000) -implicitDefEqProofs only [c25T16, ↓x_reg, ↓o_consN, ↓r_rd, ↓m_ld, ↓e_t, ne_eq, Nat.reduceEqDiff, not_false_eq_true, ↓getK_other, nx2, ↓t_get f9, ↓n_p, ↓t_get h91, Nat.reduceLT, ↓m_st0, ↓t_get hc9, ↓r_pu, ↓p_mv, ↓getK_same, ↓r_al, ↓bsl1, ↓e_l0, ↓c_i, ↓bslK_of, ↓r_ef, ↓m_app, ↓e_l2, ↓src_new, ↓e3, ↓m_store, cell'.1, len_1, beq_dec, decide_true, ↓t_get h93, ↓o_nil, nx1, ↓t_get f46, ↓a2, ↓wrs1, cell'.2, ↓w_st, i_t]
        rfl
      · simp only [get_other, get_same, ne_eq, Nat.reduceEqDiff, not_false_eq_true, g2]
      · simp only [get_other, get_same, ne_eq, Nat.reduceEqDiff, not_false_eq_true, g3]
      · simp only [get_other, get_same, ne_eq, Nat.reduceEqDiff, not_false_eq_true, f9]
      · simp only [get_other, get_same, ne_eq, Nat.reduceEqDiff, not_false_eq_true, f44]
      · simp only [get_other, get_same, ne_eq, Nat.reduceEqDiff, not_false_eq_true, f45]
      · simp only [get_other, get_same, ne_eq, Nat.reduceEqDiff, not_false_eq_true]; rfl
  obtain ⟨fr', st1, st2, st3⟩ := step
  refine ⟨fr', updO h3 q9 (.st (c9.set v' 0) 1), cs ++ [c], v', st1, st2, st3, ⟨rh5, by simp [A.ln], fun j c' b hj hbj => ?_, ?_, ?_, ?_, ⟨c9.set v' 0, by rw [get_upd, if_pos rfl], by rw [get_same]⟩, ⟨ch, by rw [get_upd, if_neg A.ne]; exact hh3, hch⟩, A.ne, A.lo.1, A.lo.2.1, A.lo.2.2.1, fun z hz => ?_, fun z hz => ?_⟩, s5, ?_, k05.1, fun z c' hz hzp => ?_⟩
  · by_cases hji : j < cs.length
    · rw [List.getElem?_append_left hji] at hj; exact A.pr j c' b hj hbj
    · have hl := (List.getElem?_eq_some_iff.1 hj).1
      simp at hl
      have : j = i := by have := A.ln; omega
      subst this
      rw [List.getElem?_append_right (by omega), A.ln, Nat.sub_self] at hj
      simp at hj
      subst hj
      rw [hb] at hbj
      cases hbj
      exact ⟨c1, c2, c3⟩
  · rw [used_app, A.us, hwt]
    show wordsB (bs.take i) + (1 + c.fl.length + 0) = _
    rw [c2]; omega
  · have := gr3.keep k5 s4 (fun z hz hm => by simp at hm; exact gr3.notSt h93 (hm ▸ hz))
    rw [addrs_succ, List.map_append, ← uap, ← hw]; exact this
  · intro z hz hm
    rcases i4 z hz with h5 | h5
    · exact dsn z h5 hm
    · have h6 := (rh1.lt s1).2.2 z (by rw [List.append_assoc]; exact hm)
      have := k3.1
      omega
  · rcases fL z hz with h5 | h5
    · exact A.lo.2.2.2.1 z h5
    · have := fc z h5; omega
  · rcases i4 z hz with h5 | h5
    · exact A.lo.2.2.2.2 z h5
    · have := k3.1; have := k01.1; omega
  · exact Lo.of k05 hN (fun z hz => by
      simp only [List.mem_cons] at hz
      rcases hz with rfl | rfl | rfl | hz
      · exact A.lo.1
      · exact A.lo.2.1
      · exact A.lo.2.2.1
      · exact A.lo.2.2.2.2 z hz)
  · refine k05.get hs hz (fun hm => ?_)
    simp only [List.mem_cons] at hm
    rcases hm with h5 | h5 | h5 | h5
    · exact hzp h5
    · rw [h5, A.rh.mp] at hz; cases hz
    · rw [h5, h9] at hz; cases hz
    · exact A.gr.notSt hz h5

theorem aLoop (hfit : (used L0 + wordsB bs : Int) ≤ size) (hsz : size ≤ 20000) (hlen : bs.length ≤ 300000) (hg : ∀ b ∈ bs, goodB b) (n f : Nat) : ∀ (d i : Nat) (h : Heap) (fr : Fr) (cs : List Cl) (v : AV), i + d = bs.length → AL h N bh q9 p m size L0 cs bs i v → BlksR h N vb bs → Sc h → N ≤ h.next → FB2 fr bh bg → FB1 fr vb q9 bs.length i →
    ∃ fr' h' cs' v', (∀ k, iter (exec (cal (n + 5)) c25L1) (d + (f + 1)) fr h k = k (.exit 2) fr' h') ∧ FB2 fr' bh bg ∧ fr'.get 9 = some (.p q9 0 0) ∧ AL h' N bh q9 p m size L0 cs' bs bs.length v' ∧ Sc h' ∧ Lo h h' N ∧ h.next ≤ h'.next ∧ (∀ z c, h.tr.get z = some (.st c 3) → z ≠ p → h'.tr.get z = some (.st c 3))
  | 0, i, h, fr, cs, v, hd, A, rb, hs, hN, F2, F => by
    have hi : i = bs.length := by omega
    subst hi
    obtain ⟨g2, g3⟩ := F2
    obtain ⟨f9, f44, f45, f46⟩ := F
    have a1 := fun k => b_lssF (a := (bs.length : Int)) (b := (bs.length : Int)) (by omega) k
    refine ⟨T.set (.b false) fr 47, h, cs, v, fun k => ?_, ⟨?_, ?_⟩, ?_, A, hs, fun _ _ => rfl, Nat.le_refl _, fun _ _ h _ => h⟩
    · rw [Nat.zero_add, it_succ]
      simp (maxSteps := 1000000) -implicitDefEqProofs only [c25L1, ↓x_seq, ↓x_reg, ↓o_consS, ↓r_pu, ↓p_bin, ↓e_t, ↓t_get f46, ↓t_get f45, ↓a1, ↓o_nil, ↓nrm_n]
      simp (maxSteps := 1000000) -implicitDefEqProofs only [c25T11, ↓x_seq, ↓x_cond, ↓e_t, ↓getK_same, ↓n_b, ↓x_exit, ↓nrm_e]
    · rw [get_other _ _ (by decide)]; exact g2
    · rw [get_other _ _ (by decide)]; exact g3
    · rw [get_other _ _ (by decide)]; exact f9
  | d + 1, i, h, fr, cs, v, hd, A, rb, hs, hN, F2, F => by
    obtain ⟨fr1, h1, cs1, v1, e1, G2, G, A1, s1, l1, n1, o1⟩ := aStep A rb hs hN hfit hsz hlen (by omega) (hg _ (List.getElem_mem (by omega))) F2 F n (d + (f + 1))
    obtain ⟨fr', h', cs', v', e2, G3, g9, A2, s2, l2, n2, o2⟩ := aLoop hfit hsz hlen hg n f d (i + 1) h1 fr1 cs1 v1 (by omega) A1 (rb.keep l1) s1 (Nat.le_trans hN n1) G2 G
    refine ⟨fr', h', cs', v', fun k => ?_, G3, g9, A2, s2, l1.trans l2, Nat.le_trans n1 n2, fun z c hz hp => o2 z c (o1 z c hz hp) hp⟩
    rw [show d + 1 + (f + 1) = d + (f + 1) + 1 from by omega, e1, e2]
end
end Go.Proofs.Ytodlgflkhcknaaa.gcc

/- Build: the fields are set. -/
namespace Go.Proofs.Ytodlgflkhcknaaa.gcc
open Go Go.AE
set_option linter.unusedSimpArgs false
set_option maxRecDepth 100000

/-- A value that may be. -/
def okRf (n : Nat) (r : Rf) : Prop := (r.1 = true ∧ In62 r.2) ∨ (r.1 = false ∧ 0 ≤ r.2 ∧ r.2 < n)
/-- While the fields are set: those of blocks below i, and of block i those below k. -/
structure SL (h : Heap) (N bh q9 p m : Nat) (size : Int) (L0 cs : List Cl) (bs : List Bl) (v : AV) (i k : Nat) : Prop where
  rh : RH h p m size (L0 ++ cs)
  ln : cs.length = bs.length
  pr : ∀ (j : Nat) c b, cs[j]? = some c → bs[j]? = some b → c.tag = b.tag ∧ c.fl.length = b.sn + b.kids.length ∧ (b.tag = 1 → c.fl = bytesW b.sn b.sv)
  dn : ∀ (j : Nat) c b (t : Nat) r, cs[j]? = some c → bs[j]? = some b → b.kids[t]? = some r → (j < i ∨ (j = i ∧ t < k)) → c.fl[t]? = some (wordOf (addrs (used L0) bs bs.length) r)
  gr : GR h v ((addrs (used L0) bs bs.length).map iv)
  ds : ∀ z ∈ rid v, z ∉ fpL (L0 ++ cs)
  b9 : ∃ c, h.tr.get q9 = some (.st c 1) ∧ c.get 0 = some v
  bx : ∃ c, h.tr.get bh = some (.st c 1) ∧ c.get 0 = some (.p p 0 0)
  lo : ∀ z ∈ fpL (L0 ++ cs), N ≤ z

theorem us_take {cs : List Cl} {bs : List Bl} (ln : cs.length = bs.length) (pr : ∀ (j : Nat) c b, cs[j]? = some c → bs[j]? = some b → c.fl.length = b.sn + b.kids.length) : ∀ j, used (cs.take j) = wordsB (bs.take j)
  | 0 => by simp [used, wordsB]
  | j + 1 => by
    by_cases hj : j < cs.length
    · have h1 : cs[j]? = some cs[j] := List.getElem?_eq_getElem hj
      have h2 : bs[j]? = some (bs[j]'(by omega)) := List.getElem?_eq_getElem (by omega)
      rw [words_take h2, ← us_take ln pr j, List.take_add_one, h1, used_app]
      show used (cs.take j) + (1 + cs[j].fl.length + 0) = _
      rw [pr j _ _ h1 h2]; omega
    · have e1 : cs.take (j + 1) = cs.take j := by rw [List.take_of_length_le (by omega), List.take_of_length_le (by omega)]
      have e2 : bs.take (j + 1) = bs.take j := by rw [List.take_of_length_le (by omega), List.take_of_length_le (by omega)]
      rw [e1, e2]; exact us_take ln pr j

def FS (fr : Fr) (bh bg q9 : Nat) (vb : AV) (L i : Nat) : Prop :=
  fr.get 2 = some (.p bh 0 0) ∧ fr.get 3 = some (.p bg 0 0) ∧ fr.get 9 = some (.p q9 0 0) ∧ fr.get 15 = some (.f 45 [] [.p q9 0 0]) ∧ fr.get 67 = some vb ∧ fr.get 68 = some (iv L) ∧ fr.get 69 = some (iv i)
def FT (fr : Fr) (kv : AV) (K i k : Nat) : Prop := fr.get 16 = some (iv i) ∧ fr.get 75 = some kv ∧ fr.get 76 = some (iv K) ∧ fr.get 77 = some (iv k)

theorem GR.same {h : Heap} {v : AV} {l : List AV} (g : GR h v l) : sameV v v = true := by
  rcases g with ⟨rfl, rfl⟩ | ⟨id, t, cells, minv, segs, h1, rfl, h3, h4⟩
  · rfl
  · exact s_sl _ _ _ _ _

section
variable {N bh bg q9 p m : Nat} {size : Int} {L0 : List Cl} {vb : AV} {bs : List Bl} {v : AV}
theorem tStep {h : Heap} {cs : List Cl} {i k : Nat} (S : SL h N bh q9 p m size L0 cs bs v i k) (hs : Sc h) (hN : N ≤ h.next) (hlen : bs.length ≤ 300000) {b : Bl} (hb : bs[i]? = some b) {kv : AV} (rk : KidsR h N kv b.kids) (hg : goodB b) (hok : ∀ r ∈ b.kids, okRf bs.length r) (hk : k < b.kids.length)
    {fr : Fr} (F : FS fr bh bg q9 vb bs.length i) (G : FT fr kv b.kids.length i k) (n f : Nat) :
    ∃ fr' h' cs', (∀ K, iter (exec (cal (n + 3)) c25L3) (f + 1) fr h K = iter (exec (cal (n + 3)) c25L3) f fr' h' K) ∧ FS fr' bh bg q9 vb bs.length i ∧ FT fr' kv b.kids.length i (k + 1) ∧ SL h' N bh q9 p m size L0 cs' bs v i (k + 1) ∧ Sc h' ∧ Lo h h' N ∧ h.next ≤ h'.next ∧ (∀ z c, h.tr.get z = some (.st c 3) → h'.tr.get z = some (.st c 3)) := by
  obtain ⟨g2, g3, g9, g15, g67, g68, g69⟩ := F
  obtain ⟨f16, f75, f76, f77⟩ := G
  have hil : i < bs.length := (List.getElem?_eq_some_iff.1 hb).1
  obtain ⟨ch, hh, hch⟩ := S.bx
  obtain ⟨c9, h9, hc9⟩ := S.b9
  have hbn : bh ≠ h.next := Nat.ne_of_lt (hs _ _ hh)
  have h9n : q9 ≠ h.next := Nat.ne_of_lt (hs _ _ h9)
  obtain ⟨n9p, n9m, n9f⟩ := S.rh.notSt1 h9
  obtain ⟨nhp, nhm, nhf⟩ := S.rh.notSt1 hh
  have hr : b.kids[k]? = some b.kids[k] := List.getElem?_eq_getElem hk
  obtain ⟨r, hreq⟩ : ∃ r, r = b.kids[k] := ⟨_, rfl⟩
  rw [← hreq] at hr
  have hrk : okRf bs.length r := hok r (hreq ▸ List.getElem_mem hk)
  obtain ⟨A, hA⟩ : ∃ A, A = addrs (used L0) bs bs.length := ⟨_, rfl⟩
  have gr := S.gr
  rw [← hA] at gr
  have hAl : A.length = bs.length := by rw [hA, addrs_len]
  -- the copy of the value
  obtain ⟨H, hH⟩ : ∃ x, x = updO (addO h (.st (T.set (iv 0) (T.set (.b false) .e 0) 1) 2)) h.next (.st (T.set (iv r.2) (T.set (.b r.1) (T.set (iv 0) (T.set (.b false) .e 0) 1) 0) 1) 2) := ⟨_, rfl⟩
  have hq : (addO h (.st (T.set (iv 0) (T.set (.b false) .e 0) 1) 2)).tr.get h.next = some (.st (T.set (iv 0) (T.set (.b false) .e 0) 1) 2) := by rw [get_add, if_pos rfl]
  have s2 : Sc H := by rw [hH]; exact (hs.add _).upd hq _
  have k2 : Kp h H [] := by rw [hH]; exact (Kp.add h _ []).trans (Kp.upd _ _ _) (fun z hz hl => by simp at hz; omega)
  have hh2 := k2.get hs hh (by simp)
  have h92 := k2.get hs h9 (by simp)
  have gr2 := gr.keep k2 hs (fun _ _ => by simp)
  obtain ⟨h1, e1, s1, k1⟩ := sWord s2 h92 hc9 gr2 (r := r) (by rw [hAl]; exact hrk) (n + 1)
  have k01 : Kp h h1 [] := k2.trans k1 (fun z hz _ => hz)
  have hh1 := k01.get hs hh (by simp)
  have h91 := k01.get hs h9 (by simp)
  have gr1 := gr.keep k01 hs (fun _ _ => by simp)
  -- the block
  have hcl : i < cs.length := by rw [S.ln]; exact hil
  have hc : cs[i]? = some cs[i] := List.getElem?_eq_getElem hcl
  obtain ⟨p1, p2, p3⟩ := S.pr i _ _ hc hb
  have ntag : b.tag ≠ 1 := fun e => by
    rcases good_tag hg with ⟨_, h2⟩ | ⟨h2, _⟩
    · rw [h2] at hk; simp at hk
    · exact h2 e
  have hsn : b.sn = 0 := by
    rcases good_tag hg with ⟨h2, _⟩ | ⟨_, _, _, h2, _⟩
    · exact absurd h2 ntag
    · exact h2
  have hjc : (L0 ++ cs)[L0.length + i]? = some cs[i] := by rw [List.getElem?_append_right (by omega), Nat.add_sub_cancel_left]; exact hc
  have hust := us_take S.ln (fun j c b hc hb => (S.pr j c b hc hb).2.1) i
  have hAi : A[i]? = some (2 * ((used L0 + wordsB (bs.take i) : Nat) : Int)) := by
    rw [hA]; unfold addrs; rw [List.getElem?_map, List.getElem?_range hil]; rfl
  have htk : (L0 ++ cs).take (L0.length + i) = L0 ++ cs.take i := by rw [List.take_append, List.take_of_length_le (by omega), Nat.add_sub_cancel_left]
  have hlook : look 0 (L0 ++ cs) (2 * ((used L0 + wordsB (bs.take i) : Nat) : Int)) = some cs[i] := by
    have := look_addr (a := 0) hjc
    rw [htk, used_app, hust, Nat.zero_add] at this
    exact this
  have rh1 := S.rh.keep k01 hs (by simp) (by simp) (fun _ _ => by simp)
  obtain ⟨h', e2, rh', s', k', nx'⟩ := rSet rh1 s1 hjc hlook (i := k) (by rw [p2]; omega) (wordOf A r) n
  have hset : (L0 ++ cs).set (L0.length + i) (cs[i].put k (wordOf A r)) = L0 ++ cs.set i (cs[i].put k (wordOf A r)) := by
    rw [List.set_append_right _ _ (by omega), Nat.add_sub_cancel_left]
  rw [hset] at rh'
  have k0' : Kp h h' (rid cs[i].row) := (k01.mono (by simp)).trans k' (fun z hz _ => hz)
  have rowIn : ∀ z ∈ rid cs[i].row, z ∈ fpL (L0 ++ cs) := fun z hz => List.mem_flatMap.2 ⟨cs[i], by simp, by simp [fpC, hz]⟩
  have fpEq : fpL (L0 ++ cs.set i (cs[i].put k (wordOf A r))) = fpL (L0 ++ cs) := by
    rw [fpL_app, fpL_app, fpL_set (c := cs[i]) (c' := cs[i].put k (wordOf A r)) rfl rfl _ _ hc]
  obtain ⟨id, t, o, rfl, ho, hrd⟩ := gr.read (j := i) (x := iv (2 * ((used L0 + wordsB (bs.take i) : Nat) : Int))) (by rw [List.getElem?_map, hAi]; rfl)
  have ho1 := k01.get hs ho (by simp)
  have hidn : id ≠ h.next := Nat.ne_of_lt (hs _ _ ho)
  have vsm := gr.same
  have hrd' : ∀ k, rdK o t (i * 1) k = k (iv (2 * ((used L0 + wordsB (bs.take i) : Nat) : Int))) := fun k => by rw [Nat.mul_one]; exact hrd k
  have a1 := fun K => b_lssT (a := (k : Int)) (b := (b.kids.length : Int)) (by omega) K
  have ksz : b.kids.length ≤ 10 := by have := kidsOf_le b.tag; have := hg.1; omega
  have a2 := fun K => b_add (a := (k : Int)) (b := 1) (by omega) (by omega) K
  have a3 : decide (i + 1 ≤ (A.map iv).length) = true := decide_eq_true (by simp; omega)
  have a4 : decide (k + 1 ≤ b.kids.length) = true := decide_eq_true hk
  rcases rk with ⟨hk0, _⟩ | ⟨idk, tk, offk, capk, ok, rfl, hik, hok', hrk'⟩
  · rw [hk0] at hk; simp at hk
  obtain ⟨r1, r2⟩ := hrk' k r hr
  have hkn : idk ≠ h.next := by omega
  rw [hH] at e1
  have nv : ∀ z c', h.tr.get z = some (.st c' 3) → z ∉ rid cs[i].row := fun z c' hz hm => S.rh.bl _ (List.mem_of_getElem? hjc) |>.2.notSt hz hm
  apply Exists.intro
  refine ⟨h', cs.set i (cs[i].put k (wordOf A r)), fun K => ?_, ⟨?_, ?_, ?_, ?_, ?_, ?_, ?_⟩, ⟨?_, ?_, ?_, ?_⟩, ⟨rh', by simp [S.ln], fun j c' b' hj hb' => ?_, fun j c' b' t' r' hj hb' hr' hlt => ?_, ?_, ?_, ⟨c9, ?_, hc9⟩, ⟨ch, ?_, hch⟩, ?_⟩, s', ?_, k0'.1, fun z c' hz => k0'.get hs hz (nv z c' hz)⟩
  · rw [it_succ]
    simp (maxSteps := 1000000) -implicitDefEqProofs only [c25L3, ↓x_seq, ↓x_reg, ↓o_consS, ↓r_pu, ↓p_bin, ↓e_t, ↓t_get f77, ↓t_get f76, ↓a1, ↓o_nil, ↓nrm_n]
    simp (maxSteps := 1000000) -implicitDefEqProofs only [c25T24, ↓x_seq, ↓x_cond, ↓e_t, ↓getK_same, ↓n_b, ↓x_skip, ↓nrm_n]
    simp (maxSteps := 1000000) -implicitDefEqProofs only [c25T25, ↓x_seq, ↓x_block, ↓x_reg, ↓o_consN, ↓r_pu, ↓p_mv, ↓e_t, ne_eq, nx1, not_false_eq_true, ↓getK_other, ↓t_get f77, ↓p_iad, Nat.reduceEqDiff, ↓t_get f75, ↓n_sl, ↓evN_of, ↓n_i, ↓int_n, ble_dec, a4, ↓r_rd, ↓m_ldn, ↓e_l0, ↓n_p, ↓t_get hok', ↓rds_2, ↓r1, ↓r2, ↓o_consS, ↓r_al, ↓m_new, ↓e_l3, ↓r_ef, ↓m_store, ↓e_l1, ↓e_l2, ↓c_agg, len_2, beq_dec, decide_true, ↓ga_new2, ↓ofL_cons, ↓ofL_nil, Nat.zero_add, ↓o_nil, ↓nrm_n, ↓p_bin, ↓e_c, ↓nrm_e, ↓nrm_r, wrs_2, ↓one_b, Nat.reduceLT, ↓w_st, ↓one_i, i_t]
    simp (maxSteps := 1000000) -implicitDefEqProofs only [c25T26, ↓x_dreg, ↓d_rdN, ↓m_ld, ↓e_t, ne_eq, Nat.reduceEqDiff, not_false_eq_true, ↓getK_other, ↓t_get g2, ↓n_p, hbn, ↓gu_other, ↓ga_old, ↓t_get hh, Nat.reduceLT, ↓m_st0, ↓t_get hch, ↓t_get g9, h9n, ↓t_get h9, ↓t_get hc9, ↓d_puN, ↓p_mv, nx2, ↓t_get f16, ↓p_iad, ↓e_l1, ↓n_sl, ↓evN_of, ↓e_l0, ↓n_i, ↓int_n, ble_dec, a3, hidn, ↓t_get ho, Nat.zero_add, ↓getK_same, ↓t_get g15, ↓m_ldn, nx1', ↓gu_same, ↓rds_2, nx1, ↓d_efN, ↓m_callv, ↓n_f, ↓es_cons, ↓es_nil, ↓ap_cl, List.cons_append, List.nil_append, ↓m_callf, ↓e_l8, ↓e_l4, ↓e_l3, ↓d_nil, ↓rev_cons, ↓rev_nil, beq_dec, decide_false, decide_true, k_cons, ↓ka_cons, Nat.zero_le, i_t, ↓hrd', Nat.reduceLeDiff, Nat.reduceAdd, i_f, ↓ka_nil, and_t, ↓s_sl, ↓s_p, ↓k_nil, ↓t_get f77, ↓a2, ↓e1, ↓t_get ho1, ↓t_get h91, ↓t_get hh1, ↓e2, ↓s_i]
    rfl
  · simp only [get_other, get_same, ne_eq, Nat.reduceEqDiff, not_false_eq_true, g2]
  · simp only [get_other, get_same, ne_eq, Nat.reduceEqDiff, not_false_eq_true, g3]
  · simp only [get_other, get_same, ne_eq, Nat.reduceEqDiff, not_false_eq_true, g9]
  · simp only [get_other, get_same, ne_eq, Nat.reduceEqDiff, not_false_eq_true, g15]
  · simp only [get_other, get_same, ne_eq, Nat.reduceEqDiff, not_false_eq_true, g67]
  · simp only [get_other, get_same, ne_eq, Nat.reduceEqDiff, not_false_eq_true, g68]
  · simp only [get_other, get_same, ne_eq, Nat.reduceEqDiff, not_false_eq_true, g69]
  · simp only [get_other, get_same, ne_eq, Nat.reduceEqDiff, not_false_eq_true, f16]
  · simp only [get_other, get_same, ne_eq, Nat.reduceEqDiff, not_false_eq_true, f75]
  · simp only [get_other, get_same, ne_eq, Nat.reduceEqDiff, not_false_eq_true, f76]
  · simp only [get_other, get_same, ne_eq, Nat.reduceEqDiff, not_false_eq_true]; rfl
  · by_cases e : j = i
    · subst e
      rw [List.getElem?_set_self hcl] at hj
      cases hj
      rw [hb] at hb'
      cases hb'
      exact ⟨p1, by rw [put_len]; exact p2, fun h => absurd h ntag⟩
    · rw [List.getElem?_set_ne (Ne.symm e)] at hj; exact S.pr j c' b' hj hb'
  · rw [← hA]
    by_cases e : j = i
    · subst e
      rw [List.getElem?_set_self hcl] at hj
      cases hj
      rw [hb] at hb'
      cases hb'
      show (cs[j].fl.set k (wordOf A r))[t']? = _
      by_cases et : t' = k
      · subst et
        rw [hr] at hr'
        cases hr'
        rw [List.getElem?_set_self (by rw [p2]; omega)]
      · rw [List.getElem?_set_ne (Ne.symm et)]
        have := S.dn j _ b t' r' hc hb hr' (.inr ⟨rfl, by omega⟩)
        rw [← hA] at this
        exact this
    · rw [List.getElem?_set_ne (Ne.symm e)] at hj
      have := S.dn j c' b' t' r' hj hb' hr' (.inl (by omega))
      rw [← hA] at this
      exact this
  · rw [← hA]; exact gr.keep k0' hs (fun z hz hm => S.ds z hz (rowIn z hm))
  · intro z hz; rw [fpEq]; exact S.ds z hz
  · exact k0'.get hs h9 (fun hm => n9f (rowIn _ hm))
  · exact k0'.get hs hh (fun hm => nhf (rowIn _ hm))
  · intro z hz; rw [fpEq] at hz; exact S.lo z hz
  · exact Lo.of k0' hN (fun z hz => S.lo z (rowIn z hz))

theorem tLoop {i : Nat} (hlen : bs.length ≤ 300000) {b : Bl} (hb : bs[i]? = some b) {kv : AV} (hg : goodB b) (hok : ∀ r ∈ b.kids, okRf bs.length r) (n f : Nat) : ∀ (d k : Nat) (h : Heap) (fr : Fr) (cs : List Cl), k + d = b.kids.length → SL h N bh q9 p m size L0 cs bs v i k → Sc h → N ≤ h.next → KidsR h N kv b.kids → FS fr bh bg q9 vb bs.length i → FT fr kv b.kids.length i k →
    ∃ fr' h' cs', (∀ K, iter (exec (cal (n + 3)) c25L3) (d + (f + 1)) fr h K = K (.exit 6) fr' h') ∧ FS fr' bh bg q9 vb bs.length i ∧ SL h' N bh q9 p m size L0 cs' bs v i b.kids.length ∧ Sc h' ∧ Lo h h' N ∧ h.next ≤ h'.next ∧ (∀ z c, h.tr.get z = some (.st c 3) → h'.tr.get z = some (.st c 3))
  | 0, k, h, fr, cs, hd, S, hs, hN, rk, F, G => by
    have hk : k = b.kids.length := by omega
    subst hk
    obtain ⟨g2, g3, g9, g15, g67, g68, g69⟩ := F
    obtain ⟨f16, f75, f76, f77⟩ := G
    have a1 := fun K => b_lssF (a := (b.kids.length : Int)) (b := (b.kids.length : Int)) (by omega) K
    refine ⟨T.set (.b false) fr 78, h, cs, fun K => ?_, ⟨?_, ?_, ?_, ?_, ?_, ?_, ?_⟩, S, hs, fun _ _ => rfl, Nat.le_refl _, fun _ _ h => h⟩
    · rw [Nat.zero_add, it_succ]
      simp (maxSteps := 1000000) -implicitDefEqProofs only [c25L3, ↓x_seq, ↓x_reg, ↓o_consS, ↓r_pu, ↓p_bin, ↓e_t, ↓t_get f77, ↓t_get f76, ↓a1, ↓o_nil, ↓nrm_n]
      simp (maxSteps := 1000000) -implicitDefEqProofs only [c25T24, ↓x_seq, ↓x_cond, ↓e_t, ↓getK_same, ↓n_b, ↓x_exit, ↓nrm_e]
    · rw [get_other _ _ (by decide)]; exact g2
    · rw [get_other _ _ (by decide)]; exact g3
    · rw [get_other _ _ (by decide)]; exact g9
    · rw [get_other _ _ (by decide)]; exact g15
    · rw [get_other _ _ (by decide)]; exact g67
    · rw [get_other _ _ (by decide)]; exact g68
    · rw [get_other _ _ (by decide)]; exact g69
  | d + 1, k, h, fr, cs, hd, S, hs, hN, rk, F, G => by
    obtain ⟨fr1, h1, cs1, e1, F1, G1, S1, s1, l1, n1, o1⟩ := tStep S hs hN hlen hb rk hg hok (by omega) F G n (d + (f + 1))
    obtain ⟨fr', h', cs', e2, F2, S2, s2, l2, n2, o2⟩ := tLoop hlen hb hg hok n f d (k + 1) h1 fr1 cs1 (by omega) S1 s1 (Nat.le_trans hN n1) (rk.keep l1) F1 G1
    refine ⟨fr', h', cs', fun K => ?_, F2, S2, s2, l1.trans l2, Nat.le_trans n1 n2, fun z c hz => o2 z c (o1 z c hz)⟩
    rw [show d + 1 + (f + 1) = d + (f + 1) + 1 from by omega, e1, e2]
end
end Go.Proofs.Ytodlgflkhcknaaa.gcc

/- Build, whole. -/
namespace Go.Proofs.Ytodlgflkhcknaaa.gcc
open Go Go.AE
set_option linter.unusedSimpArgs false
set_option maxRecDepth 100000

section
variable {N bh bg q9 p m : Nat} {size : Int} {L0 : List Cl} {vb : AV} {bs : List Bl} {v : AV}
theorem SL.keep {h h' : Heap} {cs : List Cl} {i k : Nat} (S : SL h N bh q9 p m size L0 cs bs v i k) (a : Kp h h' []) (hs : Sc h) : SL h' N bh q9 p m size L0 cs bs v i k := by
  obtain ⟨c9, h9, hc9⟩ := S.b9
  obtain ⟨ch, hh, hch⟩ := S.bx
  exact ⟨S.rh.keep a hs (by simp) (by simp) (fun _ _ => by simp), S.ln, S.pr, S.dn, S.gr.keep a hs (fun _ _ => by simp), S.ds, ⟨c9, a.get hs h9 (by simp), hc9⟩, ⟨ch, a.get hs hh (by simp), hch⟩, S.lo⟩
theorem SL.next {h : Heap} {cs : List Cl} {i : Nat} {b : Bl} (S : SL h N bh q9 p m size L0 cs bs v i b.kids.length) (hb : bs[i]? = some b) : SL h N bh q9 p m size L0 cs bs v (i + 1) 0 :=
  ⟨S.rh, S.ln, S.pr, fun j c b' t r hj hb' hr hl => by
    by_cases e : j = i
    · subst e
      have hbb := hb'
      rw [hb] at hbb
      cases hbb
      exact S.dn j c b t r hj hb hr (.inr ⟨rfl, (List.getElem?_eq_some_iff.1 hr).1⟩)
    · exact S.dn j c b' t r hj hb' hr (.inl (by omega)), S.gr, S.ds, S.b9, S.bx, S.lo⟩

theorem oStep {h : Heap} {cs : List Cl} {i : Nat} (S : SL h N bh q9 p m size L0 cs bs v i 0) (rb : BlksR h N vb bs) (hs : Sc h) (hN : N ≤ h.next) (hlen : bs.length ≤ 300000) (hi : i < bs.length) (hg : goodB bs[i]) (hok : ∀ r ∈ bs[i].kids, okRf bs.length r)
    {fr : Fr} (F : FS fr bh bg q9 vb bs.length i) (n f : Nat) :
    ∃ fr' h' cs', (∀ K, iter (exec (cal (n + 3)) c25L2) (f + 1) fr h K = iter (exec (cal (n + 3)) c25L2) f fr' h' K) ∧ FS fr' bh bg q9 vb bs.length (i + 1) ∧ SL h' N bh q9 p m size L0 cs' bs v (i + 1) 0 ∧ Sc h' ∧ Lo h h' N ∧ h.next ≤ h'.next ∧ (∀ z c, h.tr.get z = some (.st c 3) → h'.tr.get z = some (.st c 3)) := by
  obtain ⟨g2, g3, g9, g15, g67, g68, g69⟩ := F
  have hb : bs[i]? = some bs[i] := List.getElem?_eq_getElem (by omega)
  rcases rb with ⟨rfl, _⟩ | ⟨id, t, off, cap, o, rfl, hid, ho, hr⟩
  · simp at hi
  obtain ⟨r1, r2, kv, r3, rk⟩ := hr i _ hb
  obtain ⟨kc, ko, ksm⟩ := rk.cells
  have hkl := fun k => rk.len k
  have hidn : id ≠ h.next := by omega
  obtain ⟨H, hH⟩ : ∃ x, x = updO (addO h (.st (T.set .nils (T.set (.s 0 0) (T.set (iv 0) .e 0) 1) 2) 3)) h.next (.st (cpB bs[i] kv) 3) := ⟨_, rfl⟩
  have hq : (addO h (.st (T.set .nils (T.set (.s 0 0) (T.set (iv 0) .e 0) 1) 2) 3)).tr.get h.next = some (.st (T.set .nils (T.set (.s 0 0) (T.set (iv 0) .e 0) 1) 2) 3) := by rw [get_add, if_pos rfl]
  have s2 : Sc H := by rw [hH]; exact (hs.add _).upd hq _
  have k2 : Kp h H [] := by rw [hH]; exact (Kp.add h _ []).trans (Kp.upd _ _ _) (fun z hz hl => by simp at hz; omega)
  have lo2 := Lo.of k2 hN (fun i hi => by simp at hi)
  obtain ⟨fr1, hfr⟩ : ∃ x : Fr, x = T.set (iv 0) (T.set (iv bs[i].kids.length) (T.set kv (T.set (iv i) (T.set (.p h.next 0 0) (T.set (.b true) fr 70) 17) 16) 75) 76) 77 := ⟨_, rfl⟩
  have F1 : FS fr1 bh bg q9 (.sl id t off bs.length cap 3) bs.length i := by
    rw [hfr]
    refine ⟨?_, ?_, ?_, ?_, ?_, ?_, ?_⟩ <;> simp only [get_other, get_same, ne_eq, Nat.reduceEqDiff, not_false_eq_true, g2, g3, g9, g15, g67, g68, g69]
  have G1 : FT fr1 kv bs[i].kids.length i 0 := by
    rw [hfr]
    refine ⟨?_, ?_, ?_, ?_⟩ <;> simp only [get_other, get_same, ne_eq, Nat.reduceEqDiff, not_false_eq_true]
    rfl
  obtain ⟨fr2, h', cs', e, ⟨j2, j3, j9, j15, j67, j68, j69⟩, S2, s', l', n', o'⟩ := tLoop hlen hb hg hok n (1000000 - bs[i].kids.length - 1) bs[i].kids.length 0 H fr1 cs (by omega) (S.keep k2 hs) s2 (Nat.le_trans hN k2.1) (rk.keep lo2) F1 G1
  have ksz : bs[i].kids.length ≤ 10 := by have := kidsOf_le bs[i].tag; have := hg.1; omega
  rw [show bs[i].kids.length + (1000000 - bs[i].kids.length - 1 + 1) = 1000000 from by omega, hH, hfr] at e
  unfold cpB at e
  have a1 := fun K => b_lssT (a := (i : Int)) (b := (bs.length : Int)) (by omega) K
  have a2 := fun K => b_add (a := (i : Int)) (b := 1) (by omega) (by omega) K
  have a3 : decide (i + 1 ≤ bs.length) = true := decide_eq_true (by omega)
  apply Exists.intro
  refine ⟨h', cs', fun K => ?_, ⟨?_, ?_, ?_, ?_, ?_, ?_, ?_⟩, S2.next hb, s', lo2.trans l', Nat.le_trans k2.1 n', fun z c hz => o' z c (k2.get hs hz (by simp))⟩
  · rw [it_succ]
    simp (maxSteps := 1000000) -implicitDefEqProofs only [c25L2, ↓x_seq, ↓x_reg, ↓o_consS, ↓r_pu, ↓p_bin, ↓e_t, ↓t_get g69, ↓t_get g68, ↓a1, ↓o_nil, ↓nrm_n]
    simp (maxSteps := 1000000) -implicitDefEqProofs only [c25T20, ↓x_seq, ↓x_cond, ↓e_t, ↓getK_same, ↓n_b, ↓x_skip, ↓nrm_n]
    simp (maxSteps := 1000000) -implicitDefEqProofs only [c25T21, ↓x_seq, ↓x_block, ↓x_reg, ↓o_consN, ↓r_pu, ↓p_mv, ↓e_t, ne_eq, nx1, not_false_eq_true, ↓getK_other, ↓t_get g69, ↓p_iad, Nat.reduceEqDiff, ↓t_get g67, ↓n_sl, ↓evN_of, ↓n_i, ↓int_n, ble_dec, a3, ↓r_rd, ↓m_ldn, ↓e_l0, ↓n_p, ↓t_get ho, ↓rds_3, ↓r1, ↓r2, ↓r3, ↓o_consS, ↓r_al, ↓m_new, ↓e_l3, ↓r_ef, ↓m_store, ↓e_l1, ↓e_l2, ↓c_agg, len_3, beq_dec, decide_true, ↓ga_new2, ↓ofL_cons, ↓ofL_nil, Nat.zero_add, Nat.reduceAdd, ↓o_nil, ↓nrm_n, ↓p_bin, ↓e_c, ↓nrm_e, ↓nrm_r, wrs_3, ↓one_i, Nat.reduceLT, ↓w_st, ↓one_s, ko, i_t]
    simp (maxSteps := 1000000) -implicitDefEqProofs only [c25T22, ↓x_seq, ↓x_reg, ↓o_consN, ↓r_pu, ↓p_fad, ↓e_t, ne_eq, nx1', not_false_eq_true, ↓getK_other, ↓getK_same, ↓n_p, ↓o_consS, ↓r_rd, ↓m_ld, ↓e_l0, ↓gu_same, Nat.zero_add, Nat.reduceLT, ↓m_st0, ↓p_len, ↓hkl, ↓p_mv, ↓e_c, ↓o_nil, ↓nrm_n]
    simp (maxSteps := 1000000) -implicitDefEqProofs only [c25T23, ↓x_block, ↓x_loop, ↓e, ↓rec_bb, ↓t_get j69, ↓a2]
    rfl
  · simp only [get_other, get_same, ne_eq, Nat.reduceEqDiff, not_false_eq_true, j2]
  · simp only [get_other, get_same, ne_eq, Nat.reduceEqDiff, not_false_eq_true, j3]
  · simp only [get_other, get_same, ne_eq, Nat.reduceEqDiff, not_false_eq_true, j9]
  · simp only [get_other, get_same, ne_eq, Nat.reduceEqDiff, not_false_eq_true, j15]
  · simp only [get_other, get_same, ne_eq, Nat.reduceEqDiff, not_false_eq_true, j67]
  · simp only [get_other, get_same, ne_eq, Nat.reduceEqDiff, not_false_eq_true, j68]
  · simp only [get_other, get_same, ne_eq, Nat.reduceEqDiff, not_false_eq_true]; rfl

theorem oLoop (hlen : bs.length ≤ 300000) (hg : ∀ b ∈ bs, goodB b) (hok : ∀ b ∈ bs, ∀ r ∈ b.kids, okRf bs.length r) (n f : Nat) : ∀ (d i : Nat) (h : Heap) (fr : Fr) (cs : List Cl), i + d = bs.length → SL h N bh q9 p m size L0 cs bs v i 0 → BlksR h N vb bs → Sc h → N ≤ h.next → FS fr bh bg q9 vb bs.length i →
    ∃ fr' h' cs', (∀ K, iter (exec (cal (n + 3)) c25L2) (d + (f + 1)) fr h K = K (.exit 4) fr' h') ∧ FS fr' bh bg q9 vb bs.length bs.length ∧ SL h' N bh q9 p m size L0 cs' bs v bs.length 0 ∧ Sc h' ∧ Lo h h' N ∧ h.next ≤ h'.next ∧ (∀ z c, h.tr.get z = some (.st c 3) → h'.tr.get z = some (.st c 3))
  | 0, i, h, fr, cs, hd, S, rb, hs, hN, F => by
    have hi : i = bs.length := by omega
    subst hi
    obtain ⟨g2, g3, g9, g15, g67, g68, g69⟩ := F
    have a1 := fun K => b_lssF (a := (bs.length : Int)) (b := (bs.length : Int)) (by omega) K
    refine ⟨T.set (.b false) fr 70, h, cs, fun K => ?_, ⟨?_, ?_, ?_, ?_, ?_, ?_, ?_⟩, S, hs, fun _ _ => rfl, Nat.le_refl _, fun _ _ h => h⟩
    · rw [Nat.zero_add, it_succ]
      simp (maxSteps := 1000000) -implicitDefEqProofs only [c25L2, ↓x_seq, ↓x_reg, ↓o_consS, ↓r_pu, ↓p_bin, ↓e_t, ↓t_get g69, ↓t_get g68, ↓a1, ↓o_nil, ↓nrm_n]
      simp (maxSteps := 1000000) -implicitDefEqProofs only [c25T20, ↓x_seq, ↓x_cond, ↓e_t, ↓getK_same, ↓n_b, ↓x_exit, ↓nrm_e]
    · rw [get_other _ _ (by decide)]; exact g2
    · rw [get_other _ _ (by decide)]; exact g3
    · rw [get_other _ _ (by decide)]; exact g9
    · rw [get_other _ _ (by decide)]; exact g15
    · rw [get_other _ _ (by decide)]; exact g67
    · rw [get_other _ _ (by decide)]; exact g68
    · rw [get_other _ _ (by decide)]; exact g69
  | d + 1, i, h, fr, cs, hd, S, rb, hs, hN, F => by
    have hm : bs[i]'(by omega) ∈ bs := List.getElem_mem (by omega)
    obtain ⟨fr1, h1, cs1, e1, F1, S1, s1, l1, n1, o1⟩ := oStep S rb hs hN hlen (by omega) (hg _ hm) (hok _ hm) F n (d + (f + 1))
    obtain ⟨fr', h', cs', e2, F2, S2, s2, l2, n2, o2⟩ := oLoop hlen hg hok n f d (i + 1) h1 fr1 cs1 (by omega) S1 (rb.keep l1) s1 (Nat.le_trans hN n1) F1
    refine ⟨fr', h', cs', fun K => ?_, F2, S2, s2, l1.trans l2, Nat.le_trans n1 n2, fun z c hz => o2 z c (o1 z c hz)⟩
    rw [show d + 1 + (f + 1) = d + (f + 1) + 1 from by omega, e1, e2]
end
end Go.Proofs.Ytodlgflkhcknaaa.gcc

/- Build, whole: what is there behind it. -/
namespace Go.Proofs.Ytodlgflkhcknaaa.gcc
open Go Go.AE
set_option linter.unusedSimpArgs false
set_option maxRecDepth 100000

theorem okRf.mono {n m : Nat} {r : Rf} (h : okRf n r) (hn : n ≤ m) : okRf m r := by
  rcases h with h | ⟨h1, h2, h3⟩
  · exact .inl h
  · exact .inr ⟨h1, h2, by omega⟩
theorem OKs.all {bs : List Bl} {R : Rf → Nat → Nat → Prop} (hR : ∀ r n n', R r n n' → n ≤ bs.length → n ≤ n' ∧ n' ≤ bs.length ∧ okRf n' r ∧ ∀ (j : Nat) b, n ≤ j → j < n' → bs[j]? = some b → goodB b ∧ ∀ k ∈ b.kids, okRf bs.length k) :
    ∀ {l : List Rf} {n n' : Nat}, OKs R l n n' → n ≤ bs.length → n ≤ n' ∧ n' ≤ bs.length ∧ (∀ r ∈ l, okRf n' r) ∧ ∀ (j : Nat) b, n ≤ j → j < n' → bs[j]? = some b → goodB b ∧ ∀ k ∈ b.kids, okRf bs.length k
  | [], n, n', h, hn => by
    have h : n' = n := h
    subst h
    exact ⟨Nat.le_refl _, hn, fun r hr => by simp at hr, fun j b h1 h2 => by omega⟩
  | r :: l, n, n', ⟨m, h1, h2⟩, hn => by
    obtain ⟨a1, a2, a3, a4⟩ := hR r n m h1 hn
    obtain ⟨b1, b2, b3, b4⟩ := OKs.all hR h2 a2
    refine ⟨Nat.le_trans a1 b1, b2, fun x hx => ?_, fun j b g1 g2 g3 => ?_⟩
    · simp at hx
      rcases hx with rfl | hx
      · exact a3.mono b1
      · exact b3 x hx
    · by_cases e : j < m
      · exact a4 j b g1 e g3
      · exact b4 j b (by omega) g2 g3
theorem OKr.all {bs : List Bl} : ∀ {f : Nat} {r : Rf} {n n' : Nat}, OKr bs f r n n' → n ≤ bs.length → n ≤ n' ∧ n' ≤ bs.length ∧ okRf n' r ∧ ∀ (j : Nat) b, n ≤ j → j < n' → bs[j]? = some b → goodB b ∧ ∀ k ∈ b.kids, okRf bs.length k
  | 0, _, _, _, h, _ => h.elim
  | f + 1, r, n, n', h, hn => by
    rcases h with ⟨h1, h2, rfl⟩ | ⟨h1, h2, h3, rfl⟩ | ⟨h1, h2, b, h3, h4, h5⟩
    · exact ⟨Nat.le_refl _, hn, .inl ⟨h1, h2⟩, fun j b g1 g2 => by omega⟩
    · exact ⟨Nat.le_refl _, hn, .inr ⟨h1, h2, h3⟩, fun j b g1 g2 => by omega⟩
    · have hl := (List.getElem?_eq_some_iff.1 h3).1
      obtain ⟨a1, a2, a3, a4⟩ := h5.all (fun r n n' h => OKr.all h) (by omega)
      refine ⟨by omega, a2, .inr ⟨h1, by omega, by omega⟩, fun j b' g1 g2 g3 => ?_⟩
      by_cases e : j = n
      · subst e
        rw [h3] at g3
        cases g3
        exact ⟨h4, fun k hk => (a3 k hk).mono a2⟩
      · exact a4 j b' (by omega) g2 g3

theorem len_words : ∀ bs : List Bl, bs.length ≤ wordsB bs
  | [] => by simp [wordsB]
  | b :: bs => by have := len_words bs; simp only [List.length_cons, wordsB]; omega

section
variable {N p m : Nat} {size : Int} {L0 : List Cl} {vb : AV} {bs : List Bl} {h : Heap} {ri : Bool} {rn : Int}
theorem sBuild (r : RH h p m size L0) (rb : BlksR h N vb bs) (hs : Sc h) (hN : N ≤ h.next) (f : Nat) (ho : OKr bs (f + 1) (ri, rn) 0 bs.length) (hfit : (used L0 + wordsB bs : Int) ≤ size) (hsz : size ≤ 20000) (hlo : N ≤ p ∧ N ≤ m ∧ ∀ z ∈ fpL L0, N ≤ z) :
    ∃ h' cs, (∀ k : KH, cal (4 * f + 7) 25 [.p p 0 0, .agg [.b ri, iv rn, vb]] h k = k (.tup [iv (wordOf (addrs (used L0) bs bs.length) (ri, rn)), iv 0]) h') ∧ RH h' p m size (L0 ++ cs) ∧ cs.length = bs.length ∧
      (∀ (j : Nat) c b, cs[j]? = some c → bs[j]? = some b → c.tag = b.tag ∧ c.fl.length = b.sn + b.kids.length ∧ (b.tag = 1 → c.fl = bytesW b.sn b.sv)) ∧
      (∀ (j : Nat) c b (t : Nat) r, cs[j]? = some c → bs[j]? = some b → b.kids[t]? = some r → c.fl[t]? = some (wordOf (addrs (used L0) bs bs.length) r)) ∧ Sc h' ∧ Lo h h' N ∧ h.next ≤ h'.next ∧ used L0 + wordsB bs = used (L0 ++ cs) := by
  obtain ⟨_, _, hrt, hall⟩ := ho.all (Nat.zero_le _)
  have hg : ∀ b ∈ bs, goodB b := fun b hb => by
    obtain ⟨j, hj⟩ := List.getElem?_of_mem hb
    exact (hall j b (Nat.zero_le _) (List.getElem?_eq_some_iff.1 hj).1 hj).1
  have hok : ∀ b ∈ bs, ∀ k ∈ b.kids, okRf bs.length k := fun b hb => by
    obtain ⟨j, hj⟩ := List.getElem?_of_mem hb
    exact (hall j b (Nat.zero_le _) (List.getElem?_eq_some_iff.1 hj).1 hj).2
  have hlw := len_words bs
  have hlen : bs.length ≤ 300000 := by omega
  obtain ⟨kc, ko, ksm⟩ := rb.cells
  have hl := fun k => rb.len k
  -- the boxes
  obtain ⟨H, hH⟩ : ∃ x, x = addO (addO h (.st (T.set (.p p 0 0) .e 0) 1)) (.st (T.set vb (T.set (iv rn) (T.set (.b ri) .e 0) 1) 2) 3) := ⟨_, rfl⟩
  have s0 : Sc H := by rw [hH]; exact (hs.add _).add _
  have k0 : Kp h H [] := by rw [hH]; exact (Kp.add h _ []).trans (Kp.add _ _ _) (fun i hi _ => hi)
  have lo0 := Lo.of k0 hN (fun i hi => by simp at hi)
  have x0 : H.tr.get h.next = some (.st (T.set (.p p 0 0) .e 0) 1) := by rw [hH]; simp [get_add, next_addO]
  have y0 : H.tr.get (h.next + 1) = some (.st (T.set vb (T.set (iv rn) (T.set (.b ri) .e 0) 1) 2) 3) := by rw [hH]; simp [get_add, next_addO]
  -- is it one?
  obtain ⟨h1, e1, s1, k1⟩ := sIs (rb.keep lo0) s0 (Nat.le_trans hN k0.1) (by omega) (f + 1) ho
  rw [show 4 * (f + 1) + 2 = 4 * f + 6 from by omega] at e1
  have k01 : Kp h h1 [] := k0.trans k1 (fun i hi _ => hi)
  have lo1 := Lo.of k01 hN (fun i hi => by simp at hi)
  have x1 := k1.get s0 x0 (by simp)
  have y1 := k1.get s0 y0 (by simp)
  -- how many words?
  obtain ⟨fr1, hfr1⟩ : ∃ x : Fr, x = T.set (iv 0) (T.set (iv bs.length) (T.set vb (T.set (iv 0) (T.set (.b false) (T.set (iv 0) (T.set (iv 0) (T.set (.p (h.next + 1) 0 0) (T.set (.p h.next 0 0) (T.set (.agg [.b ri, iv rn, vb]) (T.set (.p p 0 0) .e 0) 1) 2) 3) 4) 5) 22) 6) 24) 25) 26 := ⟨_, rfl⟩
  have F1 : FB2 fr1 h.next (h.next + 1) := by
    rw [hfr1]
    refine ⟨?_, ?_⟩ <;> simp only [get_other, get_same, ne_eq, Nat.reduceEqDiff, not_false_eq_true]
  have G1 : FB0 fr1 vb bs.length 0 0 := by
    rw [hfr1]
    refine ⟨?_, ?_, ?_, ?_⟩ <;> simp only [get_other, get_same, ne_eq, Nat.reduceEqDiff, not_false_eq_true] <;> rfl
  obtain ⟨fr2, h2, e2, F2, g6, s2, k2⟩ := nLoop hlen (4 * f + 5) (1000000 - bs.length - 1) bs.length 0 0 h1 fr1 (by omega) (rb.keep lo1) s1 (Nat.le_trans hN k01.1) F1 G1 (by rw [List.drop_zero]; omega)
  rw [show bs.length + (1000000 - bs.length - 1 + 1) = 1000000 from by omega, hfr1, show 4 * f + 5 + 1 = 4 * f + 6 from rfl] at e2
  rw [List.drop_zero, Nat.zero_add] at g6
  have k02 : Kp h h2 [] := k01.trans k2 (fun i hi _ => hi)
  have x2 := k2.get s1 x1 (by simp)
  have y2 := k2.get s1 y1 (by simp)
  have r2 := r.keep k02 hs (by simp) (by simp) (fun _ _ => by simp)
  have b1 := fun k => rSize r2 (4 * f + 5) k
  have b2 := fun k => rUsed r2 (4 * f + 5) k
  have b3 := fun k => b_sub (a := size) (b := (used L0 : Int)) (by omega) (by omega) k
  have b4 := fun k => b_gtrF (a := (wordsB bs : Int)) (b := size - used L0) (by omega) k
  -- the blocks
  obtain ⟨H3, hH3⟩ : ∃ x, x = addO h2 (.st (T.set .nils .e 0) 1) := ⟨_, rfl⟩
  have s3 : Sc H3 := by rw [hH3]; exact s2.add _
  have k3 : Kp h2 H3 [] := by rw [hH3]; exact Kp.add _ _ _
  have k03 : Kp h H3 [] := k02.trans k3 (fun i hi _ => hi)
  have lo3 := Lo.of k03 hN (fun i hi => by simp at hi)
  have z3 : H3.tr.get h2.next = some (.st (T.set .nils .e 0) 1) := by rw [hH3, get_add, if_pos rfl]
  have xlt : h.next < h2.next := s2 _ _ x2
  have r3 := r.keep k03 hs (by simp) (by simp) (fun _ _ => by simp)
  have A3 : AL H3 N h.next h2.next p m size L0 [] bs 0 .nils := by
    refine ⟨by simpa using r3, rfl, fun j c b hj => by simp at hj, by simp [used, wordsB], .inl ⟨by simp [addrs], rfl⟩, fun z hz => by simp [rid] at hz, ⟨_, z3, get_same _ _ _⟩, ⟨_, k3.get s2 x2 (by simp), get_same _ _ _⟩, by omega, hlo.1, hlo.2.1, by have := k02.1; omega, by simpa using hlo.2.2, fun z hz => by simp [rid] at hz⟩
  obtain ⟨fr3, hfr3⟩ : ∃ x : Fr, x = T.set (iv 0) (T.set (iv bs.length) (T.set vb (T.set (.p h2.next 0 0) (T.set (.b false) fr2 42) 9) 44) 45) 46 := ⟨_, rfl⟩
  have F3 : FB2 fr3 h.next (h.next + 1) := by
    obtain ⟨j1, j2⟩ := F2
    rw [hfr3]
    refine ⟨?_, ?_⟩ <;> simp only [get_other, get_same, ne_eq, Nat.reduceEqDiff, not_false_eq_true, j1, j2]
  have G3 : FB1 fr3 vb h2.next bs.length 0 := by
    rw [hfr3]
    refine ⟨?_, ?_, ?_, ?_⟩ <;> simp only [get_other, get_same, ne_eq, Nat.reduceEqDiff, not_false_eq_true]
    rfl
  obtain ⟨fr4, h4, cs4, v4, e4, ⟨j42, j43⟩, j49, A4, s4, l4, n4, o4⟩ := aLoop hfit hsz hlen hg (4 * f + 1) (1000000 - bs.length - 1) bs.length 0 H3 fr3 [] .nils (by omega) A3 (rb.keep lo3) s3 (Nat.le_trans hN k03.1) F3 G3
  rw [show bs.length + (1000000 - bs.length - 1 + 1) = 1000000 from by omega, hH3, hfr3, show 4 * f + 1 + 5 = 4 * f + 6 from by omega] at e4
  have hpy : h.next + 1 ≠ p := by
    have := (r.lt hs).1; omega
  have y4 := o4 _ _ (k3.get s2 y2 (by simp)) hpy
  have S4 : SL h4 N h.next h2.next p m size L0 cs4 bs v4 0 0 := ⟨A4.rh, A4.ln, A4.pr, fun j c b t r _ _ _ hlt => by omega, A4.gr, A4.ds, A4.b9, A4.bx, A4.lo.2.2.2.1⟩
  have lo4 : Lo h h4 N := lo3.trans l4
  have n04 : h.next ≤ h4.next := Nat.le_trans k03.1 n4
  -- the fields
  obtain ⟨fr5, hfr5⟩ : ∃ x : Fr, x = T.set (iv 0) (T.set (iv bs.length) (T.set vb (T.set (.f 45 [] [.p h2.next 0 0]) fr4 15) 67) 68) 69 := ⟨_, rfl⟩
  have F5 : FS fr5 h.next (h.next + 1) h2.next vb bs.length 0 := by
    rw [hfr5]
    refine ⟨?_, ?_, ?_, ?_, ?_, ?_, ?_⟩ <;> simp only [get_other, get_same, ne_eq, Nat.reduceEqDiff, not_false_eq_true, j42, j43, j49]
    rfl
  obtain ⟨fr6, h6, cs6, e6, ⟨j2, j3, j9, j15, j67, j68, j69⟩, S6, s6, l6, n6, o6⟩ := oLoop hlen hg hok (4 * f + 3) (1000000 - bs.length - 1) bs.length 0 h4 fr5 cs4 (by omega) S4 (rb.keep lo4) s4 (Nat.le_trans hN n04) F5
  rw [show bs.length + (1000000 - bs.length - 1 + 1) = 1000000 from by omega, hfr5, show 4 * f + 3 + 3 = 4 * f + 6 from by omega] at e6
  have y6 := o6 _ _ y4
  obtain ⟨c9, q9, hc9⟩ := S6.b9
  obtain ⟨h7, e7, s7, k7⟩ := sWord s6 q9 hc9 S6.gr (r := (ri, rn)) (by rw [addrs_len]; exact hrt) (4 * f + 4)
  rw [show 4 * f + 4 + 2 = 4 * f + 6 from by omega] at e7
  have lo7 := Lo.of k7 (Nat.le_trans hN (Nat.le_trans n04 n6)) (fun i hi => by simp at hi)
  refine ⟨h7, cs6, fun k => ?_, S6.rh.keep k7 s6 (by simp) (by simp) (fun _ _ => by simp), S6.ln, S6.pr, fun j c b t r hc hb hr => S6.dn j c b t r hc hb hr (.inl (List.getElem?_eq_some_iff.1 hb).1), s7, (lo4.trans l6).trans lo7, Nat.le_trans (Nat.le_trans n04 n6) k7.1, ?_⟩
  · rw [hH] at e1
    have hyn : h.next + 1 ≠ h2.next := Nat.ne_of_lt (s2 _ _ y2)
    have e7' : ∀ k : KH, cal (4 * f + 6) 45 [.agg [.b ri, iv rn], .p h2.next 0 0] h6 k = k (iv (wordOf (addrs (used L0) bs bs.length) (ri, rn))) h7 := e7
    rw [run25]; simp only [ofL_cons, ofL_nil, Nat.zero_add, Nat.reduceAdd]
    simp (maxSteps := 1000000) -implicitDefEqProofs only [c25, ↓x_seq, ↓x_reg, ↓o_consS, ↓r_al, ↓m_box, ↓e_t, ne_eq, nx1, not_false_eq_true, ↓getK_other, ↓getK_same, ↓r_pu, ↓p_mv, ↓e_c, ↓o_nil, ↓nrm_n, ↓c_p, ofL_cons, ↓ofL_nil, len_1, next_addO, ↓c_agg, Nat.zero_add, Nat.reduceAdd, len_3]
    simp (maxSteps := 1000000) -implicitDefEqProofs only [c25T0, ↓x_seq, ↓x_reg, ↓o_consN, ↓r_rd, ↓m_ldn, ↓e_t, ne_eq, nx2, not_false_eq_true, ↓getK_other, nx1, ↓getK_same, ↓n_p, next_addO, ↓ga_new2, ↓rds_3, Nat.reduceLT, ↓m_st0, Nat.zero_add, Nat.reduceAdd, ↓r_ef, ↓m_callf, ↓es_cons, ↓e_l0, ↓es_nil, ↓e1, ↓o_consS, ↓r_pu, ↓p_not, ↓n_b, ↓o_nil, ↓nrm_n, ↓x_cond, ↓rec_nt, ↓x_skip, ↓nn_t]
    simp (maxSteps := 1000000) -implicitDefEqProofs only [c25T1, ↓x_seq, ↓x_reg, ↓o_consS, ↓r_pu, ↓p_mv, ↓e_c, ↓o_nil, ↓nrm_n]
    simp (maxSteps := 1000000) -implicitDefEqProofs only [c25T2, c25T3, ↓x_seq, ↓x_reg, ↓o_consN, ↓r_pu, ↓p_fad, ↓e_t, ne_eq, Nat.reduceEqDiff, not_false_eq_true, ↓getK_other, nx2, nx1, ↓getK_same, ↓n_p, ↓o_consS, ↓r_rd, ↓m_ld, ↓e_l0, ↓t_get y1, Nat.zero_add, Nat.reduceLT, ↓m_st0, ↓p_len, ↓hl, ↓p_mv, ↓e_c, ↓o_nil, ↓nrm_n, ↓x_block, ↓x_loop, ↓e2, ↓rec_bb]
    simp (maxSteps := 1000000) -implicitDefEqProofs only [c25T7, ↓x_seq, ↓x_dreg, ↓d_puN, ↓p_mv, ↓e_t, ↓t_get g6, ↓d_rdN, ↓m_ld, ↓t_get F2.1, ↓n_p, ↓t_get x2, Nat.reduceLT, ↓m_st0, ↓getK_same, ↓d_efN, ↓m_callf, ↓es_cons, ↓e_l0, ↓es_nil, ↓b1, ↓b2, ↓p_bin, ↓e_l2, ↓b3, ↓d_puS, ↓e_l5, ↓b4, ↓d_nil, ↓rev_cons, ↓rev_nil, beq_dec, decide_true, nx1, decide_false, k_cons, ↓ka_cons, ble_dec, Nat.zero_le, i_t, ↓s_p, Nat.zero_add, Nat.reduceLeDiff, Nat.reduceAdd, i_f, ↓ka_nil, and_t, ↓k_nil, ↓nrm_n, ↓x_cond, ↓n_b, ↓x_skip]
    simp (maxSteps := 1000000) -implicitDefEqProofs only [c25T8, ↓x_seq, ↓x_reg, ↓o_consS, ↓r_al, ↓m_new, ↓o_nil, ↓nrm_n, ↓ofL_cons, ↓ofL_nil, ↓len_1]
    simp (maxSteps := 1000000) -implicitDefEqProofs only [c25T9, c25T10, ↓x_seq, ↓x_reg, ↓o_consN, ↓r_pu, ↓p_fad, ↓e_t, ne_eq, Nat.reduceEqDiff, not_false_eq_true, ↓getK_other, ↓t_get F2.2, ↓n_p, ↓o_consS, ↓r_rd, ↓m_ld, ↓e_l0, hyn, ↓ga_old, ↓t_get y2, Nat.zero_add, Nat.reduceLT, ↓m_st0, ↓getK_same, ↓p_len, ↓hl, ↓p_mv, ↓e_c, ↓o_nil, ↓nrm_n, ↓x_block, ↓x_loop, ↓e4, ↓rec_bb]
    simp (maxSteps := 1000000) -implicitDefEqProofs only [c25T17, ↓x_seq, ↓x_reg, ↓o_consN, ↓r_pu, ↓p_mkf, ↓es_cons, ↓e_t, ↓t_get j49, ↓es_nil, ↓o_consS, ↓p_mv, ↓e_l0, ↓o_nil, ↓nrm_n]
    simp (maxSteps := 1000000) -implicitDefEqProofs only [c25T18, c25T19, ↓x_seq, ↓x_reg, ↓o_consN, ↓r_pu, ↓p_fad, ↓e_t, ne_eq, Nat.reduceEqDiff, not_false_eq_true, ↓getK_other, ↓t_get j43, ↓n_p, ↓o_consS, ↓r_rd, ↓m_ld, ↓e_l0, ↓t_get y4, Nat.zero_add, Nat.reduceLT, ↓m_st0, ↓getK_same, ↓p_len, ↓hl, ↓p_mv, ↓e_c, ↓o_nil, ↓nrm_n, ↓x_block, ↓x_loop, ↓e6, ↓rec_bb]
    simp (maxSteps := 1000000) -implicitDefEqProofs only [c25T27, ↓x_seq, ↓x_reg, ↓o_consN, ↓r_pu, ↓p_mv, ↓e_t, ↓t_get j15, ↓p_fad, ↓t_get j3, ↓n_p, ↓r_rd, ↓m_ldn, ↓e_l0, ↓t_get y6, ↓rds_2, Nat.zero_add, Nat.reduceLT, ↓m_st0, ne_eq, nx2, not_false_eq_true, ↓getK_other, nx1, ↓getK_same, ↓r_ef, ↓m_callv, ↓e_l2, ↓n_f, ↓es_cons, ↓es_nil, ↓ap_cl, List.cons_append, List.nil_append, ↓o_consS, ↓e_c, ↓o_nil, ↓nrm_n, ↓x_ret, ↓ret_r, ↓res_t2, ↓one2, ↓e7']
  · have := us_take S6.ln (fun j c b hc hb => (S6.pr j c b hc hb).2.1) cs6.length
    rw [List.take_length, S6.ln, List.take_length] at this
    rw [used_app, this]
end
end Go.Proofs.Ytodlgflkhcknaaa.gcc
