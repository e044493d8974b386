import Derived.Test.YtodlgflkhcknaaaGp
/- The document's heap (emissaryref16): what it stands for; its words are asked. -/
namespace Go.Proofs.Ytodlgflkhcknaaa.gcc
open Go Go.AE
set_option linter.unusedSimpArgs false
set_option maxRecDepth 100000

/-- A word of 64 bits. -/
def In (w : Int) : Prop := -9223372036854775808 ≤ w ∧ w ≤ 9223372036854775807
/-- Of each word: which block begins there, and one. -/
def ats : Nat → List Cl → List AV
  | _, [] => []
  | i, c :: L => iv ((i + 1 : Nat) : Int) :: (List.replicate c.fl.length (iv 0) ++ ats (i + 1) L)
theorem ats_len : ∀ (L : List Cl) (i : Nat), (ats i L).length = used L
  | [], i => rfl
  | c :: L, i => by simp only [ats, List.length_cons, List.length_append, List.length_replicate, ats_len L, used]; omega
/-- Which block begins at a place. -/
def idx : Nat → List Cl → Nat → Option Nat
  | _, [], _ => none
  | a, c :: L, b => if a = b then some 0 else (idx (a + (1 + c.fl.length)) L b).map (· + 1)
theorem idx_lt {b : Nat} : ∀ {L : List Cl} {a : Nat}, b < a → idx a L b = none
  | [], a, _ => rfl
  | c :: L, a, h => by
    unfold idx
    rw [if_neg (by omega), idx_lt (by omega)]; rfl
theorem ats_get {b : Nat} : ∀ (L : List Cl) (i a : Nat), a ≤ b → b < a + used L → (ats i L)[b - a]? = some (iv (match idx a L b with
    | none => 0
    | some j => ((i + j + 1 : Nat) : Int)))
  | [], i, a, h1, h2 => by simp [used] at h2; omega
  | c :: L, i, a, h1, h2 => by
    simp only [used] at h2
    unfold idx
    by_cases e : a = b
    · subst e; rw [if_pos rfl, Nat.sub_self]; rfl
    · rw [if_neg e]
      obtain ⟨d, hd⟩ : ∃ d, b - a = d + 1 := ⟨b - a - 1, by omega⟩
      rw [hd]
      simp only [ats, List.getElem?_cons_succ]
      by_cases hl : d < c.fl.length
      · rw [List.getElem?_append_left (by simpa using hl), List.getElem?_replicate, if_pos hl, idx_lt (by omega)]; rfl
      · rw [List.getElem?_append_right (by simp; omega), List.length_replicate, show d - c.fl.length = b - (a + (1 + c.fl.length)) from by omega, ats_get L (i + 1) (a + (1 + c.fl.length)) (by omega) (by omega)]
        cases idx (a + (1 + c.fl.length)) L b with
        | none => rfl
        | some j => show some (iv ((i + 1 + j + 1 : Nat) : Int)) = some (iv ((i + (j + 1) + 1 : Nat) : Int)); rw [show i + 1 + j + 1 = i + (j + 1) + 1 from by omega]
theorem look_idx {b : Nat} : ∀ (L : List Cl) (a : Nat), look a L (2 * (b : Int)) = (idx a L b).bind fun j => L[j]?
  | [], a => rfl
  | c :: L, a => by
    unfold look idx
    by_cases e : a = b
    · subst e; rw [if_pos rfl, if_pos rfl]; rfl
    · rw [if_neg (by omega), if_neg e, look_idx L]
      cases idx (a + (1 + c.fl.length)) L b <;> rfl
theorem look_other {w : Int} (h : ∀ b : Nat, w ≠ 2 * (b : Int)) : ∀ (L : List Cl) (a : Nat), look a L w = none
  | [], a => rfl
  | c :: L, a => by
    unfold look
    rw [if_neg (fun e => h a e.symm)]
    exact look_other h L _
theorem idx_len {b j : Nat} : ∀ {L : List Cl} {a : Nat}, idx a L b = some j → j < L.length ∧ b < a + used L ∧ a ≤ b
  | [], a, h => by cases h
  | c :: L, a, h => by
    unfold idx at h
    simp only [used, List.length_cons]
    split at h
    · cases h; omega
    · cases hi : idx (a + (1 + c.fl.length)) L b with
      | none => rw [hi] at h; cases h
      | some q => rw [hi] at h; cases h; have := idx_len hi; refine ⟨?_, ?_, ?_⟩ <;> (try show q + 1 < _) <;> omega

/-- A word's block. -/
def blk (L : List Cl) (w : Int) : Option Nat := if 0 ≤ w ∧ w % 2 = 0 then idx 0 L (w / 2).toNat else none
theorem look_blk (L : List Cl) (w : Int) : look 0 L w = (blk L w).bind fun j => L[j]? := by
  unfold blk
  by_cases h : 0 ≤ w ∧ w % 2 = 0
  · rw [if_pos h]
    have : w = 2 * (((w / 2).toNat : Nat) : Int) := by omega
    rw [this, look_idx]
    congr 2
    omega
  · rw [if_neg h]
    exact look_other (fun b e => h (by omega)) L 0

structure RX (h : Heap) (x : Nat) (words : Int) (L : List Cl) (a t f : AV) : Prop where
  hd : ∃ c, h.tr.get x = some (.st c 4) ∧ c.get 0 = some a ∧ c.get 1 = some t ∧ c.get 2 = some f ∧ c.get 3 = some (iv words)
  ga : GR h a (ats 0 L)
  gt : GR h t (L.map fun c => iv c.tag)
  gf : GR h f (L.map Cl.row)
  bl : ∀ c ∈ L, RowO h c.row c.fl ∧ 1 ≤ c.tag ∧ c.tag ≤ 8 ∧ ∀ y ∈ c.fl, In y
  sp : ∀ (i j : Nat) c d, L[i]? = some c → L[j]? = some d → i ≠ j → ∀ z ∈ rid c.row, z ∉ rid d.row
  ne : (∀ z ∈ rid a, z ∉ rid t ∧ z ∉ rid f) ∧ (∀ z ∈ rid t, z ∉ rid f) ∧ ∀ c ∈ L, ∀ z ∈ rid c.row, z ∉ rid a ∧ z ∉ rid t ∧ z ∉ rid f
  fits : used L ≤ 20000

theorem odd_bit {x : Int} (h : x % 2 = 1) : Nat.land (toU .i64 x) 1 = 1 := by
  rw [show ∀ z, Nat.land z 1 = z % 2 from Nat.and_one_is_mod]
  cases x with
  | ofNat a =>
    show a % 2 ^ 64 % 2 = 1
    have : (Int.ofNat a) = (a : Int) := rfl
    rw [this] at h
    omega
  | negSucc a =>
    show (2 ^ 64 - 1 - a % 2 ^ 64) % 2 = 1
    have : Int.negSucc a = -((a : Int) + 1) := rfl
    rw [this] at h
    omega
theorem even_bit {x : Int} (h : x % 2 = 0) : Nat.land (toU .i64 x) 1 = 0 := by
  rw [show ∀ z, Nat.land z 1 = z % 2 from Nat.and_one_is_mod]
  cases x with
  | ofNat a =>
    show a % 2 ^ 64 % 2 = 0
    have : (Int.ofNat a) = (a : Int) := rfl
    rw [this] at h
    omega
  | negSucc a =>
    show (2 ^ 64 - 1 - a % 2 ^ 64) % 2 = 0
    have : Int.negSucc a = -((a : Int) + 1) := rfl
    rw [this] at h
    omega
theorem b_and1 (w : Int) (k : KV) : kBin .and (iv w) (iv 1) k = k (iv (w % 2)) := by
  show kI k .i64 (wrapF .i64 (.ofNat (Nat.land (toU .i64 w) 1))) = _
  rw [kI_eq]
  rcases Int.emod_two_eq w with h | h
  · rw [even_bit h, h]; rfl
  · rw [odd_bit h, h]; rfl
theorem b_quo {w : Int} (h0 : 0 ≤ w) (h1 : w ≤ 9223372036854775807) (k : KV) : kBin .quo (iv w) (iv 2) k = k (iv (w / 2)) := by
  show ite' (beqI 2 (.ofNat 0)) false (kI k .i64 (wrapF .i64 (Int.tdiv w 2))) = _
  have e1 : beqI 2 (.ofNat 0) = false := rfl
  have e2 : Int.tdiv w 2 = w / 2 := Int.tdiv_eq_ediv_of_nonneg h0
  rw [e1, i_f, kI_eq, wrapF_eq, e2, w64 (by omega) (by omega)]
theorem xIsInt (w : Int) (n : Nat) (h : Heap) (k : KH) : cal (n + 1) 48 [iv w] h k = k (.b (decide (w % 2 = 1))) h := by
  rw [run48]; simp only [ofL_cons, ofL_nil, Nat.zero_add, Nat.reduceAdd]
  simp -implicitDefEqProofs only [↓m_callf, ↓x_seq, ↓x_reg, ↓x_dreg, ↓x_cond, ↓x_skip, ↓x_exit, ↓x_ret, ↓x_block, ↓x_loop, ↓nrm_n, ↓nrm_e, ↓nrm_r, ↓o_nil, ↓o_consN, ↓o_consS, ↓o_guardN, ↓o_guardS, ↓put_n, ↓put_s, ↓r_pu, ↓r_rd, ↓r_al, ↓r_ef, ↓g_b, ↓e_t, ↓e_c, ↓e_f, ↓e_l0, ↓e_l1, ↓e_l2, ↓e_l3, ↓e_l4, ↓e_l5, ↓e_l6, ↓e_l7, ↓e_l8, ↓e_l9, ↓e_l10, ↓e_l11, ↓e_l12, ↓e_l13, ↓es_nil, ↓es_cons, ↓getK_same, ↓getK_other, ↓ofL_nil, ↓ofL_cons, ↓p_mv, ↓p_pick, ↓p_bld, ↓p_nilck, ↓p_bin, ↓p_isnil, ↓p_not, ↓p_ext, ↓p_len, ↓len_n, ↓len_s, ↓p_fad, ↓p_iad, ↓n_b, ↓n_p, ↓n_pf, ↓n_tup, ↓n_sl, ↓n_nils, ↓n_m, ↓n_f, ↓n_i, ↓n_mp, ↓nth0, ↓nth1, ↓nth2, ↓nil_pp, ↓nil_p, ↓nil_ss, ↓nil_s, ↓neg_f, ↓i_t, ↓i_f, ↓evN_of, ↓int_n, ↓int_0, ↓m_ld, ↓m_lk, ↓m_st0, ↓m_box, ↓m_mkm, ↓m_store, ↓m_mup, ↓m_app, ↓ap_0, ↓okT, ↓okF, ↓kd1, ↓ret_r, ↓res_t1, ↓res_t2, ↓one1, ↓one2, ↓rec_t, ↓rec_f, ↓fill_nil, ↓fill_cons, ↓c_i, ↓c_b, ↓c_m, ↓c_p, ↓c_nils, ↓c_sl, ↓c_agg, ↓len_1, ↓len_2, ↓len_3, ↓len_4, ↓beq11, ↓wrs1, ↓one_i, ↓one_p, ↓one_m, ↓one_sl, ↓one_nils, ↓d_nil, ↓d_puN, ↓d_puS, ↓d_rdN, ↓d_rdS, ↓d_alN, ↓d_alS, ↓d_efN, ↓d_efS, ↓d_gpuN, ↓d_gpuS, ↓d_grdN, ↓d_grdS, ↓d_gefN, ↓d_gefS, ↓k_nil, ↓k_cons, ↓ka_nil, ↓ka_cons, ↓rev_nil, ↓rev_cons, ↓and_t, ↓and_f, ↓rrec_t, ↓rrec_f, ↓s_m, ↓s_p, ↓s_i, ↓s_nils, ↓s_sl, ↓rec_nt, ↓rec_nf, ↓rec_dt, ↓neg_tt, ↓neg_tf, ↓ex_n, ↓ex_e, ↓ex_r, ↓m_mks, ↓rec_bb, ↓o_guardTN, ↓o_guardTS, ↓res_t3, ↓one3, ↓ga_old, ↓ga_new, ↓gu_same, ↓gu_other, ↓fv20, ↓fv21, ↓fv30, ↓fv32, ↓fv40, ↓fv41, ↓fv42, ↓fv43, i_t, i_f, rec_t, rec_f, getK_same, getK_other, ofL_cons, ofL_nil, and_t, and_f, rrec_t, rrec_f, ka_nil, ka_cons, k_nil, k_cons, len_1, len_2, len_3, len_4, c_i, c_b, c_m, c_p, c_nils, c_sl, c_agg, beq11, one_i, one_p, one_m, one_sl, one_nils, s_m, s_p, s_i, s_nils, s_sl, rev_nil, rev_cons, ap_0, beq_dec, ble_dec, ne_eq, not_false_eq_true, reduceCtorEq, Bool.not_true, Bool.not_false, Nat.zero_add, Nat.reduceAdd, Nat.reduceLT, Nat.reduceEqDiff, Nat.reduceLeDiff, Nat.zero_le, decide_true, decide_false, c48, ↓b_and1, ↓b_eql]
end Go.Proofs.Ytodlgflkhcknaaa.gcc

/- The document's heap (emissaryref16): its blocks are asked. -/
namespace Go.Proofs.Ytodlgflkhcknaaa.gcc
open Go Go.AE
set_option linter.unusedSimpArgs false
set_option maxRecDepth 100000

section
variable {h : Heap} {x : Nat} {words : Int} {L : List Cl} {a t f : AV}
theorem xUsed (r : RX h x words L a t f) (n : Nat) (k : KH) : cal (n + 1) 10 [.p x 0 0] h k = k (iv (used L)) h := by
  obtain ⟨c, c1, c2, c3, c4, c5⟩ := r.hd
  have hl : ∀ k : KV, lenK a k = k (iv ((ats 0 L).length : Nat)) := r.ga.len
  rw [ats_len] at hl
  rw [run10]; simp only [ofL_cons, ofL_nil, Nat.zero_add, Nat.reduceAdd]
  simp -implicitDefEqProofs only [↓m_callf, ↓x_seq, ↓x_reg, ↓x_dreg, ↓x_cond, ↓x_skip, ↓x_exit, ↓x_ret, ↓x_block, ↓x_loop, ↓nrm_n, ↓nrm_e, ↓nrm_r, ↓o_nil, ↓o_consN, ↓o_consS, ↓o_guardN, ↓o_guardS, ↓put_n, ↓put_s, ↓r_pu, ↓r_rd, ↓r_al, ↓r_ef, ↓g_b, ↓e_t, ↓e_c, ↓e_f, ↓e_l0, ↓e_l1, ↓e_l2, ↓e_l3, ↓e_l4, ↓e_l5, ↓e_l6, ↓e_l7, ↓e_l8, ↓e_l9, ↓e_l10, ↓e_l11, ↓e_l12, ↓e_l13, ↓es_nil, ↓es_cons, ↓getK_same, ↓getK_other, ↓ofL_nil, ↓ofL_cons, ↓p_mv, ↓p_pick, ↓p_bld, ↓p_nilck, ↓p_bin, ↓p_isnil, ↓p_not, ↓p_ext, ↓p_len, ↓len_n, ↓len_s, ↓p_fad, ↓p_iad, ↓n_b, ↓n_p, ↓n_pf, ↓n_tup, ↓n_sl, ↓n_nils, ↓n_m, ↓n_f, ↓n_i, ↓n_mp, ↓nth0, ↓nth1, ↓nth2, ↓nil_pp, ↓nil_p, ↓nil_ss, ↓nil_s, ↓neg_f, ↓i_t, ↓i_f, ↓evN_of, ↓int_n, ↓int_0, ↓m_ld, ↓m_lk, ↓m_st0, ↓m_box, ↓m_mkm, ↓m_store, ↓m_mup, ↓m_app, ↓ap_0, ↓okT, ↓okF, ↓kd1, ↓ret_r, ↓res_t1, ↓res_t2, ↓one1, ↓one2, ↓rec_t, ↓rec_f, ↓fill_nil, ↓fill_cons, ↓c_i, ↓c_b, ↓c_m, ↓c_p, ↓c_nils, ↓c_sl, ↓c_agg, ↓len_1, ↓len_2, ↓len_3, ↓len_4, ↓beq11, ↓wrs1, ↓one_i, ↓one_p, ↓one_m, ↓one_sl, ↓one_nils, ↓d_nil, ↓d_puN, ↓d_puS, ↓d_rdN, ↓d_rdS, ↓d_alN, ↓d_alS, ↓d_efN, ↓d_efS, ↓d_gpuN, ↓d_gpuS, ↓d_grdN, ↓d_grdS, ↓d_gefN, ↓d_gefS, ↓k_nil, ↓k_cons, ↓ka_nil, ↓ka_cons, ↓rev_nil, ↓rev_cons, ↓and_t, ↓and_f, ↓rrec_t, ↓rrec_f, ↓s_m, ↓s_p, ↓s_i, ↓s_nils, ↓s_sl, ↓rec_nt, ↓rec_nf, ↓rec_dt, ↓neg_tt, ↓neg_tf, ↓ex_n, ↓ex_e, ↓ex_r, ↓m_mks, ↓rec_bb, ↓o_guardTN, ↓o_guardTS, ↓res_t3, ↓one3, ↓ga_old, ↓ga_new, ↓gu_same, ↓gu_other, ↓fv20, ↓fv21, ↓fv30, ↓fv32, ↓fv40, ↓fv41, ↓fv42, ↓fv43, i_t, i_f, rec_t, rec_f, getK_same, getK_other, ofL_cons, ofL_nil, and_t, and_f, rrec_t, rrec_f, ka_nil, ka_cons, k_nil, k_cons, len_1, len_2, len_3, len_4, c_i, c_b, c_m, c_p, c_nils, c_sl, c_agg, beq11, one_i, one_p, one_m, one_sl, one_nils, s_m, s_p, s_i, s_nils, s_sl, rev_nil, rev_cons, ap_0, beq_dec, ble_dec, ne_eq, not_false_eq_true, reduceCtorEq, Bool.not_true, Bool.not_false, Nat.zero_add, Nat.reduceAdd, Nat.reduceLT, Nat.reduceEqDiff, Nat.reduceLeDiff, Nat.zero_le, decide_true, decide_false, c10, ↓t_get c1, ↓t_get c2, ↓hl]

/-- A block's number; -1: it is none. -/
def blkI (L : List Cl) (w : Int) : Int := match blk L w with
  | none => -1
  | some j => (j : Int)
theorem xBlock (r : RX h x words L a t f) {w : Int} (hw : In w) (n : Nat) (k : KH) : cal (n + 2) 36 [.p x 0 0, iv w] h k = k (iv (blkI L w)) h := by
  obtain ⟨c, c1, c2, c3, c4, c5⟩ := r.hd
  have hl : ∀ k : KV, lenK a k = k (iv ((ats 0 L).length : Nat)) := r.ga.len
  rw [ats_len] at hl
  have a1 := fun k => xIsInt w n h k
  have hf := r.fits
  rw [run36]; simp only [ofL_cons, ofL_nil, Nat.zero_add, Nat.reduceAdd]
  unfold blkI blk
  by_cases ho : w % 2 = 1
  · have a2 : decide (w % 2 = 1) = true := decide_eq_true ho
    rw [a2] at a1
    rw [if_neg (by omega)]
    simp -implicitDefEqProofs only [↓m_callf, ↓x_seq, ↓x_reg, ↓x_dreg, ↓x_cond, ↓x_skip, ↓x_exit, ↓x_ret, ↓x_block, ↓x_loop, ↓nrm_n, ↓nrm_e, ↓nrm_r, ↓o_nil, ↓o_consN, ↓o_consS, ↓o_guardN, ↓o_guardS, ↓put_n, ↓put_s, ↓r_pu, ↓r_rd, ↓r_al, ↓r_ef, ↓g_b, ↓e_t, ↓e_c, ↓e_f, ↓e_l0, ↓e_l1, ↓e_l2, ↓e_l3, ↓e_l4, ↓e_l5, ↓e_l6, ↓e_l7, ↓e_l8, ↓e_l9, ↓e_l10, ↓e_l11, ↓e_l12, ↓e_l13, ↓es_nil, ↓es_cons, ↓getK_same, ↓getK_other, ↓ofL_nil, ↓ofL_cons, ↓p_mv, ↓p_pick, ↓p_bld, ↓p_nilck, ↓p_bin, ↓p_isnil, ↓p_not, ↓p_ext, ↓p_len, ↓len_n, ↓len_s, ↓p_fad, ↓p_iad, ↓n_b, ↓n_p, ↓n_pf, ↓n_tup, ↓n_sl, ↓n_nils, ↓n_m, ↓n_f, ↓n_i, ↓n_mp, ↓nth0, ↓nth1, ↓nth2, ↓nil_pp, ↓nil_p, ↓nil_ss, ↓nil_s, ↓neg_f, ↓i_t, ↓i_f, ↓evN_of, ↓int_n, ↓int_0, ↓m_ld, ↓m_lk, ↓m_st0, ↓m_box, ↓m_mkm, ↓m_store, ↓m_mup, ↓m_app, ↓ap_0, ↓okT, ↓okF, ↓kd1, ↓ret_r, ↓res_t1, ↓res_t2, ↓one1, ↓one2, ↓rec_t, ↓rec_f, ↓fill_nil, ↓fill_cons, ↓c_i, ↓c_b, ↓c_m, ↓c_p, ↓c_nils, ↓c_sl, ↓c_agg, ↓len_1, ↓len_2, ↓len_3, ↓len_4, ↓beq11, ↓wrs1, ↓one_i, ↓one_p, ↓one_m, ↓one_sl, ↓one_nils, ↓d_nil, ↓d_puN, ↓d_puS, ↓d_rdN, ↓d_rdS, ↓d_alN, ↓d_alS, ↓d_efN, ↓d_efS, ↓d_gpuN, ↓d_gpuS, ↓d_grdN, ↓d_grdS, ↓d_gefN, ↓d_gefS, ↓k_nil, ↓k_cons, ↓ka_nil, ↓ka_cons, ↓rev_nil, ↓rev_cons, ↓and_t, ↓and_f, ↓rrec_t, ↓rrec_f, ↓s_m, ↓s_p, ↓s_i, ↓s_nils, ↓s_sl, ↓rec_nt, ↓rec_nf, ↓rec_dt, ↓neg_tt, ↓neg_tf, ↓ex_n, ↓ex_e, ↓ex_r, ↓m_mks, ↓rec_bb, ↓o_guardTN, ↓o_guardTS, ↓res_t3, ↓one3, ↓ga_old, ↓ga_new, ↓gu_same, ↓gu_other, ↓fv20, ↓fv21, ↓fv30, ↓fv32, ↓fv40, ↓fv41, ↓fv42, ↓fv43, i_t, i_f, rec_t, rec_f, getK_same, getK_other, ofL_cons, ofL_nil, and_t, and_f, rrec_t, rrec_f, ka_nil, ka_cons, k_nil, k_cons, len_1, len_2, len_3, len_4, c_i, c_b, c_m, c_p, c_nils, c_sl, c_agg, beq11, one_i, one_p, one_m, one_sl, one_nils, s_m, s_p, s_i, s_nils, s_sl, rev_nil, rev_cons, ap_0, beq_dec, ble_dec, ne_eq, not_false_eq_true, reduceCtorEq, Bool.not_true, Bool.not_false, Nat.zero_add, Nat.reduceAdd, Nat.reduceLT, Nat.reduceEqDiff, Nat.reduceLeDiff, Nat.zero_le, decide_true, decide_false, c36, ↓a1]
  · have a2 : decide (w % 2 = 1) = false := decide_eq_false ho
    rw [a2] at a1
    by_cases hn : w < 0
    · have a3 := fun k => b_lssT (a := w) (b := 0) hn k
      rw [if_neg (by omega)]
      simp -implicitDefEqProofs only [↓m_callf, ↓x_seq, ↓x_reg, ↓x_dreg, ↓x_cond, ↓x_skip, ↓x_exit, ↓x_ret, ↓x_block, ↓x_loop, ↓nrm_n, ↓nrm_e, ↓nrm_r, ↓o_nil, ↓o_consN, ↓o_consS, ↓o_guardN, ↓o_guardS, ↓put_n, ↓put_s, ↓r_pu, ↓r_rd, ↓r_al, ↓r_ef, ↓g_b, ↓e_t, ↓e_c, ↓e_f, ↓e_l0, ↓e_l1, ↓e_l2, ↓e_l3, ↓e_l4, ↓e_l5, ↓e_l6, ↓e_l7, ↓e_l8, ↓e_l9, ↓e_l10, ↓e_l11, ↓e_l12, ↓e_l13, ↓es_nil, ↓es_cons, ↓getK_same, ↓getK_other, ↓ofL_nil, ↓ofL_cons, ↓p_mv, ↓p_pick, ↓p_bld, ↓p_nilck, ↓p_bin, ↓p_isnil, ↓p_not, ↓p_ext, ↓p_len, ↓len_n, ↓len_s, ↓p_fad, ↓p_iad, ↓n_b, ↓n_p, ↓n_pf, ↓n_tup, ↓n_sl, ↓n_nils, ↓n_m, ↓n_f, ↓n_i, ↓n_mp, ↓nth0, ↓nth1, ↓nth2, ↓nil_pp, ↓nil_p, ↓nil_ss, ↓nil_s, ↓neg_f, ↓i_t, ↓i_f, ↓evN_of, ↓int_n, ↓int_0, ↓m_ld, ↓m_lk, ↓m_st0, ↓m_box, ↓m_mkm, ↓m_store, ↓m_mup, ↓m_app, ↓ap_0, ↓okT, ↓okF, ↓kd1, ↓ret_r, ↓res_t1, ↓res_t2, ↓one1, ↓one2, ↓rec_t, ↓rec_f, ↓fill_nil, ↓fill_cons, ↓c_i, ↓c_b, ↓c_m, ↓c_p, ↓c_nils, ↓c_sl, ↓c_agg, ↓len_1, ↓len_2, ↓len_3, ↓len_4, ↓beq11, ↓wrs1, ↓one_i, ↓one_p, ↓one_m, ↓one_sl, ↓one_nils, ↓d_nil, ↓d_puN, ↓d_puS, ↓d_rdN, ↓d_rdS, ↓d_alN, ↓d_alS, ↓d_efN, ↓d_efS, ↓d_gpuN, ↓d_gpuS, ↓d_grdN, ↓d_grdS, ↓d_gefN, ↓d_gefS, ↓k_nil, ↓k_cons, ↓ka_nil, ↓ka_cons, ↓rev_nil, ↓rev_cons, ↓and_t, ↓and_f, ↓rrec_t, ↓rrec_f, ↓s_m, ↓s_p, ↓s_i, ↓s_nils, ↓s_sl, ↓rec_nt, ↓rec_nf, ↓rec_dt, ↓neg_tt, ↓neg_tf, ↓ex_n, ↓ex_e, ↓ex_r, ↓m_mks, ↓rec_bb, ↓o_guardTN, ↓o_guardTS, ↓res_t3, ↓one3, ↓ga_old, ↓ga_new, ↓gu_same, ↓gu_other, ↓fv20, ↓fv21, ↓fv30, ↓fv32, ↓fv40, ↓fv41, ↓fv42, ↓fv43, i_t, i_f, rec_t, rec_f, getK_same, getK_other, ofL_cons, ofL_nil, and_t, and_f, rrec_t, rrec_f, ka_nil, ka_cons, k_nil, k_cons, len_1, len_2, len_3, len_4, c_i, c_b, c_m, c_p, c_nils, c_sl, c_agg, beq11, one_i, one_p, one_m, one_sl, one_nils, s_m, s_p, s_i, s_nils, s_sl, rev_nil, rev_cons, ap_0, beq_dec, ble_dec, ne_eq, not_false_eq_true, reduceCtorEq, Bool.not_true, Bool.not_false, Nat.zero_add, Nat.reduceAdd, Nat.reduceLT, Nat.reduceEqDiff, Nat.reduceLeDiff, Nat.zero_le, decide_true, decide_false, c36, ↓a1, ↓a3]
    · have a3 := fun k => b_lssF (a := w) (b := 0) hn k
      have a4 := fun k => b_quo (w := w) (by omega) hw.2 k
      rw [if_pos ⟨by omega, by omega⟩]
      by_cases hg : (used L : Int) ≤ w / 2
      · have a5 := fun k => b_geqT (a := w / 2) (b := (used L : Int)) hg k
        have hi : idx 0 L (w / 2).toNat = none := by
          cases hi : idx 0 L (w / 2).toNat with
          | none => rfl
          | some j => have := idx_len hi; omega
        rw [hi]
        simp -implicitDefEqProofs only [↓m_callf, ↓x_seq, ↓x_reg, ↓x_dreg, ↓x_cond, ↓x_skip, ↓x_exit, ↓x_ret, ↓x_block, ↓x_loop, ↓nrm_n, ↓nrm_e, ↓nrm_r, ↓o_nil, ↓o_consN, ↓o_consS, ↓o_guardN, ↓o_guardS, ↓put_n, ↓put_s, ↓r_pu, ↓r_rd, ↓r_al, ↓r_ef, ↓g_b, ↓e_t, ↓e_c, ↓e_f, ↓e_l0, ↓e_l1, ↓e_l2, ↓e_l3, ↓e_l4, ↓e_l5, ↓e_l6, ↓e_l7, ↓e_l8, ↓e_l9, ↓e_l10, ↓e_l11, ↓e_l12, ↓e_l13, ↓es_nil, ↓es_cons, ↓getK_same, ↓getK_other, ↓ofL_nil, ↓ofL_cons, ↓p_mv, ↓p_pick, ↓p_bld, ↓p_nilck, ↓p_bin, ↓p_isnil, ↓p_not, ↓p_ext, ↓p_len, ↓len_n, ↓len_s, ↓p_fad, ↓p_iad, ↓n_b, ↓n_p, ↓n_pf, ↓n_tup, ↓n_sl, ↓n_nils, ↓n_m, ↓n_f, ↓n_i, ↓n_mp, ↓nth0, ↓nth1, ↓nth2, ↓nil_pp, ↓nil_p, ↓nil_ss, ↓nil_s, ↓neg_f, ↓i_t, ↓i_f, ↓evN_of, ↓int_n, ↓int_0, ↓m_ld, ↓m_lk, ↓m_st0, ↓m_box, ↓m_mkm, ↓m_store, ↓m_mup, ↓m_app, ↓ap_0, ↓okT, ↓okF, ↓kd1, ↓ret_r, ↓res_t1, ↓res_t2, ↓one1, ↓one2, ↓rec_t, ↓rec_f, ↓fill_nil, ↓fill_cons, ↓c_i, ↓c_b, ↓c_m, ↓c_p, ↓c_nils, ↓c_sl, ↓c_agg, ↓len_1, ↓len_2, ↓len_3, ↓len_4, ↓beq11, ↓wrs1, ↓one_i, ↓one_p, ↓one_m, ↓one_sl, ↓one_nils, ↓d_nil, ↓d_puN, ↓d_puS, ↓d_rdN, ↓d_rdS, ↓d_alN, ↓d_alS, ↓d_efN, ↓d_efS, ↓d_gpuN, ↓d_gpuS, ↓d_grdN, ↓d_grdS, ↓d_gefN, ↓d_gefS, ↓k_nil, ↓k_cons, ↓ka_nil, ↓ka_cons, ↓rev_nil, ↓rev_cons, ↓and_t, ↓and_f, ↓rrec_t, ↓rrec_f, ↓s_m, ↓s_p, ↓s_i, ↓s_nils, ↓s_sl, ↓rec_nt, ↓rec_nf, ↓rec_dt, ↓neg_tt, ↓neg_tf, ↓ex_n, ↓ex_e, ↓ex_r, ↓m_mks, ↓rec_bb, ↓o_guardTN, ↓o_guardTS, ↓res_t3, ↓one3, ↓ga_old, ↓ga_new, ↓gu_same, ↓gu_other, ↓fv20, ↓fv21, ↓fv30, ↓fv32, ↓fv40, ↓fv41, ↓fv42, ↓fv43, i_t, i_f, rec_t, rec_f, getK_same, getK_other, ofL_cons, ofL_nil, and_t, and_f, rrec_t, rrec_f, ka_nil, ka_cons, k_nil, k_cons, len_1, len_2, len_3, len_4, c_i, c_b, c_m, c_p, c_nils, c_sl, c_agg, beq11, one_i, one_p, one_m, one_sl, one_nils, s_m, s_p, s_i, s_nils, s_sl, rev_nil, rev_cons, ap_0, beq_dec, ble_dec, ne_eq, not_false_eq_true, reduceCtorEq, Bool.not_true, Bool.not_false, Nat.zero_add, Nat.reduceAdd, Nat.reduceLT, Nat.reduceEqDiff, Nat.reduceLeDiff, Nat.zero_le, decide_true, decide_false, c36, ↓a1, ↓a3, ↓a4, ↓t_get c1, ↓t_get c2, ↓hl, ↓a5]
      · have a5 := fun k => b_geqF (a := w / 2) (b := (used L : Int)) hg k
        obtain ⟨b, hb⟩ : ∃ b : Nat, w / 2 = (b : Int) := ⟨(w / 2).toNat, by omega⟩
        have hat := ats_get (b := b) L 0 0 (Nat.zero_le _) (by omega)
        rw [Nat.sub_zero] at hat
        obtain ⟨id, tt, o, hv, hov, hr⟩ := r.ga.read hat
        have a6 : decide (b + 1 ≤ (ats 0 L).length) = true := decide_eq_true (by rw [ats_len]; omega)
        have a7 : ∀ k, rdK o tt (b * 1) k = k _ := fun k => by rw [Nat.mul_one]; exact hr k
        rw [hb] at a5
        have a4 : ∀ k, kBin .quo (iv w) (iv 2) k = k (iv (b : Int)) := fun k => by rw [a4, hb]
        rw [show (w / 2).toNat = b from by omega]
        subst hv
        cases hi : idx 0 L b with
        | none =>
          rw [hi] at a7
          have a8 := fun k => b_sub (a := 0) (b := 1) (by omega) (by omega) k
          simp -implicitDefEqProofs only [↓m_callf, ↓x_seq, ↓x_reg, ↓x_dreg, ↓x_cond, ↓x_skip, ↓x_exit, ↓x_ret, ↓x_block, ↓x_loop, ↓nrm_n, ↓nrm_e, ↓nrm_r, ↓o_nil, ↓o_consN, ↓o_consS, ↓o_guardN, ↓o_guardS, ↓put_n, ↓put_s, ↓r_pu, ↓r_rd, ↓r_al, ↓r_ef, ↓g_b, ↓e_t, ↓e_c, ↓e_f, ↓e_l0, ↓e_l1, ↓e_l2, ↓e_l3, ↓e_l4, ↓e_l5, ↓e_l6, ↓e_l7, ↓e_l8, ↓e_l9, ↓e_l10, ↓e_l11, ↓e_l12, ↓e_l13, ↓es_nil, ↓es_cons, ↓getK_same, ↓getK_other, ↓ofL_nil, ↓ofL_cons, ↓p_mv, ↓p_pick, ↓p_bld, ↓p_nilck, ↓p_bin, ↓p_isnil, ↓p_not, ↓p_ext, ↓p_len, ↓len_n, ↓len_s, ↓p_fad, ↓p_iad, ↓n_b, ↓n_p, ↓n_pf, ↓n_tup, ↓n_sl, ↓n_nils, ↓n_m, ↓n_f, ↓n_i, ↓n_mp, ↓nth0, ↓nth1, ↓nth2, ↓nil_pp, ↓nil_p, ↓nil_ss, ↓nil_s, ↓neg_f, ↓i_t, ↓i_f, ↓evN_of, ↓int_n, ↓int_0, ↓m_ld, ↓m_lk, ↓m_st0, ↓m_box, ↓m_mkm, ↓m_store, ↓m_mup, ↓m_app, ↓ap_0, ↓okT, ↓okF, ↓kd1, ↓ret_r, ↓res_t1, ↓res_t2, ↓one1, ↓one2, ↓rec_t, ↓rec_f, ↓fill_nil, ↓fill_cons, ↓c_i, ↓c_b, ↓c_m, ↓c_p, ↓c_nils, ↓c_sl, ↓c_agg, ↓len_1, ↓len_2, ↓len_3, ↓len_4, ↓beq11, ↓wrs1, ↓one_i, ↓one_p, ↓one_m, ↓one_sl, ↓one_nils, ↓d_nil, ↓d_puN, ↓d_puS, ↓d_rdN, ↓d_rdS, ↓d_alN, ↓d_alS, ↓d_efN, ↓d_efS, ↓d_gpuN, ↓d_gpuS, ↓d_grdN, ↓d_grdS, ↓d_gefN, ↓d_gefS, ↓k_nil, ↓k_cons, ↓ka_nil, ↓ka_cons, ↓rev_nil, ↓rev_cons, ↓and_t, ↓and_f, ↓rrec_t, ↓rrec_f, ↓s_m, ↓s_p, ↓s_i, ↓s_nils, ↓s_sl, ↓rec_nt, ↓rec_nf, ↓rec_dt, ↓neg_tt, ↓neg_tf, ↓ex_n, ↓ex_e, ↓ex_r, ↓m_mks, ↓rec_bb, ↓o_guardTN, ↓o_guardTS, ↓res_t3, ↓one3, ↓ga_old, ↓ga_new, ↓gu_same, ↓gu_other, ↓fv20, ↓fv21, ↓fv30, ↓fv32, ↓fv40, ↓fv41, ↓fv42, ↓fv43, i_t, i_f, rec_t, rec_f, getK_same, getK_other, ofL_cons, ofL_nil, and_t, and_f, rrec_t, rrec_f, ka_nil, ka_cons, k_nil, k_cons, len_1, len_2, len_3, len_4, c_i, c_b, c_m, c_p, c_nils, c_sl, c_agg, beq11, one_i, one_p, one_m, one_sl, one_nils, s_m, s_p, s_i, s_nils, s_sl, rev_nil, rev_cons, ap_0, beq_dec, ble_dec, ne_eq, not_false_eq_true, reduceCtorEq, Bool.not_true, Bool.not_false, Nat.zero_add, Nat.reduceAdd, Nat.reduceLT, Nat.reduceEqDiff, Nat.reduceLeDiff, Nat.zero_le, decide_true, decide_false, c36, ↓a1, ↓a3, ↓a4, ↓t_get c1, ↓t_get c2, ↓hl, ↓a5, a6, ↓t_get hov, ↓a7, ↓a8]
          rfl
        | some j =>
          rw [hi] at a7
          have := idx_len hi
          have := used_len (L := L)
          have a8 := fun k => b_sub (a := ((0 + j + 1 : Nat) : Int)) (b := 1) (by omega) (by omega) k
          have a9 : ((0 + j + 1 : Nat) : Int) - 1 = (j : Int) := by omega
          rw [a9] at a8
          simp -implicitDefEqProofs only [↓m_callf, ↓x_seq, ↓x_reg, ↓x_dreg, ↓x_cond, ↓x_skip, ↓x_exit, ↓x_ret, ↓x_block, ↓x_loop, ↓nrm_n, ↓nrm_e, ↓nrm_r, ↓o_nil, ↓o_consN, ↓o_consS, ↓o_guardN, ↓o_guardS, ↓put_n, ↓put_s, ↓r_pu, ↓r_rd, ↓r_al, ↓r_ef, ↓g_b, ↓e_t, ↓e_c, ↓e_f, ↓e_l0, ↓e_l1, ↓e_l2, ↓e_l3, ↓e_l4, ↓e_l5, ↓e_l6, ↓e_l7, ↓e_l8, ↓e_l9, ↓e_l10, ↓e_l11, ↓e_l12, ↓e_l13, ↓es_nil, ↓es_cons, ↓getK_same, ↓getK_other, ↓ofL_nil, ↓ofL_cons, ↓p_mv, ↓p_pick, ↓p_bld, ↓p_nilck, ↓p_bin, ↓p_isnil, ↓p_not, ↓p_ext, ↓p_len, ↓len_n, ↓len_s, ↓p_fad, ↓p_iad, ↓n_b, ↓n_p, ↓n_pf, ↓n_tup, ↓n_sl, ↓n_nils, ↓n_m, ↓n_f, ↓n_i, ↓n_mp, ↓nth0, ↓nth1, ↓nth2, ↓nil_pp, ↓nil_p, ↓nil_ss, ↓nil_s, ↓neg_f, ↓i_t, ↓i_f, ↓evN_of, ↓int_n, ↓int_0, ↓m_ld, ↓m_lk, ↓m_st0, ↓m_box, ↓m_mkm, ↓m_store, ↓m_mup, ↓m_app, ↓ap_0, ↓okT, ↓okF, ↓kd1, ↓ret_r, ↓res_t1, ↓res_t2, ↓one1, ↓one2, ↓rec_t, ↓rec_f, ↓fill_nil, ↓fill_cons, ↓c_i, ↓c_b, ↓c_m, ↓c_p, ↓c_nils, ↓c_sl, ↓c_agg, ↓len_1, ↓len_2, ↓len_3, ↓len_4, ↓beq11, ↓wrs1, ↓one_i, ↓one_p, ↓one_m, ↓one_sl, ↓one_nils, ↓d_nil, ↓d_puN, ↓d_puS, ↓d_rdN, ↓d_rdS, ↓d_alN, ↓d_alS, ↓d_efN, ↓d_efS, ↓d_gpuN, ↓d_gpuS, ↓d_grdN, ↓d_grdS, ↓d_gefN, ↓d_gefS, ↓k_nil, ↓k_cons, ↓ka_nil, ↓ka_cons, ↓rev_nil, ↓rev_cons, ↓and_t, ↓and_f, ↓rrec_t, ↓rrec_f, ↓s_m, ↓s_p, ↓s_i, ↓s_nils, ↓s_sl, ↓rec_nt, ↓rec_nf, ↓rec_dt, ↓neg_tt, ↓neg_tf, ↓ex_n, ↓ex_e, ↓ex_r, ↓m_mks, ↓rec_bb, ↓o_guardTN, ↓o_guardTS, ↓res_t3, ↓one3, ↓ga_old, ↓ga_new, ↓gu_same, ↓gu_other, ↓fv20, ↓fv21, ↓fv30, ↓fv32, ↓fv40, ↓fv41, ↓fv42, ↓fv43, i_t, i_f, rec_t, rec_f, getK_same, getK_other, ofL_cons, ofL_nil, and_t, and_f, rrec_t, rrec_f, ka_nil, ka_cons, k_nil, k_cons, len_1, len_2, len_3, len_4, c_i, c_b, c_m, c_p, c_nils, c_sl, c_agg, beq11, one_i, one_p, one_m, one_sl, one_nils, s_m, s_p, s_i, s_nils, s_sl, rev_nil, rev_cons, ap_0, beq_dec, ble_dec, ne_eq, not_false_eq_true, reduceCtorEq, Bool.not_true, Bool.not_false, Nat.zero_add, Nat.reduceAdd, Nat.reduceLT, Nat.reduceEqDiff, Nat.reduceLeDiff, Nat.zero_le, decide_true, decide_false, c36, ↓a1, ↓a3, ↓a4, ↓t_get c1, ↓t_get c2, ↓hl, ↓a5, a6, ↓t_get hov, ↓a7, ↓a8]
end
end Go.Proofs.Ytodlgflkhcknaaa.gcc

/- The document's heap (emissaryref16): tags, fields; made. -/
namespace Go.Proofs.Ytodlgflkhcknaaa.gcc
open Go Go.AE
set_option linter.unusedSimpArgs false
set_option maxRecDepth 100000

def rowOf (L : List Cl) (w : Int) : AV := match look 0 L w with
  | none => .nils
  | some c => c.row

section
variable {h : Heap} {x : Nat} {words : Int} {L : List Cl} {a t f : AV}
theorem blk_some {w : Int} {j : Nat} (hb : blk L w = some j) : ∃ c, L[j]? = some c ∧ look 0 L w = some c := by
  have hl := look_blk L w
  rw [hb] at hl
  have hj : j < L.length := by
    unfold blk at hb
    split at hb
    · exact (idx_len hb).1
    · cases hb
  exact ⟨L[j], List.getElem?_eq_getElem hj, by rw [hl]; exact List.getElem?_eq_getElem hj⟩
theorem blk_none {w : Int} (hb : blk L w = none) : look 0 L w = none := by rw [look_blk, hb]; rfl

theorem xTag (r : RX h x words L a t f) {w : Int} (hw : In w) (n : Nat) (k : KH) : cal (n + 3) 14 [.p x 0 0, iv w] h k = k (iv (tagOf L w)) h := by
  obtain ⟨c, c1, c2, c3, c4, c5⟩ := r.hd
  have a1 := fun k => xBlock r hw n k
  rw [run14]; simp only [ofL_cons, ofL_nil, Nat.zero_add, Nat.reduceAdd]
  unfold tagOf
  unfold blkI at a1
  cases hb : blk L w with
  | none =>
    rw [hb] at a1
    rw [blk_none hb]
    have a2 := fun k => b_lssT (a := (-1 : Int)) (b := 0) (by omega) k
    simp -implicitDefEqProofs only [↓m_callf, ↓x_seq, ↓x_reg, ↓x_dreg, ↓x_cond, ↓x_skip, ↓x_exit, ↓x_ret, ↓x_block, ↓x_loop, ↓nrm_n, ↓nrm_e, ↓nrm_r, ↓o_nil, ↓o_consN, ↓o_consS, ↓o_guardN, ↓o_guardS, ↓put_n, ↓put_s, ↓r_pu, ↓r_rd, ↓r_al, ↓r_ef, ↓g_b, ↓e_t, ↓e_c, ↓e_f, ↓e_l0, ↓e_l1, ↓e_l2, ↓e_l3, ↓e_l4, ↓e_l5, ↓e_l6, ↓e_l7, ↓e_l8, ↓e_l9, ↓e_l10, ↓e_l11, ↓e_l12, ↓e_l13, ↓es_nil, ↓es_cons, ↓getK_same, ↓getK_other, ↓ofL_nil, ↓ofL_cons, ↓p_mv, ↓p_pick, ↓p_bld, ↓p_nilck, ↓p_bin, ↓p_isnil, ↓p_not, ↓p_ext, ↓p_len, ↓len_n, ↓len_s, ↓p_fad, ↓p_iad, ↓n_b, ↓n_p, ↓n_pf, ↓n_tup, ↓n_sl, ↓n_nils, ↓n_m, ↓n_f, ↓n_i, ↓n_mp, ↓nth0, ↓nth1, ↓nth2, ↓nil_pp, ↓nil_p, ↓nil_ss, ↓nil_s, ↓neg_f, ↓i_t, ↓i_f, ↓evN_of, ↓int_n, ↓int_0, ↓m_ld, ↓m_lk, ↓m_st0, ↓m_box, ↓m_mkm, ↓m_store, ↓m_mup, ↓m_app, ↓ap_0, ↓okT, ↓okF, ↓kd1, ↓ret_r, ↓res_t1, ↓res_t2, ↓one1, ↓one2, ↓rec_t, ↓rec_f, ↓fill_nil, ↓fill_cons, ↓c_i, ↓c_b, ↓c_m, ↓c_p, ↓c_nils, ↓c_sl, ↓c_agg, ↓len_1, ↓len_2, ↓len_3, ↓len_4, ↓beq11, ↓wrs1, ↓one_i, ↓one_p, ↓one_m, ↓one_sl, ↓one_nils, ↓d_nil, ↓d_puN, ↓d_puS, ↓d_rdN, ↓d_rdS, ↓d_alN, ↓d_alS, ↓d_efN, ↓d_efS, ↓d_gpuN, ↓d_gpuS, ↓d_grdN, ↓d_grdS, ↓d_gefN, ↓d_gefS, ↓k_nil, ↓k_cons, ↓ka_nil, ↓ka_cons, ↓rev_nil, ↓rev_cons, ↓and_t, ↓and_f, ↓rrec_t, ↓rrec_f, ↓s_m, ↓s_p, ↓s_i, ↓s_nils, ↓s_sl, ↓rec_nt, ↓rec_nf, ↓rec_dt, ↓neg_tt, ↓neg_tf, ↓ex_n, ↓ex_e, ↓ex_r, ↓m_mks, ↓rec_bb, ↓o_guardTN, ↓o_guardTS, ↓res_t3, ↓one3, ↓ga_old, ↓ga_new, ↓gu_same, ↓gu_other, ↓fv20, ↓fv21, ↓fv30, ↓fv32, ↓fv40, ↓fv41, ↓fv42, ↓fv43, i_t, i_f, rec_t, rec_f, getK_same, getK_other, ofL_cons, ofL_nil, and_t, and_f, rrec_t, rrec_f, ka_nil, ka_cons, k_nil, k_cons, len_1, len_2, len_3, len_4, c_i, c_b, c_m, c_p, c_nils, c_sl, c_agg, beq11, one_i, one_p, one_m, one_sl, one_nils, s_m, s_p, s_i, s_nils, s_sl, rev_nil, rev_cons, ap_0, beq_dec, ble_dec, ne_eq, not_false_eq_true, reduceCtorEq, Bool.not_true, Bool.not_false, Nat.zero_add, Nat.reduceAdd, Nat.reduceLT, Nat.reduceEqDiff, Nat.reduceLeDiff, Nat.zero_le, decide_true, decide_false, c14, ↓a1, ↓a2]
  | some j =>
    rw [hb] at a1
    obtain ⟨cl, hj, hl⟩ := blk_some hb
    rw [hl]
    have a2 := fun k => b_lssF (a := (j : Int)) (b := 0) (by omega) k
    obtain ⟨id, tt, o, hv, hov, hr⟩ := r.gt.read (j := j) (x := iv cl.tag) (by rw [List.getElem?_map, hj]; rfl)
    have hlt := (List.getElem?_eq_some_iff.1 hj).1
    have a6 : decide (j + 1 ≤ (L.map fun c => iv c.tag).length) = true := decide_eq_true (by rw [List.length_map]; omega)
    have a7 : ∀ k, rdK o tt (j * 1) k = k (iv cl.tag) := fun k => by rw [Nat.mul_one]; exact hr k
    rw [hv] at c3
    simp -implicitDefEqProofs only [↓m_callf, ↓x_seq, ↓x_reg, ↓x_dreg, ↓x_cond, ↓x_skip, ↓x_exit, ↓x_ret, ↓x_block, ↓x_loop, ↓nrm_n, ↓nrm_e, ↓nrm_r, ↓o_nil, ↓o_consN, ↓o_consS, ↓o_guardN, ↓o_guardS, ↓put_n, ↓put_s, ↓r_pu, ↓r_rd, ↓r_al, ↓r_ef, ↓g_b, ↓e_t, ↓e_c, ↓e_f, ↓e_l0, ↓e_l1, ↓e_l2, ↓e_l3, ↓e_l4, ↓e_l5, ↓e_l6, ↓e_l7, ↓e_l8, ↓e_l9, ↓e_l10, ↓e_l11, ↓e_l12, ↓e_l13, ↓es_nil, ↓es_cons, ↓getK_same, ↓getK_other, ↓ofL_nil, ↓ofL_cons, ↓p_mv, ↓p_pick, ↓p_bld, ↓p_nilck, ↓p_bin, ↓p_isnil, ↓p_not, ↓p_ext, ↓p_len, ↓len_n, ↓len_s, ↓p_fad, ↓p_iad, ↓n_b, ↓n_p, ↓n_pf, ↓n_tup, ↓n_sl, ↓n_nils, ↓n_m, ↓n_f, ↓n_i, ↓n_mp, ↓nth0, ↓nth1, ↓nth2, ↓nil_pp, ↓nil_p, ↓nil_ss, ↓nil_s, ↓neg_f, ↓i_t, ↓i_f, ↓evN_of, ↓int_n, ↓int_0, ↓m_ld, ↓m_lk, ↓m_st0, ↓m_box, ↓m_mkm, ↓m_store, ↓m_mup, ↓m_app, ↓ap_0, ↓okT, ↓okF, ↓kd1, ↓ret_r, ↓res_t1, ↓res_t2, ↓one1, ↓one2, ↓rec_t, ↓rec_f, ↓fill_nil, ↓fill_cons, ↓c_i, ↓c_b, ↓c_m, ↓c_p, ↓c_nils, ↓c_sl, ↓c_agg, ↓len_1, ↓len_2, ↓len_3, ↓len_4, ↓beq11, ↓wrs1, ↓one_i, ↓one_p, ↓one_m, ↓one_sl, ↓one_nils, ↓d_nil, ↓d_puN, ↓d_puS, ↓d_rdN, ↓d_rdS, ↓d_alN, ↓d_alS, ↓d_efN, ↓d_efS, ↓d_gpuN, ↓d_gpuS, ↓d_grdN, ↓d_grdS, ↓d_gefN, ↓d_gefS, ↓k_nil, ↓k_cons, ↓ka_nil, ↓ka_cons, ↓rev_nil, ↓rev_cons, ↓and_t, ↓and_f, ↓rrec_t, ↓rrec_f, ↓s_m, ↓s_p, ↓s_i, ↓s_nils, ↓s_sl, ↓rec_nt, ↓rec_nf, ↓rec_dt, ↓neg_tt, ↓neg_tf, ↓ex_n, ↓ex_e, ↓ex_r, ↓m_mks, ↓rec_bb, ↓o_guardTN, ↓o_guardTS, ↓res_t3, ↓one3, ↓ga_old, ↓ga_new, ↓gu_same, ↓gu_other, ↓fv20, ↓fv21, ↓fv30, ↓fv32, ↓fv40, ↓fv41, ↓fv42, ↓fv43, i_t, i_f, rec_t, rec_f, getK_same, getK_other, ofL_cons, ofL_nil, and_t, and_f, rrec_t, rrec_f, ka_nil, ka_cons, k_nil, k_cons, len_1, len_2, len_3, len_4, c_i, c_b, c_m, c_p, c_nils, c_sl, c_agg, beq11, one_i, one_p, one_m, one_sl, one_nils, s_m, s_p, s_i, s_nils, s_sl, rev_nil, rev_cons, ap_0, beq_dec, ble_dec, ne_eq, not_false_eq_true, reduceCtorEq, Bool.not_true, Bool.not_false, Nat.zero_add, Nat.reduceAdd, Nat.reduceLT, Nat.reduceEqDiff, Nat.reduceLeDiff, Nat.zero_le, decide_true, decide_false, c14, ↓a1, ↓a2, ↓t_get c1, ↓t_get c3, a6, ↓t_get hov, ↓a7]
theorem xFields (r : RX h x words L a t f) {w : Int} (hw : In w) (n : Nat) (k : KH) : cal (n + 3) 16 [.p x 0 0, iv w] h k = k (rowOf L w) h := by
  obtain ⟨c, c1, c2, c3, c4, c5⟩ := r.hd
  have a1 := fun k => xBlock r hw n k
  rw [run16]; simp only [ofL_cons, ofL_nil, Nat.zero_add, Nat.reduceAdd]
  unfold rowOf
  unfold blkI at a1
  cases hb : blk L w with
  | none =>
    rw [hb] at a1
    rw [blk_none hb]
    have a2 := fun k => b_lssT (a := (-1 : Int)) (b := 0) (by omega) k
    simp -implicitDefEqProofs only [↓m_callf, ↓x_seq, ↓x_reg, ↓x_dreg, ↓x_cond, ↓x_skip, ↓x_exit, ↓x_ret, ↓x_block, ↓x_loop, ↓nrm_n, ↓nrm_e, ↓nrm_r, ↓o_nil, ↓o_consN, ↓o_consS, ↓o_guardN, ↓o_guardS, ↓put_n, ↓put_s, ↓r_pu, ↓r_rd, ↓r_al, ↓r_ef, ↓g_b, ↓e_t, ↓e_c, ↓e_f, ↓e_l0, ↓e_l1, ↓e_l2, ↓e_l3, ↓e_l4, ↓e_l5, ↓e_l6, ↓e_l7, ↓e_l8, ↓e_l9, ↓e_l10, ↓e_l11, ↓e_l12, ↓e_l13, ↓es_nil, ↓es_cons, ↓getK_same, ↓getK_other, ↓ofL_nil, ↓ofL_cons, ↓p_mv, ↓p_pick, ↓p_bld, ↓p_nilck, ↓p_bin, ↓p_isnil, ↓p_not, ↓p_ext, ↓p_len, ↓len_n, ↓len_s, ↓p_fad, ↓p_iad, ↓n_b, ↓n_p, ↓n_pf, ↓n_tup, ↓n_sl, ↓n_nils, ↓n_m, ↓n_f, ↓n_i, ↓n_mp, ↓nth0, ↓nth1, ↓nth2, ↓nil_pp, ↓nil_p, ↓nil_ss, ↓nil_s, ↓neg_f, ↓i_t, ↓i_f, ↓evN_of, ↓int_n, ↓int_0, ↓m_ld, ↓m_lk, ↓m_st0, ↓m_box, ↓m_mkm, ↓m_store, ↓m_mup, ↓m_app, ↓ap_0, ↓okT, ↓okF, ↓kd1, ↓ret_r, ↓res_t1, ↓res_t2, ↓one1, ↓one2, ↓rec_t, ↓rec_f, ↓fill_nil, ↓fill_cons, ↓c_i, ↓c_b, ↓c_m, ↓c_p, ↓c_nils, ↓c_sl, ↓c_agg, ↓len_1, ↓len_2, ↓len_3, ↓len_4, ↓beq11, ↓wrs1, ↓one_i, ↓one_p, ↓one_m, ↓one_sl, ↓one_nils, ↓d_nil, ↓d_puN, ↓d_puS, ↓d_rdN, ↓d_rdS, ↓d_alN, ↓d_alS, ↓d_efN, ↓d_efS, ↓d_gpuN, ↓d_gpuS, ↓d_grdN, ↓d_grdS, ↓d_gefN, ↓d_gefS, ↓k_nil, ↓k_cons, ↓ka_nil, ↓ka_cons, ↓rev_nil, ↓rev_cons, ↓and_t, ↓and_f, ↓rrec_t, ↓rrec_f, ↓s_m, ↓s_p, ↓s_i, ↓s_nils, ↓s_sl, ↓rec_nt, ↓rec_nf, ↓rec_dt, ↓neg_tt, ↓neg_tf, ↓ex_n, ↓ex_e, ↓ex_r, ↓m_mks, ↓rec_bb, ↓o_guardTN, ↓o_guardTS, ↓res_t3, ↓one3, ↓ga_old, ↓ga_new, ↓gu_same, ↓gu_other, ↓fv20, ↓fv21, ↓fv30, ↓fv32, ↓fv40, ↓fv41, ↓fv42, ↓fv43, i_t, i_f, rec_t, rec_f, getK_same, getK_other, ofL_cons, ofL_nil, and_t, and_f, rrec_t, rrec_f, ka_nil, ka_cons, k_nil, k_cons, len_1, len_2, len_3, len_4, c_i, c_b, c_m, c_p, c_nils, c_sl, c_agg, beq11, one_i, one_p, one_m, one_sl, one_nils, s_m, s_p, s_i, s_nils, s_sl, rev_nil, rev_cons, ap_0, beq_dec, ble_dec, ne_eq, not_false_eq_true, reduceCtorEq, Bool.not_true, Bool.not_false, Nat.zero_add, Nat.reduceAdd, Nat.reduceLT, Nat.reduceEqDiff, Nat.reduceLeDiff, Nat.zero_le, decide_true, decide_false, c16, ↓a1, ↓a2]
  | some j =>
    rw [hb] at a1
    obtain ⟨cl, hj, hl⟩ := blk_some hb
    rw [hl]
    have a2 := fun k => b_lssF (a := (j : Int)) (b := 0) (by omega) k
    obtain ⟨id, tt, o, hv, hov, hr⟩ := r.gf.read (j := j) (x := cl.row) (by rw [List.getElem?_map, hj]; rfl)
    have hlt := (List.getElem?_eq_some_iff.1 hj).1
    have a6 : decide (j + 1 ≤ (L.map Cl.row).length) = true := decide_eq_true (by rw [List.length_map]; omega)
    have a7 : ∀ k, rdK o tt (j * 1) k = k cl.row := fun k => by rw [Nat.mul_one]; exact hr k
    rw [hv] at c4
    simp -implicitDefEqProofs only [↓m_callf, ↓x_seq, ↓x_reg, ↓x_dreg, ↓x_cond, ↓x_skip, ↓x_exit, ↓x_ret, ↓x_block, ↓x_loop, ↓nrm_n, ↓nrm_e, ↓nrm_r, ↓o_nil, ↓o_consN, ↓o_consS, ↓o_guardN, ↓o_guardS, ↓put_n, ↓put_s, ↓r_pu, ↓r_rd, ↓r_al, ↓r_ef, ↓g_b, ↓e_t, ↓e_c, ↓e_f, ↓e_l0, ↓e_l1, ↓e_l2, ↓e_l3, ↓e_l4, ↓e_l5, ↓e_l6, ↓e_l7, ↓e_l8, ↓e_l9, ↓e_l10, ↓e_l11, ↓e_l12, ↓e_l13, ↓es_nil, ↓es_cons, ↓getK_same, ↓getK_other, ↓ofL_nil, ↓ofL_cons, ↓p_mv, ↓p_pick, ↓p_bld, ↓p_nilck, ↓p_bin, ↓p_isnil, ↓p_not, ↓p_ext, ↓p_len, ↓len_n, ↓len_s, ↓p_fad, ↓p_iad, ↓n_b, ↓n_p, ↓n_pf, ↓n_tup, ↓n_sl, ↓n_nils, ↓n_m, ↓n_f, ↓n_i, ↓n_mp, ↓nth0, ↓nth1, ↓nth2, ↓nil_pp, ↓nil_p, ↓nil_ss, ↓nil_s, ↓neg_f, ↓i_t, ↓i_f, ↓evN_of, ↓int_n, ↓int_0, ↓m_ld, ↓m_lk, ↓m_st0, ↓m_box, ↓m_mkm, ↓m_store, ↓m_mup, ↓m_app, ↓ap_0, ↓okT, ↓okF, ↓kd1, ↓ret_r, ↓res_t1, ↓res_t2, ↓one1, ↓one2, ↓rec_t, ↓rec_f, ↓fill_nil, ↓fill_cons, ↓c_i, ↓c_b, ↓c_m, ↓c_p, ↓c_nils, ↓c_sl, ↓c_agg, ↓len_1, ↓len_2, ↓len_3, ↓len_4, ↓beq11, ↓wrs1, ↓one_i, ↓one_p, ↓one_m, ↓one_sl, ↓one_nils, ↓d_nil, ↓d_puN, ↓d_puS, ↓d_rdN, ↓d_rdS, ↓d_alN, ↓d_alS, ↓d_efN, ↓d_efS, ↓d_gpuN, ↓d_gpuS, ↓d_grdN, ↓d_grdS, ↓d_gefN, ↓d_gefS, ↓k_nil, ↓k_cons, ↓ka_nil, ↓ka_cons, ↓rev_nil, ↓rev_cons, ↓and_t, ↓and_f, ↓rrec_t, ↓rrec_f, ↓s_m, ↓s_p, ↓s_i, ↓s_nils, ↓s_sl, ↓rec_nt, ↓rec_nf, ↓rec_dt, ↓neg_tt, ↓neg_tf, ↓ex_n, ↓ex_e, ↓ex_r, ↓m_mks, ↓rec_bb, ↓o_guardTN, ↓o_guardTS, ↓res_t3, ↓one3, ↓ga_old, ↓ga_new, ↓gu_same, ↓gu_other, ↓fv20, ↓fv21, ↓fv30, ↓fv32, ↓fv40, ↓fv41, ↓fv42, ↓fv43, i_t, i_f, rec_t, rec_f, getK_same, getK_other, ofL_cons, ofL_nil, and_t, and_f, rrec_t, rrec_f, ka_nil, ka_cons, k_nil, k_cons, len_1, len_2, len_3, len_4, c_i, c_b, c_m, c_p, c_nils, c_sl, c_agg, beq11, one_i, one_p, one_m, one_sl, one_nils, s_m, s_p, s_i, s_nils, s_sl, rev_nil, rev_cons, ap_0, beq_dec, ble_dec, ne_eq, not_false_eq_true, reduceCtorEq, Bool.not_true, Bool.not_false, Nat.zero_add, Nat.reduceAdd, Nat.reduceLT, Nat.reduceEqDiff, Nat.reduceLeDiff, Nat.zero_le, decide_true, decide_false, c16, ↓a1, ↓a2, ↓t_get c1, ↓t_get c4, a6, ↓t_get hov, ↓a7]
theorem rowR_of (r : RX h x words L a t f) (w : Int) : RowR h (rowOf L w) (flOf L w) := by
  unfold rowOf flOf
  cases hl : look 0 L w with
  | none => exact .inl ⟨rfl, rfl⟩
  | some c => exact (r.bl c (look_mem hl)).1.read
theorem xField (r : RX h x words L a t f) {w : Int} (hw : In w) (i : Nat) (hi : i ≤ 1000000) (n : Nat) (k : KH) : cal (n + 4) 18 [.p x 0 0, iv w, iv i] h k = match (flOf L w)[i]? with
    | none => k (.tup [iv 0, .b false]) h
    | some y => k (.tup [iv y, .b true]) h := by
  have a1 := fun k => xFields r hw n k
  have rr := rowR_of r w
  have a0 := fun k => b_lssF (a := (i : Int)) (b := 0) (by omega) k
  rw [run18]; simp only [ofL_cons, ofL_nil, Nat.zero_add, Nat.reduceAdd]
  cases hl : (flOf L w)[i]? with
  | none =>
    have hlen : (flOf L w).length ≤ i := List.getElem?_eq_none_iff.1 hl
    have a2 := fun k => b_geqT (a := (i : Int)) (b := ((flOf L w).length : Int)) (by omega) k
    simp -implicitDefEqProofs only [↓m_callf, ↓x_seq, ↓x_reg, ↓x_dreg, ↓x_cond, ↓x_skip, ↓x_exit, ↓x_ret, ↓x_block, ↓x_loop, ↓nrm_n, ↓nrm_e, ↓nrm_r, ↓o_nil, ↓o_consN, ↓o_consS, ↓o_guardN, ↓o_guardS, ↓put_n, ↓put_s, ↓r_pu, ↓r_rd, ↓r_al, ↓r_ef, ↓g_b, ↓e_t, ↓e_c, ↓e_f, ↓e_l0, ↓e_l1, ↓e_l2, ↓e_l3, ↓e_l4, ↓e_l5, ↓e_l6, ↓e_l7, ↓e_l8, ↓e_l9, ↓e_l10, ↓e_l11, ↓e_l12, ↓e_l13, ↓es_nil, ↓es_cons, ↓getK_same, ↓getK_other, ↓ofL_nil, ↓ofL_cons, ↓p_mv, ↓p_pick, ↓p_bld, ↓p_nilck, ↓p_bin, ↓p_isnil, ↓p_not, ↓p_ext, ↓p_len, ↓len_n, ↓len_s, ↓p_fad, ↓p_iad, ↓n_b, ↓n_p, ↓n_pf, ↓n_tup, ↓n_sl, ↓n_nils, ↓n_m, ↓n_f, ↓n_i, ↓n_mp, ↓nth0, ↓nth1, ↓nth2, ↓nil_pp, ↓nil_p, ↓nil_ss, ↓nil_s, ↓neg_f, ↓i_t, ↓i_f, ↓evN_of, ↓int_n, ↓int_0, ↓m_ld, ↓m_lk, ↓m_st0, ↓m_box, ↓m_mkm, ↓m_store, ↓m_mup, ↓m_app, ↓ap_0, ↓okT, ↓okF, ↓kd1, ↓ret_r, ↓res_t1, ↓res_t2, ↓one1, ↓one2, ↓rec_t, ↓rec_f, ↓fill_nil, ↓fill_cons, ↓c_i, ↓c_b, ↓c_m, ↓c_p, ↓c_nils, ↓c_sl, ↓c_agg, ↓len_1, ↓len_2, ↓len_3, ↓len_4, ↓beq11, ↓wrs1, ↓one_i, ↓one_p, ↓one_m, ↓one_sl, ↓one_nils, ↓d_nil, ↓d_puN, ↓d_puS, ↓d_rdN, ↓d_rdS, ↓d_alN, ↓d_alS, ↓d_efN, ↓d_efS, ↓d_gpuN, ↓d_gpuS, ↓d_grdN, ↓d_grdS, ↓d_gefN, ↓d_gefS, ↓k_nil, ↓k_cons, ↓ka_nil, ↓ka_cons, ↓rev_nil, ↓rev_cons, ↓and_t, ↓and_f, ↓rrec_t, ↓rrec_f, ↓s_m, ↓s_p, ↓s_i, ↓s_nils, ↓s_sl, ↓rec_nt, ↓rec_nf, ↓rec_dt, ↓neg_tt, ↓neg_tf, ↓ex_n, ↓ex_e, ↓ex_r, ↓m_mks, ↓rec_bb, ↓o_guardTN, ↓o_guardTS, ↓res_t3, ↓one3, ↓ga_old, ↓ga_new, ↓gu_same, ↓gu_other, ↓fv20, ↓fv21, ↓fv30, ↓fv32, ↓fv40, ↓fv41, ↓fv42, ↓fv43, i_t, i_f, rec_t, rec_f, getK_same, getK_other, ofL_cons, ofL_nil, and_t, and_f, rrec_t, rrec_f, ka_nil, ka_cons, k_nil, k_cons, len_1, len_2, len_3, len_4, c_i, c_b, c_m, c_p, c_nils, c_sl, c_agg, beq11, one_i, one_p, one_m, one_sl, one_nils, s_m, s_p, s_i, s_nils, s_sl, rev_nil, rev_cons, ap_0, beq_dec, ble_dec, ne_eq, not_false_eq_true, reduceCtorEq, Bool.not_true, Bool.not_false, Nat.zero_add, Nat.reduceAdd, Nat.reduceLT, Nat.reduceEqDiff, Nat.reduceLeDiff, Nat.zero_le, decide_true, decide_false, c18, ↓a0, ↓a1, ↓rr.len, ↓a2]
  | some y =>
    have hlen : i < (flOf L w).length := (List.getElem?_eq_some_iff.1 hl).1
    have a2 := fun k => b_geqF (a := (i : Int)) (b := ((flOf L w).length : Int)) (by omega) k
    obtain ⟨id, tt, off, cap, o, hv, hov, hr⟩ := rr.elem hl
    have a3 : decide (i + 1 ≤ (flOf L w).length) = true := decide_eq_true hlen
    rw [hv] at a1
    simp -implicitDefEqProofs only [↓m_callf, ↓x_seq, ↓x_reg, ↓x_dreg, ↓x_cond, ↓x_skip, ↓x_exit, ↓x_ret, ↓x_block, ↓x_loop, ↓nrm_n, ↓nrm_e, ↓nrm_r, ↓o_nil, ↓o_consN, ↓o_consS, ↓o_guardN, ↓o_guardS, ↓put_n, ↓put_s, ↓r_pu, ↓r_rd, ↓r_al, ↓r_ef, ↓g_b, ↓e_t, ↓e_c, ↓e_f, ↓e_l0, ↓e_l1, ↓e_l2, ↓e_l3, ↓e_l4, ↓e_l5, ↓e_l6, ↓e_l7, ↓e_l8, ↓e_l9, ↓e_l10, ↓e_l11, ↓e_l12, ↓e_l13, ↓es_nil, ↓es_cons, ↓getK_same, ↓getK_other, ↓ofL_nil, ↓ofL_cons, ↓p_mv, ↓p_pick, ↓p_bld, ↓p_nilck, ↓p_bin, ↓p_isnil, ↓p_not, ↓p_ext, ↓p_len, ↓len_n, ↓len_s, ↓p_fad, ↓p_iad, ↓n_b, ↓n_p, ↓n_pf, ↓n_tup, ↓n_sl, ↓n_nils, ↓n_m, ↓n_f, ↓n_i, ↓n_mp, ↓nth0, ↓nth1, ↓nth2, ↓nil_pp, ↓nil_p, ↓nil_ss, ↓nil_s, ↓neg_f, ↓i_t, ↓i_f, ↓evN_of, ↓int_n, ↓int_0, ↓m_ld, ↓m_lk, ↓m_st0, ↓m_box, ↓m_mkm, ↓m_store, ↓m_mup, ↓m_app, ↓ap_0, ↓okT, ↓okF, ↓kd1, ↓ret_r, ↓res_t1, ↓res_t2, ↓one1, ↓one2, ↓rec_t, ↓rec_f, ↓fill_nil, ↓fill_cons, ↓c_i, ↓c_b, ↓c_m, ↓c_p, ↓c_nils, ↓c_sl, ↓c_agg, ↓len_1, ↓len_2, ↓len_3, ↓len_4, ↓beq11, ↓wrs1, ↓one_i, ↓one_p, ↓one_m, ↓one_sl, ↓one_nils, ↓d_nil, ↓d_puN, ↓d_puS, ↓d_rdN, ↓d_rdS, ↓d_alN, ↓d_alS, ↓d_efN, ↓d_efS, ↓d_gpuN, ↓d_gpuS, ↓d_grdN, ↓d_grdS, ↓d_gefN, ↓d_gefS, ↓k_nil, ↓k_cons, ↓ka_nil, ↓ka_cons, ↓rev_nil, ↓rev_cons, ↓and_t, ↓and_f, ↓rrec_t, ↓rrec_f, ↓s_m, ↓s_p, ↓s_i, ↓s_nils, ↓s_sl, ↓rec_nt, ↓rec_nf, ↓rec_dt, ↓neg_tt, ↓neg_tf, ↓ex_n, ↓ex_e, ↓ex_r, ↓m_mks, ↓rec_bb, ↓o_guardTN, ↓o_guardTS, ↓res_t3, ↓one3, ↓ga_old, ↓ga_new, ↓gu_same, ↓gu_other, ↓fv20, ↓fv21, ↓fv30, ↓fv32, ↓fv40, ↓fv41, ↓fv42, ↓fv43, i_t, i_f, rec_t, rec_f, getK_same, getK_other, ofL_cons, ofL_nil, and_t, and_f, rrec_t, rrec_f, ka_nil, ka_cons, k_nil, k_cons, len_1, len_2, len_3, len_4, c_i, c_b, c_m, c_p, c_nils, c_sl, c_agg, beq11, one_i, one_p, one_m, one_sl, one_nils, s_m, s_p, s_i, s_nils, s_sl, rev_nil, rev_cons, ap_0, beq_dec, ble_dec, ne_eq, not_false_eq_true, reduceCtorEq, Bool.not_true, Bool.not_false, Nat.zero_add, Nat.reduceAdd, Nat.reduceLT, Nat.reduceEqDiff, Nat.reduceLeDiff, Nat.zero_le, decide_true, decide_false, c18, ↓a0, ↓a1, ↓len_s, ↓a2, a3, ↓t_get hov, ↓hr]
theorem xNew (hs : Sc h) {s : Int} (h0 : 0 ≤ s) (h1 : s ≤ 20000) (n : Nat) : ∃ h', (∀ k : KH, cal (n + 1) 29 [iv s] h k = k (.p h.next 0 0) h') ∧ RX h' h.next s [] .nils .nils .nils ∧ Sc h' ∧ Kp h h' [] ∧ h'.next = h.next + 1 := by
  refine ⟨addO h (.st (T.set (iv s) (T.set .nils (T.set .nils (T.set .nils .e 0) 1) 2) 3) 4), fun k => ?_, ⟨⟨T.set (iv s) (T.set .nils (T.set .nils (T.set .nils .e 0) 1) 2) 3, ?_, ?_, ?_, ?_, get_same _ _ _⟩, .inl ⟨rfl, rfl⟩, .inl ⟨rfl, rfl⟩, .inl ⟨rfl, rfl⟩, fun c hc => by simp at hc, fun i j c d hi => by simp at hi,
    ⟨fun z hz => by simp [rid] at hz, fun z hz => by simp [rid] at hz, fun c hc => by simp at hc⟩, by simp [used]⟩, hs.add _, Kp.add _ _ _, rfl⟩
  · rw [run29]; simp only [ofL_cons, ofL_nil, Nat.zero_add, Nat.reduceAdd]
    have a1 := fun k => b_lssF (a := s) (b := 0) (by omega) k
    have a2 := fun k => b_gtrF (a := s) (b := 20000) (by omega) k
    simp -implicitDefEqProofs only [↓m_callf, ↓x_seq, ↓x_reg, ↓x_dreg, ↓x_cond, ↓x_skip, ↓x_exit, ↓x_ret, ↓x_block, ↓x_loop, ↓nrm_n, ↓nrm_e, ↓nrm_r, ↓o_nil, ↓o_consN, ↓o_consS, ↓o_guardN, ↓o_guardS, ↓put_n, ↓put_s, ↓r_pu, ↓r_rd, ↓r_al, ↓r_ef, ↓g_b, ↓e_t, ↓e_c, ↓e_f, ↓e_l0, ↓e_l1, ↓e_l2, ↓e_l3, ↓e_l4, ↓e_l5, ↓e_l6, ↓e_l7, ↓e_l8, ↓e_l9, ↓e_l10, ↓e_l11, ↓e_l12, ↓e_l13, ↓es_nil, ↓es_cons, ↓getK_same, ↓getK_other, ↓ofL_nil, ↓ofL_cons, ↓p_mv, ↓p_pick, ↓p_bld, ↓p_nilck, ↓p_bin, ↓p_isnil, ↓p_not, ↓p_ext, ↓p_len, ↓len_n, ↓len_s, ↓p_fad, ↓p_iad, ↓n_b, ↓n_p, ↓n_pf, ↓n_tup, ↓n_sl, ↓n_nils, ↓n_m, ↓n_f, ↓n_i, ↓n_mp, ↓nth0, ↓nth1, ↓nth2, ↓nil_pp, ↓nil_p, ↓nil_ss, ↓nil_s, ↓neg_f, ↓i_t, ↓i_f, ↓evN_of, ↓int_n, ↓int_0, ↓m_ld, ↓m_lk, ↓m_st0, ↓m_box, ↓m_mkm, ↓m_store, ↓m_mup, ↓m_app, ↓ap_0, ↓okT, ↓okF, ↓kd1, ↓ret_r, ↓res_t1, ↓res_t2, ↓one1, ↓one2, ↓rec_t, ↓rec_f, ↓fill_nil, ↓fill_cons, ↓c_i, ↓c_b, ↓c_m, ↓c_p, ↓c_nils, ↓c_sl, ↓c_agg, ↓len_1, ↓len_2, ↓len_3, ↓len_4, ↓beq11, ↓wrs1, ↓one_i, ↓one_p, ↓one_m, ↓one_sl, ↓one_nils, ↓d_nil, ↓d_puN, ↓d_puS, ↓d_rdN, ↓d_rdS, ↓d_alN, ↓d_alS, ↓d_efN, ↓d_efS, ↓d_gpuN, ↓d_gpuS, ↓d_grdN, ↓d_grdS, ↓d_gefN, ↓d_gefS, ↓k_nil, ↓k_cons, ↓ka_nil, ↓ka_cons, ↓rev_nil, ↓rev_cons, ↓and_t, ↓and_f, ↓rrec_t, ↓rrec_f, ↓s_m, ↓s_p, ↓s_i, ↓s_nils, ↓s_sl, ↓rec_nt, ↓rec_nf, ↓rec_dt, ↓neg_tt, ↓neg_tf, ↓ex_n, ↓ex_e, ↓ex_r, ↓m_mks, ↓rec_bb, ↓o_guardTN, ↓o_guardTS, ↓res_t3, ↓one3, ↓ga_old, ↓ga_new, ↓gu_same, ↓gu_other, ↓fv20, ↓fv21, ↓fv30, ↓fv32, ↓fv40, ↓fv41, ↓fv42, ↓fv43, i_t, i_f, rec_t, rec_f, getK_same, getK_other, ofL_cons, ofL_nil, and_t, and_f, rrec_t, rrec_f, ka_nil, ka_cons, k_nil, k_cons, len_1, len_2, len_3, len_4, c_i, c_b, c_m, c_p, c_nils, c_sl, c_agg, beq11, one_i, one_p, one_m, one_sl, one_nils, s_m, s_p, s_i, s_nils, s_sl, rev_nil, rev_cons, ap_0, beq_dec, ble_dec, ne_eq, not_false_eq_true, reduceCtorEq, Bool.not_true, Bool.not_false, Nat.zero_add, Nat.reduceAdd, Nat.reduceLT, Nat.reduceEqDiff, Nat.reduceLeDiff, Nat.zero_le, decide_true, decide_false, c29, ↓a1, ↓a2]
  · rw [get_add]; exact if_pos rfl
  · simp only [get_same, get_other, ne_eq, Nat.reduceEqDiff, not_false_eq_true]
  · simp only [get_same, get_other, ne_eq, Nat.reduceEqDiff, not_false_eq_true]
  · simp only [get_same, get_other, ne_eq, Nat.reduceEqDiff, not_false_eq_true]
end
end Go.Proofs.Ytodlgflkhcknaaa.gcc

/- The document's heap (emissaryref16): rows of a struct grow. -/
namespace Go.Proofs.Ytodlgflkhcknaaa.gcc
open Go Go.AE
set_option linter.unusedSimpArgs false
set_option maxRecDepth 100000

theorem GR.one {h : Heap} {v : AV} {l : List AV} (g : GR h v l) : oneC v = true ∧ cellsOf v = [v] := by
  rcases g with ⟨_, rfl⟩ | ⟨id, t, cells, minv, segs, h1, rfl, h3, h4⟩ <;> exact ⟨rfl, rfl⟩

/-- An element is put behind a row that a struct's cell holds. -/
theorem push {b : Nat} (hb : b ≤ 24) {h : Heap} {x n i : Nat} {c : T AV} {v y : AV} {l : List AV} (hx : h.tr.get x = some (.st c n)) (g : GR h v l) (hs : Sc h) (hy : oneC y = true) (hl : l.length < 1000000) :
    ∃ v' h2, (∀ k, appK 1 b v [y] 1 (addO h (.st (T.set y .e 0) 1)) k = k v' h2) ∧ h2.tr.get x = some (.st c n) ∧ GR (updO h2 x (.st (T.set v' c i) n)) v' (l ++ [y]) ∧ Sc (updO h2 x (.st (T.set v' c i) n)) ∧
      Kp h (updO h2 x (.st (T.set v' c i) n)) (x :: rid v) ∧ (∀ z ∈ rid v', z ∈ rid v ∨ h.next ≤ z) ∧ oneC v' = true ∧ cellsOf v' = [v'] ∧ (∀ id, id ≠ x → (updO h2 x (.st (T.set v' c i) n)).tr.get id = h2.tr.get id) ∧ Kp h h2 (rid v) ∧ Sc h2 := by
  have k1 := Kp.add h (.st (T.set y .e 0) 1) []
  have hs1 := hs.add (.st (T.set y .e 0) 1)
  have g1 := g.keep k1 hs (fun _ _ => by simp)
  obtain ⟨v', h2, e2, g2, hs2, k2, i2⟩ := app_one hb g1 hs1 hy hl
  have k12 : Kp h h2 (rid v) := (k1.mono (by simp)).trans k2 (fun z hz _ => hz)
  have hx2 : h2.tr.get x = some (.st c n) := k12.get hs hx (g.notSt hx)
  have k3 := Kp.upd h2 x (.st (T.set v' c i) n)
  have n1 : (addO h (.st (T.set y .e 0) 1)).next = h.next + 1 := rfl
  have hxn : x ∉ rid v' := g2.notSt hx2
  exact ⟨v', h2, e2, hx2, g2.keep k3 hs2 (fun z hz hm => by simp at hm; subst hm; exact hxn hz), hs2.upd hx2 _, (k12.mono (by simp +contextual)).trans (k3.mono (by simp)) (fun z hz _ => hz),
    fun z hz => by
      rcases i2 z hz with h3 | h3
      · exact .inl h3
      · exact .inr (by omega), g2.one.1, g2.one.2, fun id hid => by rw [get_upd, if_neg hid], k12, hs2⟩

/-- What the frame of 'Alloc' holds while the words are laid. -/
def FX (fr : Fr) (x : Nat) (v : AV) (w : Int) (i : Nat) : Prop :=
  fr.get 0 = some (.p x 0 0) ∧ fr.get 2 = some v ∧ fr.get 8 = some (iv w) ∧ fr.get 9 = some (iv i)

theorem loopX {x N : Nat} {v : AV} {w : Int} (hlen : ∀ k : KV, lenK v k = k (iv (N : Nat))) (hN : N ≤ 20000) (n : Nat) : ∀ (d i : Nat) (h : Heap) (fr : Fr) (c : T AV) (a : AV) (l : List AV),
    i + d = N → h.tr.get x = some (.st c 4) → c.get 0 = some a → GR h a l → Sc h → l.length + d ≤ 100000 → FX fr x v w i → ∀ f,
    ∃ fr' h' c' a', (∀ k, iter (exec (cal n) c30L0) (d + (f + 1)) fr h k = k (.exit 0) fr' h') ∧ fr'.get 8 = some (iv w) ∧ h'.tr.get x = some (.st c' 4) ∧ c'.get 0 = some a' ∧ (∀ j, j ≠ 0 → c'.get j = c.get j) ∧
      GR h' a' (l ++ List.replicate d (iv 0)) ∧ Sc h' ∧ Kp h h' (x :: rid a) ∧ (∀ z ∈ rid a', z ∈ rid a ∨ h.next ≤ z)
  | 0, i, h, fr, c, a, l, hid, hx, hc, g, hs, hl, F, f => by
    obtain ⟨f0, f2, f8, f9⟩ := F
    have hi : i = N := by omega
    subst hi
    have a1 := fun k => b_lssF (a := (i : Int)) (b := (i : Int)) (by omega) k
    apply Exists.intro
    refine ⟨h, c, a, ?_, ?_, hx, hc, fun _ _ => rfl, by simpa using g, hs, Kp.refl _ _, fun z hz => .inl hz⟩
    · intro k
      rw [Nat.zero_add, it_succ]
      simp -implicitDefEqProofs only [↓m_callf, ↓x_seq, ↓x_reg, ↓x_dreg, ↓x_cond, ↓x_skip, ↓x_exit, ↓x_ret, ↓x_block, ↓x_loop, ↓nrm_n, ↓nrm_e, ↓nrm_r, ↓o_nil, ↓o_consN, ↓o_consS, ↓o_guardN, ↓o_guardS, ↓put_n, ↓put_s, ↓r_pu, ↓r_rd, ↓r_al, ↓r_ef, ↓g_b, ↓e_t, ↓e_c, ↓e_f, ↓e_l0, ↓e_l1, ↓e_l2, ↓e_l3, ↓e_l4, ↓e_l5, ↓e_l6, ↓e_l7, ↓e_l8, ↓e_l9, ↓e_l10, ↓e_l11, ↓e_l12, ↓e_l13, ↓es_nil, ↓es_cons, ↓getK_same, ↓getK_other, ↓ofL_nil, ↓ofL_cons, ↓p_mv, ↓p_pick, ↓p_bld, ↓p_nilck, ↓p_bin, ↓p_isnil, ↓p_not, ↓p_ext, ↓p_len, ↓len_n, ↓len_s, ↓p_fad, ↓p_iad, ↓n_b, ↓n_p, ↓n_pf, ↓n_tup, ↓n_sl, ↓n_nils, ↓n_m, ↓n_f, ↓n_i, ↓n_mp, ↓nth0, ↓nth1, ↓nth2, ↓nil_pp, ↓nil_p, ↓nil_ss, ↓nil_s, ↓neg_f, ↓i_t, ↓i_f, ↓evN_of, ↓int_n, ↓int_0, ↓m_ld, ↓m_lk, ↓m_st0, ↓m_box, ↓m_mkm, ↓m_store, ↓m_mup, ↓m_app, ↓ap_0, ↓okT, ↓okF, ↓kd1, ↓ret_r, ↓res_t1, ↓res_t2, ↓one1, ↓one2, ↓rec_t, ↓rec_f, ↓fill_nil, ↓fill_cons, ↓c_i, ↓c_b, ↓c_m, ↓c_p, ↓c_nils, ↓c_sl, ↓c_agg, ↓len_1, ↓len_2, ↓len_3, ↓len_4, ↓beq11, ↓wrs1, ↓one_i, ↓one_p, ↓one_m, ↓one_sl, ↓one_nils, ↓d_nil, ↓d_puN, ↓d_puS, ↓d_rdN, ↓d_rdS, ↓d_alN, ↓d_alS, ↓d_efN, ↓d_efS, ↓d_gpuN, ↓d_gpuS, ↓d_grdN, ↓d_grdS, ↓d_gefN, ↓d_gefS, ↓k_nil, ↓k_cons, ↓ka_nil, ↓ka_cons, ↓rev_nil, ↓rev_cons, ↓and_t, ↓and_f, ↓rrec_t, ↓rrec_f, ↓s_m, ↓s_p, ↓s_i, ↓s_nils, ↓s_sl, ↓rec_nt, ↓rec_nf, ↓rec_dt, ↓neg_tt, ↓neg_tf, ↓ex_n, ↓ex_e, ↓ex_r, ↓m_mks, ↓rec_bb, ↓o_guardTN, ↓o_guardTS, ↓res_t3, ↓one3, ↓ga_old, ↓ga_new, ↓gu_same, ↓gu_other, ↓fv20, ↓fv21, ↓fv30, ↓fv32, ↓fv40, ↓fv41, ↓fv42, ↓fv43, i_t, i_f, rec_t, rec_f, getK_same, getK_other, ofL_cons, ofL_nil, and_t, and_f, rrec_t, rrec_f, ka_nil, ka_cons, k_nil, k_cons, len_1, len_2, len_3, len_4, c_i, c_b, c_m, c_p, c_nils, c_sl, c_agg, beq11, one_i, one_p, one_m, one_sl, one_nils, s_m, s_p, s_i, s_nils, s_sl, rev_nil, rev_cons, ap_0, beq_dec, ble_dec, ne_eq, not_false_eq_true, reduceCtorEq, Bool.not_true, Bool.not_false, Nat.zero_add, Nat.reduceAdd, Nat.reduceLT, Nat.reduceEqDiff, Nat.reduceLeDiff, Nat.zero_le, decide_true, decide_false, c30L0, ↓t_get f0, ↓t_get f2, ↓t_get f8, ↓t_get f9, ↓hlen, ↓a1]
      rfl
    · simp only [get_other, ne_eq, Nat.reduceEqDiff, not_false_eq_true, f8]
  | d + 1, i, h, fr, c, a, l, hid, hx, hc, g, hs, hl, F, f => by
    obtain ⟨f0, f2, f8, f9⟩ := F
    have a1 := fun k => b_lssT (a := (i : Int)) (b := (N : Int)) (by omega) k
    have a2 := fun k => b_add (a := (i : Int)) (b := 1) (by omega) (by omega) k
    obtain ⟨v', h2, e2, hx2, g3, hs3, k3, i3, o1, o2, _, _, _⟩ := push (b := 8) (by omega) (i := 0) hx g hs (y := iv 0) rfl (by omega)
    have a3 : ∀ K, wrK (.st c 4) 0 0 v' K = K (.st (T.set v' c 0) 4) := fun K => w_st o1 (by omega) K
    obtain ⟨fr', h', c', a', e4, q8, q1, q2, q3, q4, q5, q6, q7⟩ := loopX (x := x) (w := w) hlen hN n d (i + 1) (updO h2 x (.st (T.set v' c 0) 4)) (T.set (iv ((i : Int) + 1)) (T.set (.b true) fr 71) 9) (T.set v' c 0) v' (l ++ [iv 0]) (by omega) (by rw [get_upd]; exact if_pos rfl) (get_same _ _ _) g3 hs3 (by simp; omega)
      ⟨by simp only [get_other, ne_eq, Nat.reduceEqDiff, not_false_eq_true, f0], by simp only [get_other, ne_eq, Nat.reduceEqDiff, not_false_eq_true, f2], by simp only [get_other, ne_eq, Nat.reduceEqDiff, not_false_eq_true, f8], by simp only [get_same]; rfl⟩ f
    have hxl := hs _ _ hx
    refine ⟨fr', h', c', a', fun k => ?_, q8, q1, q2, fun j hj => by rw [q3 j hj, get_other _ _ hj], ?_, q5, k3.trans q6 (fun z hz hlt => ?_), fun z hz => ?_⟩
    · rw [show d + 1 + (f + 1) = d + (f + 1) + 1 from by omega, it_succ]
      simp -implicitDefEqProofs only [↓m_callf, ↓x_seq, ↓x_reg, ↓x_dreg, ↓x_cond, ↓x_skip, ↓x_exit, ↓x_ret, ↓x_block, ↓x_loop, ↓nrm_n, ↓nrm_e, ↓nrm_r, ↓o_nil, ↓o_consN, ↓o_consS, ↓o_guardN, ↓o_guardS, ↓put_n, ↓put_s, ↓r_pu, ↓r_rd, ↓r_al, ↓r_ef, ↓g_b, ↓e_t, ↓e_c, ↓e_f, ↓e_l0, ↓e_l1, ↓e_l2, ↓e_l3, ↓e_l4, ↓e_l5, ↓e_l6, ↓e_l7, ↓e_l8, ↓e_l9, ↓e_l10, ↓e_l11, ↓e_l12, ↓e_l13, ↓es_nil, ↓es_cons, ↓getK_same, ↓getK_other, ↓ofL_nil, ↓ofL_cons, ↓p_mv, ↓p_pick, ↓p_bld, ↓p_nilck, ↓p_bin, ↓p_isnil, ↓p_not, ↓p_ext, ↓p_len, ↓len_n, ↓len_s, ↓p_fad, ↓p_iad, ↓n_b, ↓n_p, ↓n_pf, ↓n_tup, ↓n_sl, ↓n_nils, ↓n_m, ↓n_f, ↓n_i, ↓n_mp, ↓nth0, ↓nth1, ↓nth2, ↓nil_pp, ↓nil_p, ↓nil_ss, ↓nil_s, ↓neg_f, ↓i_t, ↓i_f, ↓evN_of, ↓int_n, ↓int_0, ↓m_ld, ↓m_lk, ↓m_st0, ↓m_box, ↓m_mkm, ↓m_store, ↓m_mup, ↓m_app, ↓ap_0, ↓okT, ↓okF, ↓kd1, ↓ret_r, ↓res_t1, ↓res_t2, ↓one1, ↓one2, ↓rec_t, ↓rec_f, ↓fill_nil, ↓fill_cons, ↓c_i, ↓c_b, ↓c_m, ↓c_p, ↓c_nils, ↓c_sl, ↓c_agg, ↓len_1, ↓len_2, ↓len_3, ↓len_4, ↓beq11, ↓wrs1, ↓one_i, ↓one_p, ↓one_m, ↓one_sl, ↓one_nils, ↓d_nil, ↓d_puN, ↓d_puS, ↓d_rdN, ↓d_rdS, ↓d_alN, ↓d_alS, ↓d_efN, ↓d_efS, ↓d_gpuN, ↓d_gpuS, ↓d_grdN, ↓d_grdS, ↓d_gefN, ↓d_gefS, ↓k_nil, ↓k_cons, ↓ka_nil, ↓ka_cons, ↓rev_nil, ↓rev_cons, ↓and_t, ↓and_f, ↓rrec_t, ↓rrec_f, ↓s_m, ↓s_p, ↓s_i, ↓s_nils, ↓s_sl, ↓rec_nt, ↓rec_nf, ↓rec_dt, ↓neg_tt, ↓neg_tf, ↓ex_n, ↓ex_e, ↓ex_r, ↓m_mks, ↓rec_bb, ↓o_guardTN, ↓o_guardTS, ↓res_t3, ↓one3, ↓ga_old, ↓ga_new, ↓gu_same, ↓gu_other, ↓fv20, ↓fv21, ↓fv30, ↓fv32, ↓fv40, ↓fv41, ↓fv42, ↓fv43, i_t, i_f, rec_t, rec_f, getK_same, getK_other, ofL_cons, ofL_nil, and_t, and_f, rrec_t, rrec_f, ka_nil, ka_cons, k_nil, k_cons, len_1, len_2, len_3, len_4, c_i, c_b, c_m, c_p, c_nils, c_sl, c_agg, beq11, one_i, one_p, one_m, one_sl, one_nils, s_m, s_p, s_i, s_nils, s_sl, rev_nil, rev_cons, ap_0, beq_dec, ble_dec, ne_eq, not_false_eq_true, reduceCtorEq, Bool.not_true, Bool.not_false, Nat.zero_add, Nat.reduceAdd, Nat.reduceLT, Nat.reduceEqDiff, Nat.reduceLeDiff, Nat.zero_le, decide_true, decide_false, c30L0, ↓t_get f0, ↓t_get f2, ↓t_get f8, ↓t_get f9, ↓hlen, ↓a1, ↓a2, ↓t_get hx, ↓t_get hc, ↓bsl1, ↓bslK_of, ↓src_new, ↓e2, ↓t_get hx2, o2, ↓a3]
      exact e4 k
    · rw [List.append_assoc] at q4
      exact q4
    · simp only [List.mem_cons] at hz ⊢
      rcases hz with rfl | hz
      · exact .inl rfl
      · rcases i3 z hz with h5 | h5
        · exact .inr h5
        · omega
    · rcases q7 z hz with h5 | h5
      · rcases i3 z h5 with h6 | h6
        · exact .inl h6
        · exact .inr h6
      · exact .inr (Nat.le_trans k3.1 h5)
end Go.Proofs.Ytodlgflkhcknaaa.gcc

/- The document's heap (emissaryref16): a block is made. -/
namespace Go.Proofs.Ytodlgflkhcknaaa.gcc
open Go Go.AE
set_option linter.unusedSimpArgs false
set_option maxRecDepth 100000

theorem clone2 {h : Heap} {v : AV} {fl : List Int} (r : RowR h v fl) (hs : Sc h) (hl : fl.length ≤ 1000000) :
    ∃ v' h', (∀ k : KH, (srcK 1 v (addO h (.st .e 0)) fun new m => appK 1 8 (.sl h.next 0 0 0 (some 0) 1) new m (addO h (.st .e 0)) k) = k v' h') ∧ RowO h' v' fl ∧ Sc h' ∧ Kp h h' [] ∧ (∀ i ∈ rid v', h.next ≤ i) ∧ cellsOf v' = [v'] ∧ oneC v' = true := by
  have hq : (addO h (.st .e 0)).tr.get h.next = some (.st .e 0) := by rw [get_add, if_pos rfl]
  have hk := Kp.add h (.st .e 0) []
  have r2 : RowR (addO h (.st .e 0)) v fl := r.keep hk hs (fun _ _ => by simp)
  have hf := fun k : KH => app_fresh hq (fl.map iv) (by simpa using hl) k
  rw [List.length_map] at hf
  by_cases he : fl = []
  · subst he
    exact ⟨.sl h.next 0 0 0 (some 0) 1, addO h (.st .e 0), fun k => by rw [r2.src]; exact hf k, .inl ⟨rfl, .inr ⟨h.next, rfl, hq⟩⟩, hs.add _, hk, fun i hi => by simp [rid] at hi; omega, rfl, rfl⟩
  · exact ⟨.sl (h.next + 1) 0 0 fl.length none 1, addO (addO h (.st .e 0)) (.ve (T.ofList (fl.map iv) 0 .e) fl.length 0 0 []), fun k => by rw [r2.src, hf, if_neg (by simpa using he)]; rfl,
        .inr ⟨h.next + 1, T.ofList (fl.map iv) 0 .e, he, rfl, by rw [get_add]; exact if_pos rfl, fun j x hj => ofL_get hj⟩, (hs.add _).add _, hk.trans (Kp.add _ _ []) (fun i hi => by simp at hi), fun i hi => by simp [rid] at hi; omega, rfl, rfl⟩
theorem GR.same {h : Heap} {v : AV} {l : List AV} (g : GR h v l) : sameV v v = true := by
  rcases g with ⟨_, rfl⟩ | ⟨id, t, cells, minv, segs, h1, rfl, h3, h4⟩
  · rfl
  · exact s_sl _ _ _ _ _

theorem ats_app (c : Cl) : ∀ (L : List Cl) (i : Nat), ats i (L ++ [c]) = ats i L ++ (iv ((i + L.length + 1 : Nat) : Int) :: List.replicate c.fl.length (iv 0))
  | [], i => by simp [ats]
  | x :: L, i => by
    simp only [List.cons_append, ats, ats_app c L, List.length_cons, List.append_assoc]
    rw [show i + 1 + L.length + 1 = i + (L.length + 1) + 1 from by omega]

section
variable {h : Heap} {x : Nat} {words : Int} {L : List Cl} {a t f : AV}
theorem xAlloc (r : RX h x words L a t f) (hs : Sc h) {tag : Int} (t1 : 1 ≤ tag) (t8 : tag ≤ 8) {v : AV} {fl : List Int} (rv : RowR h v fl) (hrv : ∀ z ∈ rid v, z ≠ x ∧ z ∉ rid t) (hin : ∀ y ∈ fl, In y) (hfit : (used L + (1 + fl.length) : Int) ≤ words) (hsz : words ≤ 20000) (n : Nat) :
    ∃ h' c a' t' f', (∀ k : KH, cal (n + 2) 30 [.p x 0 0, iv tag, v] h k = k (.tup [iv (2 * used L), .b true]) h') ∧ c.tag = tag ∧ c.fl = fl ∧ RX h' x words (L ++ [c]) a' t' f' ∧ Sc h' ∧ Kp h h' (x :: (rid a ++ rid t ++ rid f)) ∧
      (∀ z ∈ rid c.row, h.next ≤ z) ∧ ∀ z ∈ rid a' ++ rid t' ++ rid f', z ∈ rid a ++ rid t ++ rid f ∨ h.next ≤ z := by
  obtain ⟨cx, c1, c2, c3, c4, c5⟩ := r.hd
  have hf := r.fits
  have hLl := used_len (L := L)
  obtain ⟨na, nt, nr⟩ := r.ne
  -- the tags
  obtain ⟨t', h2, e2, x2, gt3, hs3, k3, i3, ot1, ot2, o3, k12, hs2⟩ := push (b := 8) (by omega) (i := 1) c1 r.gt hs (y := iv tag) rfl (by rw [List.length_map]; omega)
  generalize hH3 : updO h2 x (.st (T.set t' cx 1) 4) = H3 at *
  have x3 : H3.tr.get x = some (.st (T.set t' cx 1) 4) := by rw [← hH3, get_upd]; exact if_pos rfl
  have rv3 : RowR H3 v fl := rv.keep k3 hs (fun z hz hm => by
    simp only [List.mem_cons] at hm
    rcases hm with h5 | h5
    · exact (hrv z hz).1 h5
    · exact (hrv z hz).2 h5)
  have ga3 : GR H3 a (ats 0 L) := r.ga.keep k3 hs (fun z hz hm => by
    simp only [List.mem_cons] at hm
    rcases hm with rfl | h5
    · exact r.ga.notSt c1 hz
    · exact (na z hz).1 h5)
  have gf3 : GR H3 f (L.map Cl.row) := r.gf.keep k3 hs (fun z hz hm => by
    simp only [List.mem_cons] at hm
    rcases hm with rfl | h5
    · exact r.gf.notSt c1 hz
    · exact nt z h5 hz)
  -- the fields
  obtain ⟨row, h5, e5, ro5, hs5, k5, i5, or1, or2⟩ := clone2 rv3 hs3 (by omega)
  have x5 := k5.get hs3 x3 (by simp)
  have ga5 := ga3.keep k5 hs3 (fun _ _ => by simp)
  have gt5 := gt3.keep k5 hs3 (fun _ _ => by simp)
  have gf5 := gf3.keep k5 hs3 (fun _ _ => by simp)
  obtain ⟨f', h7, e7, x7, gf8, hs8, k8, i8, of1, of2, o8, k57, hs7⟩ := push (b := 24) (by omega) (i := 2) x5 gf5 hs5 (y := row) or2 (by rw [List.length_map]; omega)
  generalize hH8 : updO h7 x (.st (T.set f' (T.set t' cx 1) 2) 4) = H8 at *
  have x8 : H8.tr.get x = some (.st (T.set f' (T.set t' cx 1) 2) 4) := by rw [← hH8, get_upd]; exact if_pos rfl
  have n3 := k3.1
  have n5 := k5.1
  have n8 := k8.1
  have hxn := hs _ _ c1
  have lta := r.ga.lt hs
  have ltt := r.gt.lt hs
  have ltf := r.gf.lt hs
  have ga8 : GR H8 a (ats 0 L) := ga5.keep k8 hs5 (fun z hz hm => by
    simp only [List.mem_cons] at hm
    rcases hm with rfl | h9
    · exact r.ga.notSt c1 hz
    · exact (na z hz).2 h9)
  have htf : ∀ z ∈ rid t', z ∉ rid f := fun z hz hm => by
    rcases i3 z hz with h9 | h9
    · exact nt z h9 hm
    · have := ltf z hm; omega
  have gt8 : GR H8 t' (L.map (fun c => iv c.tag) ++ [iv tag]) := gt5.keep k8 hs5 (fun z hz hm => by
    simp only [List.mem_cons] at hm
    rcases hm with rfl | h9
    · exact gt5.notSt x5 hz
    · exact htf z hz h9)
  have rowlt := ro5.read.lt hs5
  have rowne : ∀ z ∈ rid row, z ≠ x ∧ z ∉ rid a ∧ z ∉ rid t' ∧ z ∉ rid f := fun z hz => by
    have h9 := i5 z hz
    refine ⟨by omega, fun hm => by have := lta z hm; omega, fun hm => by have := gt3.lt hs3 z hm; omega, fun hm => by have := ltf z hm; omega⟩
  have ro8 : RowO H8 row fl := ro5.keep k8 hs5 (fun z hz hm => by
    simp only [List.mem_cons] at hm
    rcases hm with h9 | h9
    · exact (rowne z hz).1 h9
    · exact (rowne z hz).2.2.2 h9)
  -- the words
  obtain ⟨a', h10, e10, x10, ga11, hs11, k11, i11, oa1, oa2, o11, k810, hs10⟩ := push (b := 8) (by omega) (i := 0) x8 ga8 hs8 (y := iv ((L.map (fun c => iv c.tag) ++ [iv tag]).length : Nat)) rfl (by rw [ats_len]; omega)
  generalize hH11 : updO h10 x (.st (T.set a' (T.set f' (T.set t' cx 1) 2) 0) 4) = H11 at *
  have x11 : H11.tr.get x = some (.st (T.set a' (T.set f' (T.set t' cx 1) 2) 0) 4) := by rw [← hH11, get_upd]; exact if_pos rfl
  let fr0 : Fr := T.set (iv 0) (T.set (iv (2 * (used L : Int))) (T.set (.b false) (T.set (.b false) (T.set (iv 0) (T.set v (T.set (iv tag) (T.set (.p x 0 0) .e 0) 1) 2) 6) 7) 28) 8) 9
  have F0 : FX fr0 x v (2 * (used L : Int)) 0 := by
    refine ⟨?_, ?_, ?_, ?_⟩ <;> simp only [fr0, get_same, get_other, ne_eq, Nat.reduceEqDiff, not_false_eq_true]
    rfl
  obtain ⟨fr', h', c', a'', e12, q8, x12, ca12, co12, ga12, hs12, k12', i12⟩ := loopX (x := x) (w := 2 * (used L : Int)) rv.len (by omega) (n + 1) fl.length 0 H11 fr0 _ a' _ (by omega) x11 (get_same _ _ _) ga11 hs11 (by simp [ats_len]; omega) F0 (1000000 - fl.length - 1)
  rw [show fl.length + (1000000 - fl.length - 1 + 1) = 1000000 from by omega] at e12
  have n11 := k11.1
  have n12 := k12'.1
  have ha' : ∀ z ∈ rid a', z ∉ rid t' ∧ z ∉ rid f' ∧ z ∉ rid row := fun z hz => by
    rcases i11 z hz with h9 | h9
    · refine ⟨fun hm => ?_, fun hm => ?_, fun hm => ?_⟩
      · rcases i3 z hm with h10 | h10
        · exact (na z h9).1 h10
        · have := lta z h9; omega
      · rcases i8 z hm with h10 | h10
        · exact (na z h9).2 h10
        · have := lta z h9; omega
      · exact (rowne z hm).2.1 h9
    · refine ⟨fun hm => ?_, fun hm => ?_, fun hm => ?_⟩
      · have := gt8.lt hs8 z hm; omega
      · have := gf8.lt hs8 z hm; omega
      · have := ro8.read.lt hs8 z hm; omega
  have ha'' : ∀ z ∈ rid a'', z ∉ rid t' ∧ z ∉ rid f' ∧ z ∉ rid row := fun z hz => by
    rcases i12 z hz with h9 | h9
    · exact ha' z h9
    · have l1 := gt8.lt hs8
      have l2 := gf8.lt hs8
      have l3 := ro8.read.lt hs8
      exact ⟨fun hm => by have := l1 z hm; omega, fun hm => by have := l2 z hm; omega, fun hm => by have := l3 z hm; omega⟩
  have ht'a : ∀ z ∈ rid t', z ∉ rid a := fun z hz hm => by
    rcases i3 z hz with h9 | h9
    · exact (na z hm).1 h9
    · have := lta z hm; omega
  have hf'a : ∀ z ∈ rid f', z ∉ rid a := fun z hz hm => by
    rcases i8 z hz with h9 | h9
    · exact (na z hm).2 h9
    · have := lta z hm; omega
  have ht'f' : ∀ z ∈ rid t', z ∉ rid f' := fun z hz hm => by
    rcases i8 z hm with h9 | h9
    · exact htf z hz h9
    · have := gt5.lt hs5 z hz; omega
  have hrowf' : ∀ z ∈ rid row, z ∉ rid f' := fun z hz hm => by
    rcases i8 z hm with h9 | h9
    · exact (rowne z hz).2.2.2 h9
    · have := rowlt z hz; omega
  have K8 : Kp H8 h' (x :: (rid a ++ rid a')) := (k11.mono (fun z hz => by simp at hz ⊢; rcases hz with h9 | h9; exact .inl h9; exact .inr (.inl h9))).trans (k12'.mono (T := x :: (rid a ++ rid a')) (fun z hz => by simp at hz ⊢; rcases hz with h9 | h9; exact .inl h9; exact .inr (.inr h9))) (fun z hz _ => hz)
  have K0 : Kp h h' (x :: (rid a ++ rid t ++ rid f)) := by
    refine (k3.mono (fun z hz => ?_)).trans ((k5.mono (T := x :: (rid a ++ rid t ++ rid f)) (fun z hz => by simp at hz)).trans ((k8.mono (T := x :: (rid a ++ rid t ++ rid f)) (fun z hz => ?_)).trans ((k11.mono (T := x :: (rid a ++ rid t ++ rid f)) (fun z hz => ?_)).trans (k12'.mono (fun z hz => hz)) (fun z hz hlt => ?_)) (fun z hz _ => hz)) (fun z hz _ => hz)) (fun z hz _ => hz)
    · simp at hz ⊢; rcases hz with h9 | h9
      · exact .inl h9
      · exact .inr (.inr (.inl h9))
    · simp at hz ⊢; rcases hz with h9 | h9
      · exact .inl h9
      · exact .inr (.inr (.inr h9))
    · simp at hz ⊢; rcases hz with h9 | h9
      · exact .inl h9
      · exact .inr (.inl h9)
    · simp at hz ⊢; rcases hz with h9 | h9
      · exact .inl h9
      · rcases i11 z h9 with h10 | h10
        · exact .inr (.inl h10)
        · omega
  have gtH : GR h' t' (L.map (fun c => iv c.tag) ++ [iv tag]) := gt8.keep K8 hs8 (fun z hz hm => by
    simp at hm; rcases hm with rfl | h9 | h9
    · exact gt8.notSt x8 hz
    · exact ht'a z hz h9
    · exact (ha' z h9).1 hz)
  have gfH : GR h' f' (L.map Cl.row ++ [row]) := gf8.keep K8 hs8 (fun z hz hm => by
    simp at hm; rcases hm with rfl | h9 | h9
    · exact gf8.notSt x8 hz
    · exact hf'a z hz h9
    · exact (ha' z h9).2.1 hz)
  have roH : RowO h' row fl := ro8.keep K8 hs8 (fun z hz hm => by
    simp at hm; rcases hm with rfl | h9 | h9
    · exact (rowne _ hz).1 rfl
    · exact (rowne z hz).2.1 h9
    · exact (ha' z h9).2.2 hz)
  have part : ∀ (i : Nat) (y : Cl), (L ++ [⟨tag, fl, 0, row⟩])[i]? = some y → L[i]? = some y ∨ (i = L.length ∧ y = ⟨tag, fl, 0, row⟩) := fun i y hi => by
    rw [List.getElem?_append] at hi
    split at hi
    · exact .inl hi
    · rename_i hlt
      cases hd : i - L.length with
      | zero => rw [hd] at hi; simp at hi; exact .inr ⟨by omega, hi.symm⟩
      | succ q => rw [hd] at hi; simp at hi
  have old : ∀ (i : Nat) (y : Cl), L[i]? = some y → ∀ z ∈ rid y.row, z < h.next := fun i y hi z hz => (r.bl y (List.mem_of_getElem? hi)).1.read.lt hs z hz
  have hnew : ∀ z ∈ rid a'' ++ rid t' ++ rid f', z ∈ rid a ++ rid t ++ rid f ∨ h.next ≤ z := fun z hz => by
    simp only [List.mem_append] at hz ⊢
    rcases hz with (hz | hz) | hz
    · rcases i12 z hz with h9 | h9
      · rcases i11 z h9 with h10 | h10
        · exact .inl (.inl (.inl h10))
        · exact .inr (by omega)
      · exact .inr (by omega)
    · rcases i3 z hz with h9 | h9
      · exact .inl (.inl (.inr h9))
      · exact .inr h9
    · rcases i8 z hz with h9 | h9
      · exact .inl (.inr h9)
      · exact .inr (by omega)
  refine ⟨h', ⟨tag, fl, 0, row⟩, a'', t', f', fun k => ?_, rfl, rfl, ⟨⟨c', x12, ca12, ?_, ?_, ?_⟩, ?_, ?_, ?_, fun y hy => ?_, fun i j y y' hi hj hij z hz hz2 => ?_, ⟨fun z hz => ⟨(ha'' z hz).1, (ha'' z hz).2.1⟩, ht'f', fun y hy z hz => ?_⟩, ?_⟩, hs12, K0, fun z hz => by have := i5 z hz; omega, hnew⟩
  · rw [run30]; simp only [ofL_cons, ofL_nil, Nat.zero_add, Nat.reduceAdd]
    have b1 := fun k => b_lssF (a := tag) (b := 1) (by omega) k
    have b2 := fun k => b_gtrF (a := tag) (b := 8) (by omega) k
    have b3 := fun k => xUsed r n k
    have b4 := fun k => b_add (a := (used L : Int)) (b := 1) (by omega) (by omega) k
    have b5 := fun k => b_add (a := (used L : Int) + 1) (b := (fl.length : Int)) (by omega) (by omega) k
    have b6 := fun k => b_gtrF (a := (used L : Int) + 1 + (fl.length : Int)) (b := words) (by omega) k
    have b7 := fun k => b_mul (a := 2) (b := (used L : Int)) (by omega) (by omega) k
    have w1 : ∀ K, wrK (.st cx 4) 0 1 t' K = K (.st (T.set t' cx 1) 4) := fun K => w_st ot1 (by omega) K
    have w2 : ∀ K, wrK (.st (T.set t' cx 1) 4) 0 2 f' K = K (.st (T.set f' (T.set t' cx 1) 2) 4) := fun K => w_st of1 (by omega) K
    have w3 : ∀ K, wrK (.st (T.set f' (T.set t' cx 1) 2) 4) 0 0 a' K = K (.st (T.set a' (T.set f' (T.set t' cx 1) 2) 0) 4) := fun K => w_st oa1 (by omega) K
    have l1 : ∀ k : KV, lenK t' k = k (iv ((L.map (fun c => iv c.tag) ++ [iv tag]).length : Nat)) := gt3.len
    have sf := r.gf.same
    have hx5n : x ≠ h5.next := by omega
    have hx3n : x ≠ H3.next := by omega
    have q3 : (addO H3 (.st .e 0)).tr.get x = some (.st (T.set t' cx 1) 4) := by rw [get_add, if_neg hx3n]; exact x3
    have e12' : ∀ k : KE, iter (exec (cal (n + 1)) c30L0) 1000000 (T.set (iv 0) (T.set (iv (2 * (used L : Int))) (T.set (.b false) (T.set (.b false) (T.set (iv 0) (T.set v (T.set (iv tag) (T.set (.p x 0 0) .e 0) 1) 2) 6) 7) 28) 8) 9) H11 k = k (.exit 0) fr' h' := e12
    simp -implicitDefEqProofs only [↓m_callf, ↓x_seq, ↓x_reg, ↓x_dreg, ↓x_cond, ↓x_skip, ↓x_exit, ↓x_ret, ↓x_block, ↓x_loop, ↓nrm_n, ↓nrm_e, ↓nrm_r, ↓o_nil, ↓o_consN, ↓o_consS, ↓o_guardN, ↓o_guardS, ↓put_n, ↓put_s, ↓r_pu, ↓r_rd, ↓r_al, ↓r_ef, ↓g_b, ↓e_t, ↓e_c, ↓e_f, ↓e_l0, ↓e_l1, ↓e_l2, ↓e_l3, ↓e_l4, ↓e_l5, ↓e_l6, ↓e_l7, ↓e_l8, ↓e_l9, ↓e_l10, ↓e_l11, ↓e_l12, ↓e_l13, ↓es_nil, ↓es_cons, ↓getK_same, ↓getK_other, ↓ofL_nil, ↓ofL_cons, ↓p_mv, ↓p_pick, ↓p_bld, ↓p_nilck, ↓p_bin, ↓p_isnil, ↓p_not, ↓p_ext, ↓p_len, ↓len_n, ↓len_s, ↓p_fad, ↓p_iad, ↓n_b, ↓n_p, ↓n_pf, ↓n_tup, ↓n_sl, ↓n_nils, ↓n_m, ↓n_f, ↓n_i, ↓n_mp, ↓nth0, ↓nth1, ↓nth2, ↓nil_pp, ↓nil_p, ↓nil_ss, ↓nil_s, ↓neg_f, ↓i_t, ↓i_f, ↓evN_of, ↓int_n, ↓int_0, ↓m_ld, ↓m_lk, ↓m_st0, ↓m_box, ↓m_mkm, ↓m_store, ↓m_mup, ↓m_app, ↓ap_0, ↓okT, ↓okF, ↓kd1, ↓ret_r, ↓res_t1, ↓res_t2, ↓one1, ↓one2, ↓rec_t, ↓rec_f, ↓fill_nil, ↓fill_cons, ↓c_i, ↓c_b, ↓c_m, ↓c_p, ↓c_nils, ↓c_sl, ↓c_agg, ↓len_1, ↓len_2, ↓len_3, ↓len_4, ↓beq11, ↓wrs1, ↓one_i, ↓one_p, ↓one_m, ↓one_sl, ↓one_nils, ↓d_nil, ↓d_puN, ↓d_puS, ↓d_rdN, ↓d_rdS, ↓d_alN, ↓d_alS, ↓d_efN, ↓d_efS, ↓d_gpuN, ↓d_gpuS, ↓d_grdN, ↓d_grdS, ↓d_gefN, ↓d_gefS, ↓k_nil, ↓k_cons, ↓ka_nil, ↓ka_cons, ↓rev_nil, ↓rev_cons, ↓and_t, ↓and_f, ↓rrec_t, ↓rrec_f, ↓s_m, ↓s_p, ↓s_i, ↓s_nils, ↓s_sl, ↓rec_nt, ↓rec_nf, ↓rec_dt, ↓neg_tt, ↓neg_tf, ↓ex_n, ↓ex_e, ↓ex_r, ↓m_mks, ↓rec_bb, ↓o_guardTN, ↓o_guardTS, ↓res_t3, ↓one3, ↓ga_old, ↓ga_new, ↓gu_same, ↓gu_other, ↓fv20, ↓fv21, ↓fv30, ↓fv32, ↓fv40, ↓fv41, ↓fv42, ↓fv43, i_t, i_f, rec_t, rec_f, getK_same, getK_other, ofL_cons, ofL_nil, and_t, and_f, rrec_t, rrec_f, ka_nil, ka_cons, k_nil, k_cons, len_1, len_2, len_3, len_4, c_i, c_b, c_m, c_p, c_nils, c_sl, c_agg, beq11, one_i, one_p, one_m, one_sl, one_nils, s_m, s_p, s_i, s_nils, s_sl, rev_nil, rev_cons, ap_0, beq_dec, ble_dec, ne_eq, not_false_eq_true, reduceCtorEq, Bool.not_true, Bool.not_false, Nat.zero_add, Nat.reduceAdd, Nat.reduceLT, Nat.reduceEqDiff, Nat.reduceLeDiff, Nat.zero_le, decide_true, decide_false, c30, ↓e12', ↓t_get q8, ↓b1, ↓b2, ↓b3, ↓b4, ↓b5, ↓b6, ↓b7, ↓rv.len, ↓t_get c1, ↓t_get c2, ↓t_get c3, ↓t_get c4, ↓t_get c5, ↓bsl1, ↓bslK_of, ↓src_new, ↓e2, ↓t_get x2, ot2, ↓w1, ↓hH3, ↓t_get x3, ↓bsl_none, ↓e5, or1, ↓e7, ↓t_get x7, of2, ↓w2, ↓hH8, ↓t_get x8, ↓l1, ↓e10, ↓t_get x10, oa2, ↓w3, ↓hH11, hx5n, hx3n, ↓t_get x5, ↓t_get q3, sf, next_addO]
  · rw [co12 1 (by omega), get_other _ _ (by omega), get_other _ _ (by omega), get_same]
  · rw [co12 2 (by omega), get_other _ _ (by omega), get_same]
  · rw [co12 3 (by omega), get_other _ _ (by omega), get_other _ _ (by omega), get_other _ _ (by omega)]; exact c5
  · rw [ats_app]
    have e : (ats 0 L ++ [iv ((L.map (fun c => iv c.tag) ++ [iv tag]).length : Nat)]) ++ List.replicate fl.length (iv 0) = ats 0 L ++ (iv ((0 + L.length + 1 : Nat) : Int) :: List.replicate fl.length (iv 0)) := by
      rw [List.append_assoc, List.length_append, List.length_map, Nat.zero_add]; rfl
    rw [← e]; exact ga12
  · rw [List.map_append]; exact gtH
  · rw [List.map_append]; exact gfH
  · have hy' : y ∈ L ∨ y = ⟨tag, fl, 0, row⟩ := by simpa using hy
    rcases hy' with hy | rfl
    · obtain ⟨g1, g2⟩ := r.bl y hy
      refine ⟨g1.keep K0 hs (fun z hz hm => ?_), g2⟩
      obtain ⟨m1, m2, m3⟩ := nr y hy z hz
      simp only [List.mem_cons, List.mem_append] at hm
      rcases hm with rfl | (hm | hm) | hm
      · exact g1.notSt c1 hz
      · exact m1 hm
      · exact m2 hm
      · exact m3 hm
    · exact ⟨roH, t1, t8, hin⟩
  · rcases part i y hi with h9 | ⟨rfl, rfl⟩ <;> rcases part j y' hj with h10 | ⟨rfl, rfl⟩
    · exact r.sp i j y y' h9 h10 hij z hz hz2
    · have := old i y h9 z hz
      have := i5 z hz2
      omega
    · have := old j y' h10 z hz2
      have := i5 z hz
      omega
    · exact hij rfl
  · have hy' : y ∈ L ∨ y = ⟨tag, fl, 0, row⟩ := by simpa using hy
    rcases hy' with hy | rfl
    · obtain ⟨m1, m2, m3⟩ := nr y hy z hz
      have hl := (r.bl y hy).1.read.lt hs z hz
      have hh : ∀ w : AV, (∀ q ∈ rid w, q ∈ rid a ++ rid t ++ rid f ∨ h.next ≤ q) → z ∉ rid w := fun w hw hm => by
        rcases hw z hm with h9 | h9
        · simp only [List.mem_append] at h9
          rcases h9 with (h9 | h9) | h9
          · exact m1 h9
          · exact m2 h9
          · exact m3 h9
        · omega
      exact ⟨hh a'' (fun q hq => hnew q (by simp [hq])), hh t' (fun q hq => hnew q (by simp [hq])), hh f' (fun q hq => hnew q (by simp [hq]))⟩
    · exact ⟨fun hm => (ha'' z hm).2.2 hz, fun hm => (rowne z hz).2.2.1 hm, hrowf' z hz⟩
  · rw [used_app]; simp only [used]; omega
end
end Go.Proofs.Ytodlgflkhcknaaa.gcc

/- A word is moved (emissaryref17). -/
namespace Go.Proofs.Ytodlgflkhcknaaa.gcc
open Go Go.AE
set_option linter.unusedSimpArgs false
set_option maxRecDepth 100000

def rowsL (L : List Cl) : List Nat := L.flatMap fun c => rid c.row
def fpX (L : List Cl) (a t f : AV) : List Nat := rid a ++ (rid t ++ (rid f ++ rowsL L))
theorem rowsL_snoc {L : List Cl} {c : Cl} {i : Nat} : i ∈ rowsL (L ++ [c]) ↔ i ∈ rowsL L ∨ i ∈ rid c.row := by simp [rowsL]
theorem mem_fpX {L : List Cl} {a t f : AV} {i : Nat} : i ∈ fpX L a t f ↔ i ∈ rid a ∨ i ∈ rid t ∨ i ∈ rid f ∨ i ∈ rowsL L := by simp [fpX]

section
variable {h : Heap} {x : Nat} {words : Int} {L : List Cl} {a t f : AV}
theorem RX.keep {h1 : Heap} {S : List Nat} (r : RX h x words L a t f) (k : Kp h h1 S) (hs : Sc h) (hx : x ∉ S) (hf : ∀ i ∈ fpX L a t f, i ∉ S) : RX h1 x words L a t f := by
  obtain ⟨c, c1, c2⟩ := r.hd
  exact ⟨⟨c, k.get hs c1 hx, c2⟩, r.ga.keep k hs (fun i hi => hf i (mem_fpX.2 (.inl hi))), r.gt.keep k hs (fun i hi => hf i (mem_fpX.2 (.inr (.inl hi)))), r.gf.keep k hs (fun i hi => hf i (mem_fpX.2 (.inr (.inr (.inl hi))))),
    fun d hd => ⟨(r.bl d hd).1.keep k hs (fun i hi => hf i (mem_fpX.2 (.inr (.inr (.inr (List.mem_flatMap.2 ⟨d, hd, hi⟩)))))), (r.bl d hd).2⟩, r.sp, r.ne, r.fits⟩
theorem RX.lt (r : RX h x words L a t f) (hs : Sc h) : x < h.next ∧ ∀ i ∈ fpX L a t f, i < h.next := by
  obtain ⟨c, c1, _⟩ := r.hd
  refine ⟨hs _ _ c1, fun i hi => ?_⟩
  rcases mem_fpX.1 hi with hi | hi | hi | hi
  · exact r.ga.lt hs i hi
  · exact r.gt.lt hs i hi
  · exact r.gf.lt hs i hi
  · obtain ⟨d, hd, hi⟩ := List.mem_flatMap.1 hi
    exact (r.bl d hd).1.read.lt hs i hi
theorem RX.notSt (r : RX h x words L a t f) {q n : Nat} {c : T AV} (hq : h.tr.get q = some (.st c (n + 1))) : q ∉ fpX L a t f := fun hi => by
  rcases mem_fpX.1 hi with hi | hi | hi | hi
  · exact r.ga.notSt hq hi
  · exact r.gt.notSt hq hi
  · exact r.gf.notSt hq hi
  · obtain ⟨d, hd, hi⟩ := List.mem_flatMap.1 hi
    exact (r.bl d hd).1.notSt hq hi
theorem RX.notMp (r : RX h x words L a t f) {q : Nat} {es : List (AV × AV)} (hq : h.tr.get q = some (.mp es)) : q ≠ x ∧ q ∉ fpX L a t f := by
  refine ⟨fun e => ?_, fun hi => ?_⟩
  · obtain ⟨c, c1, _⟩ := r.hd
    rw [e, c1] at hq; cases hq
  · rcases mem_fpX.1 hi with hi | hi | hi | hi
    · exact r.ga.notMp hq hi
    · exact r.gt.notMp hq hi
    · exact r.gf.notMp hq hi
    · obtain ⟨d, hd, hi⟩ := List.mem_flatMap.1 hi
      exact (r.bl d hd).1.notMp hq hi
theorem xAllocNo (r : RX h x words L a t f) {tag : Int} {v : AV} {fl : List Int} (rv : RowR h v fl) (hl : fl.length ≤ 1000000) (hno : tag < 1 ∨ 8 < tag ∨ words < (used L + (1 + fl.length) : Int)) (n : Nat) (k : KH) :
    cal (n + 2) 30 [.p x 0 0, iv tag, v] h k = k (.tup [iv 0, .b false]) h := by
  obtain ⟨c, c1, c2, c3, c4, c5⟩ := r.hd
  have hf := r.fits
  rw [run30]; simp only [ofL_cons, ofL_nil, Nat.zero_add, Nat.reduceAdd]
  by_cases h1 : tag < 1
  · have a1 := fun k => b_lssT (a := tag) (b := 1) h1 k
    simp -implicitDefEqProofs only [↓m_callf, ↓x_seq, ↓x_reg, ↓x_dreg, ↓x_cond, ↓x_skip, ↓x_exit, ↓x_ret, ↓x_block, ↓x_loop, ↓nrm_n, ↓nrm_e, ↓nrm_r, ↓o_nil, ↓o_consN, ↓o_consS, ↓o_guardN, ↓o_guardS, ↓put_n, ↓put_s, ↓r_pu, ↓r_rd, ↓r_al, ↓r_ef, ↓g_b, ↓e_t, ↓e_c, ↓e_f, ↓e_l0, ↓e_l1, ↓e_l2, ↓e_l3, ↓e_l4, ↓e_l5, ↓e_l6, ↓e_l7, ↓e_l8, ↓e_l9, ↓e_l10, ↓e_l11, ↓e_l12, ↓e_l13, ↓es_nil, ↓es_cons, ↓getK_same, ↓getK_other, ↓ofL_nil, ↓ofL_cons, ↓p_mv, ↓p_pick, ↓p_bld, ↓p_nilck, ↓p_bin, ↓p_isnil, ↓p_not, ↓p_ext, ↓p_len, ↓len_n, ↓len_s, ↓p_fad, ↓p_iad, ↓n_b, ↓n_p, ↓n_pf, ↓n_tup, ↓n_sl, ↓n_nils, ↓n_m, ↓n_f, ↓n_i, ↓n_mp, ↓nth0, ↓nth1, ↓nth2, ↓nil_pp, ↓nil_p, ↓nil_ss, ↓nil_s, ↓neg_f, ↓i_t, ↓i_f, ↓evN_of, ↓int_n, ↓int_0, ↓m_ld, ↓m_lk, ↓m_st0, ↓m_box, ↓m_mkm, ↓m_store, ↓m_mup, ↓m_app, ↓ap_0, ↓okT, ↓okF, ↓kd1, ↓ret_r, ↓res_t1, ↓res_t2, ↓one1, ↓one2, ↓rec_t, ↓rec_f, ↓fill_nil, ↓fill_cons, ↓c_i, ↓c_b, ↓c_m, ↓c_p, ↓c_nils, ↓c_sl, ↓c_agg, ↓len_1, ↓len_2, ↓len_3, ↓len_4, ↓beq11, ↓wrs1, ↓one_i, ↓one_p, ↓one_m, ↓one_sl, ↓one_nils, ↓d_nil, ↓d_puN, ↓d_puS, ↓d_rdN, ↓d_rdS, ↓d_alN, ↓d_alS, ↓d_efN, ↓d_efS, ↓d_gpuN, ↓d_gpuS, ↓d_grdN, ↓d_grdS, ↓d_gefN, ↓d_gefS, ↓k_nil, ↓k_cons, ↓ka_nil, ↓ka_cons, ↓rev_nil, ↓rev_cons, ↓and_t, ↓and_f, ↓rrec_t, ↓rrec_f, ↓s_m, ↓s_p, ↓s_i, ↓s_nils, ↓s_sl, ↓rec_nt, ↓rec_nf, ↓rec_dt, ↓neg_tt, ↓neg_tf, ↓ex_n, ↓ex_e, ↓ex_r, ↓m_mks, ↓rec_bb, ↓o_guardTN, ↓o_guardTS, ↓res_t3, ↓one3, ↓ga_old, ↓ga_new, ↓gu_same, ↓gu_other, ↓fv20, ↓fv21, ↓fv30, ↓fv32, ↓fv40, ↓fv41, ↓fv42, ↓fv43, i_t, i_f, rec_t, rec_f, getK_same, getK_other, ofL_cons, ofL_nil, and_t, and_f, rrec_t, rrec_f, ka_nil, ka_cons, k_nil, k_cons, len_1, len_2, len_3, len_4, c_i, c_b, c_m, c_p, c_nils, c_sl, c_agg, beq11, one_i, one_p, one_m, one_sl, one_nils, s_m, s_p, s_i, s_nils, s_sl, rev_nil, rev_cons, ap_0, beq_dec, ble_dec, ne_eq, not_false_eq_true, reduceCtorEq, Bool.not_true, Bool.not_false, Nat.zero_add, Nat.reduceAdd, Nat.reduceLT, Nat.reduceEqDiff, Nat.reduceLeDiff, Nat.zero_le, decide_true, decide_false, c30, ↓a1]
  · have a1 := fun k => b_lssF (a := tag) (b := 1) h1 k
    by_cases h2 : 8 < tag
    · have a2 := fun k => b_gtrT (a := tag) (b := 8) h2 k
      simp -implicitDefEqProofs only [↓m_callf, ↓x_seq, ↓x_reg, ↓x_dreg, ↓x_cond, ↓x_skip, ↓x_exit, ↓x_ret, ↓x_block, ↓x_loop, ↓nrm_n, ↓nrm_e, ↓nrm_r, ↓o_nil, ↓o_consN, ↓o_consS, ↓o_guardN, ↓o_guardS, ↓put_n, ↓put_s, ↓r_pu, ↓r_rd, ↓r_al, ↓r_ef, ↓g_b, ↓e_t, ↓e_c, ↓e_f, ↓e_l0, ↓e_l1, ↓e_l2, ↓e_l3, ↓e_l4, ↓e_l5, ↓e_l6, ↓e_l7, ↓e_l8, ↓e_l9, ↓e_l10, ↓e_l11, ↓e_l12, ↓e_l13, ↓es_nil, ↓es_cons, ↓getK_same, ↓getK_other, ↓ofL_nil, ↓ofL_cons, ↓p_mv, ↓p_pick, ↓p_bld, ↓p_nilck, ↓p_bin, ↓p_isnil, ↓p_not, ↓p_ext, ↓p_len, ↓len_n, ↓len_s, ↓p_fad, ↓p_iad, ↓n_b, ↓n_p, ↓n_pf, ↓n_tup, ↓n_sl, ↓n_nils, ↓n_m, ↓n_f, ↓n_i, ↓n_mp, ↓nth0, ↓nth1, ↓nth2, ↓nil_pp, ↓nil_p, ↓nil_ss, ↓nil_s, ↓neg_f, ↓i_t, ↓i_f, ↓evN_of, ↓int_n, ↓int_0, ↓m_ld, ↓m_lk, ↓m_st0, ↓m_box, ↓m_mkm, ↓m_store, ↓m_mup, ↓m_app, ↓ap_0, ↓okT, ↓okF, ↓kd1, ↓ret_r, ↓res_t1, ↓res_t2, ↓one1, ↓one2, ↓rec_t, ↓rec_f, ↓fill_nil, ↓fill_cons, ↓c_i, ↓c_b, ↓c_m, ↓c_p, ↓c_nils, ↓c_sl, ↓c_agg, ↓len_1, ↓len_2, ↓len_3, ↓len_4, ↓beq11, ↓wrs1, ↓one_i, ↓one_p, ↓one_m, ↓one_sl, ↓one_nils, ↓d_nil, ↓d_puN, ↓d_puS, ↓d_rdN, ↓d_rdS, ↓d_alN, ↓d_alS, ↓d_efN, ↓d_efS, ↓d_gpuN, ↓d_gpuS, ↓d_grdN, ↓d_grdS, ↓d_gefN, ↓d_gefS, ↓k_nil, ↓k_cons, ↓ka_nil, ↓ka_cons, ↓rev_nil, ↓rev_cons, ↓and_t, ↓and_f, ↓rrec_t, ↓rrec_f, ↓s_m, ↓s_p, ↓s_i, ↓s_nils, ↓s_sl, ↓rec_nt, ↓rec_nf, ↓rec_dt, ↓neg_tt, ↓neg_tf, ↓ex_n, ↓ex_e, ↓ex_r, ↓m_mks, ↓rec_bb, ↓o_guardTN, ↓o_guardTS, ↓res_t3, ↓one3, ↓ga_old, ↓ga_new, ↓gu_same, ↓gu_other, ↓fv20, ↓fv21, ↓fv30, ↓fv32, ↓fv40, ↓fv41, ↓fv42, ↓fv43, i_t, i_f, rec_t, rec_f, getK_same, getK_other, ofL_cons, ofL_nil, and_t, and_f, rrec_t, rrec_f, ka_nil, ka_cons, k_nil, k_cons, len_1, len_2, len_3, len_4, c_i, c_b, c_m, c_p, c_nils, c_sl, c_agg, beq11, one_i, one_p, one_m, one_sl, one_nils, s_m, s_p, s_i, s_nils, s_sl, rev_nil, rev_cons, ap_0, beq_dec, ble_dec, ne_eq, not_false_eq_true, reduceCtorEq, Bool.not_true, Bool.not_false, Nat.zero_add, Nat.reduceAdd, Nat.reduceLT, Nat.reduceEqDiff, Nat.reduceLeDiff, Nat.zero_le, decide_true, decide_false, c30, ↓a1, ↓a2]
    · have a2 := fun k => b_gtrF (a := tag) (b := 8) h2 k
      have b3 := fun k => xUsed r n k
      have b4 := fun k => b_add (a := (used L : Int)) (b := 1) (by omega) (by omega) k
      have b5 := fun k => b_add (a := (used L : Int) + 1) (b := (fl.length : Int)) (by omega) (by omega) k
      have b6 := fun k => b_gtrT (a := (used L : Int) + 1 + (fl.length : Int)) (b := words) (by omega) k
      simp -implicitDefEqProofs only [↓m_callf, ↓x_seq, ↓x_reg, ↓x_dreg, ↓x_cond, ↓x_skip, ↓x_exit, ↓x_ret, ↓x_block, ↓x_loop, ↓nrm_n, ↓nrm_e, ↓nrm_r, ↓o_nil, ↓o_consN, ↓o_consS, ↓o_guardN, ↓o_guardS, ↓put_n, ↓put_s, ↓r_pu, ↓r_rd, ↓r_al, ↓r_ef, ↓g_b, ↓e_t, ↓e_c, ↓e_f, ↓e_l0, ↓e_l1, ↓e_l2, ↓e_l3, ↓e_l4, ↓e_l5, ↓e_l6, ↓e_l7, ↓e_l8, ↓e_l9, ↓e_l10, ↓e_l11, ↓e_l12, ↓e_l13, ↓es_nil, ↓es_cons, ↓getK_same, ↓getK_other, ↓ofL_nil, ↓ofL_cons, ↓p_mv, ↓p_pick, ↓p_bld, ↓p_nilck, ↓p_bin, ↓p_isnil, ↓p_not, ↓p_ext, ↓p_len, ↓len_n, ↓len_s, ↓p_fad, ↓p_iad, ↓n_b, ↓n_p, ↓n_pf, ↓n_tup, ↓n_sl, ↓n_nils, ↓n_m, ↓n_f, ↓n_i, ↓n_mp, ↓nth0, ↓nth1, ↓nth2, ↓nil_pp, ↓nil_p, ↓nil_ss, ↓nil_s, ↓neg_f, ↓i_t, ↓i_f, ↓evN_of, ↓int_n, ↓int_0, ↓m_ld, ↓m_lk, ↓m_st0, ↓m_box, ↓m_mkm, ↓m_store, ↓m_mup, ↓m_app, ↓ap_0, ↓okT, ↓okF, ↓kd1, ↓ret_r, ↓res_t1, ↓res_t2, ↓one1, ↓one2, ↓rec_t, ↓rec_f, ↓fill_nil, ↓fill_cons, ↓c_i, ↓c_b, ↓c_m, ↓c_p, ↓c_nils, ↓c_sl, ↓c_agg, ↓len_1, ↓len_2, ↓len_3, ↓len_4, ↓beq11, ↓wrs1, ↓one_i, ↓one_p, ↓one_m, ↓one_sl, ↓one_nils, ↓d_nil, ↓d_puN, ↓d_puS, ↓d_rdN, ↓d_rdS, ↓d_alN, ↓d_alS, ↓d_efN, ↓d_efS, ↓d_gpuN, ↓d_gpuS, ↓d_grdN, ↓d_grdS, ↓d_gefN, ↓d_gefS, ↓k_nil, ↓k_cons, ↓ka_nil, ↓ka_cons, ↓rev_nil, ↓rev_cons, ↓and_t, ↓and_f, ↓rrec_t, ↓rrec_f, ↓s_m, ↓s_p, ↓s_i, ↓s_nils, ↓s_sl, ↓rec_nt, ↓rec_nf, ↓rec_dt, ↓neg_tt, ↓neg_tf, ↓ex_n, ↓ex_e, ↓ex_r, ↓m_mks, ↓rec_bb, ↓o_guardTN, ↓o_guardTS, ↓res_t3, ↓one3, ↓ga_old, ↓ga_new, ↓gu_same, ↓gu_other, ↓fv20, ↓fv21, ↓fv30, ↓fv32, ↓fv40, ↓fv41, ↓fv42, ↓fv43, i_t, i_f, rec_t, rec_f, getK_same, getK_other, ofL_cons, ofL_nil, and_t, and_f, rrec_t, rrec_f, ka_nil, ka_cons, k_nil, k_cons, len_1, len_2, len_3, len_4, c_i, c_b, c_m, c_p, c_nils, c_sl, c_agg, beq11, one_i, one_p, one_m, one_sl, one_nils, s_m, s_p, s_i, s_nils, s_sl, rev_nil, rev_cons, ap_0, beq_dec, ble_dec, ne_eq, not_false_eq_true, reduceCtorEq, Bool.not_true, Bool.not_false, Nat.zero_add, Nat.reduceAdd, Nat.reduceLT, Nat.reduceEqDiff, Nat.reduceLeDiff, Nat.zero_le, decide_true, decide_false, c30, ↓a1, ↓a2, ↓b3, ↓b4, ↓b5, ↓b6, ↓rv.len, ↓t_get c1, ↓t_get c5]
end

/-- Where the blocks begin, as words. -/
def adds : Nat → List Cl → List Int
  | _, [] => []
  | a, c :: L => 2 * (a : Int) :: adds (a + (1 + c.fl.length)) L
theorem adds_app (c : Cl) : ∀ (L : List Cl) (a : Nat), adds a (L ++ [c]) = adds a L ++ [2 * ((a + used L : Nat) : Int)]
  | [], a => by simp [adds, used]
  | x :: L, a => by
    simp only [List.cons_append, adds, used, adds_app c L]
    rw [show a + (1 + x.fl.length) + used L = a + (1 + x.fl.length + used L) from by omega]
theorem adds_len : ∀ (L : List Cl) (a : Nat), (adds a L).length = L.length
  | [], a => rfl
  | x :: L, a => by simp [adds, adds_len L]

structure MX (h : Heap) (b q xo xn mm : Nat) (words : Int) (Lo Ln : List Cl) (ord : List Int) (v ao to fo an tn fn : AV) : Prop where
  cell : ∃ c, h.tr.get q = some (.st c 4) ∧ c.get 0 = some (.p xo 0 0) ∧ c.get 1 = some (.p xn 0 0) ∧ c.get 2 = some (.m mm) ∧ c.get 3 = some v
  old : RX h xo words Lo ao to fo
  now : RX h xn words Ln an tn fn
  mp : h.tr.get mm = some (.mp (mens 0 ord Ln))
  gr : GR h v ((adds 0 Ln).map iv)
  ok : OKx (Lo.map Cl.bk) ⟨ord, Ln.map Cl.bk⟩
  lo : xo < b ∧ ∀ i ∈ fpX Lo ao to fo, i < b
  hi : b ≤ q ∧ b ≤ xn ∧ b ≤ mm ∧ (∀ i ∈ fpX Ln an tn fn, b ≤ i) ∧ ∀ i ∈ rid v, b ≤ i
  ne : q ≠ xn ∧ ∀ i ∈ rid v, i ∉ fpX Ln an tn fn

section
variable {h : Heap} {b q xo xn mm : Nat} {words : Int} {Lo Ln : List Cl} {ord : List Int} {v ao to fo an tn fn : AV}
theorem xmove_old (V : MX h b q xo xn mm words Lo Ln ord v ao to fo an tn fn) {w : Int} (hw : In w) (hl : look 0 Lo w = none) (n : Nat) (k : KH) : cal (n + 5) 34 [.p q 0 0, iv w] h k = k (iv w) h := by
  obtain ⟨c, c1, c2, c3, c4, c5⟩ := V.cell
  have a1 := fun k => xBlock V.old hw (n + 2) k
  have hb : blk Lo w = none := by
    cases hb : blk Lo w with
    | none => rfl
    | some j => obtain ⟨d, _, hd⟩ := blk_some hb; rw [hl] at hd; cases hd
  unfold blkI at a1
  rw [hb] at a1
  have a2 := fun k => b_lssT (a := (-1 : Int)) (b := 0) (by omega) k
  rw [run34]; simp only [ofL_cons, ofL_nil, Nat.zero_add, Nat.reduceAdd]
  simp -implicitDefEqProofs only [↓m_callf, ↓x_seq, ↓x_reg, ↓x_dreg, ↓x_cond, ↓x_skip, ↓x_exit, ↓x_ret, ↓x_block, ↓x_loop, ↓nrm_n, ↓nrm_e, ↓nrm_r, ↓o_nil, ↓o_consN, ↓o_consS, ↓o_guardN, ↓o_guardS, ↓put_n, ↓put_s, ↓r_pu, ↓r_rd, ↓r_al, ↓r_ef, ↓g_b, ↓e_t, ↓e_c, ↓e_f, ↓e_l0, ↓e_l1, ↓e_l2, ↓e_l3, ↓e_l4, ↓e_l5, ↓e_l6, ↓e_l7, ↓e_l8, ↓e_l9, ↓e_l10, ↓e_l11, ↓e_l12, ↓e_l13, ↓es_nil, ↓es_cons, ↓getK_same, ↓getK_other, ↓ofL_nil, ↓ofL_cons, ↓p_mv, ↓p_pick, ↓p_bld, ↓p_nilck, ↓p_bin, ↓p_isnil, ↓p_not, ↓p_ext, ↓p_len, ↓len_n, ↓len_s, ↓p_fad, ↓p_iad, ↓n_b, ↓n_p, ↓n_pf, ↓n_tup, ↓n_sl, ↓n_nils, ↓n_m, ↓n_f, ↓n_i, ↓n_mp, ↓nth0, ↓nth1, ↓nth2, ↓nil_pp, ↓nil_p, ↓nil_ss, ↓nil_s, ↓neg_f, ↓i_t, ↓i_f, ↓evN_of, ↓int_n, ↓int_0, ↓m_ld, ↓m_lk, ↓m_st0, ↓m_box, ↓m_mkm, ↓m_store, ↓m_mup, ↓m_app, ↓ap_0, ↓okT, ↓okF, ↓kd1, ↓ret_r, ↓res_t1, ↓res_t2, ↓one1, ↓one2, ↓rec_t, ↓rec_f, ↓fill_nil, ↓fill_cons, ↓c_i, ↓c_b, ↓c_m, ↓c_p, ↓c_nils, ↓c_sl, ↓c_agg, ↓len_1, ↓len_2, ↓len_3, ↓len_4, ↓beq11, ↓wrs1, ↓one_i, ↓one_p, ↓one_m, ↓one_sl, ↓one_nils, ↓d_nil, ↓d_puN, ↓d_puS, ↓d_rdN, ↓d_rdS, ↓d_alN, ↓d_alS, ↓d_efN, ↓d_efS, ↓d_gpuN, ↓d_gpuS, ↓d_grdN, ↓d_grdS, ↓d_gefN, ↓d_gefS, ↓k_nil, ↓k_cons, ↓ka_nil, ↓ka_cons, ↓rev_nil, ↓rev_cons, ↓and_t, ↓and_f, ↓rrec_t, ↓rrec_f, ↓s_m, ↓s_p, ↓s_i, ↓s_nils, ↓s_sl, ↓rec_nt, ↓rec_nf, ↓rec_dt, ↓neg_tt, ↓neg_tf, ↓ex_n, ↓ex_e, ↓ex_r, ↓m_mks, ↓rec_bb, ↓o_guardTN, ↓o_guardTS, ↓res_t3, ↓one3, ↓ga_old, ↓ga_new, ↓gu_same, ↓gu_other, ↓fv20, ↓fv21, ↓fv30, ↓fv32, ↓fv40, ↓fv41, ↓fv42, ↓fv43, i_t, i_f, rec_t, rec_f, getK_same, getK_other, ofL_cons, ofL_nil, and_t, and_f, rrec_t, rrec_f, ka_nil, ka_cons, k_nil, k_cons, len_1, len_2, len_3, len_4, c_i, c_b, c_m, c_p, c_nils, c_sl, c_agg, beq11, one_i, one_p, one_m, one_sl, one_nils, s_m, s_p, s_i, s_nils, s_sl, rev_nil, rev_cons, ap_0, beq_dec, ble_dec, ne_eq, not_false_eq_true, reduceCtorEq, Bool.not_true, Bool.not_false, Nat.zero_add, Nat.reduceAdd, Nat.reduceLT, Nat.reduceEqDiff, Nat.reduceLeDiff, Nat.zero_le, decide_true, decide_false, c34, ↓t_get c1, ↓t_get c2, ↓a1, ↓a2]
theorem blk_of {w : Int} {c0 : Cl} (hl : look 0 Lo w = some c0) : ∃ j, blk Lo w = some j := by
  cases hb : blk Lo w with
  | none => rw [blk_none hb] at hl; cases hl
  | some j => exact ⟨j, rfl⟩
theorem xmove_known (V : MX h b q xo xn mm words Lo Ln ord v ao to fo an tn fn) {w y : Int} (hw : In w) {c0 : Cl} (hl : look 0 Lo w = some c0) (hx : nowAt 0 ord (Ln.map Cl.bk) w = some y) (n : Nat) (k : KH) : cal (n + 5) 34 [.p q 0 0, iv w] h k = k (iv y) h := by
  obtain ⟨c, c1, c2, c3, c4, c5⟩ := V.cell
  have a1 := fun k => xBlock V.old hw (n + 2) k
  obtain ⟨j, hb⟩ := blk_of hl
  unfold blkI at a1
  rw [hb] at a1
  have a2 := fun k => b_lssF (a := (j : Int)) (b := 0) (by omega) k
  have a3 : ∀ d f, findK (mens 0 ord Ln) (iv w) d f = f (iv y) := fun d f => by rw [find_mens, hx]
  rw [run34]; simp only [ofL_cons, ofL_nil, Nat.zero_add, Nat.reduceAdd]
  simp -implicitDefEqProofs only [↓m_callf, ↓x_seq, ↓x_reg, ↓x_dreg, ↓x_cond, ↓x_skip, ↓x_exit, ↓x_ret, ↓x_block, ↓x_loop, ↓nrm_n, ↓nrm_e, ↓nrm_r, ↓o_nil, ↓o_consN, ↓o_consS, ↓o_guardN, ↓o_guardS, ↓put_n, ↓put_s, ↓r_pu, ↓r_rd, ↓r_al, ↓r_ef, ↓g_b, ↓e_t, ↓e_c, ↓e_f, ↓e_l0, ↓e_l1, ↓e_l2, ↓e_l3, ↓e_l4, ↓e_l5, ↓e_l6, ↓e_l7, ↓e_l8, ↓e_l9, ↓e_l10, ↓e_l11, ↓e_l12, ↓e_l13, ↓es_nil, ↓es_cons, ↓getK_same, ↓getK_other, ↓ofL_nil, ↓ofL_cons, ↓p_mv, ↓p_pick, ↓p_bld, ↓p_nilck, ↓p_bin, ↓p_isnil, ↓p_not, ↓p_ext, ↓p_len, ↓len_n, ↓len_s, ↓p_fad, ↓p_iad, ↓n_b, ↓n_p, ↓n_pf, ↓n_tup, ↓n_sl, ↓n_nils, ↓n_m, ↓n_f, ↓n_i, ↓n_mp, ↓nth0, ↓nth1, ↓nth2, ↓nil_pp, ↓nil_p, ↓nil_ss, ↓nil_s, ↓neg_f, ↓i_t, ↓i_f, ↓evN_of, ↓int_n, ↓int_0, ↓m_ld, ↓m_lk, ↓m_st0, ↓m_box, ↓m_mkm, ↓m_store, ↓m_mup, ↓m_app, ↓ap_0, ↓okT, ↓okF, ↓kd1, ↓ret_r, ↓res_t1, ↓res_t2, ↓one1, ↓one2, ↓rec_t, ↓rec_f, ↓fill_nil, ↓fill_cons, ↓c_i, ↓c_b, ↓c_m, ↓c_p, ↓c_nils, ↓c_sl, ↓c_agg, ↓len_1, ↓len_2, ↓len_3, ↓len_4, ↓beq11, ↓wrs1, ↓one_i, ↓one_p, ↓one_m, ↓one_sl, ↓one_nils, ↓d_nil, ↓d_puN, ↓d_puS, ↓d_rdN, ↓d_rdS, ↓d_alN, ↓d_alS, ↓d_efN, ↓d_efS, ↓d_gpuN, ↓d_gpuS, ↓d_grdN, ↓d_grdS, ↓d_gefN, ↓d_gefS, ↓k_nil, ↓k_cons, ↓ka_nil, ↓ka_cons, ↓rev_nil, ↓rev_cons, ↓and_t, ↓and_f, ↓rrec_t, ↓rrec_f, ↓s_m, ↓s_p, ↓s_i, ↓s_nils, ↓s_sl, ↓rec_nt, ↓rec_nf, ↓rec_dt, ↓neg_tt, ↓neg_tf, ↓ex_n, ↓ex_e, ↓ex_r, ↓m_mks, ↓rec_bb, ↓o_guardTN, ↓o_guardTS, ↓res_t3, ↓one3, ↓ga_old, ↓ga_new, ↓gu_same, ↓gu_other, ↓fv20, ↓fv21, ↓fv30, ↓fv32, ↓fv40, ↓fv41, ↓fv42, ↓fv43, i_t, i_f, rec_t, rec_f, getK_same, getK_other, ofL_cons, ofL_nil, and_t, and_f, rrec_t, rrec_f, ka_nil, ka_cons, k_nil, k_cons, len_1, len_2, len_3, len_4, c_i, c_b, c_m, c_p, c_nils, c_sl, c_agg, beq11, one_i, one_p, one_m, one_sl, one_nils, s_m, s_p, s_i, s_nils, s_sl, rev_nil, rev_cons, ap_0, beq_dec, ble_dec, ne_eq, not_false_eq_true, reduceCtorEq, Bool.not_true, Bool.not_false, Nat.zero_add, Nat.reduceAdd, Nat.reduceLT, Nat.reduceEqDiff, Nat.reduceLeDiff, Nat.zero_le, decide_true, decide_false, c34, ↓t_get c1, ↓t_get c2, ↓t_get c4, ↓a1, ↓a2, ↓t_get V.mp, ↓a3]
end
end Go.Proofs.Ytodlgflkhcknaaa.gcc

/- A word is moved for the first time (emissaryref17); in one sentence. -/
namespace Go.Proofs.Ytodlgflkhcknaaa.gcc
open Go Go.AE
set_option linter.unusedSimpArgs false
set_option maxRecDepth 100000

section
variable {h : Heap} {b q xo xn mm : Nat} {words : Int} {Lo Ln : List Cl} {ord : List Int} {v ao to fo an tn fn : AV}
theorem xmove_new (V : MX h b q xo xn mm words Lo Ln ord v ao to fo an tn fn) (hs : Sc h) (hu : (used Lo : Int) ≤ words) (hsz : words ≤ 20000) {w : Int} (hw : In w) {c0 : Cl} (hl : look 0 Lo w = some c0) (hx : nowAt 0 ord (Ln.map Cl.bk) w = none) (n : Nat) :
    ∃ h' c v' an' tn' fn', (∀ k : KH, cal (n + 5) 34 [.p q 0 0, iv w] h k = k (iv (2 * used Ln)) h') ∧ MX h' b q xo xn mm words Lo (Ln ++ [c]) (ord ++ [w]) v' ao to fo an' tn' fn' ∧ c.bk = c0.bk ∧ Sc h' ∧
      Kp h h' (xn :: mm :: q :: (rid an ++ rid tn ++ rid fn ++ rid v)) ∧ (∀ i ∈ rid v', i ∈ rid v ∨ h.next ≤ i) ∧ ∀ i ∈ fpX (Ln ++ [c]) an' tn' fn', i ∈ fpX Ln an tn fn ∨ h.next ≤ i := by
  obtain ⟨c, c1, c2, c3, c4, c5⟩ := V.cell
  obtain ⟨j, hbj⟩ := blk_of hl
  obtain ⟨bo1, bo2, bo3, bo4⟩ := V.old.bl c0 (look_mem hl)
  have ht : tagOf Lo w = c0.tag := by unfold tagOf; rw [hl]
  have hfl : flOf Lo w = c0.fl := by unfold flOf; rw [hl]
  have hrw : rowOf Lo w = c0.row := by unfold rowOf; rw [hl]
  have hlB : lookB 0 (Lo.map Cl.bk) w = some c0.bk := by rw [look_bk, hl]; rfl
  have hroom := V.ok.room hlB hx
  rw [used_bk, used_bk] at hroom
  have hroom : used Ln + (1 + c0.fl.length) ≤ used Lo := hroom
  have hc0lo : ∀ z ∈ rid c0.row, z < b := fun z hz => V.lo.2 z (mem_fpX.2 (.inr (.inr (.inr (List.mem_flatMap.2 ⟨c0, look_mem hl, hz⟩)))))
  obtain ⟨h3, cn, an', tn', fn', e2, cn1, cn2, now3, hs3, k3, i3, j3⟩ := xAlloc V.now hs bo2 bo3 bo1.read (fun z hz => ⟨fun e => by have := hc0lo z hz; have := V.hi.2.1; omega, fun hm => by have := hc0lo z hz; have := V.hi.2.2.2.1 z (mem_fpX.2 (.inr (.inl hm))); omega⟩) bo4 (by omega) hsz (n + 2)
  obtain ⟨m1, m2⟩ := V.now.notMp V.mp
  have qn2 := V.now.notSt c1
  have hqm : q ≠ mm := fun e => by have := V.mp; rw [← e, c1] at this; cases this
  have inS : ∀ {z : Nat}, z ∈ xn :: (rid an ++ rid tn ++ rid fn) → z = xn ∨ z ∈ fpX Ln an tn fn := fun hz => by
    simp only [List.mem_cons, List.mem_append] at hz
    rcases hz with hz | (hz | hz) | hz
    · exact .inl hz
    · exact .inr (mem_fpX.2 (.inl hz))
    · exact .inr (mem_fpX.2 (.inr (.inl hz)))
    · exact .inr (mem_fpX.2 (.inr (.inr (.inl hz))))
  have q3 : h3.tr.get q = some (.st c 4) := k3.get hs c1 (fun hm => by
    rcases inS hm with h1 | h1
    · exact V.ne.1 h1
    · exact qn2 h1)
  have m3 : h3.tr.get mm = some (.mp (mens 0 ord Ln)) := k3.get hs V.mp (fun hm => by
    rcases inS hm with h1 | h1
    · exact m1 h1
    · exact m2 h1)
  obtain ⟨dn, dn1, _⟩ := V.now.hd
  have g3 : GR h3 v ((adds 0 Ln).map iv) := V.gr.keep k3 hs (fun z hz hm => by
    rcases inS hm with h1 | h1
    · subst h1; exact V.gr.notSt dn1 hz
    · exact V.ne.2 z hz h1)
  let h4 := updO h3 mm (.mp (mens 0 ord Ln ++ [(iv w, iv (2 * (used Ln : Int)))]))
  have hs4 : Sc h4 := hs3.upd m3 _
  have k4 : Kp h3 h4 [mm] := Kp.upd h3 mm _
  have hmv : mm ∉ rid v := V.gr.notMp V.mp
  have g4 : GR h4 v ((adds 0 Ln).map iv) := g3.keep k4 hs3 (fun i hi hn => by simp at hn; subst hn; exact hmv hi)
  have q4 : h4.tr.get q = some (.st c 4) := k4.get hs3 q3 (by simp [hqm])
  have hln : Ln.length ≤ 20000 := by have := used_len (L := Ln); have := V.now.fits; omega
  obtain ⟨v', h6, e6, q6, g7, hs7, k7, i7, o1, o2, o3, k46, hs6⟩ := push (b := 8) (by omega) (i := 3) q4 g4 hs4 (y := iv (2 * (used Ln : Int))) rfl (by rw [List.length_map, adds_len]; omega)
  have n3 := k3.1
  have n4 : h4.next = h3.next := rfl
  have n7 := k7.1
  have hqn := hs _ _ c1
  have hmn := hs _ _ V.mp
  have ltn := V.now.lt hs
  have ltv := V.gr.lt hs
  have K37 : Kp h3 (updO h6 q (.st (T.set v' c 3) 4)) (mm :: q :: rid v) := (k4.mono (by simp)).trans (k7.mono (fun z hz => by simp at hz ⊢; exact .inr hz)) (fun z hz _ => hz)
  have K07 : Kp h (updO h6 q (.st (T.set v' c 3) 4)) (xn :: mm :: q :: (rid an ++ rid tn ++ rid fn ++ rid v)) := (k3.mono (fun z hz => by simp at hz ⊢; rcases hz with h1 | h1 | h1 | h1 <;> simp [h1])).trans (K37.mono (fun z hz => by simp at hz ⊢; rcases hz with h1 | h1 | h1 <;> simp [h1])) (fun z hz _ => hz)
  have bS : ∀ z ∈ (xn :: mm :: q :: (rid an ++ rid tn ++ rid fn ++ rid v)), b ≤ z := fun z hz => by
    simp only [List.mem_cons, List.mem_append] at hz
    rcases hz with rfl | rfl | rfl | ((hz | hz) | hz) | hz
    · exact V.hi.2.1
    · exact V.hi.2.2.1
    · exact V.hi.1
    · exact V.hi.2.2.2.1 z (mem_fpX.2 (.inl hz))
    · exact V.hi.2.2.2.1 z (mem_fpX.2 (.inr (.inl hz)))
    · exact V.hi.2.2.2.1 z (mem_fpX.2 (.inr (.inr (.inl hz))))
    · exact V.hi.2.2.2.2 z hz
  have hbn : b ≤ h.next := by have := V.hi.1; omega
  have newfp : ∀ i ∈ fpX (Ln ++ [cn]) an' tn' fn', i ∈ fpX Ln an tn fn ∨ h.next ≤ i := fun i hi => by
    have back : ∀ z, z ∈ rid an ++ rid tn ++ rid fn → z ∈ fpX Ln an tn fn := fun z hz => by
      simp only [List.mem_append] at hz
      rcases hz with (hz | hz) | hz
      · exact mem_fpX.2 (.inl hz)
      · exact mem_fpX.2 (.inr (.inl hz))
      · exact mem_fpX.2 (.inr (.inr (.inl hz)))
    rcases mem_fpX.1 hi with hi | hi | hi | hi
    · rcases j3 i (by simp [hi]) with h1 | h1
      · exact .inl (back i h1)
      · exact .inr h1
    · rcases j3 i (by simp [hi]) with h1 | h1
      · exact .inl (back i h1)
      · exact .inr h1
    · rcases j3 i (by simp [hi]) with h1 | h1
      · exact .inl (back i h1)
      · exact .inr h1
    · rcases rowsL_snoc.1 hi with hi | hi
      · exact .inl (mem_fpX.2 (.inr (.inr (.inr hi))))
      · exact .inr (i3 i hi)
  have newv : ∀ i ∈ rid v', i ∈ rid v ∨ h.next ≤ i := fun i hi => by
    rcases i7 i hi with h1 | h1
    · exact .inl h1
    · exact .inr (by omega)
  have hne3 : ∀ z ∈ rid v, z ∉ fpX (Ln ++ [cn]) an' tn' fn' := fun z hz hm => by
    rcases newfp z hm with h1 | h1
    · exact V.ne.2 z hz h1
    · have := ltv z hz; omega
  refine ⟨updO h6 q (.st (T.set v' c 3) 4), cn, v', an', tn', fn', fun k => ?_, ⟨⟨T.set v' c 3, by rw [get_upd]; exact if_pos rfl, ?_, ?_, ?_, get_same _ _ _⟩, ?_, ?_, ?_, ?_, ?_, V.lo, ?_, ⟨V.ne.1, fun i hi hm => ?_⟩⟩, by simp [Cl.bk, cn1, cn2], hs7, K07, newv, newfp⟩
  · have a1 := fun k => xBlock V.old hw (n + 2) k
    unfold blkI at a1
    rw [hbj] at a1
    have a2 := fun k => b_lssF (a := (j : Int)) (b := 0) (by omega) k
    have a3 : ∀ d f, findK (mens 0 ord Ln) (iv w) d f = d := fun d f => by rw [find_mens, hx]
    have a4 : ∀ K, putM (mens 0 ord Ln) (iv w) (iv (2 * (used Ln : Int))) K = K (mens 0 ord Ln ++ [(iv w, iv (2 * (used Ln : Int)))]) := fun K => put_mens w _ K ord Ln 0 (by have := V.ok.len; simpa using this) hx
    have a5 := fun k => xTag V.old hw (n + 1) k
    have a6 := fun k => xFields V.old hw (n + 1) k
    rw [ht] at a5
    rw [hrw] at a6
    have e2' : ∀ k : KH, cal (n + 4) 30 [.p xn 0 0, iv c0.tag, c0.row] h k = k (.tup [iv (2 * used Ln), .b true]) h3 := e2
    have a7 : ∀ k : KH, appK 1 8 v [iv (2 * (used Ln : Int))] 1 (addO (updO h3 mm (.mp (mens 0 ord Ln ++ [(iv w, iv (2 * (used Ln : Int)))]))) (.st (T.set (iv (2 * (used Ln : Int))) .e 0) 1)) k = k v' h6 := e6
    have a8 : ∀ K, wrK (.st c 4) 0 3 v' K = K (.st (T.set v' c 3) 4) := fun K => w_st o1 (by omega) K
    have hq3 : q ≠ h3.next := by omega
    rw [run34]; simp only [ofL_cons, ofL_nil, Nat.zero_add, Nat.reduceAdd]
    simp -implicitDefEqProofs only [↓m_callf, ↓x_seq, ↓x_reg, ↓x_dreg, ↓x_cond, ↓x_skip, ↓x_exit, ↓x_ret, ↓x_block, ↓x_loop, ↓nrm_n, ↓nrm_e, ↓nrm_r, ↓o_nil, ↓o_consN, ↓o_consS, ↓o_guardN, ↓o_guardS, ↓put_n, ↓put_s, ↓r_pu, ↓r_rd, ↓r_al, ↓r_ef, ↓g_b, ↓e_t, ↓e_c, ↓e_f, ↓e_l0, ↓e_l1, ↓e_l2, ↓e_l3, ↓e_l4, ↓e_l5, ↓e_l6, ↓e_l7, ↓e_l8, ↓e_l9, ↓e_l10, ↓e_l11, ↓e_l12, ↓e_l13, ↓es_nil, ↓es_cons, ↓getK_same, ↓getK_other, ↓ofL_nil, ↓ofL_cons, ↓p_mv, ↓p_pick, ↓p_bld, ↓p_nilck, ↓p_bin, ↓p_isnil, ↓p_not, ↓p_ext, ↓p_len, ↓len_n, ↓len_s, ↓p_fad, ↓p_iad, ↓n_b, ↓n_p, ↓n_pf, ↓n_tup, ↓n_sl, ↓n_nils, ↓n_m, ↓n_f, ↓n_i, ↓n_mp, ↓nth0, ↓nth1, ↓nth2, ↓nil_pp, ↓nil_p, ↓nil_ss, ↓nil_s, ↓neg_f, ↓i_t, ↓i_f, ↓evN_of, ↓int_n, ↓int_0, ↓m_ld, ↓m_lk, ↓m_st0, ↓m_box, ↓m_mkm, ↓m_store, ↓m_mup, ↓m_app, ↓ap_0, ↓okT, ↓okF, ↓kd1, ↓ret_r, ↓res_t1, ↓res_t2, ↓one1, ↓one2, ↓rec_t, ↓rec_f, ↓fill_nil, ↓fill_cons, ↓c_i, ↓c_b, ↓c_m, ↓c_p, ↓c_nils, ↓c_sl, ↓c_agg, ↓len_1, ↓len_2, ↓len_3, ↓len_4, ↓beq11, ↓wrs1, ↓one_i, ↓one_p, ↓one_m, ↓one_sl, ↓one_nils, ↓d_nil, ↓d_puN, ↓d_puS, ↓d_rdN, ↓d_rdS, ↓d_alN, ↓d_alS, ↓d_efN, ↓d_efS, ↓d_gpuN, ↓d_gpuS, ↓d_grdN, ↓d_grdS, ↓d_gefN, ↓d_gefS, ↓k_nil, ↓k_cons, ↓ka_nil, ↓ka_cons, ↓rev_nil, ↓rev_cons, ↓and_t, ↓and_f, ↓rrec_t, ↓rrec_f, ↓s_m, ↓s_p, ↓s_i, ↓s_nils, ↓s_sl, ↓rec_nt, ↓rec_nf, ↓rec_dt, ↓neg_tt, ↓neg_tf, ↓ex_n, ↓ex_e, ↓ex_r, ↓m_mks, ↓rec_bb, ↓o_guardTN, ↓o_guardTS, ↓res_t3, ↓one3, ↓ga_old, ↓ga_new, ↓gu_same, ↓gu_other, ↓fv20, ↓fv21, ↓fv30, ↓fv32, ↓fv40, ↓fv41, ↓fv42, ↓fv43, i_t, i_f, rec_t, rec_f, getK_same, getK_other, ofL_cons, ofL_nil, and_t, and_f, rrec_t, rrec_f, ka_nil, ka_cons, k_nil, k_cons, len_1, len_2, len_3, len_4, c_i, c_b, c_m, c_p, c_nils, c_sl, c_agg, beq11, one_i, one_p, one_m, one_sl, one_nils, s_m, s_p, s_i, s_nils, s_sl, rev_nil, rev_cons, ap_0, beq_dec, ble_dec, ne_eq, not_false_eq_true, reduceCtorEq, Bool.not_true, Bool.not_false, Nat.zero_add, Nat.reduceAdd, Nat.reduceLT, Nat.reduceEqDiff, Nat.reduceLeDiff, Nat.zero_le, decide_true, decide_false, c34, ↓t_get c1, ↓t_get c2, ↓t_get c3, ↓t_get c4, ↓t_get c5, ↓a1, ↓a2, ↓t_get V.mp, ↓a3, ↓a5, ↓a6, ↓e2', ↓t_get q3, ↓t_get m3, ↓a4, ↓bsl1, ↓bslK_of, ↓src_new, hqm, hq3, next_updO, next_addO, ↓a7, o2, ↓t_get q6, ↓a8]
  · rw [get_other _ _ (by omega)]; exact c2
  · rw [get_other _ _ (by omega)]; exact c3
  · rw [get_other _ _ (by omega)]; exact c4
  · exact V.old.keep K07 hs (fun hm => by have := bS _ hm; have := V.lo.1; omega) (fun i hi hm => by have := bS _ hm; have := V.lo.2 i hi; omega)
  · refine now3.keep K37 hs3 (fun hm => ?_) (fun i hi hm => ?_)
    · simp only [List.mem_cons] at hm
      rcases hm with h1 | h1 | h1
      · exact m1 h1.symm
      · exact V.ne.1 h1.symm
      · exact V.gr.notSt dn1 h1
    · simp only [List.mem_cons] at hm
      rcases hm with rfl | rfl | h1
      · rcases newfp i hi with h1 | h1
        · exact m2 h1
        · omega
      · rcases newfp i hi with h1 | h1
        · exact qn2 h1
        · omega
      · exact hne3 i h1 hi
  · have h1 : (updO h6 q (.st (T.set v' c 3) 4)).tr.get mm = h6.tr.get mm := o3 mm (Ne.symm hqm)
    have h4m : h4.tr.get mm = some (.mp (mens 0 ord Ln ++ [(iv w, iv (2 * (used Ln : Int)))])) := by show (updO h3 mm _).tr.get mm = _; rw [get_upd]; exact if_pos rfl
    rw [h1, k46.get hs4 h4m hmv, mens_app w cn ord Ln 0 (by have := V.ok.len; simpa using this)]
    simp
  · rw [adds_app, List.map_append, Nat.zero_add]; exact g7
  · have := V.ok.move w
    unfold pmove at this
    rw [hlB, hx] at this
    rw [List.map_append, show [cn].map Cl.bk = [c0.bk] from by simp [Cl.bk, cn1, cn2]]
    exact this
  · refine ⟨V.hi.1, V.hi.2.1, V.hi.2.2.1, fun i hi => ?_, fun i hi => ?_⟩
    · rcases newfp i hi with h1 | h1
      · exact V.hi.2.2.2.1 i h1
      · omega
    · rcases newv i hi with h1 | h1
      · exact V.hi.2.2.2.2 i h1
      · omega
  · rcases i7 i hi with h1 | h1
    · exact hne3 i h1 hm
    · have := (now3.lt hs3).2 i hm
      omega
theorem xMove (V : MX h b q xo xn mm words Lo Ln ord v ao to fo an tn fn) (hs : Sc h) (hu : (used Lo : Int) ≤ words) (hsz : words ≤ 20000) {w : Int} (hw : In w) (n : Nat) :
    ∃ h' Ln' v' an' tn' fn', (∀ k : KH, cal (n + 5) 34 [.p q 0 0, iv w] h k = k (iv (pmove (Lo.map Cl.bk) ⟨ord, Ln.map Cl.bk⟩ w).1) h') ∧ MX h' b q xo xn mm words Lo Ln' (pmove (Lo.map Cl.bk) ⟨ord, Ln.map Cl.bk⟩ w).2.ord v' ao to fo an' tn' fn' ∧
      Ln'.map Cl.bk = (pmove (Lo.map Cl.bk) ⟨ord, Ln.map Cl.bk⟩ w).2.bs ∧ Sc h' ∧ Kp h h' (xn :: mm :: q :: (rid an ++ rid tn ++ rid fn ++ rid v)) ∧ (∀ i ∈ rid v', i ∈ rid v ∨ h.next ≤ i) ∧ (∀ i ∈ fpX Ln' an' tn' fn', i ∈ fpX Ln an tn fn ∨ h.next ≤ i) ∧
      ∀ (j : Nat) d, Ln[j]? = some d → Ln'[j]? = some d := by
  unfold pmove
  rw [look_bk]
  cases hl : look 0 Lo w with
  | none => exact ⟨h, Ln, v, an, tn, fn, fun k => xmove_old V hw hl n k, V, rfl, hs, Kp.refl _ _, fun i hi => .inl hi, fun i hi => .inl hi, fun j d hj => hj⟩
  | some c0 =>
    show ∃ h' Ln' v' an' tn' fn', _
    cases hx : nowAt 0 ord (Ln.map Cl.bk) w with
    | some y =>
      simp only [Option.map_some, hx]
      exact ⟨h, Ln, v, an, tn, fn, fun k => xmove_known V hw hl hx n k, V, rfl, hs, Kp.refl _ _, fun i hi => .inl hi, fun i hi => .inl hi, fun j d hj => hj⟩
    | none =>
      simp only [Option.map_some, hx]
      obtain ⟨h', c, v', an', tn', fn', e1, e2, e3, e4, e5, e6, e7⟩ := xmove_new V hs hu hsz hw hl hx n
      exact ⟨h', Ln ++ [c], v', an', tn', fn', fun k => by rw [e1, used_bk], e2, by rw [List.map_append, ← e3]; rfl, e4, e5, e6, e7, fun j d hj => by rw [List.getElem?_append_left (List.getElem?_eq_some_iff.1 hj).1]; exact hj⟩
end
end Go.Proofs.Ytodlgflkhcknaaa.gcc
