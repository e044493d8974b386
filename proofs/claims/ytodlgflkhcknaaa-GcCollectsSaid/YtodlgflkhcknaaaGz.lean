import Derived.Test.YtodlgflkhcknaaaGy
/- The law's pair of heaps: one block made in both. -/
namespace Go.Proofs.Ytodlgflkhcknaaa.gcc
open Go Go.AE
set_option linter.unusedSimpArgs false
set_option maxRecDepth 100000

theorem b_leqT {a b : Int} (h : a ≤ b) (k : KV) : kBin .leq (.i .i64 a) (.i .i64 b) k = k (.b true) := by
  show k (.b (leI a b)) = _
  rw [leI_eq, decide_eq_true h]
theorem b_leqF {a b : Int} (h : ¬ a ≤ b) (k : KV) : kBin .leq (.i .i64 a) (.i .i64 b) k = k (.b false) := by
  show k (.b (leI a b)) = _
  rw [leI_eq, decide_eq_false h]

theorem rNewNo {s : Int} (hno : s < 0 ∨ 20000 < s) (n : Nat) (h : Heap) (k : KH) : cal (n + 1) 22 [iv s] h k = k .nilp h := by
  rw [run22]; simp only [ofL_cons, ofL_nil, Nat.zero_add, Nat.reduceAdd]
  by_cases h1 : s < 0
  · have a1 := fun k => b_lssT (a := s) (b := 0) h1 k
    simp -implicitDefEqProofs only [↓m_callf, ↓x_seq, ↓x_reg, ↓x_dreg, ↓x_cond, ↓x_skip, ↓x_exit, ↓x_ret, ↓x_block, ↓x_loop, ↓nrm_n, ↓nrm_e, ↓nrm_r, ↓o_nil, ↓o_consN, ↓o_consS, ↓o_guardN, ↓o_guardS, ↓put_n, ↓put_s, ↓r_pu, ↓r_rd, ↓r_al, ↓r_ef, ↓g_b, ↓e_t, ↓e_c, ↓e_f, ↓e_l0, ↓e_l1, ↓e_l2, ↓e_l3, ↓e_l4, ↓e_l5, ↓e_l6, ↓e_l7, ↓e_l8, ↓e_l9, ↓e_l10, ↓e_l11, ↓e_l12, ↓e_l13, ↓es_nil, ↓es_cons, ↓getK_same, ↓getK_other, ↓ofL_nil, ↓ofL_cons, ↓p_mv, ↓p_pick, ↓p_bld, ↓p_nilck, ↓p_bin, ↓p_isnil, ↓p_not, ↓p_ext, ↓p_len, ↓len_n, ↓len_s, ↓p_fad, ↓p_iad, ↓n_b, ↓n_p, ↓n_pf, ↓n_tup, ↓n_sl, ↓n_nils, ↓n_m, ↓n_f, ↓n_i, ↓n_mp, ↓nth0, ↓nth1, ↓nth2, ↓nil_pp, ↓nil_p, ↓nil_ss, ↓nil_s, ↓neg_f, ↓i_t, ↓i_f, ↓evN_of, ↓int_n, ↓int_0, ↓m_ld, ↓m_lk, ↓m_st0, ↓m_box, ↓m_mkm, ↓m_store, ↓m_mup, ↓m_app, ↓ap_0, ↓okT, ↓okF, ↓kd1, ↓ret_r, ↓res_t1, ↓res_t2, ↓one1, ↓one2, ↓rec_t, ↓rec_f, ↓fill_nil, ↓fill_cons, ↓c_i, ↓c_b, ↓c_m, ↓c_p, ↓c_nils, ↓c_sl, ↓c_agg, ↓len_1, ↓len_2, ↓len_3, ↓len_4, ↓beq11, ↓wrs1, ↓one_i, ↓one_p, ↓one_m, ↓one_sl, ↓one_nils, ↓d_nil, ↓d_puN, ↓d_puS, ↓d_rdN, ↓d_rdS, ↓d_alN, ↓d_alS, ↓d_efN, ↓d_efS, ↓d_gpuN, ↓d_gpuS, ↓d_grdN, ↓d_grdS, ↓d_gefN, ↓d_gefS, ↓k_nil, ↓k_cons, ↓ka_nil, ↓ka_cons, ↓rev_nil, ↓rev_cons, ↓and_t, ↓and_f, ↓rrec_t, ↓rrec_f, ↓s_m, ↓s_p, ↓s_i, ↓s_nils, ↓s_sl, ↓rec_nt, ↓rec_nf, ↓rec_dt, ↓neg_tt, ↓neg_tf, ↓ex_n, ↓ex_e, ↓ex_r, ↓m_mks, ↓rec_bb, ↓o_guardTN, ↓o_guardTS, ↓res_t3, ↓one3, ↓ga_old, ↓ga_new, ↓gu_same, ↓gu_other, ↓fv20, ↓fv21, ↓fv30, ↓fv32, ↓fv40, ↓fv41, ↓fv42, ↓fv43, i_t, i_f, rec_t, rec_f, getK_same, getK_other, ofL_cons, ofL_nil, and_t, and_f, rrec_t, rrec_f, ka_nil, ka_cons, k_nil, k_cons, len_1, len_2, len_3, len_4, c_i, c_b, c_m, c_p, c_nils, c_sl, c_agg, beq11, one_i, one_p, one_m, one_sl, one_nils, s_m, s_p, s_i, s_nils, s_sl, rev_nil, rev_cons, ap_0, beq_dec, ble_dec, ne_eq, not_false_eq_true, reduceCtorEq, Bool.not_true, Bool.not_false, Nat.zero_add, Nat.reduceAdd, Nat.reduceLT, Nat.reduceEqDiff, Nat.reduceLeDiff, Nat.zero_le, decide_true, decide_false, c22, ↓a1]
  · have a1 := fun k => b_lssF (a := s) (b := 0) h1 k
    have a2 := fun k => b_gtrT (a := s) (b := 20000) (by omega) k
    simp -implicitDefEqProofs only [↓m_callf, ↓x_seq, ↓x_reg, ↓x_dreg, ↓x_cond, ↓x_skip, ↓x_exit, ↓x_ret, ↓x_block, ↓x_loop, ↓nrm_n, ↓nrm_e, ↓nrm_r, ↓o_nil, ↓o_consN, ↓o_consS, ↓o_guardN, ↓o_guardS, ↓put_n, ↓put_s, ↓r_pu, ↓r_rd, ↓r_al, ↓r_ef, ↓g_b, ↓e_t, ↓e_c, ↓e_f, ↓e_l0, ↓e_l1, ↓e_l2, ↓e_l3, ↓e_l4, ↓e_l5, ↓e_l6, ↓e_l7, ↓e_l8, ↓e_l9, ↓e_l10, ↓e_l11, ↓e_l12, ↓e_l13, ↓es_nil, ↓es_cons, ↓getK_same, ↓getK_other, ↓ofL_nil, ↓ofL_cons, ↓p_mv, ↓p_pick, ↓p_bld, ↓p_nilck, ↓p_bin, ↓p_isnil, ↓p_not, ↓p_ext, ↓p_len, ↓len_n, ↓len_s, ↓p_fad, ↓p_iad, ↓n_b, ↓n_p, ↓n_pf, ↓n_tup, ↓n_sl, ↓n_nils, ↓n_m, ↓n_f, ↓n_i, ↓n_mp, ↓nth0, ↓nth1, ↓nth2, ↓nil_pp, ↓nil_p, ↓nil_ss, ↓nil_s, ↓neg_f, ↓i_t, ↓i_f, ↓evN_of, ↓int_n, ↓int_0, ↓m_ld, ↓m_lk, ↓m_st0, ↓m_box, ↓m_mkm, ↓m_store, ↓m_mup, ↓m_app, ↓ap_0, ↓okT, ↓okF, ↓kd1, ↓ret_r, ↓res_t1, ↓res_t2, ↓one1, ↓one2, ↓rec_t, ↓rec_f, ↓fill_nil, ↓fill_cons, ↓c_i, ↓c_b, ↓c_m, ↓c_p, ↓c_nils, ↓c_sl, ↓c_agg, ↓len_1, ↓len_2, ↓len_3, ↓len_4, ↓beq11, ↓wrs1, ↓one_i, ↓one_p, ↓one_m, ↓one_sl, ↓one_nils, ↓d_nil, ↓d_puN, ↓d_puS, ↓d_rdN, ↓d_rdS, ↓d_alN, ↓d_alS, ↓d_efN, ↓d_efS, ↓d_gpuN, ↓d_gpuS, ↓d_grdN, ↓d_grdS, ↓d_gefN, ↓d_gefS, ↓k_nil, ↓k_cons, ↓ka_nil, ↓ka_cons, ↓rev_nil, ↓rev_cons, ↓and_t, ↓and_f, ↓rrec_t, ↓rrec_f, ↓s_m, ↓s_p, ↓s_i, ↓s_nils, ↓s_sl, ↓rec_nt, ↓rec_nf, ↓rec_dt, ↓neg_tt, ↓neg_tf, ↓ex_n, ↓ex_e, ↓ex_r, ↓m_mks, ↓rec_bb, ↓o_guardTN, ↓o_guardTS, ↓res_t3, ↓one3, ↓ga_old, ↓ga_new, ↓gu_same, ↓gu_other, ↓fv20, ↓fv21, ↓fv30, ↓fv32, ↓fv40, ↓fv41, ↓fv42, ↓fv43, i_t, i_f, rec_t, rec_f, getK_same, getK_other, ofL_cons, ofL_nil, and_t, and_f, rrec_t, rrec_f, ka_nil, ka_cons, k_nil, k_cons, len_1, len_2, len_3, len_4, c_i, c_b, c_m, c_p, c_nils, c_sl, c_agg, beq11, one_i, one_p, one_m, one_sl, one_nils, s_m, s_p, s_i, s_nils, s_sl, rev_nil, rev_cons, ap_0, beq_dec, ble_dec, ne_eq, not_false_eq_true, reduceCtorEq, Bool.not_true, Bool.not_false, Nat.zero_add, Nat.reduceAdd, Nat.reduceLT, Nat.reduceEqDiff, Nat.reduceLeDiff, Nat.zero_le, decide_true, decide_false, c22, ↓a1, ↓a2]
theorem xNewNo {s : Int} (hno : s < 0 ∨ 20000 < s) (n : Nat) (h : Heap) (k : KH) : cal (n + 1) 29 [iv s] h k = k .nilp h := by
  rw [run29]; simp only [ofL_cons, ofL_nil, Nat.zero_add, Nat.reduceAdd]
  by_cases h1 : s < 0
  · have a1 := fun k => b_lssT (a := s) (b := 0) h1 k
    simp -implicitDefEqProofs only [↓m_callf, ↓x_seq, ↓x_reg, ↓x_dreg, ↓x_cond, ↓x_skip, ↓x_exit, ↓x_ret, ↓x_block, ↓x_loop, ↓nrm_n, ↓nrm_e, ↓nrm_r, ↓o_nil, ↓o_consN, ↓o_consS, ↓o_guardN, ↓o_guardS, ↓put_n, ↓put_s, ↓r_pu, ↓r_rd, ↓r_al, ↓r_ef, ↓g_b, ↓e_t, ↓e_c, ↓e_f, ↓e_l0, ↓e_l1, ↓e_l2, ↓e_l3, ↓e_l4, ↓e_l5, ↓e_l6, ↓e_l7, ↓e_l8, ↓e_l9, ↓e_l10, ↓e_l11, ↓e_l12, ↓e_l13, ↓es_nil, ↓es_cons, ↓getK_same, ↓getK_other, ↓ofL_nil, ↓ofL_cons, ↓p_mv, ↓p_pick, ↓p_bld, ↓p_nilck, ↓p_bin, ↓p_isnil, ↓p_not, ↓p_ext, ↓p_len, ↓len_n, ↓len_s, ↓p_fad, ↓p_iad, ↓n_b, ↓n_p, ↓n_pf, ↓n_tup, ↓n_sl, ↓n_nils, ↓n_m, ↓n_f, ↓n_i, ↓n_mp, ↓nth0, ↓nth1, ↓nth2, ↓nil_pp, ↓nil_p, ↓nil_ss, ↓nil_s, ↓neg_f, ↓i_t, ↓i_f, ↓evN_of, ↓int_n, ↓int_0, ↓m_ld, ↓m_lk, ↓m_st0, ↓m_box, ↓m_mkm, ↓m_store, ↓m_mup, ↓m_app, ↓ap_0, ↓okT, ↓okF, ↓kd1, ↓ret_r, ↓res_t1, ↓res_t2, ↓one1, ↓one2, ↓rec_t, ↓rec_f, ↓fill_nil, ↓fill_cons, ↓c_i, ↓c_b, ↓c_m, ↓c_p, ↓c_nils, ↓c_sl, ↓c_agg, ↓len_1, ↓len_2, ↓len_3, ↓len_4, ↓beq11, ↓wrs1, ↓one_i, ↓one_p, ↓one_m, ↓one_sl, ↓one_nils, ↓d_nil, ↓d_puN, ↓d_puS, ↓d_rdN, ↓d_rdS, ↓d_alN, ↓d_alS, ↓d_efN, ↓d_efS, ↓d_gpuN, ↓d_gpuS, ↓d_grdN, ↓d_grdS, ↓d_gefN, ↓d_gefS, ↓k_nil, ↓k_cons, ↓ka_nil, ↓ka_cons, ↓rev_nil, ↓rev_cons, ↓and_t, ↓and_f, ↓rrec_t, ↓rrec_f, ↓s_m, ↓s_p, ↓s_i, ↓s_nils, ↓s_sl, ↓rec_nt, ↓rec_nf, ↓rec_dt, ↓neg_tt, ↓neg_tf, ↓ex_n, ↓ex_e, ↓ex_r, ↓m_mks, ↓rec_bb, ↓o_guardTN, ↓o_guardTS, ↓res_t3, ↓one3, ↓ga_old, ↓ga_new, ↓gu_same, ↓gu_other, ↓fv20, ↓fv21, ↓fv30, ↓fv32, ↓fv40, ↓fv41, ↓fv42, ↓fv43, i_t, i_f, rec_t, rec_f, getK_same, getK_other, ofL_cons, ofL_nil, and_t, and_f, rrec_t, rrec_f, ka_nil, ka_cons, k_nil, k_cons, len_1, len_2, len_3, len_4, c_i, c_b, c_m, c_p, c_nils, c_sl, c_agg, beq11, one_i, one_p, one_m, one_sl, one_nils, s_m, s_p, s_i, s_nils, s_sl, rev_nil, rev_cons, ap_0, beq_dec, ble_dec, ne_eq, not_false_eq_true, reduceCtorEq, Bool.not_true, Bool.not_false, Nat.zero_add, Nat.reduceAdd, Nat.reduceLT, Nat.reduceEqDiff, Nat.reduceLeDiff, Nat.zero_le, decide_true, decide_false, c29, ↓a1]
  · have a1 := fun k => b_lssF (a := s) (b := 0) h1 k
    have a2 := fun k => b_gtrT (a := s) (b := 20000) (by omega) k
    simp -implicitDefEqProofs only [↓m_callf, ↓x_seq, ↓x_reg, ↓x_dreg, ↓x_cond, ↓x_skip, ↓x_exit, ↓x_ret, ↓x_block, ↓x_loop, ↓nrm_n, ↓nrm_e, ↓nrm_r, ↓o_nil, ↓o_consN, ↓o_consS, ↓o_guardN, ↓o_guardS, ↓put_n, ↓put_s, ↓r_pu, ↓r_rd, ↓r_al, ↓r_ef, ↓g_b, ↓e_t, ↓e_c, ↓e_f, ↓e_l0, ↓e_l1, ↓e_l2, ↓e_l3, ↓e_l4, ↓e_l5, ↓e_l6, ↓e_l7, ↓e_l8, ↓e_l9, ↓e_l10, ↓e_l11, ↓e_l12, ↓e_l13, ↓es_nil, ↓es_cons, ↓getK_same, ↓getK_other, ↓ofL_nil, ↓ofL_cons, ↓p_mv, ↓p_pick, ↓p_bld, ↓p_nilck, ↓p_bin, ↓p_isnil, ↓p_not, ↓p_ext, ↓p_len, ↓len_n, ↓len_s, ↓p_fad, ↓p_iad, ↓n_b, ↓n_p, ↓n_pf, ↓n_tup, ↓n_sl, ↓n_nils, ↓n_m, ↓n_f, ↓n_i, ↓n_mp, ↓nth0, ↓nth1, ↓nth2, ↓nil_pp, ↓nil_p, ↓nil_ss, ↓nil_s, ↓neg_f, ↓i_t, ↓i_f, ↓evN_of, ↓int_n, ↓int_0, ↓m_ld, ↓m_lk, ↓m_st0, ↓m_box, ↓m_mkm, ↓m_store, ↓m_mup, ↓m_app, ↓ap_0, ↓okT, ↓okF, ↓kd1, ↓ret_r, ↓res_t1, ↓res_t2, ↓one1, ↓one2, ↓rec_t, ↓rec_f, ↓fill_nil, ↓fill_cons, ↓c_i, ↓c_b, ↓c_m, ↓c_p, ↓c_nils, ↓c_sl, ↓c_agg, ↓len_1, ↓len_2, ↓len_3, ↓len_4, ↓beq11, ↓wrs1, ↓one_i, ↓one_p, ↓one_m, ↓one_sl, ↓one_nils, ↓d_nil, ↓d_puN, ↓d_puS, ↓d_rdN, ↓d_rdS, ↓d_alN, ↓d_alS, ↓d_efN, ↓d_efS, ↓d_gpuN, ↓d_gpuS, ↓d_grdN, ↓d_grdS, ↓d_gefN, ↓d_gefS, ↓k_nil, ↓k_cons, ↓ka_nil, ↓ka_cons, ↓rev_nil, ↓rev_cons, ↓and_t, ↓and_f, ↓rrec_t, ↓rrec_f, ↓s_m, ↓s_p, ↓s_i, ↓s_nils, ↓s_sl, ↓rec_nt, ↓rec_nf, ↓rec_dt, ↓neg_tt, ↓neg_tf, ↓ex_n, ↓ex_e, ↓ex_r, ↓m_mks, ↓rec_bb, ↓o_guardTN, ↓o_guardTS, ↓res_t3, ↓one3, ↓ga_old, ↓ga_new, ↓gu_same, ↓gu_other, ↓fv20, ↓fv21, ↓fv30, ↓fv32, ↓fv40, ↓fv41, ↓fv42, ↓fv43, i_t, i_f, rec_t, rec_f, getK_same, getK_other, ofL_cons, ofL_nil, and_t, and_f, rrec_t, rrec_f, ka_nil, ka_cons, k_nil, k_cons, len_1, len_2, len_3, len_4, c_i, c_b, c_m, c_p, c_nils, c_sl, c_agg, beq11, one_i, one_p, one_m, one_sl, one_nils, s_m, s_p, s_i, s_nils, s_sl, rev_nil, rev_cons, ap_0, beq_dec, ble_dec, ne_eq, not_false_eq_true, reduceCtorEq, Bool.not_true, Bool.not_false, Nat.zero_add, Nat.reduceAdd, Nat.reduceLT, Nat.reduceEqDiff, Nat.reduceLeDiff, Nat.zero_le, decide_true, decide_false, c29, ↓a1, ↓a2]

/-- A row of rows that can be read. -/
def RowsR (h : Heap) (v : AV) (rows : List AV) (fss : List (List Int)) : Prop :=
  rows.length = fss.length ∧ (∀ (j : Nat) y fl, rows[j]? = some y → fss[j]? = some fl → RowR h y fl) ∧
  ((rows = [] ∧ v = .nils) ∨ ∃ id t off cap o, v = .sl id t off rows.length cap 1 ∧ h.tr.get id = some o ∧ ∀ (j : Nat) y, rows[j]? = some y → ∀ k, rdK o t (off + j * 1) k = k y)
theorem RowsR.len {h : Heap} {v : AV} {rows : List AV} {fss : List (List Int)} (r : RowsR h v rows fss) (k : KV) : lenK v k = k (iv (fss.length : Int)) := by
  obtain ⟨h1, _, ⟨rfl, rfl⟩ | ⟨id, t, off, cap, o, rfl, ho, hr⟩⟩ := r
  · simp at h1; rw [← h1]; rfl
  · rw [← h1]; rfl

/-- Two heaps of the same blocks. -/
structure PR (h : Heap) (b p m x : Nat) (words : Int) (L Lx : List Cl) (a t f l : AV) (ls : List AV) : Prop where
  rh : RH h p m words L
  rx : RX h x words Lx a t f
  eq : L.map Cl.bk = Lx.map Cl.bk
  gl : GR h l ls
  d1 : ∀ i ∈ fpL L, i ∉ rid a ∧ i ∉ rid t ∧ i ∉ rid f
  d2 : ∀ i ∈ rid l, i ∉ fpL L ∧ i ∉ fpX Lx a t f
  fit : (used L : Int) ≤ words
  hi : b ≤ p ∧ b ≤ m ∧ b ≤ x ∧ (∀ i ∈ rid a ++ (rid t ++ rid f), b ≤ i) ∧ ∀ i ∈ rid l, b ≤ i

section
variable {h : Heap} {b p m x : Nat} {words : Int} {L Lx : List Cl} {a t f l : AV} {ls : List AV}
theorem PR.us (P : PR h b p m x words L Lx a t f l ls) : used L = used Lx := by rw [← used_bk L, P.eq, used_bk]

/-- A block is made in both. -/
theorem both (P : PR h b p m x words L Lx a t f l ls) (hs : Sc h) (hsz : words ≤ 20000) (hbn : b ≤ h.next) {tag : Int} (t1 : 1 ≤ tag) (t8 : tag ≤ 8) {v : AV} {fl : List Int} (rv : RowR h v fl) (hrv : ∀ z ∈ rid v, z < b) (hin : ∀ y ∈ fl, In y) (hfit : (used L + (1 + fl.length) : Int) ≤ words) (n : Nat) :
    ∃ h1 h2 c d a' t' f', (∀ k : KH, cal (n + 3) 30 [.p x 0 0, iv tag, v] h k = k (.tup [iv (2 * used L), .b true]) h1) ∧ (∀ k : KH, cal (n + 3) 23 [.p p 0 0, iv tag, v] h1 k = k (.tup [iv (2 * used L), .b true]) h2) ∧
      c.bk = (tag, fl) ∧ PR h2 b p m x words (L ++ [c]) (Lx ++ [d]) a' t' f' l ls ∧ Sc h2 ∧ (∀ id, id < b → h2.tr.get id = h.tr.get id) ∧ h.next ≤ h2.next ∧ ∀ id, id < b → h1.tr.get id = h.tr.get id := by
  have hx1 := P.hi.2.2.1
  have hus := P.us
  obtain ⟨h1, d, a', t', f', e1, d1, d2, rx1, hs1, k1, i1, j1⟩ := xAlloc P.rx hs t1 t8 rv (fun z hz => ⟨by have := hrv z hz; omega, fun hm => by have := hrv z hz; have := P.hi.2.2.2.1 z (by simp [hm]); omega⟩) hin (by omega) hsz (n + 1)
  obtain ⟨cx, cx1, _⟩ := P.rx.hd
  obtain ⟨cp, cp1, _⟩ := P.rh.hd
  obtain ⟨q1, q2, q3⟩ := P.rh.notSt4 cx1
  have bS : ∀ z ∈ x :: (rid a ++ rid t ++ rid f), b ≤ z := fun z hz => by
    simp only [List.mem_cons, List.mem_append] at hz
    rcases hz with rfl | (hz | hz) | hz
    · exact hx1
    · exact P.hi.2.2.2.1 z (by simp [hz])
    · exact P.hi.2.2.2.1 z (by simp [hz])
    · exact P.hi.2.2.2.1 z (by simp [hz])
  have rh1 : RH h1 p m words L := P.rh.keep k1 hs (fun hm => by
      simp only [List.mem_cons, List.mem_append] at hm
      rcases hm with h3 | (h3 | h3) | h3
      · exact q1 h3.symm
      · exact P.rx.ga.notSt cp1 h3
      · exact P.rx.gt.notSt cp1 h3
      · exact P.rx.gf.notSt cp1 h3) (fun hm => by
      simp only [List.mem_cons, List.mem_append] at hm
      rcases hm with h3 | (h3 | h3) | h3
      · exact q2 h3.symm
      · exact P.rx.ga.notMp P.rh.mp h3
      · exact P.rx.gt.notMp P.rh.mp h3
      · exact P.rx.gf.notMp P.rh.mp h3) (fun i hi hm => by
      obtain ⟨g1, g2, g3⟩ := P.d1 i hi
      simp only [List.mem_cons, List.mem_append] at hm
      rcases hm with rfl | (h3 | h3) | h3
      · exact q3 hi
      · exact g1 h3
      · exact g2 h3
      · exact g3 h3)
  have gl1 : GR h1 l ls := P.gl.keep k1 hs (fun i hi hm => by
    obtain ⟨_, g2⟩ := P.d2 i hi
    simp only [List.mem_cons, List.mem_append] at hm
    rcases hm with rfl | (h3 | h3) | h3
    · exact P.gl.notSt cx1 hi
    · exact g2 (mem_fpX.2 (.inl h3))
    · exact g2 (mem_fpX.2 (.inr (.inl h3)))
    · exact g2 (mem_fpX.2 (.inr (.inr (.inl h3)))))
  have rv1 : RowR h1 v fl := rv.keep k1 hs (fun z hz hm => by have := hrv z hz; have := bS z hm; omega)
  obtain ⟨h2, c, e2, c1, c2, rh2, hs2, k2, i2⟩ := rAlloc rh1 hs1 t1 t8 rv1 hfit hsz n
  obtain ⟨cp', cp1', _⟩ := rh1.hd
  have rx2 : RX h2 x words (Lx ++ [d]) a' t' f' := rx1.keep k2 hs1 (fun hm => by
      simp at hm
      rcases hm with h3 | h3
      · exact q1 h3
      · exact q2 h3) (fun i hi hm => by
      simp at hm
      rcases hm with rfl | rfl
      · exact rx1.notSt cp1' hi
      · exact (rx1.notMp rh1.mp).2 hi)
  have gl2 : GR h2 l ls := gl1.keep k2 hs1 (fun i hi hm => by
    simp at hm
    rcases hm with rfl | rfl
    · exact gl1.notSt cp1' hi
    · exact gl1.notMp rh1.mp hi)
  have n1 := k1.1
  have n2 := k2.1
  have ltL := (P.rh.lt hs).2.2
  have ltl := P.gl.lt hs
  have newx : ∀ z, z ∈ rid a' ++ rid t' ++ rid f' → z ∈ rid a ++ rid t ++ rid f ∨ h.next ≤ z := j1
  have ltx1 := (rx1.lt hs1).2
  refine ⟨h1, h2, c, d, a', t', f', fun k => by rw [hus]; exact e1 k, fun k => ?_, by simp [Cl.bk, c1, c2], ⟨rh2, rx2, by rw [List.map_append, List.map_append, P.eq]; simp [Cl.bk, c1, c2, d1, d2], gl2, fun i hi => ?_, fun i hi => ⟨fun hm => ?_, fun hm => ?_⟩, by rw [used_app]; simp only [used, c2]; omega, P.hi.1, P.hi.2.1, P.hi.2.2.1, fun i hi => ?_, P.hi.2.2.2.2⟩, hs2, fun id hid => ?_, by omega, fun id hid => k1.2 id (by omega) (fun hm => by have := bS id hm; omega)⟩
  · exact e2 k
  · rcases fpL_snoc.1 hi with hi | hi
    · obtain ⟨g1, g2, g3⟩ := P.d1 i hi
      have := ltL i hi
      have all : i ∉ rid a' ++ rid t' ++ rid f' := fun hm => by
        rcases newx i hm with h4 | h4
        · simp only [List.mem_append] at h4
          rcases h4 with (h4 | h4) | h4
          · exact g1 h4
          · exact g2 h4
          · exact g3 h4
        · omega
      exact ⟨fun hm => all (by simp [hm]), fun hm => all (by simp [hm]), fun hm => all (by simp [hm])⟩
    · have := i2 i hi
      exact ⟨fun hm => by have := ltx1 i (mem_fpX.2 (.inl hm)); omega, fun hm => by have := ltx1 i (mem_fpX.2 (.inr (.inl hm))); omega, fun hm => by have := ltx1 i (mem_fpX.2 (.inr (.inr (.inl hm)))); omega⟩
  · rcases fpL_snoc.1 hm with hm | hm
    · exact (P.d2 i hi).1 hm
    · have := i2 i hm; have := ltl i hi; omega
  · have g2 := (P.d2 i hi).2
    have := ltl i hi
    have fromNew : i ∈ rid a' ++ rid t' ++ rid f' → False := fun h4 => by
      rcases newx i h4 with h5 | h5
      · simp only [List.mem_append] at h5
        rcases h5 with (h5 | h5) | h5
        · exact g2 (mem_fpX.2 (.inl h5))
        · exact g2 (mem_fpX.2 (.inr (.inl h5)))
        · exact g2 (mem_fpX.2 (.inr (.inr (.inl h5))))
      · omega
    rcases mem_fpX.1 hm with hm | hm | hm | hm
    · exact fromNew (by simp [hm])
    · exact fromNew (by simp [hm])
    · exact fromNew (by simp [hm])
    · rcases rowsL_snoc.1 hm with hm | hm
      · exact g2 (mem_fpX.2 (.inr (.inr (.inr hm))))
      · have := i1 i hm; omega
  · have : i ∈ rid a' ++ rid t' ++ rid f' := by simp only [List.mem_append] at hi ⊢; rcases hi with hi | hi | hi <;> simp [hi]
    rcases newx i this with h4 | h4
    · exact P.hi.2.2.2.1 i (by simp only [List.mem_append] at h4 ⊢; rcases h4 with (h4 | h4) | h4 <;> simp [h4])
    · omega
  · rw [k2.2 id (by omega) (fun hm => by simp at hm; have := P.hi.1; have := P.hi.2.1; omega), k1.2 id (by omega) (fun hm => by have := bS id hm; omega)]
end
end Go.Proofs.Ytodlgflkhcknaaa.gcc

/- The law's pair of heaps (pair). -/
namespace Go.Proofs.Ytodlgflkhcknaaa.gcc
open Go Go.AE
set_option linter.unusedSimpArgs false
set_option maxRecDepth 100000

/-- The fields that the i-th block is made with. -/
def fieldsAt (fss : List (List Int)) (i : Nat) : List Int := match fss[i]? with
  | none => []
  | some fl => if fl.length ≤ 40 then fl else []

def FP (fr : Fr) (p x : Nat) (vt vf l : AV) (i : Nat) : Prop :=
  fr.get 1 = some vt ∧ fr.get 2 = some vf ∧ fr.get 9 = some (.p p 0 0) ∧ fr.get 10 = some (.p x 0 0) ∧ fr.get 11 = some l ∧ fr.get 12 = some (iv i)

theorem RowR.low {h h1 : Heap} {b : Nat} {v : AV} {fl : List Int} (r : RowR h v fl) (hb : ∀ z ∈ rid v, z < b) (hl : ∀ id, id < b → h1.tr.get id = h.tr.get id) : RowR h1 v fl := by
  rcases r with r | ⟨id, t, off, cap, o, rfl, ho, hr⟩
  · exact .inl r
  · exact .inr ⟨id, t, off, cap, o, rfl, by rw [hl id (hb id (by simp [rid]))]; exact ho, hr⟩
theorem RowsR.low {h h1 : Heap} {b : Nat} {v : AV} {rows : List AV} {fss : List (List Int)} (r : RowsR h v rows fss) (hb : ∀ z ∈ rid v, z < b) (hbr : ∀ y ∈ rows, ∀ z ∈ rid y, z < b) (hl : ∀ id, id < b → h1.tr.get id = h.tr.get id) : RowsR h1 v rows fss := by
  obtain ⟨h1', h2, h3⟩ := r
  refine ⟨h1', fun j y fl hy hf => (h2 j y fl hy hf).low (hbr y (List.mem_of_getElem? hy)) hl, ?_⟩
  rcases h3 with h3 | ⟨id, t, off, cap, o, rfl, ho, hr⟩
  · exact .inl h3
  · exact .inr ⟨id, t, off, cap, o, rfl, by rw [hl id (hb id (by simp [rid]))]; exact ho, hr⟩

section
variable {b p m x : Nat} {words : Int}
/-- A word is put behind the row that grows. -/
theorem PR.push {h : Heap} {L Lx : List Cl} {a t f l y : AV} {ls : List AV} (P : PR h b p m x words L Lx a t f l ls) (hs : Sc h) (hy : oneC y = true) (hl : ls.length < 1000000) :
    ∃ l' h', (∀ k, appK 1 8 l [y] 1 (addO h (.st (T.set y .e 0) 1)) k = k l' h') ∧ PR h' b p m x words L Lx a t f l' (ls ++ [y]) ∧ True ∧ Sc h' ∧ (∀ id, id < b → h'.tr.get id = h.tr.get id) ∧ h.next ≤ h'.next ∧ True := by
  have k1 := Kp.add h (.st (T.set y .e 0) 1) []
  have hs1 := hs.add (.st (T.set y .e 0) 1)
  have g1 := P.gl.keep k1 hs (fun _ _ => by simp)
  obtain ⟨l', h2, e2, g2, hs2, k2, i2⟩ := app_one (b := 8) (by omega) g1 hs1 hy hl
  have k12 : Kp h h2 (rid l) := (k1.mono (by simp)).trans k2 (fun z hz _ => hz)
  have n1 : (addO h (.st (T.set y .e 0) 1)).next = h.next + 1 := rfl
  obtain ⟨cp, cp1, _⟩ := P.rh.hd
  obtain ⟨cx, cx1, _⟩ := P.rx.hd
  have hbx : ∀ z ∈ rid l', z ∈ rid l ∨ h.next + 1 ≤ z := i2
  have lt1 := (P.rh.lt hs)
  have lt2 := (P.rx.lt hs)
  refine ⟨l', h2, e2, ⟨P.rh.keep k12 hs (P.gl.notSt cp1) (P.gl.notMp P.rh.mp) (fun i hi hm => (P.d2 i hm).1 hi), P.rx.keep k12 hs (P.gl.notSt cx1) (fun i hi hm => (P.d2 i hm).2 hi), P.eq, g2, P.d1, fun i hi => ?_, P.fit, P.hi.1, P.hi.2.1, P.hi.2.2.1, P.hi.2.2.2.1, fun i hi => ?_⟩, trivial, hs2, fun id hid => ?_, k12.1, trivial⟩
  · rcases hbx i hi with h3 | h3
    · exact P.d2 i h3
    · exact ⟨fun hm => by have := lt1.2.2 i hm; omega, fun hm => by have := lt2.2 i hm; omega⟩
  · rcases hbx i hi with h3 | h3
    · exact P.hi.2.2.2.2 i h3
    · have := lt1.1; have := P.hi.1; omega
  · exact k12.2 id (by have := lt1.1; have := P.hi.1; omega) (fun hm => by have := P.hi.2.2.2.2 id hm; omega)
theorem stepP {h : Heap} {L Lx : List Cl} {a t f l vt vf : AV} {ls rows : List AV} {tags : List Int} {fss : List (List Int)} (P : PR h b p m x words L Lx a t f l ls) (hs : Sc h) (h0 : 0 ≤ words) (hsz : words ≤ 20000) (hbn : b ≤ h.next)
    (rt : RowR h vt tags) (hrt : ∀ z ∈ rid vt, z < b) (rf : RowsR h vf rows fss) (hrf : ∀ z ∈ rid vf, z < b) (hrr : ∀ y ∈ rows, ∀ z ∈ rid y, z < b) (hin : ∀ fl ∈ fss, ∀ y ∈ fl, In y) {i : Nat} {tag : Int} (hi : tags[i]? = some tag) (hN : tags.length ≤ 60) (hls : ls.length ≤ i) {fr : Fr} (F : FP fr p x vt vf l i) (n fu : Nat) :
    ∃ fr' h' L' Lx' a' t' f' l' ls', (∀ k, iter (exec (cal (n + 3)) c5L0) (fu + 1) fr h k = iter (exec (cal (n + 3)) c5L0) fu fr' h' k) ∧ FP fr' p x vt vf l' (i + 1) ∧ PR h' b p m x words L' Lx' a' t' f' l' ls' ∧ ls'.length ≤ i + 1 ∧ Sc h' ∧ (∀ id, id < b → h'.tr.get id = h.tr.get id) ∧ h.next ≤ h'.next := by
  obtain ⟨f1, f2, f9, f10, f11, f12⟩ := F
  have hit : i < tags.length := (List.getElem?_eq_some_iff.1 hi).1
  obtain ⟨it, tt, ot, ct, bt, hvt, hot, hrt'⟩ := rt.elem hi
  have a1 := fun k => b_lssT (a := (i : Int)) (b := (tags.length : Int)) (by omega) k
  have a2 := fun k => b_add (a := (i : Int)) (b := 1) (by omega) (by omega) k
  have a3 : decide (i + 1 ≤ tags.length) = true := decide_eq_true hit
  have hlf := rf.len
  have hlt := rt.len
  subst hvt
  by_cases hif : i < fss.length
  · have g1 := fun k => b_lssT (a := (i : Int)) (b := (fss.length : Int)) (by omega) k
    obtain ⟨rl, rr, rs⟩ := rf
    obtain ⟨y, hy⟩ : ∃ y, rows[i]? = some y := ⟨_, List.getElem?_eq_getElem (by omega)⟩
    obtain ⟨fl, hfl'⟩ : ∃ fl, fss[i]? = some fl := ⟨_, List.getElem?_eq_getElem hif⟩
    have ry := rr i y fl hy hfl'
    have hyl := ry.len
    obtain ⟨ir, tr, offr, capr, br, hvf, hbr, hbrr⟩ : ∃ id t off cap o, vf = .sl id t off rows.length cap 1 ∧ h.tr.get id = some o ∧ ∀ (j : Nat) y, rows[j]? = some y → ∀ k, rdK o t (off + j * 1) k = k y := by
      rcases rs with ⟨h1, _⟩ | h1
      · rw [h1] at hy; simp at hy
      · exact h1
    have g2 : decide (i + 1 ≤ rows.length) = true := decide_eq_true (by omega)
    have g3 := hbrr i y hy
    have g4 : ∀ k : KV, lenK (.sl ir tr offr rows.length capr 1) k = k (iv (fss.length : Int)) := fun k => by rw [← rl]; rfl
    subst hvf
    by_cases h40 : fl.length ≤ 40
    · have g5 := fun k => b_leqT (a := (fl.length : Int)) (b := 40) (by omega) k
      have hw1 : RowR h y fl := ry
      have hw2 : ∀ z ∈ rid y, z < b := hrr y (List.mem_of_getElem? hy)
      have hw3 : ∀ u ∈ fl, In u := hin fl (List.mem_of_getElem? hfl')
      by_cases hok : 1 ≤ tag ∧ tag ≤ 8 ∧ (used L + (1 + (fl).length) : Int) ≤ words
      · obtain ⟨t1, t8, hfit⟩ := hok
        obtain ⟨h1, h2, c, d, a', t', f', e1, e2, _, P2, hs2, lo2, n2, lo1⟩ := both P hs hsz hbn t1 t8 hw1 hw2 hw3 hfit n
        obtain ⟨l', h3, e3, P3, hl3, hs3, lo3, n3, o3⟩ := P2.push hs2 (y := iv (2 * (used L : Int))) rfl (by omega)
        apply Exists.intro
        refine ⟨h3, L ++ [c], Lx ++ [d], a', t', f', l', ls ++ [iv (2 * (used L : Int))], ?_, ?_, P3, by simp; omega, hs3, fun z hz => by rw [lo3 z hz, lo2 z hz], by omega⟩
        · intro k
          have hot2 : h1.tr.get it = some bt := by rw [lo1 it (hrt it (by simp [rid]))]; exact hot
          rw [it_succ]
          simp -implicitDefEqProofs only [↓m_callf, ↓x_seq, ↓x_reg, ↓x_dreg, ↓x_cond, ↓x_skip, ↓x_exit, ↓x_ret, ↓x_block, ↓x_loop, ↓nrm_n, ↓nrm_e, ↓nrm_r, ↓o_nil, ↓o_consN, ↓o_consS, ↓o_guardN, ↓o_guardS, ↓put_n, ↓put_s, ↓r_pu, ↓r_rd, ↓r_al, ↓r_ef, ↓g_b, ↓e_t, ↓e_c, ↓e_f, ↓e_l0, ↓e_l1, ↓e_l2, ↓e_l3, ↓e_l4, ↓e_l5, ↓e_l6, ↓e_l7, ↓e_l8, ↓e_l9, ↓e_l10, ↓e_l11, ↓e_l12, ↓e_l13, ↓es_nil, ↓es_cons, ↓getK_same, ↓getK_other, ↓ofL_nil, ↓ofL_cons, ↓p_mv, ↓p_pick, ↓p_bld, ↓p_nilck, ↓p_bin, ↓p_isnil, ↓p_not, ↓p_ext, ↓p_len, ↓len_n, ↓len_s, ↓p_fad, ↓p_iad, ↓n_b, ↓n_p, ↓n_pf, ↓n_tup, ↓n_sl, ↓n_nils, ↓n_m, ↓n_f, ↓n_i, ↓n_mp, ↓nth0, ↓nth1, ↓nth2, ↓nil_pp, ↓nil_p, ↓nil_ss, ↓nil_s, ↓neg_f, ↓i_t, ↓i_f, ↓evN_of, ↓int_n, ↓int_0, ↓m_ld, ↓m_lk, ↓m_st0, ↓m_box, ↓m_mkm, ↓m_store, ↓m_mup, ↓m_app, ↓ap_0, ↓okT, ↓okF, ↓kd1, ↓ret_r, ↓res_t1, ↓res_t2, ↓one1, ↓one2, ↓rec_t, ↓rec_f, ↓fill_nil, ↓fill_cons, ↓c_i, ↓c_b, ↓c_m, ↓c_p, ↓c_nils, ↓c_sl, ↓c_agg, ↓len_1, ↓len_2, ↓len_3, ↓len_4, ↓beq11, ↓wrs1, ↓one_i, ↓one_p, ↓one_m, ↓one_sl, ↓one_nils, ↓d_nil, ↓d_puN, ↓d_puS, ↓d_rdN, ↓d_rdS, ↓d_alN, ↓d_alS, ↓d_efN, ↓d_efS, ↓d_gpuN, ↓d_gpuS, ↓d_grdN, ↓d_grdS, ↓d_gefN, ↓d_gefS, ↓k_nil, ↓k_cons, ↓ka_nil, ↓ka_cons, ↓rev_nil, ↓rev_cons, ↓and_t, ↓and_f, ↓rrec_t, ↓rrec_f, ↓s_m, ↓s_p, ↓s_i, ↓s_nils, ↓s_sl, ↓rec_nt, ↓rec_nf, ↓rec_dt, ↓neg_tt, ↓neg_tf, ↓ex_n, ↓ex_e, ↓ex_r, ↓m_mks, ↓rec_bb, ↓o_guardTN, ↓o_guardTS, ↓res_t3, ↓one3, ↓ga_old, ↓ga_new, ↓gu_same, ↓gu_other, ↓fv20, ↓fv21, ↓fv30, ↓fv32, ↓fv40, ↓fv41, ↓fv42, ↓fv43, i_t, i_f, rec_t, rec_f, getK_same, getK_other, ofL_cons, ofL_nil, and_t, and_f, rrec_t, rrec_f, ka_nil, ka_cons, k_nil, k_cons, len_1, len_2, len_3, len_4, c_i, c_b, c_m, c_p, c_nils, c_sl, c_agg, beq11, one_i, one_p, one_m, one_sl, one_nils, s_m, s_p, s_i, s_nils, s_sl, rev_nil, rev_cons, ap_0, beq_dec, ble_dec, ne_eq, not_false_eq_true, reduceCtorEq, Bool.not_true, Bool.not_false, Nat.zero_add, Nat.reduceAdd, Nat.reduceLT, Nat.reduceEqDiff, Nat.reduceLeDiff, Nat.zero_le, decide_true, decide_false, c5L0, ↓t_get f1, ↓t_get f2, ↓t_get f9, ↓t_get f10, ↓t_get f11, ↓t_get f12, ↓hlf, ↓len_s, ↓a1, ↓a2, a3, ↓t_get hot, ↓t_get hot2, ↓hrt', ↓g1, ↓g4, g2, ↓g3, ↓t_get hbr, ↓hyl, ↓g5, ↓e1, ↓e2, ↓bsl1, ↓bslK_of, ↓src_new, ↓e3]
          rfl
        · refine ⟨?_, ?_, ?_, ?_, ?_, ?_⟩ <;> simp only [get_same, get_other, ne_eq, Nat.reduceEqDiff, not_false_eq_true, f1, f2, f9, f10, f11, f12]
          rfl
      · apply Exists.intro
        refine ⟨h, L, Lx, a, t, f, l, ls, ?_, ?_, P, by omega, hs, fun z hz => rfl, Nat.le_refl _⟩
        · intro k
          have e1 := fun k => xAllocNo P.rx hw1 (by first | omega | simp) (tag := tag) (by have := P.us; omega) (n + 1) k
          have e2 := fun k => rAllocNo P.rh h0 hw1 (by first | omega | simp) hsz P.fit (tag := tag) (by omega) n k
          rw [it_succ]
          simp -implicitDefEqProofs only [↓m_callf, ↓x_seq, ↓x_reg, ↓x_dreg, ↓x_cond, ↓x_skip, ↓x_exit, ↓x_ret, ↓x_block, ↓x_loop, ↓nrm_n, ↓nrm_e, ↓nrm_r, ↓o_nil, ↓o_consN, ↓o_consS, ↓o_guardN, ↓o_guardS, ↓put_n, ↓put_s, ↓r_pu, ↓r_rd, ↓r_al, ↓r_ef, ↓g_b, ↓e_t, ↓e_c, ↓e_f, ↓e_l0, ↓e_l1, ↓e_l2, ↓e_l3, ↓e_l4, ↓e_l5, ↓e_l6, ↓e_l7, ↓e_l8, ↓e_l9, ↓e_l10, ↓e_l11, ↓e_l12, ↓e_l13, ↓es_nil, ↓es_cons, ↓getK_same, ↓getK_other, ↓ofL_nil, ↓ofL_cons, ↓p_mv, ↓p_pick, ↓p_bld, ↓p_nilck, ↓p_bin, ↓p_isnil, ↓p_not, ↓p_ext, ↓p_len, ↓len_n, ↓len_s, ↓p_fad, ↓p_iad, ↓n_b, ↓n_p, ↓n_pf, ↓n_tup, ↓n_sl, ↓n_nils, ↓n_m, ↓n_f, ↓n_i, ↓n_mp, ↓nth0, ↓nth1, ↓nth2, ↓nil_pp, ↓nil_p, ↓nil_ss, ↓nil_s, ↓neg_f, ↓i_t, ↓i_f, ↓evN_of, ↓int_n, ↓int_0, ↓m_ld, ↓m_lk, ↓m_st0, ↓m_box, ↓m_mkm, ↓m_store, ↓m_mup, ↓m_app, ↓ap_0, ↓okT, ↓okF, ↓kd1, ↓ret_r, ↓res_t1, ↓res_t2, ↓one1, ↓one2, ↓rec_t, ↓rec_f, ↓fill_nil, ↓fill_cons, ↓c_i, ↓c_b, ↓c_m, ↓c_p, ↓c_nils, ↓c_sl, ↓c_agg, ↓len_1, ↓len_2, ↓len_3, ↓len_4, ↓beq11, ↓wrs1, ↓one_i, ↓one_p, ↓one_m, ↓one_sl, ↓one_nils, ↓d_nil, ↓d_puN, ↓d_puS, ↓d_rdN, ↓d_rdS, ↓d_alN, ↓d_alS, ↓d_efN, ↓d_efS, ↓d_gpuN, ↓d_gpuS, ↓d_grdN, ↓d_grdS, ↓d_gefN, ↓d_gefS, ↓k_nil, ↓k_cons, ↓ka_nil, ↓ka_cons, ↓rev_nil, ↓rev_cons, ↓and_t, ↓and_f, ↓rrec_t, ↓rrec_f, ↓s_m, ↓s_p, ↓s_i, ↓s_nils, ↓s_sl, ↓rec_nt, ↓rec_nf, ↓rec_dt, ↓neg_tt, ↓neg_tf, ↓ex_n, ↓ex_e, ↓ex_r, ↓m_mks, ↓rec_bb, ↓o_guardTN, ↓o_guardTS, ↓res_t3, ↓one3, ↓ga_old, ↓ga_new, ↓gu_same, ↓gu_other, ↓fv20, ↓fv21, ↓fv30, ↓fv32, ↓fv40, ↓fv41, ↓fv42, ↓fv43, i_t, i_f, rec_t, rec_f, getK_same, getK_other, ofL_cons, ofL_nil, and_t, and_f, rrec_t, rrec_f, ka_nil, ka_cons, k_nil, k_cons, len_1, len_2, len_3, len_4, c_i, c_b, c_m, c_p, c_nils, c_sl, c_agg, beq11, one_i, one_p, one_m, one_sl, one_nils, s_m, s_p, s_i, s_nils, s_sl, rev_nil, rev_cons, ap_0, beq_dec, ble_dec, ne_eq, not_false_eq_true, reduceCtorEq, Bool.not_true, Bool.not_false, Nat.zero_add, Nat.reduceAdd, Nat.reduceLT, Nat.reduceEqDiff, Nat.reduceLeDiff, Nat.zero_le, decide_true, decide_false, c5L0, ↓t_get f1, ↓t_get f2, ↓t_get f9, ↓t_get f10, ↓t_get f11, ↓t_get f12, ↓hlf, ↓len_s, ↓a1, ↓a2, a3, ↓t_get hot, ↓hrt', ↓g1, ↓g4, g2, ↓g3, ↓t_get hbr, ↓hyl, ↓g5, ↓e1, ↓e2]
          rfl
        · refine ⟨?_, ?_, ?_, ?_, ?_, ?_⟩ <;> simp only [get_same, get_other, ne_eq, Nat.reduceEqDiff, not_false_eq_true, f1, f2, f9, f10, f11, f12]
          rfl
    · have g5 := fun k => b_leqF (a := (fl.length : Int)) (b := 40) (by omega) k
      have hw1 : RowR h .nils [] := .inl ⟨rfl, rfl⟩
      have hw2 : ∀ z ∈ rid AV.nils, z < b := fun z hz => by simp [rid] at hz
      have hw3 : ∀ u ∈ ([] : List Int), In u := fun u hu => by simp at hu
      by_cases hok : 1 ≤ tag ∧ tag ≤ 8 ∧ (used L + (1 + ([] : List Int).length) : Int) ≤ words
      · obtain ⟨t1, t8, hfit⟩ := hok
        obtain ⟨h1, h2, c, d, a', t', f', e1, e2, _, P2, hs2, lo2, n2, lo1⟩ := both P hs hsz hbn t1 t8 hw1 hw2 hw3 hfit n
        obtain ⟨l', h3, e3, P3, hl3, hs3, lo3, n3, o3⟩ := P2.push hs2 (y := iv (2 * (used L : Int))) rfl (by omega)
        apply Exists.intro
        refine ⟨h3, L ++ [c], Lx ++ [d], a', t', f', l', ls ++ [iv (2 * (used L : Int))], ?_, ?_, P3, by simp; omega, hs3, fun z hz => by rw [lo3 z hz, lo2 z hz], by omega⟩
        · intro k
          have hot2 : h1.tr.get it = some bt := by rw [lo1 it (hrt it (by simp [rid]))]; exact hot
          rw [it_succ]
          simp -implicitDefEqProofs only [↓m_callf, ↓x_seq, ↓x_reg, ↓x_dreg, ↓x_cond, ↓x_skip, ↓x_exit, ↓x_ret, ↓x_block, ↓x_loop, ↓nrm_n, ↓nrm_e, ↓nrm_r, ↓o_nil, ↓o_consN, ↓o_consS, ↓o_guardN, ↓o_guardS, ↓put_n, ↓put_s, ↓r_pu, ↓r_rd, ↓r_al, ↓r_ef, ↓g_b, ↓e_t, ↓e_c, ↓e_f, ↓e_l0, ↓e_l1, ↓e_l2, ↓e_l3, ↓e_l4, ↓e_l5, ↓e_l6, ↓e_l7, ↓e_l8, ↓e_l9, ↓e_l10, ↓e_l11, ↓e_l12, ↓e_l13, ↓es_nil, ↓es_cons, ↓getK_same, ↓getK_other, ↓ofL_nil, ↓ofL_cons, ↓p_mv, ↓p_pick, ↓p_bld, ↓p_nilck, ↓p_bin, ↓p_isnil, ↓p_not, ↓p_ext, ↓p_len, ↓len_n, ↓len_s, ↓p_fad, ↓p_iad, ↓n_b, ↓n_p, ↓n_pf, ↓n_tup, ↓n_sl, ↓n_nils, ↓n_m, ↓n_f, ↓n_i, ↓n_mp, ↓nth0, ↓nth1, ↓nth2, ↓nil_pp, ↓nil_p, ↓nil_ss, ↓nil_s, ↓neg_f, ↓i_t, ↓i_f, ↓evN_of, ↓int_n, ↓int_0, ↓m_ld, ↓m_lk, ↓m_st0, ↓m_box, ↓m_mkm, ↓m_store, ↓m_mup, ↓m_app, ↓ap_0, ↓okT, ↓okF, ↓kd1, ↓ret_r, ↓res_t1, ↓res_t2, ↓one1, ↓one2, ↓rec_t, ↓rec_f, ↓fill_nil, ↓fill_cons, ↓c_i, ↓c_b, ↓c_m, ↓c_p, ↓c_nils, ↓c_sl, ↓c_agg, ↓len_1, ↓len_2, ↓len_3, ↓len_4, ↓beq11, ↓wrs1, ↓one_i, ↓one_p, ↓one_m, ↓one_sl, ↓one_nils, ↓d_nil, ↓d_puN, ↓d_puS, ↓d_rdN, ↓d_rdS, ↓d_alN, ↓d_alS, ↓d_efN, ↓d_efS, ↓d_gpuN, ↓d_gpuS, ↓d_grdN, ↓d_grdS, ↓d_gefN, ↓d_gefS, ↓k_nil, ↓k_cons, ↓ka_nil, ↓ka_cons, ↓rev_nil, ↓rev_cons, ↓and_t, ↓and_f, ↓rrec_t, ↓rrec_f, ↓s_m, ↓s_p, ↓s_i, ↓s_nils, ↓s_sl, ↓rec_nt, ↓rec_nf, ↓rec_dt, ↓neg_tt, ↓neg_tf, ↓ex_n, ↓ex_e, ↓ex_r, ↓m_mks, ↓rec_bb, ↓o_guardTN, ↓o_guardTS, ↓res_t3, ↓one3, ↓ga_old, ↓ga_new, ↓gu_same, ↓gu_other, ↓fv20, ↓fv21, ↓fv30, ↓fv32, ↓fv40, ↓fv41, ↓fv42, ↓fv43, i_t, i_f, rec_t, rec_f, getK_same, getK_other, ofL_cons, ofL_nil, and_t, and_f, rrec_t, rrec_f, ka_nil, ka_cons, k_nil, k_cons, len_1, len_2, len_3, len_4, c_i, c_b, c_m, c_p, c_nils, c_sl, c_agg, beq11, one_i, one_p, one_m, one_sl, one_nils, s_m, s_p, s_i, s_nils, s_sl, rev_nil, rev_cons, ap_0, beq_dec, ble_dec, ne_eq, not_false_eq_true, reduceCtorEq, Bool.not_true, Bool.not_false, Nat.zero_add, Nat.reduceAdd, Nat.reduceLT, Nat.reduceEqDiff, Nat.reduceLeDiff, Nat.zero_le, decide_true, decide_false, c5L0, ↓t_get f1, ↓t_get f2, ↓t_get f9, ↓t_get f10, ↓t_get f11, ↓t_get f12, ↓hlf, ↓len_s, ↓a1, ↓a2, a3, ↓t_get hot, ↓t_get hot2, ↓hrt', ↓g1, ↓g4, g2, ↓g3, ↓t_get hbr, ↓hyl, ↓g5, ↓e1, ↓e2, ↓bsl1, ↓bslK_of, ↓src_new, ↓e3]
          rfl
        · refine ⟨?_, ?_, ?_, ?_, ?_, ?_⟩ <;> simp only [get_same, get_other, ne_eq, Nat.reduceEqDiff, not_false_eq_true, f1, f2, f9, f10, f11, f12]
          rfl
      · apply Exists.intro
        refine ⟨h, L, Lx, a, t, f, l, ls, ?_, ?_, P, by omega, hs, fun z hz => rfl, Nat.le_refl _⟩
        · intro k
          have e1 := fun k => xAllocNo P.rx hw1 (by first | omega | simp) (tag := tag) (by have := P.us; omega) (n + 1) k
          have e2 := fun k => rAllocNo P.rh h0 hw1 (by first | omega | simp) hsz P.fit (tag := tag) (by omega) n k
          rw [it_succ]
          simp -implicitDefEqProofs only [↓m_callf, ↓x_seq, ↓x_reg, ↓x_dreg, ↓x_cond, ↓x_skip, ↓x_exit, ↓x_ret, ↓x_block, ↓x_loop, ↓nrm_n, ↓nrm_e, ↓nrm_r, ↓o_nil, ↓o_consN, ↓o_consS, ↓o_guardN, ↓o_guardS, ↓put_n, ↓put_s, ↓r_pu, ↓r_rd, ↓r_al, ↓r_ef, ↓g_b, ↓e_t, ↓e_c, ↓e_f, ↓e_l0, ↓e_l1, ↓e_l2, ↓e_l3, ↓e_l4, ↓e_l5, ↓e_l6, ↓e_l7, ↓e_l8, ↓e_l9, ↓e_l10, ↓e_l11, ↓e_l12, ↓e_l13, ↓es_nil, ↓es_cons, ↓getK_same, ↓getK_other, ↓ofL_nil, ↓ofL_cons, ↓p_mv, ↓p_pick, ↓p_bld, ↓p_nilck, ↓p_bin, ↓p_isnil, ↓p_not, ↓p_ext, ↓p_len, ↓len_n, ↓len_s, ↓p_fad, ↓p_iad, ↓n_b, ↓n_p, ↓n_pf, ↓n_tup, ↓n_sl, ↓n_nils, ↓n_m, ↓n_f, ↓n_i, ↓n_mp, ↓nth0, ↓nth1, ↓nth2, ↓nil_pp, ↓nil_p, ↓nil_ss, ↓nil_s, ↓neg_f, ↓i_t, ↓i_f, ↓evN_of, ↓int_n, ↓int_0, ↓m_ld, ↓m_lk, ↓m_st0, ↓m_box, ↓m_mkm, ↓m_store, ↓m_mup, ↓m_app, ↓ap_0, ↓okT, ↓okF, ↓kd1, ↓ret_r, ↓res_t1, ↓res_t2, ↓one1, ↓one2, ↓rec_t, ↓rec_f, ↓fill_nil, ↓fill_cons, ↓c_i, ↓c_b, ↓c_m, ↓c_p, ↓c_nils, ↓c_sl, ↓c_agg, ↓len_1, ↓len_2, ↓len_3, ↓len_4, ↓beq11, ↓wrs1, ↓one_i, ↓one_p, ↓one_m, ↓one_sl, ↓one_nils, ↓d_nil, ↓d_puN, ↓d_puS, ↓d_rdN, ↓d_rdS, ↓d_alN, ↓d_alS, ↓d_efN, ↓d_efS, ↓d_gpuN, ↓d_gpuS, ↓d_grdN, ↓d_grdS, ↓d_gefN, ↓d_gefS, ↓k_nil, ↓k_cons, ↓ka_nil, ↓ka_cons, ↓rev_nil, ↓rev_cons, ↓and_t, ↓and_f, ↓rrec_t, ↓rrec_f, ↓s_m, ↓s_p, ↓s_i, ↓s_nils, ↓s_sl, ↓rec_nt, ↓rec_nf, ↓rec_dt, ↓neg_tt, ↓neg_tf, ↓ex_n, ↓ex_e, ↓ex_r, ↓m_mks, ↓rec_bb, ↓o_guardTN, ↓o_guardTS, ↓res_t3, ↓one3, ↓ga_old, ↓ga_new, ↓gu_same, ↓gu_other, ↓fv20, ↓fv21, ↓fv30, ↓fv32, ↓fv40, ↓fv41, ↓fv42, ↓fv43, i_t, i_f, rec_t, rec_f, getK_same, getK_other, ofL_cons, ofL_nil, and_t, and_f, rrec_t, rrec_f, ka_nil, ka_cons, k_nil, k_cons, len_1, len_2, len_3, len_4, c_i, c_b, c_m, c_p, c_nils, c_sl, c_agg, beq11, one_i, one_p, one_m, one_sl, one_nils, s_m, s_p, s_i, s_nils, s_sl, rev_nil, rev_cons, ap_0, beq_dec, ble_dec, ne_eq, not_false_eq_true, reduceCtorEq, Bool.not_true, Bool.not_false, Nat.zero_add, Nat.reduceAdd, Nat.reduceLT, Nat.reduceEqDiff, Nat.reduceLeDiff, Nat.zero_le, decide_true, decide_false, c5L0, ↓t_get f1, ↓t_get f2, ↓t_get f9, ↓t_get f10, ↓t_get f11, ↓t_get f12, ↓hlf, ↓len_s, ↓a1, ↓a2, a3, ↓t_get hot, ↓hrt', ↓g1, ↓g4, g2, ↓g3, ↓t_get hbr, ↓hyl, ↓g5, ↓e1, ↓e2]
          rfl
        · refine ⟨?_, ?_, ?_, ?_, ?_, ?_⟩ <;> simp only [get_same, get_other, ne_eq, Nat.reduceEqDiff, not_false_eq_true, f1, f2, f9, f10, f11, f12]
          rfl
  · have g1 := fun k => b_lssF (a := (i : Int)) (b := (fss.length : Int)) (by omega) k
    have hw1 : RowR h .nils [] := .inl ⟨rfl, rfl⟩
    have hw2 : ∀ z ∈ rid AV.nils, z < b := fun z hz => by simp [rid] at hz
    have hw3 : ∀ u ∈ ([] : List Int), In u := fun u hu => by simp at hu
    by_cases hok : 1 ≤ tag ∧ tag ≤ 8 ∧ (used L + (1 + ([] : List Int).length) : Int) ≤ words
    · obtain ⟨t1, t8, hfit⟩ := hok
      obtain ⟨h1, h2, c, d, a', t', f', e1, e2, _, P2, hs2, lo2, n2, lo1⟩ := both P hs hsz hbn t1 t8 hw1 hw2 hw3 hfit n
      obtain ⟨l', h3, e3, P3, hl3, hs3, lo3, n3, o3⟩ := P2.push hs2 (y := iv (2 * (used L : Int))) rfl (by omega)
      apply Exists.intro
      refine ⟨h3, L ++ [c], Lx ++ [d], a', t', f', l', ls ++ [iv (2 * (used L : Int))], ?_, ?_, P3, by simp; omega, hs3, fun z hz => by rw [lo3 z hz, lo2 z hz], by omega⟩
      · intro k
        have hot2 : h1.tr.get it = some bt := by rw [lo1 it (hrt it (by simp [rid]))]; exact hot
        rw [it_succ]
        simp -implicitDefEqProofs only [↓m_callf, ↓x_seq, ↓x_reg, ↓x_dreg, ↓x_cond, ↓x_skip, ↓x_exit, ↓x_ret, ↓x_block, ↓x_loop, ↓nrm_n, ↓nrm_e, ↓nrm_r, ↓o_nil, ↓o_consN, ↓o_consS, ↓o_guardN, ↓o_guardS, ↓put_n, ↓put_s, ↓r_pu, ↓r_rd, ↓r_al, ↓r_ef, ↓g_b, ↓e_t, ↓e_c, ↓e_f, ↓e_l0, ↓e_l1, ↓e_l2, ↓e_l3, ↓e_l4, ↓e_l5, ↓e_l6, ↓e_l7, ↓e_l8, ↓e_l9, ↓e_l10, ↓e_l11, ↓e_l12, ↓e_l13, ↓es_nil, ↓es_cons, ↓getK_same, ↓getK_other, ↓ofL_nil, ↓ofL_cons, ↓p_mv, ↓p_pick, ↓p_bld, ↓p_nilck, ↓p_bin, ↓p_isnil, ↓p_not, ↓p_ext, ↓p_len, ↓len_n, ↓len_s, ↓p_fad, ↓p_iad, ↓n_b, ↓n_p, ↓n_pf, ↓n_tup, ↓n_sl, ↓n_nils, ↓n_m, ↓n_f, ↓n_i, ↓n_mp, ↓nth0, ↓nth1, ↓nth2, ↓nil_pp, ↓nil_p, ↓nil_ss, ↓nil_s, ↓neg_f, ↓i_t, ↓i_f, ↓evN_of, ↓int_n, ↓int_0, ↓m_ld, ↓m_lk, ↓m_st0, ↓m_box, ↓m_mkm, ↓m_store, ↓m_mup, ↓m_app, ↓ap_0, ↓okT, ↓okF, ↓kd1, ↓ret_r, ↓res_t1, ↓res_t2, ↓one1, ↓one2, ↓rec_t, ↓rec_f, ↓fill_nil, ↓fill_cons, ↓c_i, ↓c_b, ↓c_m, ↓c_p, ↓c_nils, ↓c_sl, ↓c_agg, ↓len_1, ↓len_2, ↓len_3, ↓len_4, ↓beq11, ↓wrs1, ↓one_i, ↓one_p, ↓one_m, ↓one_sl, ↓one_nils, ↓d_nil, ↓d_puN, ↓d_puS, ↓d_rdN, ↓d_rdS, ↓d_alN, ↓d_alS, ↓d_efN, ↓d_efS, ↓d_gpuN, ↓d_gpuS, ↓d_grdN, ↓d_grdS, ↓d_gefN, ↓d_gefS, ↓k_nil, ↓k_cons, ↓ka_nil, ↓ka_cons, ↓rev_nil, ↓rev_cons, ↓and_t, ↓and_f, ↓rrec_t, ↓rrec_f, ↓s_m, ↓s_p, ↓s_i, ↓s_nils, ↓s_sl, ↓rec_nt, ↓rec_nf, ↓rec_dt, ↓neg_tt, ↓neg_tf, ↓ex_n, ↓ex_e, ↓ex_r, ↓m_mks, ↓rec_bb, ↓o_guardTN, ↓o_guardTS, ↓res_t3, ↓one3, ↓ga_old, ↓ga_new, ↓gu_same, ↓gu_other, ↓fv20, ↓fv21, ↓fv30, ↓fv32, ↓fv40, ↓fv41, ↓fv42, ↓fv43, i_t, i_f, rec_t, rec_f, getK_same, getK_other, ofL_cons, ofL_nil, and_t, and_f, rrec_t, rrec_f, ka_nil, ka_cons, k_nil, k_cons, len_1, len_2, len_3, len_4, c_i, c_b, c_m, c_p, c_nils, c_sl, c_agg, beq11, one_i, one_p, one_m, one_sl, one_nils, s_m, s_p, s_i, s_nils, s_sl, rev_nil, rev_cons, ap_0, beq_dec, ble_dec, ne_eq, not_false_eq_true, reduceCtorEq, Bool.not_true, Bool.not_false, Nat.zero_add, Nat.reduceAdd, Nat.reduceLT, Nat.reduceEqDiff, Nat.reduceLeDiff, Nat.zero_le, decide_true, decide_false, c5L0, ↓t_get f1, ↓t_get f2, ↓t_get f9, ↓t_get f10, ↓t_get f11, ↓t_get f12, ↓hlf, ↓len_s, ↓a1, ↓a2, a3, ↓t_get hot, ↓t_get hot2, ↓hrt', ↓g1, ↓e1, ↓e2, ↓bsl1, ↓bslK_of, ↓src_new, ↓e3]
        rfl
      · refine ⟨?_, ?_, ?_, ?_, ?_, ?_⟩ <;> simp only [get_same, get_other, ne_eq, Nat.reduceEqDiff, not_false_eq_true, f1, f2, f9, f10, f11, f12]
        rfl
    · apply Exists.intro
      refine ⟨h, L, Lx, a, t, f, l, ls, ?_, ?_, P, by omega, hs, fun z hz => rfl, Nat.le_refl _⟩
      · intro k
        have e1 := fun k => xAllocNo P.rx hw1 (by first | omega | simp) (tag := tag) (by have := P.us; omega) (n + 1) k
        have e2 := fun k => rAllocNo P.rh h0 hw1 (by first | omega | simp) hsz P.fit (tag := tag) (by omega) n k
        rw [it_succ]
        simp -implicitDefEqProofs only [↓m_callf, ↓x_seq, ↓x_reg, ↓x_dreg, ↓x_cond, ↓x_skip, ↓x_exit, ↓x_ret, ↓x_block, ↓x_loop, ↓nrm_n, ↓nrm_e, ↓nrm_r, ↓o_nil, ↓o_consN, ↓o_consS, ↓o_guardN, ↓o_guardS, ↓put_n, ↓put_s, ↓r_pu, ↓r_rd, ↓r_al, ↓r_ef, ↓g_b, ↓e_t, ↓e_c, ↓e_f, ↓e_l0, ↓e_l1, ↓e_l2, ↓e_l3, ↓e_l4, ↓e_l5, ↓e_l6, ↓e_l7, ↓e_l8, ↓e_l9, ↓e_l10, ↓e_l11, ↓e_l12, ↓e_l13, ↓es_nil, ↓es_cons, ↓getK_same, ↓getK_other, ↓ofL_nil, ↓ofL_cons, ↓p_mv, ↓p_pick, ↓p_bld, ↓p_nilck, ↓p_bin, ↓p_isnil, ↓p_not, ↓p_ext, ↓p_len, ↓len_n, ↓len_s, ↓p_fad, ↓p_iad, ↓n_b, ↓n_p, ↓n_pf, ↓n_tup, ↓n_sl, ↓n_nils, ↓n_m, ↓n_f, ↓n_i, ↓n_mp, ↓nth0, ↓nth1, ↓nth2, ↓nil_pp, ↓nil_p, ↓nil_ss, ↓nil_s, ↓neg_f, ↓i_t, ↓i_f, ↓evN_of, ↓int_n, ↓int_0, ↓m_ld, ↓m_lk, ↓m_st0, ↓m_box, ↓m_mkm, ↓m_store, ↓m_mup, ↓m_app, ↓ap_0, ↓okT, ↓okF, ↓kd1, ↓ret_r, ↓res_t1, ↓res_t2, ↓one1, ↓one2, ↓rec_t, ↓rec_f, ↓fill_nil, ↓fill_cons, ↓c_i, ↓c_b, ↓c_m, ↓c_p, ↓c_nils, ↓c_sl, ↓c_agg, ↓len_1, ↓len_2, ↓len_3, ↓len_4, ↓beq11, ↓wrs1, ↓one_i, ↓one_p, ↓one_m, ↓one_sl, ↓one_nils, ↓d_nil, ↓d_puN, ↓d_puS, ↓d_rdN, ↓d_rdS, ↓d_alN, ↓d_alS, ↓d_efN, ↓d_efS, ↓d_gpuN, ↓d_gpuS, ↓d_grdN, ↓d_grdS, ↓d_gefN, ↓d_gefS, ↓k_nil, ↓k_cons, ↓ka_nil, ↓ka_cons, ↓rev_nil, ↓rev_cons, ↓and_t, ↓and_f, ↓rrec_t, ↓rrec_f, ↓s_m, ↓s_p, ↓s_i, ↓s_nils, ↓s_sl, ↓rec_nt, ↓rec_nf, ↓rec_dt, ↓neg_tt, ↓neg_tf, ↓ex_n, ↓ex_e, ↓ex_r, ↓m_mks, ↓rec_bb, ↓o_guardTN, ↓o_guardTS, ↓res_t3, ↓one3, ↓ga_old, ↓ga_new, ↓gu_same, ↓gu_other, ↓fv20, ↓fv21, ↓fv30, ↓fv32, ↓fv40, ↓fv41, ↓fv42, ↓fv43, i_t, i_f, rec_t, rec_f, getK_same, getK_other, ofL_cons, ofL_nil, and_t, and_f, rrec_t, rrec_f, ka_nil, ka_cons, k_nil, k_cons, len_1, len_2, len_3, len_4, c_i, c_b, c_m, c_p, c_nils, c_sl, c_agg, beq11, one_i, one_p, one_m, one_sl, one_nils, s_m, s_p, s_i, s_nils, s_sl, rev_nil, rev_cons, ap_0, beq_dec, ble_dec, ne_eq, not_false_eq_true, reduceCtorEq, Bool.not_true, Bool.not_false, Nat.zero_add, Nat.reduceAdd, Nat.reduceLT, Nat.reduceEqDiff, Nat.reduceLeDiff, Nat.zero_le, decide_true, decide_false, c5L0, ↓t_get f1, ↓t_get f2, ↓t_get f9, ↓t_get f10, ↓t_get f11, ↓t_get f12, ↓hlf, ↓len_s, ↓a1, ↓a2, a3, ↓t_get hot, ↓hrt', ↓g1, ↓e1, ↓e2]
        rfl
      · refine ⟨?_, ?_, ?_, ?_, ?_, ?_⟩ <;> simp only [get_same, get_other, ne_eq, Nat.reduceEqDiff, not_false_eq_true, f1, f2, f9, f10, f11, f12]
        rfl
end
end Go.Proofs.Ytodlgflkhcknaaa.gcc

/- The law's pair of heaps (pair), in one sentence. -/
namespace Go.Proofs.Ytodlgflkhcknaaa.gcc
open Go Go.AE
set_option linter.unusedSimpArgs false
set_option maxRecDepth 100000

section
variable {b p m x : Nat} {words : Int}
theorem loopP {vt vf : AV} {rows : List AV} {tags : List Int} {fss : List (List Int)} (h0 : 0 ≤ words) (hsz : words ≤ 20000) (hrt : ∀ z ∈ rid vt, z < b) (hrf : ∀ z ∈ rid vf, z < b) (hrr : ∀ y ∈ rows, ∀ z ∈ rid y, z < b) (hin : ∀ fl ∈ fss, ∀ y ∈ fl, In y) (hN : tags.length ≤ 60) (n : Nat) :
    ∀ (ws : List Int) (i : Nat) (h : Heap) (fr : Fr) (L Lx : List Cl) (a t f l : AV) (ls : List AV), PR h b p m x words L Lx a t f l ls → Sc h → b ≤ h.next → RowR h vt tags → RowsR h vf rows fss → tags.drop i = ws → i ≤ tags.length → ls.length ≤ i → FP fr p x vt vf l i → ∀ fu,
    ∃ fr' h' L' Lx' a' t' f' l' ls', (∀ k, iter (exec (cal (n + 3)) c5L0) (ws.length + (fu + 1)) fr h k = k (.exit 0) fr' h') ∧ (fr'.get 9 = some (.p p 0 0) ∧ fr'.get 10 = some (.p x 0 0) ∧ fr'.get 11 = some l') ∧ PR h' b p m x words L' Lx' a' t' f' l' ls' ∧ Sc h' ∧ (∀ id, id < b → h'.tr.get id = h.tr.get id) ∧ h.next ≤ h'.next
  | [], i, h, fr, L, Lx, a, t, f, l, ls, P, hs, hbn, rt, rf, hd, hi, hls, F, fu => by
    have hii : i = tags.length := by
      have := congrArg List.length hd
      simp at this
      omega
    subst hii
    obtain ⟨f1, f2, f9, f10, f11, f12⟩ := F
    have a1 := fun k => b_lssF (a := (tags.length : Int)) (b := (tags.length : Int)) (by omega) k
    have hlt := rt.len
    apply Exists.intro
    refine ⟨h, L, Lx, a, t, f, l, ls, ?_, ?_, P, hs, fun _ _ => rfl, Nat.le_refl _⟩
    · intro k
      show iter (exec (cal (n + 3)) c5L0) (0 + (fu + 1)) fr h k = _
      rw [Nat.zero_add, it_succ]
      simp -implicitDefEqProofs only [↓m_callf, ↓x_seq, ↓x_reg, ↓x_dreg, ↓x_cond, ↓x_skip, ↓x_exit, ↓x_ret, ↓x_block, ↓x_loop, ↓nrm_n, ↓nrm_e, ↓nrm_r, ↓o_nil, ↓o_consN, ↓o_consS, ↓o_guardN, ↓o_guardS, ↓put_n, ↓put_s, ↓r_pu, ↓r_rd, ↓r_al, ↓r_ef, ↓g_b, ↓e_t, ↓e_c, ↓e_f, ↓e_l0, ↓e_l1, ↓e_l2, ↓e_l3, ↓e_l4, ↓e_l5, ↓e_l6, ↓e_l7, ↓e_l8, ↓e_l9, ↓e_l10, ↓e_l11, ↓e_l12, ↓e_l13, ↓es_nil, ↓es_cons, ↓getK_same, ↓getK_other, ↓ofL_nil, ↓ofL_cons, ↓p_mv, ↓p_pick, ↓p_bld, ↓p_nilck, ↓p_bin, ↓p_isnil, ↓p_not, ↓p_ext, ↓p_len, ↓len_n, ↓len_s, ↓p_fad, ↓p_iad, ↓n_b, ↓n_p, ↓n_pf, ↓n_tup, ↓n_sl, ↓n_nils, ↓n_m, ↓n_f, ↓n_i, ↓n_mp, ↓nth0, ↓nth1, ↓nth2, ↓nil_pp, ↓nil_p, ↓nil_ss, ↓nil_s, ↓neg_f, ↓i_t, ↓i_f, ↓evN_of, ↓int_n, ↓int_0, ↓m_ld, ↓m_lk, ↓m_st0, ↓m_box, ↓m_mkm, ↓m_store, ↓m_mup, ↓m_app, ↓ap_0, ↓okT, ↓okF, ↓kd1, ↓ret_r, ↓res_t1, ↓res_t2, ↓one1, ↓one2, ↓rec_t, ↓rec_f, ↓fill_nil, ↓fill_cons, ↓c_i, ↓c_b, ↓c_m, ↓c_p, ↓c_nils, ↓c_sl, ↓c_agg, ↓len_1, ↓len_2, ↓len_3, ↓len_4, ↓beq11, ↓wrs1, ↓one_i, ↓one_p, ↓one_m, ↓one_sl, ↓one_nils, ↓d_nil, ↓d_puN, ↓d_puS, ↓d_rdN, ↓d_rdS, ↓d_alN, ↓d_alS, ↓d_efN, ↓d_efS, ↓d_gpuN, ↓d_gpuS, ↓d_grdN, ↓d_grdS, ↓d_gefN, ↓d_gefS, ↓k_nil, ↓k_cons, ↓ka_nil, ↓ka_cons, ↓rev_nil, ↓rev_cons, ↓and_t, ↓and_f, ↓rrec_t, ↓rrec_f, ↓s_m, ↓s_p, ↓s_i, ↓s_nils, ↓s_sl, ↓rec_nt, ↓rec_nf, ↓rec_dt, ↓neg_tt, ↓neg_tf, ↓ex_n, ↓ex_e, ↓ex_r, ↓m_mks, ↓rec_bb, ↓o_guardTN, ↓o_guardTS, ↓res_t3, ↓one3, ↓ga_old, ↓ga_new, ↓gu_same, ↓gu_other, ↓fv20, ↓fv21, ↓fv30, ↓fv32, ↓fv40, ↓fv41, ↓fv42, ↓fv43, i_t, i_f, rec_t, rec_f, getK_same, getK_other, ofL_cons, ofL_nil, and_t, and_f, rrec_t, rrec_f, ka_nil, ka_cons, k_nil, k_cons, len_1, len_2, len_3, len_4, c_i, c_b, c_m, c_p, c_nils, c_sl, c_agg, beq11, one_i, one_p, one_m, one_sl, one_nils, s_m, s_p, s_i, s_nils, s_sl, rev_nil, rev_cons, ap_0, beq_dec, ble_dec, ne_eq, not_false_eq_true, reduceCtorEq, Bool.not_true, Bool.not_false, Nat.zero_add, Nat.reduceAdd, Nat.reduceLT, Nat.reduceEqDiff, Nat.reduceLeDiff, Nat.zero_le, decide_true, decide_false, c5L0, ↓t_get f1, ↓t_get f2, ↓t_get f9, ↓t_get f10, ↓t_get f11, ↓t_get f12, ↓hlt, ↓a1]
      rfl
    · refine ⟨?_, ?_, ?_⟩ <;> simp only [get_other, ne_eq, Nat.reduceEqDiff, not_false_eq_true, f9, f10, f11]
  | tag :: ws, i, h, fr, L, Lx, a, t, f, l, ls, P, hs, hbn, rt, rf, hd, hi, hls, F, fu => by
    have hw : tags[i]? = some tag := by
      have := congrArg (fun l : List Int => l[0]?) hd
      simpa using this
    have hlt : i < tags.length := (List.getElem?_eq_some_iff.1 hw).1
    obtain ⟨fr1, h1, L1, Lx1, a1, t1, f1, l1, ls1, e1, F1, P1, hls1, hs1, lo1, n1⟩ := stepP P hs h0 hsz hbn rt hrt rf hrf hrr hin hw hN hls F n (ws.length + (fu + 1))
    have hd1 : tags.drop (i + 1) = ws := by
      have := congrArg List.tail hd
      simpa using this
    obtain ⟨fr', h', L', Lx', a', t', f', l', ls', e2, F2, P2, hs2, lo2, n2⟩ := loopP h0 hsz hrt hrf hrr hin hN n ws (i + 1) h1 fr1 L1 Lx1 a1 t1 f1 l1 ls1 P1 hs1 (by omega) (rt.low hrt lo1) (rf.low hrf hrr lo1) hd1 hlt hls1 F1 fu
    refine ⟨fr', h', L', Lx', a', t', f', l', ls', fun k => ?_, F2, P2, hs2, fun id hid => by rw [lo2 id hid, lo1 id hid], by omega⟩
    rw [show (tag :: ws).length + (fu + 1) = ws.length + (fu + 1) + 1 from by simp; omega, e1, e2]
end

section
variable {h : Heap} {words : Int} {vt vf : AV} {rows : List AV} {tags : List Int} {fss : List (List Int)}
theorem pairNo (hno : words < 0 ∨ 20000 < words) (n : Nat) (k : KH) : cal (n + 4) 5 [iv words, vt, vf] h k = k (.tup [.nilp, .nilp, .nils]) h := by
  have a1 := fun k => rNewNo hno (n + 2) h k
  have a2 := fun k => xNewNo hno (n + 2) h k
  rw [run5]; simp only [ofL_cons, ofL_nil, Nat.zero_add, Nat.reduceAdd]
  simp -implicitDefEqProofs only [↓m_callf, ↓x_seq, ↓x_reg, ↓x_dreg, ↓x_cond, ↓x_skip, ↓x_exit, ↓x_ret, ↓x_block, ↓x_loop, ↓nrm_n, ↓nrm_e, ↓nrm_r, ↓o_nil, ↓o_consN, ↓o_consS, ↓o_guardN, ↓o_guardS, ↓put_n, ↓put_s, ↓r_pu, ↓r_rd, ↓r_al, ↓r_ef, ↓g_b, ↓e_t, ↓e_c, ↓e_f, ↓e_l0, ↓e_l1, ↓e_l2, ↓e_l3, ↓e_l4, ↓e_l5, ↓e_l6, ↓e_l7, ↓e_l8, ↓e_l9, ↓e_l10, ↓e_l11, ↓e_l12, ↓e_l13, ↓es_nil, ↓es_cons, ↓getK_same, ↓getK_other, ↓ofL_nil, ↓ofL_cons, ↓p_mv, ↓p_pick, ↓p_bld, ↓p_nilck, ↓p_bin, ↓p_isnil, ↓p_not, ↓p_ext, ↓p_len, ↓len_n, ↓len_s, ↓p_fad, ↓p_iad, ↓n_b, ↓n_p, ↓n_pf, ↓n_tup, ↓n_sl, ↓n_nils, ↓n_m, ↓n_f, ↓n_i, ↓n_mp, ↓nth0, ↓nth1, ↓nth2, ↓nil_pp, ↓nil_p, ↓nil_ss, ↓nil_s, ↓neg_f, ↓i_t, ↓i_f, ↓evN_of, ↓int_n, ↓int_0, ↓m_ld, ↓m_lk, ↓m_st0, ↓m_box, ↓m_mkm, ↓m_store, ↓m_mup, ↓m_app, ↓ap_0, ↓okT, ↓okF, ↓kd1, ↓ret_r, ↓res_t1, ↓res_t2, ↓one1, ↓one2, ↓rec_t, ↓rec_f, ↓fill_nil, ↓fill_cons, ↓c_i, ↓c_b, ↓c_m, ↓c_p, ↓c_nils, ↓c_sl, ↓c_agg, ↓len_1, ↓len_2, ↓len_3, ↓len_4, ↓beq11, ↓wrs1, ↓one_i, ↓one_p, ↓one_m, ↓one_sl, ↓one_nils, ↓d_nil, ↓d_puN, ↓d_puS, ↓d_rdN, ↓d_rdS, ↓d_alN, ↓d_alS, ↓d_efN, ↓d_efS, ↓d_gpuN, ↓d_gpuS, ↓d_grdN, ↓d_grdS, ↓d_gefN, ↓d_gefS, ↓k_nil, ↓k_cons, ↓ka_nil, ↓ka_cons, ↓rev_nil, ↓rev_cons, ↓and_t, ↓and_f, ↓rrec_t, ↓rrec_f, ↓s_m, ↓s_p, ↓s_i, ↓s_nils, ↓s_sl, ↓rec_nt, ↓rec_nf, ↓rec_dt, ↓neg_tt, ↓neg_tf, ↓ex_n, ↓ex_e, ↓ex_r, ↓m_mks, ↓rec_bb, ↓o_guardTN, ↓o_guardTS, ↓res_t3, ↓one3, ↓ga_old, ↓ga_new, ↓gu_same, ↓gu_other, ↓fv20, ↓fv21, ↓fv30, ↓fv32, ↓fv40, ↓fv41, ↓fv42, ↓fv43, i_t, i_f, rec_t, rec_f, getK_same, getK_other, ofL_cons, ofL_nil, and_t, and_f, rrec_t, rrec_f, ka_nil, ka_cons, k_nil, k_cons, len_1, len_2, len_3, len_4, c_i, c_b, c_m, c_p, c_nils, c_sl, c_agg, beq11, one_i, one_p, one_m, one_sl, one_nils, s_m, s_p, s_i, s_nils, s_sl, rev_nil, rev_cons, ap_0, beq_dec, ble_dec, ne_eq, not_false_eq_true, reduceCtorEq, Bool.not_true, Bool.not_false, Nat.zero_add, Nat.reduceAdd, Nat.reduceLT, Nat.reduceEqDiff, Nat.reduceLeDiff, Nat.zero_le, decide_true, decide_false, c5, ↓a1, ↓a2]
theorem RowsR.lt {h : Heap} {vf : AV} {rows : List AV} {fss : List (List Int)} (r : RowsR h vf rows fss) (hs : Sc h) : (∀ z ∈ rid vf, z < h.next) ∧ ∀ y ∈ rows, ∀ z ∈ rid y, z < h.next := by
  obtain ⟨h1, h2, h3⟩ := r
  refine ⟨fun z hz => ?_, fun y hy z hz => ?_⟩
  · rcases h3 with ⟨_, rfl⟩ | ⟨id, t, off, cap, o, rfl, ho, _⟩
    · simp [rid] at hz
    · simp [rid] at hz; rw [hz]; exact hs _ _ ho
  · obtain ⟨j, hj⟩ := List.getElem?_of_mem hy
    have hl : j < rows.length := (List.getElem?_eq_some_iff.1 hj).1
    exact (h2 j y _ hj (List.getElem?_eq_getElem (by omega))).lt hs z hz
theorem RowsR.kp {h h1 : Heap} {vf : AV} {rows : List AV} {fss : List (List Int)} (r : RowsR h vf rows fss) (hs : Sc h) (k : Kp h h1 []) : RowsR h1 vf rows fss :=
  r.low (r.lt hs).1 (r.lt hs).2 fun id hid => k.2 id hid (by simp)
theorem RowR.kp {h h1 : Heap} {vf : AV} {fl : List Int} (r : RowR h vf fl) (hs : Sc h) (k : Kp h h1 []) : RowR h1 vf fl := r.keep k hs fun _ _ => by simp
theorem pairLong (hs : Sc h) (h0 : 0 ≤ words) (hsz : words ≤ 20000) (rt : RowR h vt tags) (hN : 60 < tags.length) (n : Nat) : ∃ h', ∀ k, cal (n + 4) 5 [iv words, vt, vf] h k = k (.tup [.nilp, .nilp, .nils]) h' := by
  obtain ⟨h1, e1, r1, s1, k1, n1⟩ := rNew hs h0 hsz (n + 2)
  obtain ⟨h2, e2, x2, s2, k2, n2⟩ := xNew s1 h0 hsz (n + 2)
  have a1 := fun k => b_gtrT (a := (tags.length : Int)) (b := 60) (by omega) k
  refine ⟨h2, fun k => ?_⟩
  rw [run5]; simp only [ofL_cons, ofL_nil, Nat.zero_add, Nat.reduceAdd]
  simp -implicitDefEqProofs only [↓m_callf, ↓x_seq, ↓x_reg, ↓x_dreg, ↓x_cond, ↓x_skip, ↓x_exit, ↓x_ret, ↓x_block, ↓x_loop, ↓nrm_n, ↓nrm_e, ↓nrm_r, ↓o_nil, ↓o_consN, ↓o_consS, ↓o_guardN, ↓o_guardS, ↓put_n, ↓put_s, ↓r_pu, ↓r_rd, ↓r_al, ↓r_ef, ↓g_b, ↓e_t, ↓e_c, ↓e_f, ↓e_l0, ↓e_l1, ↓e_l2, ↓e_l3, ↓e_l4, ↓e_l5, ↓e_l6, ↓e_l7, ↓e_l8, ↓e_l9, ↓e_l10, ↓e_l11, ↓e_l12, ↓e_l13, ↓es_nil, ↓es_cons, ↓getK_same, ↓getK_other, ↓ofL_nil, ↓ofL_cons, ↓p_mv, ↓p_pick, ↓p_bld, ↓p_nilck, ↓p_bin, ↓p_isnil, ↓p_not, ↓p_ext, ↓p_len, ↓len_n, ↓len_s, ↓p_fad, ↓p_iad, ↓n_b, ↓n_p, ↓n_pf, ↓n_tup, ↓n_sl, ↓n_nils, ↓n_m, ↓n_f, ↓n_i, ↓n_mp, ↓nth0, ↓nth1, ↓nth2, ↓nil_pp, ↓nil_p, ↓nil_ss, ↓nil_s, ↓neg_f, ↓i_t, ↓i_f, ↓evN_of, ↓int_n, ↓int_0, ↓m_ld, ↓m_lk, ↓m_st0, ↓m_box, ↓m_mkm, ↓m_store, ↓m_mup, ↓m_app, ↓ap_0, ↓okT, ↓okF, ↓kd1, ↓ret_r, ↓res_t1, ↓res_t2, ↓one1, ↓one2, ↓rec_t, ↓rec_f, ↓fill_nil, ↓fill_cons, ↓c_i, ↓c_b, ↓c_m, ↓c_p, ↓c_nils, ↓c_sl, ↓c_agg, ↓len_1, ↓len_2, ↓len_3, ↓len_4, ↓beq11, ↓wrs1, ↓one_i, ↓one_p, ↓one_m, ↓one_sl, ↓one_nils, ↓d_nil, ↓d_puN, ↓d_puS, ↓d_rdN, ↓d_rdS, ↓d_alN, ↓d_alS, ↓d_efN, ↓d_efS, ↓d_gpuN, ↓d_gpuS, ↓d_grdN, ↓d_grdS, ↓d_gefN, ↓d_gefS, ↓k_nil, ↓k_cons, ↓ka_nil, ↓ka_cons, ↓rev_nil, ↓rev_cons, ↓and_t, ↓and_f, ↓rrec_t, ↓rrec_f, ↓s_m, ↓s_p, ↓s_i, ↓s_nils, ↓s_sl, ↓rec_nt, ↓rec_nf, ↓rec_dt, ↓neg_tt, ↓neg_tf, ↓ex_n, ↓ex_e, ↓ex_r, ↓m_mks, ↓rec_bb, ↓o_guardTN, ↓o_guardTS, ↓res_t3, ↓one3, ↓ga_old, ↓ga_new, ↓gu_same, ↓gu_other, ↓fv20, ↓fv21, ↓fv30, ↓fv32, ↓fv40, ↓fv41, ↓fv42, ↓fv43, i_t, i_f, rec_t, rec_f, getK_same, getK_other, ofL_cons, ofL_nil, and_t, and_f, rrec_t, rrec_f, ka_nil, ka_cons, k_nil, k_cons, len_1, len_2, len_3, len_4, c_i, c_b, c_m, c_p, c_nils, c_sl, c_agg, beq11, one_i, one_p, one_m, one_sl, one_nils, s_m, s_p, s_i, s_nils, s_sl, rev_nil, rev_cons, ap_0, beq_dec, ble_dec, ne_eq, not_false_eq_true, reduceCtorEq, Bool.not_true, Bool.not_false, Nat.zero_add, Nat.reduceAdd, Nat.reduceLT, Nat.reduceEqDiff, Nat.reduceLeDiff, Nat.zero_le, decide_true, decide_false, c5, ↓e1, ↓e2, ↓rt.len, ↓a1]
theorem pairGo (hs : Sc h) (h0 : 0 ≤ words) (hsz : words ≤ 20000) (rt : RowR h vt tags) (rf : RowsR h vf rows fss) (hin : ∀ fl ∈ fss, ∀ y ∈ fl, In y) (hN : tags.length ≤ 60) (n : Nat) :
    ∃ h' p m x L Lx a t f l ls, (∀ k, cal (n + 4) 5 [iv words, vt, vf] h k = k (.tup [.p p 0 0, .p x 0 0, l]) h') ∧ PR h' h.next p m x words L Lx a t f l ls ∧ Sc h' ∧ Kp h h' [] := by
  obtain ⟨h1, e1, r1, s1, k1, n1⟩ := rNew hs h0 hsz (n + 2)
  obtain ⟨h2, e2, x2, s2, k2, n2⟩ := xNew s1 h0 hsz (n + 2)
  have k02 : Kp h h2 [] := k1.trans k2 (fun i hi _ => hi)
  have P : PR h2 h.next (h.next + 1) h.next h1.next words [] [] .nils .nils .nils .nils [] :=
    ⟨r1.keep k2 s1 (by simp) (by simp) (fun _ _ => by simp), x2, rfl, .inl ⟨rfl, rfl⟩, fun i hi => by simp [fpL] at hi, fun i hi => by simp [rid] at hi, by simp [used]; omega, by omega, by omega, by omega, fun i hi => by simp [rid] at hi, fun i hi => by simp [rid] at hi⟩
  have F : FP (T.set (iv 0) (T.set .nils (T.set (.b false) (T.set (.b false) (T.set (.p h1.next 0 0) (T.set (.p (h.next + 1) 0 0) (T.set .nils (T.set .nilp (T.set .nilp (T.set vf (T.set vt (T.set (iv words) .e 0) 1) 2) 6) 7) 8) 9) 10) 26) 28) 11) 12) (h.next + 1) h1.next vt vf .nils 0 := by
    refine ⟨?_, ?_, ?_, ?_, ?_, ?_⟩ <;> simp only [get_same, get_other, ne_eq, Nat.reduceEqDiff, not_false_eq_true]
    rfl
  obtain ⟨fr', h', L', Lx', a', t', f', l', ls', e3, ⟨g1, g2, g3⟩, P', s3, lo3, n3⟩ := loopP h0 hsz (rt.lt hs) (rf.lt hs).1 (rf.lt hs).2 hin hN n tags 0 h2 _ [] [] .nils .nils .nils .nils [] P s2 k02.1 (rt.kp hs k02) (rf.kp hs k02) rfl (Nat.zero_le _) (Nat.zero_le _) F (1000000 - tags.length - 1)
  rw [show tags.length + (1000000 - tags.length - 1 + 1) = 1000000 from by omega] at e3
  refine ⟨h', _, _, _, L', Lx', a', t', f', l', ls', fun k => ?_, P', s3, by have := k02.1; omega, fun id hid _ => by rw [lo3 id hid, k02.2 id hid (by simp)]⟩
  have a1 := fun k => b_gtrF (a := (tags.length : Int)) (b := 60) (by omega) k
  rw [run5]; simp only [ofL_cons, ofL_nil, Nat.zero_add, Nat.reduceAdd]
  simp -implicitDefEqProofs only [↓m_callf, ↓x_seq, ↓x_reg, ↓x_dreg, ↓x_cond, ↓x_skip, ↓x_exit, ↓x_ret, ↓x_block, ↓x_loop, ↓nrm_n, ↓nrm_e, ↓nrm_r, ↓o_nil, ↓o_consN, ↓o_consS, ↓o_guardN, ↓o_guardS, ↓put_n, ↓put_s, ↓r_pu, ↓r_rd, ↓r_al, ↓r_ef, ↓g_b, ↓e_t, ↓e_c, ↓e_f, ↓e_l0, ↓e_l1, ↓e_l2, ↓e_l3, ↓e_l4, ↓e_l5, ↓e_l6, ↓e_l7, ↓e_l8, ↓e_l9, ↓e_l10, ↓e_l11, ↓e_l12, ↓e_l13, ↓es_nil, ↓es_cons, ↓getK_same, ↓getK_other, ↓ofL_nil, ↓ofL_cons, ↓p_mv, ↓p_pick, ↓p_bld, ↓p_nilck, ↓p_bin, ↓p_isnil, ↓p_not, ↓p_ext, ↓p_len, ↓len_n, ↓len_s, ↓p_fad, ↓p_iad, ↓n_b, ↓n_p, ↓n_pf, ↓n_tup, ↓n_sl, ↓n_nils, ↓n_m, ↓n_f, ↓n_i, ↓n_mp, ↓nth0, ↓nth1, ↓nth2, ↓nil_pp, ↓nil_p, ↓nil_ss, ↓nil_s, ↓neg_f, ↓i_t, ↓i_f, ↓evN_of, ↓int_n, ↓int_0, ↓m_ld, ↓m_lk, ↓m_st0, ↓m_box, ↓m_mkm, ↓m_store, ↓m_mup, ↓m_app, ↓ap_0, ↓okT, ↓okF, ↓kd1, ↓ret_r, ↓res_t1, ↓res_t2, ↓one1, ↓one2, ↓rec_t, ↓rec_f, ↓fill_nil, ↓fill_cons, ↓c_i, ↓c_b, ↓c_m, ↓c_p, ↓c_nils, ↓c_sl, ↓c_agg, ↓len_1, ↓len_2, ↓len_3, ↓len_4, ↓beq11, ↓wrs1, ↓one_i, ↓one_p, ↓one_m, ↓one_sl, ↓one_nils, ↓d_nil, ↓d_puN, ↓d_puS, ↓d_rdN, ↓d_rdS, ↓d_alN, ↓d_alS, ↓d_efN, ↓d_efS, ↓d_gpuN, ↓d_gpuS, ↓d_grdN, ↓d_grdS, ↓d_gefN, ↓d_gefS, ↓k_nil, ↓k_cons, ↓ka_nil, ↓ka_cons, ↓rev_nil, ↓rev_cons, ↓and_t, ↓and_f, ↓rrec_t, ↓rrec_f, ↓s_m, ↓s_p, ↓s_i, ↓s_nils, ↓s_sl, ↓rec_nt, ↓rec_nf, ↓rec_dt, ↓neg_tt, ↓neg_tf, ↓ex_n, ↓ex_e, ↓ex_r, ↓m_mks, ↓rec_bb, ↓o_guardTN, ↓o_guardTS, ↓res_t3, ↓one3, ↓ga_old, ↓ga_new, ↓gu_same, ↓gu_other, ↓fv20, ↓fv21, ↓fv30, ↓fv32, ↓fv40, ↓fv41, ↓fv42, ↓fv43, i_t, i_f, rec_t, rec_f, getK_same, getK_other, ofL_cons, ofL_nil, and_t, and_f, rrec_t, rrec_f, ka_nil, ka_cons, k_nil, k_cons, len_1, len_2, len_3, len_4, c_i, c_b, c_m, c_p, c_nils, c_sl, c_agg, beq11, one_i, one_p, one_m, one_sl, one_nils, s_m, s_p, s_i, s_nils, s_sl, rev_nil, rev_cons, ap_0, beq_dec, ble_dec, ne_eq, not_false_eq_true, reduceCtorEq, Bool.not_true, Bool.not_false, Nat.zero_add, Nat.reduceAdd, Nat.reduceLT, Nat.reduceEqDiff, Nat.reduceLeDiff, Nat.zero_le, decide_true, decide_false, c5, ↓e1, ↓e2, ↓rt.len, ↓a1, ↓e3, ↓t_get g1, ↓t_get g2, ↓t_get g3]
end
end Go.Proofs.Ytodlgflkhcknaaa.gcc

/- The law's last loops: what was collected is told the same by both. -/
namespace Go.Proofs.Ytodlgflkhcknaaa.gcc
open Go Go.AE
set_option linter.unusedSimpArgs false
set_option maxRecDepth 100000

theorem fl_same {L M : List Cl} (e : L.map Cl.bk = M.map Cl.bk) (w : Int) : flOf L w = flOf M w := by rw [← fl_bk, e, fl_bk]
theorem tag_same {L M : List Cl} (e : L.map Cl.bk = M.map Cl.bk) (w : Int) : tagOf L w = tagOf M w := by
  have h1 := look_bk w L 0
  have h2 := look_bk w M 0
  rw [e] at h1
  have h3 : (look 0 L w).map Cl.bk = (look 0 M w).map Cl.bk := by rw [← h1, ← h2]
  unfold tagOf
  cases hl : look 0 L w <;> cases hm : look 0 M w <;> rw [hl, hm] at h3 <;> simp [Cl.bk] at h3 ⊢
  exact h3.1

/-- What the law keeps in its frame. -/
def FQ (fr : Fr) (p x g y : Nat) (w : Nat) : Prop :=
  fr.get 9 = some (.p p 0 0) ∧ fr.get 10 = some (.p x 0 0) ∧ fr.get 12 = some (.p g 0 0) ∧ fr.get 14 = some (.p y 0 0) ∧ fr.get 16 = some (iv w)

section
variable {h : Heap} {p x g m y : Nat} {words : Int} {L M : List Cl} {a t f : AV}
theorem stepI (rg : RH h g m words L) (ry : RX h y words M a t f) (e : L.map Cl.bk = M.map Cl.bk) {w : Nat} (hw : In w) {i : Nat} (hi : i < (flOf L w).length) (hb : (flOf L w).length ≤ 1000000) {fr : Fr} (F : FQ fr p x g y w) (fi : fr.get 17 = some (iv i)) (n fu : Nat) :
    ∃ fr', (∀ k, iter (exec (cal (n + 4)) c3L0) (fu + 1) fr h k = iter (exec (cal (n + 4)) c3L0) fu fr' h k) ∧ FQ fr' p x g y w ∧ fr'.get 17 = some (iv (i + 1 : Nat)) := by
  obtain ⟨f9, f10, f12, f14, f16⟩ := F
  obtain ⟨u, hu⟩ : ∃ u, (flOf L w)[i]? = some u := ⟨_, List.getElem?_eq_getElem hi⟩
  have a1 := fun k => rLen rg (w : Int) (n + 2) k
  have a2 := fun k => rField rg (w : Int) i (n + 1) k
  have a3 := fun k => xField ry hw i (by omega) n k
  rw [hu] at a2
  rw [← fl_same e, hu] at a3
  have a4 := fun k => b_lssT (a := (i : Int)) (b := ((flOf L w).length : Int)) (by omega) k
  have a5 := fun k => b_neqF (a := u) (b := u) rfl k
  have a6 := fun k => b_add (a := (i : Int)) (b := 1) (by omega) (by omega) k
  apply Exists.intro
  refine ⟨fun k => ?_, ?_, ?_⟩
  · rw [it_succ]
    simp -implicitDefEqProofs only [↓m_callf, ↓x_seq, ↓x_reg, ↓x_dreg, ↓x_cond, ↓x_skip, ↓x_exit, ↓x_ret, ↓x_block, ↓x_loop, ↓nrm_n, ↓nrm_e, ↓nrm_r, ↓o_nil, ↓o_consN, ↓o_consS, ↓o_guardN, ↓o_guardS, ↓put_n, ↓put_s, ↓r_pu, ↓r_rd, ↓r_al, ↓r_ef, ↓g_b, ↓e_t, ↓e_c, ↓e_f, ↓e_l0, ↓e_l1, ↓e_l2, ↓e_l3, ↓e_l4, ↓e_l5, ↓e_l6, ↓e_l7, ↓e_l8, ↓e_l9, ↓e_l10, ↓e_l11, ↓e_l12, ↓e_l13, ↓es_nil, ↓es_cons, ↓getK_same, ↓getK_other, ↓ofL_nil, ↓ofL_cons, ↓p_mv, ↓p_pick, ↓p_bld, ↓p_nilck, ↓p_bin, ↓p_isnil, ↓p_not, ↓p_ext, ↓p_len, ↓len_n, ↓len_s, ↓p_fad, ↓p_iad, ↓n_b, ↓n_p, ↓n_pf, ↓n_tup, ↓n_sl, ↓n_nils, ↓n_m, ↓n_f, ↓n_i, ↓n_mp, ↓nth0, ↓nth1, ↓nth2, ↓nil_pp, ↓nil_p, ↓nil_ss, ↓nil_s, ↓neg_f, ↓i_t, ↓i_f, ↓evN_of, ↓int_n, ↓int_0, ↓m_ld, ↓m_lk, ↓m_st0, ↓m_box, ↓m_mkm, ↓m_store, ↓m_mup, ↓m_app, ↓ap_0, ↓okT, ↓okF, ↓kd1, ↓ret_r, ↓res_t1, ↓res_t2, ↓one1, ↓one2, ↓rec_t, ↓rec_f, ↓fill_nil, ↓fill_cons, ↓c_i, ↓c_b, ↓c_m, ↓c_p, ↓c_nils, ↓c_sl, ↓c_agg, ↓len_1, ↓len_2, ↓len_3, ↓len_4, ↓beq11, ↓wrs1, ↓one_i, ↓one_p, ↓one_m, ↓one_sl, ↓one_nils, ↓d_nil, ↓d_puN, ↓d_puS, ↓d_rdN, ↓d_rdS, ↓d_alN, ↓d_alS, ↓d_efN, ↓d_efS, ↓d_gpuN, ↓d_gpuS, ↓d_grdN, ↓d_grdS, ↓d_gefN, ↓d_gefS, ↓k_nil, ↓k_cons, ↓ka_nil, ↓ka_cons, ↓rev_nil, ↓rev_cons, ↓and_t, ↓and_f, ↓rrec_t, ↓rrec_f, ↓s_m, ↓s_p, ↓s_i, ↓s_nils, ↓s_sl, ↓rec_nt, ↓rec_nf, ↓rec_dt, ↓neg_tt, ↓neg_tf, ↓ex_n, ↓ex_e, ↓ex_r, ↓m_mks, ↓rec_bb, ↓o_guardTN, ↓o_guardTS, ↓res_t3, ↓one3, ↓ga_old, ↓ga_new, ↓gu_same, ↓gu_other, ↓fv20, ↓fv21, ↓fv30, ↓fv32, ↓fv40, ↓fv41, ↓fv42, ↓fv43, i_t, i_f, rec_t, rec_f, getK_same, getK_other, ofL_cons, ofL_nil, and_t, and_f, rrec_t, rrec_f, ka_nil, ka_cons, k_nil, k_cons, len_1, len_2, len_3, len_4, c_i, c_b, c_m, c_p, c_nils, c_sl, c_agg, beq11, one_i, one_p, one_m, one_sl, one_nils, s_m, s_p, s_i, s_nils, s_sl, rev_nil, rev_cons, ap_0, beq_dec, ble_dec, ne_eq, not_false_eq_true, reduceCtorEq, Bool.not_true, Bool.not_false, Nat.zero_add, Nat.reduceAdd, Nat.reduceLT, Nat.reduceEqDiff, Nat.reduceLeDiff, Nat.zero_le, decide_true, decide_false, c3L0, ↓t_get f9, ↓t_get f10, ↓t_get f12, ↓t_get f14, ↓t_get f16, ↓t_get fi, ↓a1, ↓a2, ↓a3, ↓a4, ↓a5, ↓a6]
    rfl
  · refine ⟨?_, ?_, ?_, ?_, ?_⟩ <;> simp only [get_same, get_other, ne_eq, Nat.reduceEqDiff, not_false_eq_true, f9, f10, f12, f14, f16]
  · simp only [get_same]; rfl
theorem loopI (rg : RH h g m words L) (ry : RX h y words M a t f) (e : L.map Cl.bk = M.map Cl.bk) {w : Nat} (hw : In w) (hb : (flOf L w).length ≤ 1000000) (n : Nat) : ∀ (d i : Nat) (fr : Fr), i + d = (flOf L w).length → FQ fr p x g y w → fr.get 17 = some (iv i) → ∀ fu,
    ∃ fr', (∀ k, iter (exec (cal (n + 4)) c3L0) (d + (fu + 1)) fr h k = k (.exit 2) fr' h) ∧ FQ fr' p x g y w
  | 0, i, fr, hd, F, fi, fu => by
    obtain ⟨f9, f10, f12, f14, f16⟩ := F
    have a1 := fun k => rLen rg (w : Int) (n + 2) k
    have a4 := fun k => b_lssF (a := (i : Int)) (b := ((flOf L w).length : Int)) (by omega) k
    apply Exists.intro
    refine ⟨fun k => ?_, ?_⟩
    · rw [Nat.zero_add, it_succ]
      simp -implicitDefEqProofs only [↓m_callf, ↓x_seq, ↓x_reg, ↓x_dreg, ↓x_cond, ↓x_skip, ↓x_exit, ↓x_ret, ↓x_block, ↓x_loop, ↓nrm_n, ↓nrm_e, ↓nrm_r, ↓o_nil, ↓o_consN, ↓o_consS, ↓o_guardN, ↓o_guardS, ↓put_n, ↓put_s, ↓r_pu, ↓r_rd, ↓r_al, ↓r_ef, ↓g_b, ↓e_t, ↓e_c, ↓e_f, ↓e_l0, ↓e_l1, ↓e_l2, ↓e_l3, ↓e_l4, ↓e_l5, ↓e_l6, ↓e_l7, ↓e_l8, ↓e_l9, ↓e_l10, ↓e_l11, ↓e_l12, ↓e_l13, ↓es_nil, ↓es_cons, ↓getK_same, ↓getK_other, ↓ofL_nil, ↓ofL_cons, ↓p_mv, ↓p_pick, ↓p_bld, ↓p_nilck, ↓p_bin, ↓p_isnil, ↓p_not, ↓p_ext, ↓p_len, ↓len_n, ↓len_s, ↓p_fad, ↓p_iad, ↓n_b, ↓n_p, ↓n_pf, ↓n_tup, ↓n_sl, ↓n_nils, ↓n_m, ↓n_f, ↓n_i, ↓n_mp, ↓nth0, ↓nth1, ↓nth2, ↓nil_pp, ↓nil_p, ↓nil_ss, ↓nil_s, ↓neg_f, ↓i_t, ↓i_f, ↓evN_of, ↓int_n, ↓int_0, ↓m_ld, ↓m_lk, ↓m_st0, ↓m_box, ↓m_mkm, ↓m_store, ↓m_mup, ↓m_app, ↓ap_0, ↓okT, ↓okF, ↓kd1, ↓ret_r, ↓res_t1, ↓res_t2, ↓one1, ↓one2, ↓rec_t, ↓rec_f, ↓fill_nil, ↓fill_cons, ↓c_i, ↓c_b, ↓c_m, ↓c_p, ↓c_nils, ↓c_sl, ↓c_agg, ↓len_1, ↓len_2, ↓len_3, ↓len_4, ↓beq11, ↓wrs1, ↓one_i, ↓one_p, ↓one_m, ↓one_sl, ↓one_nils, ↓d_nil, ↓d_puN, ↓d_puS, ↓d_rdN, ↓d_rdS, ↓d_alN, ↓d_alS, ↓d_efN, ↓d_efS, ↓d_gpuN, ↓d_gpuS, ↓d_grdN, ↓d_grdS, ↓d_gefN, ↓d_gefS, ↓k_nil, ↓k_cons, ↓ka_nil, ↓ka_cons, ↓rev_nil, ↓rev_cons, ↓and_t, ↓and_f, ↓rrec_t, ↓rrec_f, ↓s_m, ↓s_p, ↓s_i, ↓s_nils, ↓s_sl, ↓rec_nt, ↓rec_nf, ↓rec_dt, ↓neg_tt, ↓neg_tf, ↓ex_n, ↓ex_e, ↓ex_r, ↓m_mks, ↓rec_bb, ↓o_guardTN, ↓o_guardTS, ↓res_t3, ↓one3, ↓ga_old, ↓ga_new, ↓gu_same, ↓gu_other, ↓fv20, ↓fv21, ↓fv30, ↓fv32, ↓fv40, ↓fv41, ↓fv42, ↓fv43, i_t, i_f, rec_t, rec_f, getK_same, getK_other, ofL_cons, ofL_nil, and_t, and_f, rrec_t, rrec_f, ka_nil, ka_cons, k_nil, k_cons, len_1, len_2, len_3, len_4, c_i, c_b, c_m, c_p, c_nils, c_sl, c_agg, beq11, one_i, one_p, one_m, one_sl, one_nils, s_m, s_p, s_i, s_nils, s_sl, rev_nil, rev_cons, ap_0, beq_dec, ble_dec, ne_eq, not_false_eq_true, reduceCtorEq, Bool.not_true, Bool.not_false, Nat.zero_add, Nat.reduceAdd, Nat.reduceLT, Nat.reduceEqDiff, Nat.reduceLeDiff, Nat.zero_le, decide_true, decide_false, c3L0, ↓t_get f9, ↓t_get f10, ↓t_get f12, ↓t_get f14, ↓t_get f16, ↓t_get fi, ↓a1, ↓a4]
      rfl
    · refine ⟨?_, ?_, ?_, ?_, ?_⟩ <;> simp only [get_same, get_other, ne_eq, Nat.reduceEqDiff, not_false_eq_true, f9, f10, f12, f14, f16]
  | d + 1, i, fr, hd, F, fi, fu => by
    obtain ⟨fr1, e1, F1, fi1⟩ := stepI rg ry e hw (by omega) hb F fi n (d + (fu + 1))
    obtain ⟨fr2, e2, F2⟩ := loopI rg ry e hw hb n d (i + 1) fr1 (by omega) F1 fi1 fu
    exact ⟨fr2, fun k => by rw [show d + 1 + (fu + 1) = d + (fu + 1) + 1 from by omega, e1, e2], F2⟩
theorem stepO (rg : RH h g m words L) (ry : RX h y words M a t f) (e : L.map Cl.bk = M.map Cl.bk) {w : Nat} (hw : w < 2 * used M + 4) {fr : Fr} (F : FQ fr p x g y w) (n fu : Nat) :
    ∃ fr', (∀ k, iter (exec (cal (n + 4)) c3L1) (fu + 1) fr h k = iter (exec (cal (n + 4)) c3L1) fu fr' h k) ∧ FQ fr' p x g y (w + 1) := by
  have hF := F
  obtain ⟨f9, f10, f12, f14, f16⟩ := F
  have hM := ry.fits
  have hin : In w := ⟨by omega, by omega⟩
  have hbs : (flOf L w).length < 1000000 := by rw [fl_same e]; have := fl_le M w; omega
  have hbl := Nat.le_of_lt hbs
  have a1 := fun k => xUsed ry (n + 3) k
  have a2 := fun k => b_mul (a := 2) (b := (used M : Int)) (by omega) (by omega) k
  have a3 := fun k => b_add (a := 2 * (used M : Int)) (b := 4) (by omega) (by omega) k
  have a4 := fun k => b_lssT (a := (w : Int)) (b := 2 * (used M : Int) + 4) (by omega) k
  have a5 := fun k => rTag rg (w : Int) (n + 2) k
  have a6 := fun k => xTag ry hin (n + 1) k
  rw [← tag_same e] at a6
  have a7 := fun k => b_neqF (a := tagOf L w) (b := tagOf L w) rfl k
  have a8 := fun k => rLen rg (w : Int) (n + 2) k
  have a9 := fun k => xFields ry hin (n + 1) k
  have a10 := (rowR_of ry (w : Int)).len
  rw [← fl_same e] at a10
  have a11 := fun k => b_neqF (a := ((flOf L w).length : Int)) (b := ((flOf L w).length : Int)) rfl k
  have a12 := fun k => b_add (a := (w : Int)) (b := 1) (by omega) (by omega) k
  obtain ⟨fr2, e2, g9, g10, g12, g14, g16⟩ := loopI (p := p) (x := x) rg ry e hin hbl n (flOf L w).length 0 (T.set (iv 0) (T.set (.b false) (T.set (.b true) fr 91) 110) 17) (by omega)
    (by refine ⟨?_, ?_, ?_, ?_, ?_⟩ <;> simp only [get_same, get_other, ne_eq, Nat.reduceEqDiff, not_false_eq_true, f9, f10, f12, f14, f16]) (by rw [get_same]; rfl) (1000000 - (flOf L w).length - 1)
  rw [show (flOf L w).length + (1000000 - (flOf L w).length - 1 + 1) = 1000000 from by omega] at e2
  apply Exists.intro
  refine ⟨fun k => ?_, ?_⟩
  · rw [it_succ]
    simp -implicitDefEqProofs only [↓m_callf, ↓x_seq, ↓x_reg, ↓x_dreg, ↓x_cond, ↓x_skip, ↓x_exit, ↓x_ret, ↓x_block, ↓x_loop, ↓nrm_n, ↓nrm_e, ↓nrm_r, ↓o_nil, ↓o_consN, ↓o_consS, ↓o_guardN, ↓o_guardS, ↓put_n, ↓put_s, ↓r_pu, ↓r_rd, ↓r_al, ↓r_ef, ↓g_b, ↓e_t, ↓e_c, ↓e_f, ↓e_l0, ↓e_l1, ↓e_l2, ↓e_l3, ↓e_l4, ↓e_l5, ↓e_l6, ↓e_l7, ↓e_l8, ↓e_l9, ↓e_l10, ↓e_l11, ↓e_l12, ↓e_l13, ↓es_nil, ↓es_cons, ↓getK_same, ↓getK_other, ↓ofL_nil, ↓ofL_cons, ↓p_mv, ↓p_pick, ↓p_bld, ↓p_nilck, ↓p_bin, ↓p_isnil, ↓p_not, ↓p_ext, ↓p_len, ↓len_n, ↓len_s, ↓p_fad, ↓p_iad, ↓n_b, ↓n_p, ↓n_pf, ↓n_tup, ↓n_sl, ↓n_nils, ↓n_m, ↓n_f, ↓n_i, ↓n_mp, ↓nth0, ↓nth1, ↓nth2, ↓nil_pp, ↓nil_p, ↓nil_ss, ↓nil_s, ↓neg_f, ↓i_t, ↓i_f, ↓evN_of, ↓int_n, ↓int_0, ↓m_ld, ↓m_lk, ↓m_st0, ↓m_box, ↓m_mkm, ↓m_store, ↓m_mup, ↓m_app, ↓ap_0, ↓okT, ↓okF, ↓kd1, ↓ret_r, ↓res_t1, ↓res_t2, ↓one1, ↓one2, ↓rec_t, ↓rec_f, ↓fill_nil, ↓fill_cons, ↓c_i, ↓c_b, ↓c_m, ↓c_p, ↓c_nils, ↓c_sl, ↓c_agg, ↓len_1, ↓len_2, ↓len_3, ↓len_4, ↓beq11, ↓wrs1, ↓one_i, ↓one_p, ↓one_m, ↓one_sl, ↓one_nils, ↓d_nil, ↓d_puN, ↓d_puS, ↓d_rdN, ↓d_rdS, ↓d_alN, ↓d_alS, ↓d_efN, ↓d_efS, ↓d_gpuN, ↓d_gpuS, ↓d_grdN, ↓d_grdS, ↓d_gefN, ↓d_gefS, ↓k_nil, ↓k_cons, ↓ka_nil, ↓ka_cons, ↓rev_nil, ↓rev_cons, ↓and_t, ↓and_f, ↓rrec_t, ↓rrec_f, ↓s_m, ↓s_p, ↓s_i, ↓s_nils, ↓s_sl, ↓rec_nt, ↓rec_nf, ↓rec_dt, ↓neg_tt, ↓neg_tf, ↓ex_n, ↓ex_e, ↓ex_r, ↓m_mks, ↓rec_bb, ↓o_guardTN, ↓o_guardTS, ↓res_t3, ↓one3, ↓ga_old, ↓ga_new, ↓gu_same, ↓gu_other, ↓fv20, ↓fv21, ↓fv30, ↓fv32, ↓fv40, ↓fv41, ↓fv42, ↓fv43, i_t, i_f, rec_t, rec_f, getK_same, getK_other, ofL_cons, ofL_nil, and_t, and_f, rrec_t, rrec_f, ka_nil, ka_cons, k_nil, k_cons, len_1, len_2, len_3, len_4, c_i, c_b, c_m, c_p, c_nils, c_sl, c_agg, beq11, one_i, one_p, one_m, one_sl, one_nils, s_m, s_p, s_i, s_nils, s_sl, rev_nil, rev_cons, ap_0, beq_dec, ble_dec, ne_eq, not_false_eq_true, reduceCtorEq, Bool.not_true, Bool.not_false, Nat.zero_add, Nat.reduceAdd, Nat.reduceLT, Nat.reduceEqDiff, Nat.reduceLeDiff, Nat.zero_le, decide_true, decide_false, c3L1, ↓t_get f9, ↓t_get f10, ↓t_get f12, ↓t_get f14, ↓t_get f16, ↓a1, ↓a2, ↓a3, ↓a4, ↓a5, ↓a6, ↓a7, ↓a8, ↓a9, ↓a10, ↓a11, ↓a12, ↓e2, ↓t_get g16]
    rfl
  · refine ⟨?_, ?_, ?_, ?_, ?_⟩ <;> simp only [get_same, get_other, ne_eq, Nat.reduceEqDiff, not_false_eq_true, g9, g10, g12, g14, g16]
    rfl
theorem loopO (rg : RH h g m words L) (ry : RX h y words M a t f) (e : L.map Cl.bk = M.map Cl.bk) (n : Nat) : ∀ (d w : Nat) (fr : Fr), w + d = 2 * used M + 4 → FQ fr p x g y w → ∀ fu,
    ∃ fr', (∀ k, iter (exec (cal (n + 4)) c3L1) (d + (fu + 1)) fr h k = k (.exit 0) fr' h) ∧ fr'.get 9 = some (.p p 0 0) ∧ fr'.get 10 = some (.p x 0 0)
  | 0, w, fr, hd, F, fu => by
    obtain ⟨f9, f10, f12, f14, f16⟩ := F
    have hM := ry.fits
    have a1 := fun k => xUsed ry (n + 3) k
    have a2 := fun k => b_mul (a := 2) (b := (used M : Int)) (by omega) (by omega) k
    have a3 := fun k => b_add (a := 2 * (used M : Int)) (b := 4) (by omega) (by omega) k
    have a4 := fun k => b_lssF (a := (w : Int)) (b := 2 * (used M : Int) + 4) (by omega) k
    apply Exists.intro
    refine ⟨fun k => ?_, ?_, ?_⟩
    · rw [Nat.zero_add, it_succ]
      simp -implicitDefEqProofs only [↓m_callf, ↓x_seq, ↓x_reg, ↓x_dreg, ↓x_cond, ↓x_skip, ↓x_exit, ↓x_ret, ↓x_block, ↓x_loop, ↓nrm_n, ↓nrm_e, ↓nrm_r, ↓o_nil, ↓o_consN, ↓o_consS, ↓o_guardN, ↓o_guardS, ↓put_n, ↓put_s, ↓r_pu, ↓r_rd, ↓r_al, ↓r_ef, ↓g_b, ↓e_t, ↓e_c, ↓e_f, ↓e_l0, ↓e_l1, ↓e_l2, ↓e_l3, ↓e_l4, ↓e_l5, ↓e_l6, ↓e_l7, ↓e_l8, ↓e_l9, ↓e_l10, ↓e_l11, ↓e_l12, ↓e_l13, ↓es_nil, ↓es_cons, ↓getK_same, ↓getK_other, ↓ofL_nil, ↓ofL_cons, ↓p_mv, ↓p_pick, ↓p_bld, ↓p_nilck, ↓p_bin, ↓p_isnil, ↓p_not, ↓p_ext, ↓p_len, ↓len_n, ↓len_s, ↓p_fad, ↓p_iad, ↓n_b, ↓n_p, ↓n_pf, ↓n_tup, ↓n_sl, ↓n_nils, ↓n_m, ↓n_f, ↓n_i, ↓n_mp, ↓nth0, ↓nth1, ↓nth2, ↓nil_pp, ↓nil_p, ↓nil_ss, ↓nil_s, ↓neg_f, ↓i_t, ↓i_f, ↓evN_of, ↓int_n, ↓int_0, ↓m_ld, ↓m_lk, ↓m_st0, ↓m_box, ↓m_mkm, ↓m_store, ↓m_mup, ↓m_app, ↓ap_0, ↓okT, ↓okF, ↓kd1, ↓ret_r, ↓res_t1, ↓res_t2, ↓one1, ↓one2, ↓rec_t, ↓rec_f, ↓fill_nil, ↓fill_cons, ↓c_i, ↓c_b, ↓c_m, ↓c_p, ↓c_nils, ↓c_sl, ↓c_agg, ↓len_1, ↓len_2, ↓len_3, ↓len_4, ↓beq11, ↓wrs1, ↓one_i, ↓one_p, ↓one_m, ↓one_sl, ↓one_nils, ↓d_nil, ↓d_puN, ↓d_puS, ↓d_rdN, ↓d_rdS, ↓d_alN, ↓d_alS, ↓d_efN, ↓d_efS, ↓d_gpuN, ↓d_gpuS, ↓d_grdN, ↓d_grdS, ↓d_gefN, ↓d_gefS, ↓k_nil, ↓k_cons, ↓ka_nil, ↓ka_cons, ↓rev_nil, ↓rev_cons, ↓and_t, ↓and_f, ↓rrec_t, ↓rrec_f, ↓s_m, ↓s_p, ↓s_i, ↓s_nils, ↓s_sl, ↓rec_nt, ↓rec_nf, ↓rec_dt, ↓neg_tt, ↓neg_tf, ↓ex_n, ↓ex_e, ↓ex_r, ↓m_mks, ↓rec_bb, ↓o_guardTN, ↓o_guardTS, ↓res_t3, ↓one3, ↓ga_old, ↓ga_new, ↓gu_same, ↓gu_other, ↓fv20, ↓fv21, ↓fv30, ↓fv32, ↓fv40, ↓fv41, ↓fv42, ↓fv43, i_t, i_f, rec_t, rec_f, getK_same, getK_other, ofL_cons, ofL_nil, and_t, and_f, rrec_t, rrec_f, ka_nil, ka_cons, k_nil, k_cons, len_1, len_2, len_3, len_4, c_i, c_b, c_m, c_p, c_nils, c_sl, c_agg, beq11, one_i, one_p, one_m, one_sl, one_nils, s_m, s_p, s_i, s_nils, s_sl, rev_nil, rev_cons, ap_0, beq_dec, ble_dec, ne_eq, not_false_eq_true, reduceCtorEq, Bool.not_true, Bool.not_false, Nat.zero_add, Nat.reduceAdd, Nat.reduceLT, Nat.reduceEqDiff, Nat.reduceLeDiff, Nat.zero_le, decide_true, decide_false, c3L1, ↓t_get f9, ↓t_get f10, ↓t_get f12, ↓t_get f14, ↓t_get f16, ↓a1, ↓a2, ↓a3, ↓a4]
      rfl
    · simp only [get_same, get_other, ne_eq, Nat.reduceEqDiff, not_false_eq_true, f9]
    · simp only [get_same, get_other, ne_eq, Nat.reduceEqDiff, not_false_eq_true, f10]
  | d + 1, w, fr, hd, F, fu => by
    obtain ⟨fr1, e1, F1⟩ := stepO rg ry e (by omega) F n (d + (fu + 1))
    obtain ⟨fr2, e2, F2⟩ := loopO rg ry e n d (w + 1) fr1 (by omega) F1 fu
    exact ⟨fr2, fun k => by rw [show d + 1 + (fu + 1) = d + (fu + 1) + 1 from by omega, e1, e2], F2⟩
end
end Go.Proofs.Ytodlgflkhcknaaa.gcc

/- The law GcCollects, in one run. -/
namespace Go.Proofs.Ytodlgflkhcknaaa.gcc
open Go Go.AE
set_option linter.unusedSimpArgs false
set_option maxRecDepth 100000

def c3T2 : CCode := (.seq (.seq (.reg [⟨(some 16), none, (.pu (.mv (.c (.i .i64 0)))), 0, 0⟩]) (.block 0 (CCode.loop c3L1))) (.seq (.reg [⟨none, none, (.pu (.mv (.t 9))), 0, 0⟩, ⟨none, none, (.ef (.call (.f 9) [(.l 0)])), 0, 0⟩, ⟨none, none, (.pu (.mv (.t 10))), 0, 0⟩, ⟨none, none, (.ef (.call (.f 10) [(.l 0)])), 0, 0⟩, ⟨none, none, (.pu (.bin .eql (.l 2) (.l 0))), 0, 0⟩, ⟨none, none, (.pu (.mv (.l 0))), 0, 0⟩, ⟨none, (some ((.l 0), true)), (.ef (.call (.f 19) [])), 0, 0⟩, ⟨none, none, (.pu (.pick (.l 1) (.l 0) (.c (.b false)))), 0, 0⟩, ⟨(some 8), none, (.pu (.mv (.l 0))), 0, 0⟩]) .ret))
def c3T1 : CCode := (.seq (.seq (.reg [⟨none, none, (.pu (.mv (.t 12))), 0, 0⟩, ⟨none, none, (.pu (.isnil false 0 (.l 0))), 0, 0⟩, ⟨none, none, (.pu (.mv (.l 0))), 0, 0⟩, ⟨none, (some ((.l 0), false)), (.pu (.mv (.t 13))), 0, 0⟩, ⟨none, (some ((.l 1), false)), (.pu (.mv (.t 15))), 0, 0⟩, ⟨none, (some ((.l 2), false)), (.ef (.call (.f 8) [(.l 1), (.l 0)])), 0, 0⟩, ⟨none, (some ((.l 3), false)), (.pu (.not (.l 0))), 0, 0⟩, ⟨none, none, (.pu (.pick (.l 4) (.c (.b true)) (.l 0))), 0, 0⟩, ⟨none, none, (.pu (.mv (.l 0))), 0, 0⟩, ⟨none, (some ((.l 0), false)), (.pu (.mv (.t 12))), 0, 0⟩, ⟨none, (some ((.l 1), false)), (.ef (.call (.f 9) [(.l 0)])), 0, 0⟩, ⟨none, (some ((.l 2), false)), (.pu (.mv (.t 14))), 0, 0⟩, ⟨none, (some ((.l 3), false)), (.ef (.call (.f 10) [(.l 0)])), 0, 0⟩, ⟨none, (some ((.l 4), false)), (.pu (.bin .neq (.l 2) (.l 0))), 0, 0⟩, ⟨none, none, (.pu (.pick (.l 5) (.c (.b true)) (.l 0))), 0, 0⟩, ⟨none, none, (.pu (.mv (.l 0))), 0, 0⟩, ⟨none, (some ((.l 0), false)), (.pu (.mv (.t 12))), 0, 0⟩, ⟨none, (some ((.l 1), false)), (.ef (.call (.f 11) [(.l 0)])), 0, 0⟩, ⟨none, (some ((.l 2), false)), (.pu (.mv (.t 0))), 0, 0⟩, ⟨none, (some ((.l 3), false)), (.pu (.bin .neq (.l 1) (.l 0))), 0, 0⟩, ⟨none, none, (.pu (.pick (.l 4) (.c (.b true)) (.l 0))), 0, 0⟩, ⟨none, none, (.pu (.mv (.l 0))), 0, 0⟩, ⟨none, (some ((.l 0), false)), (.pu (.mv (.t 9))), 0, 0⟩, ⟨none, (some ((.l 1), false)), (.pu (.mv (.t 3))), 0, 0⟩, ⟨none, (some ((.l 2), false)), (.ef (.call (.f 12) [(.l 1), (.l 0)])), 0, 0⟩, ⟨none, (some ((.l 3), false)), (.pu (.mv (.t 14))), 0, 0⟩, ⟨none, (some ((.l 4), false)), (.ef (.call (.f 10) [(.l 0)])), 0, 0⟩, ⟨none, (some ((.l 5), false)), (.pu (.bin .neq (.l 2) (.l 0))), 0, 0⟩, ⟨(some 85), none, (.pu (.pick (.l 6) (.c (.b true)) (.l 0))), 0, 0⟩]) (.cond (.t 85) (.seq (.reg [⟨(some 8), none, (.pu (.mv (.c (.b false)))), 0, 0⟩]) .ret) .skip)) c3T2)
def c3T0 : CCode := (.seq (.reg [⟨none, none, (.pu (.mv (.t 9))), 0, 0⟩, ⟨none, none, (.al (.bsl [(.i .i64 0)] 1 0 [])), 0, 0⟩, ⟨none, none, (.pu (.mv (.t 3))), 0, 0⟩, ⟨none, none, (.ef (.app 1 8 (.l 1) (.l 0))), 0, 0⟩, ⟨none, none, (.ef (.call (.f 6) [(.l 3), (.l 0)])), 0, 0⟩, ⟨none, none, (.pu (.mv (.l 0))), 0, 0⟩, ⟨none, none, (.pu (.ext (.l 0) 0)), 0, 0⟩, ⟨none, none, (.pu (.ext (.l 1) 1)), 0, 0⟩, ⟨(some 12), none, (.pu (.mv (.l 1))), 0, 0⟩, ⟨(some 13), none, (.pu (.mv (.l 1))), 0, 0⟩]) (.seq (.reg [⟨none, none, (.pu (.mv (.t 10))), 0, 0⟩, ⟨none, none, (.pu (.mv (.t 3))), 0, 0⟩, ⟨none, none, (.ef (.call (.f 7) [(.l 1), (.l 0)])), 0, 0⟩, ⟨none, none, (.pu (.mv (.l 0))), 0, 0⟩, ⟨none, none, (.pu (.ext (.l 0) 0)), 0, 0⟩, ⟨none, none, (.pu (.ext (.l 1) 1)), 0, 0⟩, ⟨(some 14), none, (.pu (.mv (.l 1))), 0, 0⟩, ⟨(some 15), none, (.pu (.mv (.l 1))), 0, 0⟩]) c3T1))
theorem c3_cut : c3 = ⟨(.seq (.reg [⟨(some 8), none, (.pu (.mv (.c (.b false)))), 0, 0⟩]) (.seq (.reg [⟨none, none, (.pu (.mv (.t 0))), 0, 0⟩, ⟨none, none, (.pu (.mv (.t 1))), 0, 0⟩, ⟨none, none, (.pu (.mv (.t 2))), 0, 0⟩, ⟨none, none, (.ef (.call (.f 5) [(.l 2), (.l 1), (.l 0)])), 0, 0⟩, ⟨none, none, (.pu (.mv (.l 0))), 0, 0⟩, ⟨none, none, (.pu (.ext (.l 0) 0)), 0, 0⟩, ⟨none, none, (.pu (.ext (.l 1) 1)), 0, 0⟩, ⟨none, none, (.pu (.ext (.l 2) 2)), 0, 0⟩, ⟨(some 9), none, (.pu (.mv (.l 2))), 0, 0⟩, ⟨(some 10), none, (.pu (.mv (.l 2))), 0, 0⟩, ⟨none, none, (.pu (.mv (.l 2))), 0, 0⟩]) (.seq (.seq (.reg [⟨none, none, (.pu (.mv (.t 0))), 0, 0⟩, ⟨none, none, (.pu (.bin .gtr (.l 0) (.c (.i .i64 400)))), 0, 0⟩, ⟨none, none, (.pu (.mv (.l 0))), 0, 0⟩, ⟨none, (some ((.l 0), false)), (.pu (.mv (.t 3))), 0, 0⟩, ⟨none, (some ((.l 1), false)), (.pu (.len (.l 0))), 0, 0⟩, ⟨none, (some ((.l 2), false)), (.pu (.bin .gtr (.l 0) (.c (.i .i64 30)))), 0, 0⟩, ⟨none, none, (.pu (.pick (.l 3) (.c (.b true)) (.l 0))), 0, 0⟩, ⟨none, none, (.pu (.mv (.l 0))), 0, 0⟩, ⟨none, (some ((.l 0), false)), (.pu (.mv (.t 10))), 0, 0⟩, ⟨none, (some ((.l 1), false)), (.pu (.isnil false 0 (.l 0))), 0, 0⟩, ⟨(some 40), none, (.pu (.pick (.l 2) (.c (.b true)) (.l 0))), 0, 0⟩]) (.cond (.t 40) (.seq (.reg [⟨(some 8), none, (.pu (.mv (.c (.b true)))), 0, 0⟩]) .ret) .skip)) (.seq (.seq (.reg [⟨none, none, (.pu (.mv (.t 9))), 0, 0⟩, ⟨(some 42), none, (.pu (.isnil false 0 (.l 0))), 0, 0⟩]) (.cond (.t 42) (.seq (.reg [⟨(some 8), none, (.pu (.mv (.c (.b false)))), 0, 0⟩]) .ret) .skip)) c3T0)))), [(.tmp 8)]⟩ := rfl
theorem callK (n : Nat) (h : Heap) (k : KH) : cal (n + 1) 19 [] h k = k (.b true) ⟨Nat.add h.next 0, h.tr⟩ := rfl

section
variable {h : Heap} {words : Int} {vt vf vr : AV} {rows : List AV} {tags roots : List Int} {fss : List (List Int)}
theorem lawBig (hb : 400 < words) (hs : Sc h) (rt : RowR h vt tags) (rf : RowsR h vf rows fss) (hin : ∀ fl ∈ fss, ∀ y ∈ fl, In y) (n : Nat) : ∃ h', ∀ k, cal (n + 9) 3 [iv words, vt, vf, vr] h k = k (.b true) h' := by
  have g1 := fun k => b_gtrT (a := words) (b := 400) hb k
  have go : ∀ (a b c : AV) h', (∀ k, cal (n + 8) 5 [iv words, vt, vf] h k = k (.tup [a, b, c]) h') → ∃ h', ∀ k, cal (n + 9) 3 [iv words, vt, vf, vr] h k = k (.b true) h' := fun a b c h' e => by
    refine ⟨h', fun k => ?_⟩
    rw [run3]; simp only [ofL_cons, ofL_nil, Nat.zero_add, Nat.reduceAdd]
    simp -implicitDefEqProofs only [↓m_callf, ↓x_seq, ↓x_reg, ↓x_dreg, ↓x_cond, ↓x_skip, ↓x_exit, ↓x_ret, ↓x_block, ↓x_loop, ↓nrm_n, ↓nrm_e, ↓nrm_r, ↓o_nil, ↓o_consN, ↓o_consS, ↓o_guardN, ↓o_guardS, ↓put_n, ↓put_s, ↓r_pu, ↓r_rd, ↓r_al, ↓r_ef, ↓g_b, ↓e_t, ↓e_c, ↓e_f, ↓e_l0, ↓e_l1, ↓e_l2, ↓e_l3, ↓e_l4, ↓e_l5, ↓e_l6, ↓e_l7, ↓e_l8, ↓e_l9, ↓e_l10, ↓e_l11, ↓e_l12, ↓e_l13, ↓es_nil, ↓es_cons, ↓getK_same, ↓getK_other, ↓ofL_nil, ↓ofL_cons, ↓p_mv, ↓p_pick, ↓p_bld, ↓p_nilck, ↓p_bin, ↓p_isnil, ↓p_not, ↓p_ext, ↓p_len, ↓len_n, ↓len_s, ↓p_fad, ↓p_iad, ↓n_b, ↓n_p, ↓n_pf, ↓n_tup, ↓n_sl, ↓n_nils, ↓n_m, ↓n_f, ↓n_i, ↓n_mp, ↓nth0, ↓nth1, ↓nth2, ↓nil_pp, ↓nil_p, ↓nil_ss, ↓nil_s, ↓neg_f, ↓i_t, ↓i_f, ↓evN_of, ↓int_n, ↓int_0, ↓m_ld, ↓m_lk, ↓m_st0, ↓m_box, ↓m_mkm, ↓m_store, ↓m_mup, ↓m_app, ↓ap_0, ↓okT, ↓okF, ↓kd1, ↓ret_r, ↓res_t1, ↓res_t2, ↓one1, ↓one2, ↓rec_t, ↓rec_f, ↓fill_nil, ↓fill_cons, ↓c_i, ↓c_b, ↓c_m, ↓c_p, ↓c_nils, ↓c_sl, ↓c_agg, ↓len_1, ↓len_2, ↓len_3, ↓len_4, ↓beq11, ↓wrs1, ↓one_i, ↓one_p, ↓one_m, ↓one_sl, ↓one_nils, ↓d_nil, ↓d_puN, ↓d_puS, ↓d_rdN, ↓d_rdS, ↓d_alN, ↓d_alS, ↓d_efN, ↓d_efS, ↓d_gpuN, ↓d_gpuS, ↓d_grdN, ↓d_grdS, ↓d_gefN, ↓d_gefS, ↓k_nil, ↓k_cons, ↓ka_nil, ↓ka_cons, ↓rev_nil, ↓rev_cons, ↓and_t, ↓and_f, ↓rrec_t, ↓rrec_f, ↓s_m, ↓s_p, ↓s_i, ↓s_nils, ↓s_sl, ↓rec_nt, ↓rec_nf, ↓rec_dt, ↓neg_tt, ↓neg_tf, ↓ex_n, ↓ex_e, ↓ex_r, ↓m_mks, ↓rec_bb, ↓o_guardTN, ↓o_guardTS, ↓res_t3, ↓one3, ↓ga_old, ↓ga_new, ↓gu_same, ↓gu_other, ↓fv20, ↓fv21, ↓fv30, ↓fv32, ↓fv40, ↓fv41, ↓fv42, ↓fv43, i_t, i_f, rec_t, rec_f, getK_same, getK_other, ofL_cons, ofL_nil, and_t, and_f, rrec_t, rrec_f, ka_nil, ka_cons, k_nil, k_cons, len_1, len_2, len_3, len_4, c_i, c_b, c_m, c_p, c_nils, c_sl, c_agg, beq11, one_i, one_p, one_m, one_sl, one_nils, s_m, s_p, s_i, s_nils, s_sl, rev_nil, rev_cons, ap_0, beq_dec, ble_dec, ne_eq, not_false_eq_true, reduceCtorEq, Bool.not_true, Bool.not_false, Nat.zero_add, Nat.reduceAdd, Nat.reduceLT, Nat.reduceEqDiff, Nat.reduceLeDiff, Nat.zero_le, decide_true, decide_false, c3_cut, ↓e, ↓g1]
  by_cases h2 : 20000 < words
  · exact go _ _ _ _ (fun k => pairNo (words := words) (vt := vt) (vf := vf) (h := h) (.inr h2) (n + 4) k)
  · by_cases h3 : tags.length ≤ 60
    · obtain ⟨h', p, m, x, L, Lx, a, t, f, l, ls, e, _⟩ := pairGo (words := words) hs (by omega) (by omega) rt rf hin h3 (n + 4)
      exact go _ _ _ _ e
    · obtain ⟨h', e⟩ := pairLong (words := words) (vf := vf) hs (by omega) (by omega) rt (by omega) (n + 4)
      exact go _ _ _ _ e
theorem lawNil (hb : ¬ 400 < words) (rr : RowR h vr roots) {h' : Heap} (n : Nat) (e : ∀ k, cal (n + 8) 5 [iv words, vt, vf] h k = k (.tup [.nilp, .nilp, .nils]) h') : ∃ h', ∀ k, cal (n + 9) 3 [iv words, vt, vf, vr] h k = k (.b true) h' := by
  have g1 := fun k => b_gtrF (a := words) (b := 400) hb k
  by_cases h30 : 30 < roots.length
  · have g2 := fun k => b_gtrT (a := (roots.length : Int)) (b := 30) (by omega) k
    refine ⟨h', fun k => ?_⟩
    rw [run3]; simp only [ofL_cons, ofL_nil, Nat.zero_add, Nat.reduceAdd]
    simp -implicitDefEqProofs only [↓m_callf, ↓x_seq, ↓x_reg, ↓x_dreg, ↓x_cond, ↓x_skip, ↓x_exit, ↓x_ret, ↓x_block, ↓x_loop, ↓nrm_n, ↓nrm_e, ↓nrm_r, ↓o_nil, ↓o_consN, ↓o_consS, ↓o_guardN, ↓o_guardS, ↓put_n, ↓put_s, ↓r_pu, ↓r_rd, ↓r_al, ↓r_ef, ↓g_b, ↓e_t, ↓e_c, ↓e_f, ↓e_l0, ↓e_l1, ↓e_l2, ↓e_l3, ↓e_l4, ↓e_l5, ↓e_l6, ↓e_l7, ↓e_l8, ↓e_l9, ↓e_l10, ↓e_l11, ↓e_l12, ↓e_l13, ↓es_nil, ↓es_cons, ↓getK_same, ↓getK_other, ↓ofL_nil, ↓ofL_cons, ↓p_mv, ↓p_pick, ↓p_bld, ↓p_nilck, ↓p_bin, ↓p_isnil, ↓p_not, ↓p_ext, ↓p_len, ↓len_n, ↓len_s, ↓p_fad, ↓p_iad, ↓n_b, ↓n_p, ↓n_pf, ↓n_tup, ↓n_sl, ↓n_nils, ↓n_m, ↓n_f, ↓n_i, ↓n_mp, ↓nth0, ↓nth1, ↓nth2, ↓nil_pp, ↓nil_p, ↓nil_ss, ↓nil_s, ↓neg_f, ↓i_t, ↓i_f, ↓evN_of, ↓int_n, ↓int_0, ↓m_ld, ↓m_lk, ↓m_st0, ↓m_box, ↓m_mkm, ↓m_store, ↓m_mup, ↓m_app, ↓ap_0, ↓okT, ↓okF, ↓kd1, ↓ret_r, ↓res_t1, ↓res_t2, ↓one1, ↓one2, ↓rec_t, ↓rec_f, ↓fill_nil, ↓fill_cons, ↓c_i, ↓c_b, ↓c_m, ↓c_p, ↓c_nils, ↓c_sl, ↓c_agg, ↓len_1, ↓len_2, ↓len_3, ↓len_4, ↓beq11, ↓wrs1, ↓one_i, ↓one_p, ↓one_m, ↓one_sl, ↓one_nils, ↓d_nil, ↓d_puN, ↓d_puS, ↓d_rdN, ↓d_rdS, ↓d_alN, ↓d_alS, ↓d_efN, ↓d_efS, ↓d_gpuN, ↓d_gpuS, ↓d_grdN, ↓d_grdS, ↓d_gefN, ↓d_gefS, ↓k_nil, ↓k_cons, ↓ka_nil, ↓ka_cons, ↓rev_nil, ↓rev_cons, ↓and_t, ↓and_f, ↓rrec_t, ↓rrec_f, ↓s_m, ↓s_p, ↓s_i, ↓s_nils, ↓s_sl, ↓rec_nt, ↓rec_nf, ↓rec_dt, ↓neg_tt, ↓neg_tf, ↓ex_n, ↓ex_e, ↓ex_r, ↓m_mks, ↓rec_bb, ↓o_guardTN, ↓o_guardTS, ↓res_t3, ↓one3, ↓ga_old, ↓ga_new, ↓gu_same, ↓gu_other, ↓fv20, ↓fv21, ↓fv30, ↓fv32, ↓fv40, ↓fv41, ↓fv42, ↓fv43, i_t, i_f, rec_t, rec_f, getK_same, getK_other, ofL_cons, ofL_nil, and_t, and_f, rrec_t, rrec_f, ka_nil, ka_cons, k_nil, k_cons, len_1, len_2, len_3, len_4, c_i, c_b, c_m, c_p, c_nils, c_sl, c_agg, beq11, one_i, one_p, one_m, one_sl, one_nils, s_m, s_p, s_i, s_nils, s_sl, rev_nil, rev_cons, ap_0, beq_dec, ble_dec, ne_eq, not_false_eq_true, reduceCtorEq, Bool.not_true, Bool.not_false, Nat.zero_add, Nat.reduceAdd, Nat.reduceLT, Nat.reduceEqDiff, Nat.reduceLeDiff, Nat.zero_le, decide_true, decide_false, c3_cut, ↓e, ↓g1, ↓rr.len, ↓g2]
  · have g2 := fun k => b_gtrF (a := (roots.length : Int)) (b := 30) (by omega) k
    refine ⟨h', fun k => ?_⟩
    rw [run3]; simp only [ofL_cons, ofL_nil, Nat.zero_add, Nat.reduceAdd]
    simp -implicitDefEqProofs only [↓m_callf, ↓x_seq, ↓x_reg, ↓x_dreg, ↓x_cond, ↓x_skip, ↓x_exit, ↓x_ret, ↓x_block, ↓x_loop, ↓nrm_n, ↓nrm_e, ↓nrm_r, ↓o_nil, ↓o_consN, ↓o_consS, ↓o_guardN, ↓o_guardS, ↓put_n, ↓put_s, ↓r_pu, ↓r_rd, ↓r_al, ↓r_ef, ↓g_b, ↓e_t, ↓e_c, ↓e_f, ↓e_l0, ↓e_l1, ↓e_l2, ↓e_l3, ↓e_l4, ↓e_l5, ↓e_l6, ↓e_l7, ↓e_l8, ↓e_l9, ↓e_l10, ↓e_l11, ↓e_l12, ↓e_l13, ↓es_nil, ↓es_cons, ↓getK_same, ↓getK_other, ↓ofL_nil, ↓ofL_cons, ↓p_mv, ↓p_pick, ↓p_bld, ↓p_nilck, ↓p_bin, ↓p_isnil, ↓p_not, ↓p_ext, ↓p_len, ↓len_n, ↓len_s, ↓p_fad, ↓p_iad, ↓n_b, ↓n_p, ↓n_pf, ↓n_tup, ↓n_sl, ↓n_nils, ↓n_m, ↓n_f, ↓n_i, ↓n_mp, ↓nth0, ↓nth1, ↓nth2, ↓nil_pp, ↓nil_p, ↓nil_ss, ↓nil_s, ↓neg_f, ↓i_t, ↓i_f, ↓evN_of, ↓int_n, ↓int_0, ↓m_ld, ↓m_lk, ↓m_st0, ↓m_box, ↓m_mkm, ↓m_store, ↓m_mup, ↓m_app, ↓ap_0, ↓okT, ↓okF, ↓kd1, ↓ret_r, ↓res_t1, ↓res_t2, ↓one1, ↓one2, ↓rec_t, ↓rec_f, ↓fill_nil, ↓fill_cons, ↓c_i, ↓c_b, ↓c_m, ↓c_p, ↓c_nils, ↓c_sl, ↓c_agg, ↓len_1, ↓len_2, ↓len_3, ↓len_4, ↓beq11, ↓wrs1, ↓one_i, ↓one_p, ↓one_m, ↓one_sl, ↓one_nils, ↓d_nil, ↓d_puN, ↓d_puS, ↓d_rdN, ↓d_rdS, ↓d_alN, ↓d_alS, ↓d_efN, ↓d_efS, ↓d_gpuN, ↓d_gpuS, ↓d_grdN, ↓d_grdS, ↓d_gefN, ↓d_gefS, ↓k_nil, ↓k_cons, ↓ka_nil, ↓ka_cons, ↓rev_nil, ↓rev_cons, ↓and_t, ↓and_f, ↓rrec_t, ↓rrec_f, ↓s_m, ↓s_p, ↓s_i, ↓s_nils, ↓s_sl, ↓rec_nt, ↓rec_nf, ↓rec_dt, ↓neg_tt, ↓neg_tf, ↓ex_n, ↓ex_e, ↓ex_r, ↓m_mks, ↓rec_bb, ↓o_guardTN, ↓o_guardTS, ↓res_t3, ↓one3, ↓ga_old, ↓ga_new, ↓gu_same, ↓gu_other, ↓fv20, ↓fv21, ↓fv30, ↓fv32, ↓fv40, ↓fv41, ↓fv42, ↓fv43, i_t, i_f, rec_t, rec_f, getK_same, getK_other, ofL_cons, ofL_nil, and_t, and_f, rrec_t, rrec_f, ka_nil, ka_cons, k_nil, k_cons, len_1, len_2, len_3, len_4, c_i, c_b, c_m, c_p, c_nils, c_sl, c_agg, beq11, one_i, one_p, one_m, one_sl, one_nils, s_m, s_p, s_i, s_nils, s_sl, rev_nil, rev_cons, ap_0, beq_dec, ble_dec, ne_eq, not_false_eq_true, reduceCtorEq, Bool.not_true, Bool.not_false, Nat.zero_add, Nat.reduceAdd, Nat.reduceLT, Nat.reduceEqDiff, Nat.reduceLeDiff, Nat.zero_le, decide_true, decide_false, c3_cut, ↓e, ↓g1, ↓rr.len, ↓g2]
theorem runT2 {h : Heap} {p m x g gm y : Nat} {words : Int} {L Lx M N : List Cl} {a t f a' t' f' : AV} (rh : RH h p m words L) (rx : RX h x words Lx a t f) (us : used L = used Lx) (rg : RH h g gm words M) (ry : RX h y words N a' t' f') (e : M.map Cl.bk = N.map Cl.bk) {fr : Fr}
    (f9 : fr.get 9 = some (.p p 0 0)) (f10 : fr.get 10 = some (.p x 0 0)) (f12 : fr.get 12 = some (.p g 0 0)) (f14 : fr.get 14 = some (.p y 0 0)) (n : Nat) :
    ∃ fr' h', (∀ K : KE, exec (cal (n + 4)) c3T2 fr h K = K .ret fr' h') ∧ fr'.get 8 = some (.b true) := by
  have hM := ry.fits
  obtain ⟨fr6, e6, g9, g10⟩ := loopO (p := p) (x := x) rg ry e n (2 * used N + 4) 0 (T.set (iv 0) fr 16)
    (by omega) (by refine ⟨?_, ?_, ?_, ?_, ?_⟩ <;> simp only [get_same, get_other, ne_eq, Nat.reduceEqDiff, not_false_eq_true, f9, f10, f12, f14] <;> rfl) (1000000 - (2 * used N + 4) - 1)
  rw [show 2 * used N + 4 + (1000000 - (2 * used N + 4) - 1 + 1) = 1000000 from by omega] at e6
  have w8 := fun k => rUsed rh (n + 3) k
  have w9 := fun k => xUsed rx (n + 3) k
  rw [← us] at w9
  have w10 := fun k => b_eqlT (a := (used L : Int)) (b := (used L : Int)) rfl k
  have w11 := fun k => callK (n + 3) h k
  apply Exists.intro
  apply Exists.intro
  refine ⟨fun K => ?_, ?_⟩
  · simp -implicitDefEqProofs only [↓m_callf, ↓x_seq, ↓x_reg, ↓x_dreg, ↓x_cond, ↓x_skip, ↓x_exit, ↓x_ret, ↓x_block, ↓x_loop, ↓nrm_n, ↓nrm_e, ↓nrm_r, ↓o_nil, ↓o_consN, ↓o_consS, ↓o_guardN, ↓o_guardS, ↓put_n, ↓put_s, ↓r_pu, ↓r_rd, ↓r_al, ↓r_ef, ↓g_b, ↓e_t, ↓e_c, ↓e_f, ↓e_l0, ↓e_l1, ↓e_l2, ↓e_l3, ↓e_l4, ↓e_l5, ↓e_l6, ↓e_l7, ↓e_l8, ↓e_l9, ↓e_l10, ↓e_l11, ↓e_l12, ↓e_l13, ↓es_nil, ↓es_cons, ↓getK_same, ↓getK_other, ↓ofL_nil, ↓ofL_cons, ↓p_mv, ↓p_pick, ↓p_bld, ↓p_nilck, ↓p_bin, ↓p_isnil, ↓p_not, ↓p_ext, ↓p_len, ↓len_n, ↓len_s, ↓p_fad, ↓p_iad, ↓n_b, ↓n_p, ↓n_pf, ↓n_tup, ↓n_sl, ↓n_nils, ↓n_m, ↓n_f, ↓n_i, ↓n_mp, ↓nth0, ↓nth1, ↓nth2, ↓nil_pp, ↓nil_p, ↓nil_ss, ↓nil_s, ↓neg_f, ↓i_t, ↓i_f, ↓evN_of, ↓int_n, ↓int_0, ↓m_ld, ↓m_lk, ↓m_st0, ↓m_box, ↓m_mkm, ↓m_store, ↓m_mup, ↓m_app, ↓ap_0, ↓okT, ↓okF, ↓kd1, ↓ret_r, ↓res_t1, ↓res_t2, ↓one1, ↓one2, ↓rec_t, ↓rec_f, ↓fill_nil, ↓fill_cons, ↓c_i, ↓c_b, ↓c_m, ↓c_p, ↓c_nils, ↓c_sl, ↓c_agg, ↓len_1, ↓len_2, ↓len_3, ↓len_4, ↓beq11, ↓wrs1, ↓one_i, ↓one_p, ↓one_m, ↓one_sl, ↓one_nils, ↓d_nil, ↓d_puN, ↓d_puS, ↓d_rdN, ↓d_rdS, ↓d_alN, ↓d_alS, ↓d_efN, ↓d_efS, ↓d_gpuN, ↓d_gpuS, ↓d_grdN, ↓d_grdS, ↓d_gefN, ↓d_gefS, ↓k_nil, ↓k_cons, ↓ka_nil, ↓ka_cons, ↓rev_nil, ↓rev_cons, ↓and_t, ↓and_f, ↓rrec_t, ↓rrec_f, ↓s_m, ↓s_p, ↓s_i, ↓s_nils, ↓s_sl, ↓rec_nt, ↓rec_nf, ↓rec_dt, ↓neg_tt, ↓neg_tf, ↓ex_n, ↓ex_e, ↓ex_r, ↓m_mks, ↓rec_bb, ↓o_guardTN, ↓o_guardTS, ↓res_t3, ↓one3, ↓ga_old, ↓ga_new, ↓gu_same, ↓gu_other, ↓fv20, ↓fv21, ↓fv30, ↓fv32, ↓fv40, ↓fv41, ↓fv42, ↓fv43, i_t, i_f, rec_t, rec_f, getK_same, getK_other, ofL_cons, ofL_nil, and_t, and_f, rrec_t, rrec_f, ka_nil, ka_cons, k_nil, k_cons, len_1, len_2, len_3, len_4, c_i, c_b, c_m, c_p, c_nils, c_sl, c_agg, beq11, one_i, one_p, one_m, one_sl, one_nils, s_m, s_p, s_i, s_nils, s_sl, rev_nil, rev_cons, ap_0, beq_dec, ble_dec, ne_eq, not_false_eq_true, reduceCtorEq, Bool.not_true, Bool.not_false, Nat.zero_add, Nat.reduceAdd, Nat.reduceLT, Nat.reduceEqDiff, Nat.reduceLeDiff, Nat.zero_le, decide_true, decide_false, c3T2, ↓e6, ↓t_get g9, ↓t_get g10, ↓w8, ↓w9, ↓w10, ↓w11]
    rfl
  · simp only [get_same]
theorem runT1 {h : Heap} {p m x g gm y : Nat} {words : Int} {L Lx M N : List Cl} {a t f a' t' f' vr ra rb : AV} {roots l : List Int} (hs : Sc h) (rh : RH h p m words L) (rx : RX h x words Lx a t f) (us : used L = used Lx) (rg : RH h g gm words M) (ry : RX h y words N a' t' f') (e : M.map Cl.bk = N.map Cl.bk)
    (h0 : 0 ≤ words) (hu : (used L : Int) ≤ words) (hb : words ≤ 400) (rr : RowR h vr roots) (hr : roots.length < 1000000) (r1 : RowR h ra l) (r2 : RowR h rb l) (hl : l.length < 1000000) (ur : usedB (pcollect (L.map Cl.bk) roots).2.bs = used N) {fr : Fr}
    (f0 : fr.get 0 = some (iv words)) (f3 : fr.get 3 = some vr) (f9 : fr.get 9 = some (.p p 0 0)) (f10 : fr.get 10 = some (.p x 0 0)) (f12 : fr.get 12 = some (.p g 0 0)) (f13 : fr.get 13 = some ra) (f14 : fr.get 14 = some (.p y 0 0)) (f15 : fr.get 15 = some rb) (n : Nat) :
    ∃ fr' h', (∀ K : KE, exec (cal (n + 8)) c3T1 fr h K = K .ret fr' h') ∧ fr'.get 8 = some (.b true) := by
  obtain ⟨h5, e5, s5, k5⟩ := gReach rh hs h0 hu (by omega) rr hr n
  have rh5 := rh.keep k5 hs (by simp) (by simp) (fun _ _ => by simp)
  have rx5 := rx.keep k5 hs (by simp) (fun _ _ => by simp)
  have rn5 := rg.keep k5 hs (by simp) (by simp) (fun _ _ => by simp)
  have ry5 := ry.keep k5 hs (by simp) (fun _ _ => by simp)
  have us2 : used M = used N := by rw [← used_bk M, e, used_bk]
  rw [ur] at e5
  have w1 := fun k => xWords r1 r2 hl (n + 7) k
  have w2 := fun k => rUsed rg (n + 7) k
  have w3 := fun k => xUsed ry (n + 7) k
  rw [us2] at w2
  have w4 := fun k => b_neqF (a := (used N : Int)) (b := (used N : Int)) rfl k
  have w5 := fun k => rSize rg (n + 7) k
  have w6 := fun k => b_neqF (a := words) (b := words) rfl k
  have w7 := fun k => xUsed ry5 (n + 7) k
  obtain ⟨fr6, h6, e6, g8⟩ := runT2 rh5 rx5 us rn5 ry5 e (fr := T.set (.b false) fr 85) (by rw [get_other _ _ (by decide), f9]) (by rw [get_other _ _ (by decide), f10]) (by rw [get_other _ _ (by decide), f12]) (by rw [get_other _ _ (by decide), f14]) (n + 4)
  refine ⟨fr6, h6, fun K => ?_, g8⟩
  simp -implicitDefEqProofs only [↓m_callf, ↓x_seq, ↓x_reg, ↓x_dreg, ↓x_cond, ↓x_skip, ↓x_exit, ↓x_ret, ↓x_block, ↓x_loop, ↓nrm_n, ↓nrm_e, ↓nrm_r, ↓o_nil, ↓o_consN, ↓o_consS, ↓o_guardN, ↓o_guardS, ↓put_n, ↓put_s, ↓r_pu, ↓r_rd, ↓r_al, ↓r_ef, ↓g_b, ↓e_t, ↓e_c, ↓e_f, ↓e_l0, ↓e_l1, ↓e_l2, ↓e_l3, ↓e_l4, ↓e_l5, ↓e_l6, ↓e_l7, ↓e_l8, ↓e_l9, ↓e_l10, ↓e_l11, ↓e_l12, ↓e_l13, ↓es_nil, ↓es_cons, ↓getK_same, ↓getK_other, ↓ofL_nil, ↓ofL_cons, ↓p_mv, ↓p_pick, ↓p_bld, ↓p_nilck, ↓p_bin, ↓p_isnil, ↓p_not, ↓p_ext, ↓p_len, ↓len_n, ↓len_s, ↓p_fad, ↓p_iad, ↓n_b, ↓n_p, ↓n_pf, ↓n_tup, ↓n_sl, ↓n_nils, ↓n_m, ↓n_f, ↓n_i, ↓n_mp, ↓nth0, ↓nth1, ↓nth2, ↓nil_pp, ↓nil_p, ↓nil_ss, ↓nil_s, ↓neg_f, ↓i_t, ↓i_f, ↓evN_of, ↓int_n, ↓int_0, ↓m_ld, ↓m_lk, ↓m_st0, ↓m_box, ↓m_mkm, ↓m_store, ↓m_mup, ↓m_app, ↓ap_0, ↓okT, ↓okF, ↓kd1, ↓ret_r, ↓res_t1, ↓res_t2, ↓one1, ↓one2, ↓rec_t, ↓rec_f, ↓fill_nil, ↓fill_cons, ↓c_i, ↓c_b, ↓c_m, ↓c_p, ↓c_nils, ↓c_sl, ↓c_agg, ↓len_1, ↓len_2, ↓len_3, ↓len_4, ↓beq11, ↓wrs1, ↓one_i, ↓one_p, ↓one_m, ↓one_sl, ↓one_nils, ↓d_nil, ↓d_puN, ↓d_puS, ↓d_rdN, ↓d_rdS, ↓d_alN, ↓d_alS, ↓d_efN, ↓d_efS, ↓d_gpuN, ↓d_gpuS, ↓d_grdN, ↓d_grdS, ↓d_gefN, ↓d_gefS, ↓k_nil, ↓k_cons, ↓ka_nil, ↓ka_cons, ↓rev_nil, ↓rev_cons, ↓and_t, ↓and_f, ↓rrec_t, ↓rrec_f, ↓s_m, ↓s_p, ↓s_i, ↓s_nils, ↓s_sl, ↓rec_nt, ↓rec_nf, ↓rec_dt, ↓neg_tt, ↓neg_tf, ↓ex_n, ↓ex_e, ↓ex_r, ↓m_mks, ↓rec_bb, ↓o_guardTN, ↓o_guardTS, ↓res_t3, ↓one3, ↓ga_old, ↓ga_new, ↓gu_same, ↓gu_other, ↓fv20, ↓fv21, ↓fv30, ↓fv32, ↓fv40, ↓fv41, ↓fv42, ↓fv43, i_t, i_f, rec_t, rec_f, getK_same, getK_other, ofL_cons, ofL_nil, and_t, and_f, rrec_t, rrec_f, ka_nil, ka_cons, k_nil, k_cons, len_1, len_2, len_3, len_4, c_i, c_b, c_m, c_p, c_nils, c_sl, c_agg, beq11, one_i, one_p, one_m, one_sl, one_nils, s_m, s_p, s_i, s_nils, s_sl, rev_nil, rev_cons, ap_0, beq_dec, ble_dec, ne_eq, not_false_eq_true, reduceCtorEq, Bool.not_true, Bool.not_false, Nat.zero_add, Nat.reduceAdd, Nat.reduceLT, Nat.reduceEqDiff, Nat.reduceLeDiff, Nat.zero_le, decide_true, decide_false, c3T1, ↓t_get f0, ↓t_get f3, ↓t_get f9, ↓t_get f10, ↓t_get f12, ↓t_get f13, ↓t_get f14, ↓t_get f15, ↓w1, ↓w2, ↓w3, ↓w4, ↓w5, ↓w6, ↓w7, ↓e5, ↓e6]
theorem runT0 {h : Heap} {b p m x : Nat} {words : Int} {L Lx : List Cl} {a t f l vr : AV} {ls : List AV} {roots : List Int} (P : PR h b p m x words L Lx a t f l ls) (hs : Sc h) (h0 : 0 ≤ words) (hb : words ≤ 400) (rr : RowR h vr roots) (hr : roots.length ≤ 30) (hir : ∀ w ∈ roots, In w) {fr : Fr}
    (f0 : fr.get 0 = some (iv words)) (f3 : fr.get 3 = some vr) (f9 : fr.get 9 = some (.p p 0 0)) (f10 : fr.get 10 = some (.p x 0 0)) (n : Nat) :
    ∃ fr' h', (∀ K : KE, exec (cal (n + 8)) c3T0 fr h K = K .ret fr' h') ∧ fr'.get 8 = some (.b true) := by
  obtain ⟨v2, h2, e2, ro2, s2, k2, i2, _, _⟩ := clone2 rr hs (by omega)
  have rh2 : RH h2 p m words L := P.rh.keep k2 hs (by simp) (by simp) (fun _ _ => by simp)
  obtain ⟨h3, pn, mn, Ln, out, e3, rn3, b3, go3, s3, k3, u3⟩ := gCollect rh2 s2 h0 P.fit (by omega) ro2.read (by omega) (n + 1)
  have k13 : Kp h h3 [] := k2.trans k3 (fun i hi _ => hi)
  have rx3 : RX h3 x words Lx a t f := P.rx.keep k13 hs (by simp) (fun _ _ => by simp)
  have hux : (used Lx : Int) ≤ words := by rw [← P.us]; exact P.fit
  obtain ⟨h4, xn, Lxn, out', an, tn, fn, e4, rx4, b4, go4, s4, k4⟩ := xCollect rx3 s3 h0 hux (by omega) (rr.kp hs k13) (by omega) hir (n + 2)
  rw [← P.eq] at b4 go4
  have rn4 : RH h4 pn mn words Ln := rn3.keep k4 s3 (by simp) (by simp) (fun _ _ => by simp)
  have eq4 : Ln.map Cl.bk = Lxn.map Cl.bk := by rw [b3, b4]
  have ra4 : RowR h4 out (pcollect (L.map Cl.bk) roots).1 := go3.row.kp s3 k4
  have rb4 : RowR h4 out' (pcollect (L.map Cl.bk) roots).1 := go4.row
  have hlen : (pcollect (L.map Cl.bk) roots).1.length < 1000000 := by
    have : ∀ (ws : List Int) (s : Sx), (proots (L.map Cl.bk) ws s).1.length = ws.length := by
      intro ws
      induction ws with
      | nil => intro s; rfl
      | cons w ws ih => intro s; show (_ :: _).length = _; rw [List.length_cons, ih]; rfl
    show (proots (L.map Cl.bk) roots ⟨[], []⟩).1.length < _
    rw [this]; omega
  have k14 : Kp h h4 [] := k13.trans k4 (fun i hi _ => hi)
  have rh4 : RH h4 p m words L := P.rh.keep k14 hs (by simp) (by simp) (fun _ _ => by simp)
  have rx4o : RX h4 x words Lx a t f := P.rx.keep k14 hs (by simp) (fun _ _ => by simp)
  obtain ⟨fr5, h5, e5, g8⟩ := runT1 s4 rh4 rx4o P.us rn4 rx4 eq4 h0 P.fit hb (rr.kp hs k14) (by omega) ra4 rb4 hlen (by rw [← b4, used_bk]) (fr := T.set out' (T.set (.p xn 0 0) (T.set out (T.set (.p pn 0 0) fr 12) 13) 14) 15)
    (by simp only [get_other, ne_eq, Nat.reduceEqDiff, not_false_eq_true, f0]) (by simp only [get_other, ne_eq, Nat.reduceEqDiff, not_false_eq_true, f3]) (by simp only [get_other, ne_eq, Nat.reduceEqDiff, not_false_eq_true, f9]) (by simp only [get_other, ne_eq, Nat.reduceEqDiff, not_false_eq_true, f10])
    (by simp only [get_same, get_other, ne_eq, Nat.reduceEqDiff, not_false_eq_true]) (by simp only [get_same, get_other, ne_eq, Nat.reduceEqDiff, not_false_eq_true]) (by simp only [get_same, get_other, ne_eq, Nat.reduceEqDiff, not_false_eq_true]) (by simp only [get_same]) n
  refine ⟨fr5, h5, fun K => ?_, g8⟩
  simp -implicitDefEqProofs only [↓m_callf, ↓x_seq, ↓x_reg, ↓x_dreg, ↓x_cond, ↓x_skip, ↓x_exit, ↓x_ret, ↓x_block, ↓x_loop, ↓nrm_n, ↓nrm_e, ↓nrm_r, ↓o_nil, ↓o_consN, ↓o_consS, ↓o_guardN, ↓o_guardS, ↓put_n, ↓put_s, ↓r_pu, ↓r_rd, ↓r_al, ↓r_ef, ↓g_b, ↓e_t, ↓e_c, ↓e_f, ↓e_l0, ↓e_l1, ↓e_l2, ↓e_l3, ↓e_l4, ↓e_l5, ↓e_l6, ↓e_l7, ↓e_l8, ↓e_l9, ↓e_l10, ↓e_l11, ↓e_l12, ↓e_l13, ↓es_nil, ↓es_cons, ↓getK_same, ↓getK_other, ↓ofL_nil, ↓ofL_cons, ↓p_mv, ↓p_pick, ↓p_bld, ↓p_nilck, ↓p_bin, ↓p_isnil, ↓p_not, ↓p_ext, ↓p_len, ↓len_n, ↓len_s, ↓p_fad, ↓p_iad, ↓n_b, ↓n_p, ↓n_pf, ↓n_tup, ↓n_sl, ↓n_nils, ↓n_m, ↓n_f, ↓n_i, ↓n_mp, ↓nth0, ↓nth1, ↓nth2, ↓nil_pp, ↓nil_p, ↓nil_ss, ↓nil_s, ↓neg_f, ↓i_t, ↓i_f, ↓evN_of, ↓int_n, ↓int_0, ↓m_ld, ↓m_lk, ↓m_st0, ↓m_box, ↓m_mkm, ↓m_store, ↓m_mup, ↓m_app, ↓ap_0, ↓okT, ↓okF, ↓kd1, ↓ret_r, ↓res_t1, ↓res_t2, ↓one1, ↓one2, ↓rec_t, ↓rec_f, ↓fill_nil, ↓fill_cons, ↓c_i, ↓c_b, ↓c_m, ↓c_p, ↓c_nils, ↓c_sl, ↓c_agg, ↓len_1, ↓len_2, ↓len_3, ↓len_4, ↓beq11, ↓wrs1, ↓one_i, ↓one_p, ↓one_m, ↓one_sl, ↓one_nils, ↓d_nil, ↓d_puN, ↓d_puS, ↓d_rdN, ↓d_rdS, ↓d_alN, ↓d_alS, ↓d_efN, ↓d_efS, ↓d_gpuN, ↓d_gpuS, ↓d_grdN, ↓d_grdS, ↓d_gefN, ↓d_gefS, ↓k_nil, ↓k_cons, ↓ka_nil, ↓ka_cons, ↓rev_nil, ↓rev_cons, ↓and_t, ↓and_f, ↓rrec_t, ↓rrec_f, ↓s_m, ↓s_p, ↓s_i, ↓s_nils, ↓s_sl, ↓rec_nt, ↓rec_nf, ↓rec_dt, ↓neg_tt, ↓neg_tf, ↓ex_n, ↓ex_e, ↓ex_r, ↓m_mks, ↓rec_bb, ↓o_guardTN, ↓o_guardTS, ↓res_t3, ↓one3, ↓ga_old, ↓ga_new, ↓gu_same, ↓gu_other, ↓fv20, ↓fv21, ↓fv30, ↓fv32, ↓fv40, ↓fv41, ↓fv42, ↓fv43, i_t, i_f, rec_t, rec_f, getK_same, getK_other, ofL_cons, ofL_nil, and_t, and_f, rrec_t, rrec_f, ka_nil, ka_cons, k_nil, k_cons, len_1, len_2, len_3, len_4, c_i, c_b, c_m, c_p, c_nils, c_sl, c_agg, beq11, one_i, one_p, one_m, one_sl, one_nils, s_m, s_p, s_i, s_nils, s_sl, rev_nil, rev_cons, ap_0, beq_dec, ble_dec, ne_eq, not_false_eq_true, reduceCtorEq, Bool.not_true, Bool.not_false, Nat.zero_add, Nat.reduceAdd, Nat.reduceLT, Nat.reduceEqDiff, Nat.reduceLeDiff, Nat.zero_le, decide_true, decide_false, c3T0, ↓bsl_none, ↓t_get f0, ↓t_get f3, ↓t_get f9, ↓t_get f10, ↓e2, ↓e3, ↓e4, ↓e5]
theorem lawMain (h0 : 0 ≤ words) (hb : words ≤ 400) (hs : Sc h) (rt : RowR h vt tags) (rf : RowsR h vf rows fss) (rr : RowR h vr roots) (hin : ∀ fl ∈ fss, ∀ y ∈ fl, In y) (hir : ∀ w ∈ roots, In w) (h60 : tags.length ≤ 60) (n : Nat) :
    ∃ h', ∀ k, cal (n + 9) 3 [iv words, vt, vf, vr] h k = k (.b true) h' := by
  obtain ⟨h1, p, m, x, L, Lx, a, t, f, l, ls, e1, P, s1, k1⟩ := pairGo hs h0 (by omega) rt rf hin h60 (n + 4)
  have g1 := fun k => b_gtrF (a := words) (b := 400) (by omega) k
  by_cases h30 : 30 < roots.length
  · have g2 := fun k => b_gtrT (a := (roots.length : Int)) (b := 30) (by omega) k
    refine ⟨h1, fun k => ?_⟩
    rw [run3]; simp only [ofL_cons, ofL_nil, Nat.zero_add, Nat.reduceAdd]
    simp -implicitDefEqProofs only [↓m_callf, ↓x_seq, ↓x_reg, ↓x_dreg, ↓x_cond, ↓x_skip, ↓x_exit, ↓x_ret, ↓x_block, ↓x_loop, ↓nrm_n, ↓nrm_e, ↓nrm_r, ↓o_nil, ↓o_consN, ↓o_consS, ↓o_guardN, ↓o_guardS, ↓put_n, ↓put_s, ↓r_pu, ↓r_rd, ↓r_al, ↓r_ef, ↓g_b, ↓e_t, ↓e_c, ↓e_f, ↓e_l0, ↓e_l1, ↓e_l2, ↓e_l3, ↓e_l4, ↓e_l5, ↓e_l6, ↓e_l7, ↓e_l8, ↓e_l9, ↓e_l10, ↓e_l11, ↓e_l12, ↓e_l13, ↓es_nil, ↓es_cons, ↓getK_same, ↓getK_other, ↓ofL_nil, ↓ofL_cons, ↓p_mv, ↓p_pick, ↓p_bld, ↓p_nilck, ↓p_bin, ↓p_isnil, ↓p_not, ↓p_ext, ↓p_len, ↓len_n, ↓len_s, ↓p_fad, ↓p_iad, ↓n_b, ↓n_p, ↓n_pf, ↓n_tup, ↓n_sl, ↓n_nils, ↓n_m, ↓n_f, ↓n_i, ↓n_mp, ↓nth0, ↓nth1, ↓nth2, ↓nil_pp, ↓nil_p, ↓nil_ss, ↓nil_s, ↓neg_f, ↓i_t, ↓i_f, ↓evN_of, ↓int_n, ↓int_0, ↓m_ld, ↓m_lk, ↓m_st0, ↓m_box, ↓m_mkm, ↓m_store, ↓m_mup, ↓m_app, ↓ap_0, ↓okT, ↓okF, ↓kd1, ↓ret_r, ↓res_t1, ↓res_t2, ↓one1, ↓one2, ↓rec_t, ↓rec_f, ↓fill_nil, ↓fill_cons, ↓c_i, ↓c_b, ↓c_m, ↓c_p, ↓c_nils, ↓c_sl, ↓c_agg, ↓len_1, ↓len_2, ↓len_3, ↓len_4, ↓beq11, ↓wrs1, ↓one_i, ↓one_p, ↓one_m, ↓one_sl, ↓one_nils, ↓d_nil, ↓d_puN, ↓d_puS, ↓d_rdN, ↓d_rdS, ↓d_alN, ↓d_alS, ↓d_efN, ↓d_efS, ↓d_gpuN, ↓d_gpuS, ↓d_grdN, ↓d_grdS, ↓d_gefN, ↓d_gefS, ↓k_nil, ↓k_cons, ↓ka_nil, ↓ka_cons, ↓rev_nil, ↓rev_cons, ↓and_t, ↓and_f, ↓rrec_t, ↓rrec_f, ↓s_m, ↓s_p, ↓s_i, ↓s_nils, ↓s_sl, ↓rec_nt, ↓rec_nf, ↓rec_dt, ↓neg_tt, ↓neg_tf, ↓ex_n, ↓ex_e, ↓ex_r, ↓m_mks, ↓rec_bb, ↓o_guardTN, ↓o_guardTS, ↓res_t3, ↓one3, ↓ga_old, ↓ga_new, ↓gu_same, ↓gu_other, ↓fv20, ↓fv21, ↓fv30, ↓fv32, ↓fv40, ↓fv41, ↓fv42, ↓fv43, i_t, i_f, rec_t, rec_f, getK_same, getK_other, ofL_cons, ofL_nil, and_t, and_f, rrec_t, rrec_f, ka_nil, ka_cons, k_nil, k_cons, len_1, len_2, len_3, len_4, c_i, c_b, c_m, c_p, c_nils, c_sl, c_agg, beq11, one_i, one_p, one_m, one_sl, one_nils, s_m, s_p, s_i, s_nils, s_sl, rev_nil, rev_cons, ap_0, beq_dec, ble_dec, ne_eq, not_false_eq_true, reduceCtorEq, Bool.not_true, Bool.not_false, Nat.zero_add, Nat.reduceAdd, Nat.reduceLT, Nat.reduceEqDiff, Nat.reduceLeDiff, Nat.zero_le, decide_true, decide_false, c3_cut, ↓e1, ↓g1, ↓rr.len, ↓g2]
  have g2 := fun k => b_gtrF (a := (roots.length : Int)) (b := 30) (by omega) k
  obtain ⟨fr5, h5, e5, g8⟩ := runT0 P s1 h0 hb (rr.kp hs k1) (by omega) hir (fr := T.set (.b false) (T.set (.b false) (T.set (.p x 0 0) (T.set (.p p 0 0) (T.set (.b false) (T.set vr (T.set vf (T.set vt (T.set (iv words) .e 0) 1) 2) 3) 8) 9) 10) 40) 42)
    (by simp only [get_same, get_other, ne_eq, Nat.reduceEqDiff, not_false_eq_true]) (by simp only [get_same, get_other, ne_eq, Nat.reduceEqDiff, not_false_eq_true]) (by simp only [get_same, get_other, ne_eq, Nat.reduceEqDiff, not_false_eq_true]) (by simp only [get_same, get_other, ne_eq, Nat.reduceEqDiff, not_false_eq_true]) n
  refine ⟨h5, fun k => ?_⟩
  rw [run3]; simp only [ofL_cons, ofL_nil, Nat.zero_add, Nat.reduceAdd]
  simp -implicitDefEqProofs only [↓m_callf, ↓x_seq, ↓x_reg, ↓x_dreg, ↓x_cond, ↓x_skip, ↓x_exit, ↓x_ret, ↓x_block, ↓x_loop, ↓nrm_n, ↓nrm_e, ↓nrm_r, ↓o_nil, ↓o_consN, ↓o_consS, ↓o_guardN, ↓o_guardS, ↓put_n, ↓put_s, ↓r_pu, ↓r_rd, ↓r_al, ↓r_ef, ↓g_b, ↓e_t, ↓e_c, ↓e_f, ↓e_l0, ↓e_l1, ↓e_l2, ↓e_l3, ↓e_l4, ↓e_l5, ↓e_l6, ↓e_l7, ↓e_l8, ↓e_l9, ↓e_l10, ↓e_l11, ↓e_l12, ↓e_l13, ↓es_nil, ↓es_cons, ↓getK_same, ↓getK_other, ↓ofL_nil, ↓ofL_cons, ↓p_mv, ↓p_pick, ↓p_bld, ↓p_nilck, ↓p_bin, ↓p_isnil, ↓p_not, ↓p_ext, ↓p_len, ↓len_n, ↓len_s, ↓p_fad, ↓p_iad, ↓n_b, ↓n_p, ↓n_pf, ↓n_tup, ↓n_sl, ↓n_nils, ↓n_m, ↓n_f, ↓n_i, ↓n_mp, ↓nth0, ↓nth1, ↓nth2, ↓nil_pp, ↓nil_p, ↓nil_ss, ↓nil_s, ↓neg_f, ↓i_t, ↓i_f, ↓evN_of, ↓int_n, ↓int_0, ↓m_ld, ↓m_lk, ↓m_st0, ↓m_box, ↓m_mkm, ↓m_store, ↓m_mup, ↓m_app, ↓ap_0, ↓okT, ↓okF, ↓kd1, ↓ret_r, ↓res_t1, ↓res_t2, ↓one1, ↓one2, ↓rec_t, ↓rec_f, ↓fill_nil, ↓fill_cons, ↓c_i, ↓c_b, ↓c_m, ↓c_p, ↓c_nils, ↓c_sl, ↓c_agg, ↓len_1, ↓len_2, ↓len_3, ↓len_4, ↓beq11, ↓wrs1, ↓one_i, ↓one_p, ↓one_m, ↓one_sl, ↓one_nils, ↓d_nil, ↓d_puN, ↓d_puS, ↓d_rdN, ↓d_rdS, ↓d_alN, ↓d_alS, ↓d_efN, ↓d_efS, ↓d_gpuN, ↓d_gpuS, ↓d_grdN, ↓d_grdS, ↓d_gefN, ↓d_gefS, ↓k_nil, ↓k_cons, ↓ka_nil, ↓ka_cons, ↓rev_nil, ↓rev_cons, ↓and_t, ↓and_f, ↓rrec_t, ↓rrec_f, ↓s_m, ↓s_p, ↓s_i, ↓s_nils, ↓s_sl, ↓rec_nt, ↓rec_nf, ↓rec_dt, ↓neg_tt, ↓neg_tf, ↓ex_n, ↓ex_e, ↓ex_r, ↓m_mks, ↓rec_bb, ↓o_guardTN, ↓o_guardTS, ↓res_t3, ↓one3, ↓ga_old, ↓ga_new, ↓gu_same, ↓gu_other, ↓fv20, ↓fv21, ↓fv30, ↓fv32, ↓fv40, ↓fv41, ↓fv42, ↓fv43, i_t, i_f, rec_t, rec_f, getK_same, getK_other, ofL_cons, ofL_nil, and_t, and_f, rrec_t, rrec_f, ka_nil, ka_cons, k_nil, k_cons, len_1, len_2, len_3, len_4, c_i, c_b, c_m, c_p, c_nils, c_sl, c_agg, beq11, one_i, one_p, one_m, one_sl, one_nils, s_m, s_p, s_i, s_nils, s_sl, rev_nil, rev_cons, ap_0, beq_dec, ble_dec, ne_eq, not_false_eq_true, reduceCtorEq, Bool.not_true, Bool.not_false, Nat.zero_add, Nat.reduceAdd, Nat.reduceLT, Nat.reduceEqDiff, Nat.reduceLeDiff, Nat.zero_le, decide_true, decide_false, c3_cut, ↓e1, ↓g1, ↓rr.len, ↓g2, ↓e5, ↓t_get g8]
/-- The law says yes, whatever it is given. -/
theorem law (hs : Sc h) (rt : RowR h vt tags) (rf : RowsR h vf rows fss) (rr : RowR h vr roots) (hin : ∀ fl ∈ fss, ∀ y ∈ fl, In y) (hir : ∀ w ∈ roots, In w) (n : Nat) :
    ∃ h', ∀ k, cal (n + 9) 3 [iv words, vt, vf, vr] h k = k (.b true) h' := by
  by_cases hb : 400 < words
  · exact lawBig hb hs rt rf hin n
  · by_cases h0 : words < 0
    · exact lawNil hb rr n (fun k => pairNo (.inl h0) (n + 4) k)
    · by_cases h60 : tags.length ≤ 60
      · exact lawMain (by omega) (by omega) hs rt rf rr hin hir h60 n
      · obtain ⟨h', e⟩ := pairLong (words := words) (vf := vf) hs (by omega) (by omega) rt (by omega) (n + 4)
        exact lawNil hb rr n e
end
end Go.Proofs.Ytodlgflkhcknaaa.gcc
