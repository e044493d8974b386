import Derived.Test.YtodlgflkhcknaaaGx
/- The roots are moved (emissaryref17). -/
namespace Go.Proofs.Ytodlgflkhcknaaa.gcc
open Go Go.AE
set_option linter.unusedSimpArgs false
set_option maxRecDepth 100000

def FR (fr : Fr) (q : Nat) (out vr : AV) (i : Nat) : Prop :=
  fr.get 1 = some vr ∧ fr.get 6 = some (.p q 0 0) ∧ fr.get 7 = some out ∧ fr.get 8 = some (iv i)

section
variable {b q xo xn mm : Nat} {words : Int} {Lo : List Cl} {ao to fo : AV}
theorem MX.S_hi {h : Heap} {Ln : List Cl} {ord : List Int} {v an tn fn : AV} (V : MX h b q xo xn mm words Lo Ln ord v ao to fo an tn fn) : ∀ z ∈ (xn :: mm :: q :: (rid an ++ rid tn ++ rid fn ++ rid v)), b ≤ z := fun z hz => by
  simp only [List.mem_cons, List.mem_append] at hz
  rcases hz with rfl | rfl | rfl | ((hz | hz) | hz) | hz
  · exact V.hi.2.1
  · exact V.hi.2.2.1
  · exact V.hi.1
  · exact V.hi.2.2.2.1 z (mem_fpX.2 (.inl hz))
  · exact V.hi.2.2.2.1 z (mem_fpX.2 (.inr (.inl hz)))
  · exact V.hi.2.2.2.1 z (mem_fpX.2 (.inr (.inr (.inl hz))))
  · exact V.hi.2.2.2.2 z hz
/-- A row that grows stays while a word is moved. -/
theorem MX.outS {h : Heap} {Ln : List Cl} {ord : List Int} {v an tn fn out : AV} {outs : List AV} (V : MX h b q xo xn mm words Lo Ln ord v ao to fo an tn fn) (go : GR h out outs) (hob : ∀ i ∈ rid out, b ≤ i ∧ i ∉ rid v ∧ i ∉ fpX Ln an tn fn) : ∀ z ∈ rid out, z ∉ (xn :: mm :: q :: (rid an ++ rid tn ++ rid fn ++ rid v)) := fun z hz hm => by
  obtain ⟨cq, cq1, _⟩ := V.cell
  obtain ⟨dn, dn1, _⟩ := V.now.hd
  simp only [List.mem_cons, List.mem_append] at hm
  rcases hm with rfl | rfl | rfl | ((hm | hm) | hm) | hm
  · exact go.notSt dn1 hz
  · exact go.notMp V.mp hz
  · exact go.notSt cq1 hz
  · exact (hob z hz).2.2 (mem_fpX.2 (.inl hm))
  · exact (hob z hz).2.2 (mem_fpX.2 (.inr (.inl hm)))
  · exact (hob z hz).2.2 (mem_fpX.2 (.inr (.inr (.inl hm))))
  · exact (hob z hz).2.1 hm
/-- Nothing of the mover is in a row that grows. -/
theorem MX.keepOut {h h1 : Heap} {Ln : List Cl} {ord : List Int} {v an tn fn out : AV} {outs : List AV} (V : MX h b q xo xn mm words Lo Ln ord v ao to fo an tn fn) (go : GR h out outs) (hob : ∀ i ∈ rid out, b ≤ i ∧ i ∉ rid v ∧ i ∉ fpX Ln an tn fn) (k : Kp h h1 (rid out)) (hs : Sc h) : MX h1 b q xo xn mm words Lo Ln ord v ao to fo an tn fn := by
  obtain ⟨cq, cq1, cq2⟩ := V.cell
  obtain ⟨dn, dn1, _⟩ := V.now.hd
  exact ⟨⟨cq, k.get hs cq1 (go.notSt cq1), cq2⟩, V.old.keep k hs (fun hm => by have := (hob _ hm).1; have := V.lo.1; omega) (fun i hi hm => by have := (hob _ hm).1; have := V.lo.2 i hi; omega), V.now.keep k hs (go.notSt dn1) (fun i hi hm => (hob i hm).2.2 hi),
    k.get hs V.mp (go.notMp V.mp), V.gr.keep k hs (fun i hi hm => (hob i hm).2.1 hi), V.ok, V.lo, V.hi, V.ne⟩

theorem stepR {h : Heap} {Ln : List Cl} {ord : List Int} {v an tn fn out vr : AV} {outs roots : List Int} (V : MX h b q xo xn mm words Lo Ln ord v ao to fo an tn fn) (hs : Sc h) (hu : (used Lo : Int) ≤ words) (hsz : words ≤ 20000)
    (rr : RowR h vr roots) (go : GR h out (outs.map iv)) (hob : ∀ i ∈ rid out, b ≤ i ∧ i ∉ rid v ∧ i ∉ fpX Ln an tn fn) {i : Nat} {w : Int} (hw : roots[i]? = some w) (hin : In w) (hol : outs.length < 1000000) (hil : roots.length < 1000000) {fr : Fr} (F : FR fr q out vr i) (n f : Nat) :
    ∃ fr' h' Ln' v' an' tn' fn' out', (∀ k, iter (exec (cal (n + 5)) c7L2) (f + 1) fr h k = iter (exec (cal (n + 5)) c7L2) f fr' h' k) ∧ FR fr' q out' vr (i + 1) ∧
      MX h' b q xo xn mm words Lo Ln' (pmove (Lo.map Cl.bk) ⟨ord, Ln.map Cl.bk⟩ w).2.ord v' ao to fo an' tn' fn' ∧ Ln'.map Cl.bk = (pmove (Lo.map Cl.bk) ⟨ord, Ln.map Cl.bk⟩ w).2.bs ∧ Sc h' ∧
      GR h' out' ((outs ++ [(pmove (Lo.map Cl.bk) ⟨ord, Ln.map Cl.bk⟩ w).1]).map iv) ∧ (∀ i ∈ rid out', b ≤ i ∧ i ∉ rid v' ∧ i ∉ fpX Ln' an' tn' fn') ∧ (∀ id, id < b → h'.tr.get id = h.tr.get id) ∧ h.next ≤ h'.next := by
  obtain ⟨f1, f6, f7, f8⟩ := F
  obtain ⟨h1, Ln', v', an', tn', fn', e1, V1, b1, hs1, k1, i1, j1, _⟩ := xMove V hs hu hsz hin n
  obtain ⟨id, t, off, cap, o, rfl, ho, hr⟩ := rr.elem hw
  have hlt : i < roots.length := (List.getElem?_eq_some_iff.1 hw).1
  obtain ⟨cq, cq1, _⟩ := V.cell
  have go1 : GR h1 out (outs.map iv) := go.keep k1 hs (V.outS go hob)
  have k2 := Kp.add h1 (.st (T.set (iv (pmove (Lo.map Cl.bk) ⟨ord, Ln.map Cl.bk⟩ w).1) .e 0) 1) []
  have hs2 := hs1.add (.st (T.set (iv (pmove (Lo.map Cl.bk) ⟨ord, Ln.map Cl.bk⟩ w).1) .e 0) 1)
  have go2 := go1.keep k2 hs1 (fun _ _ => by simp)
  obtain ⟨out', h3, e3, go3, hs3, k3, i3⟩ := app_one (b := 8) (by omega) go2 hs2 (x := iv (pmove (Lo.map Cl.bk) ⟨ord, Ln.map Cl.bk⟩ w).1) rfl (by simpa using hol)
  have k13 : Kp h1 h3 (rid out) := (k2.mono (by simp)).trans k3 (fun i hi _ => hi)
  have nb1 : h.next ≤ h1.next := k1.1
  have bn : b ≤ h.next := by have := hs _ _ cq1; have := V.hi.1; omega
  have hob1 : ∀ z ∈ rid out, b ≤ z ∧ z ∉ rid v' ∧ z ∉ fpX Ln' an' tn' fn' := fun z hz => by
    have hzl := go.lt hs z hz
    refine ⟨(hob z hz).1, fun hm => ?_, fun hm => ?_⟩
    · rcases i1 z hm with h4 | h4
      · exact (hob z hz).2.1 h4
      · omega
    · rcases j1 z hm with h4 | h4
      · exact (hob z hz).2.2 h4
      · omega
  have V3 := V1.keepOut go1 hob1 k13 hs1
  apply Exists.intro
  refine ⟨h3, Ln', v', an', tn', fn', out', ?_, ?_, V3, b1, hs3, by rw [List.map_append]; exact go3, fun z hz => ?_, fun z hz => ?_, by have := k13.1; omega⟩
  · intro k
    have a1 := fun k => b_lssT (a := (i : Int)) (b := (roots.length : Int)) (by omega) k
    have a2 := fun k => b_add (a := (i : Int)) (b := 1) (by omega) (by omega) k
    have a3 : decide (i + 1 ≤ roots.length) = true := decide_eq_true hlt
    rw [it_succ]
    simp -implicitDefEqProofs only [↓m_callf, ↓x_seq, ↓x_reg, ↓x_dreg, ↓x_cond, ↓x_skip, ↓x_exit, ↓x_ret, ↓x_block, ↓x_loop, ↓nrm_n, ↓nrm_e, ↓nrm_r, ↓o_nil, ↓o_consN, ↓o_consS, ↓o_guardN, ↓o_guardS, ↓put_n, ↓put_s, ↓r_pu, ↓r_rd, ↓r_al, ↓r_ef, ↓g_b, ↓e_t, ↓e_c, ↓e_f, ↓e_l0, ↓e_l1, ↓e_l2, ↓e_l3, ↓e_l4, ↓e_l5, ↓e_l6, ↓e_l7, ↓e_l8, ↓e_l9, ↓e_l10, ↓e_l11, ↓e_l12, ↓e_l13, ↓es_nil, ↓es_cons, ↓getK_same, ↓getK_other, ↓ofL_nil, ↓ofL_cons, ↓p_mv, ↓p_pick, ↓p_bld, ↓p_nilck, ↓p_bin, ↓p_isnil, ↓p_not, ↓p_ext, ↓p_len, ↓len_n, ↓len_s, ↓p_fad, ↓p_iad, ↓n_b, ↓n_p, ↓n_pf, ↓n_tup, ↓n_sl, ↓n_nils, ↓n_m, ↓n_f, ↓n_i, ↓n_mp, ↓nth0, ↓nth1, ↓nth2, ↓nil_pp, ↓nil_p, ↓nil_ss, ↓nil_s, ↓neg_f, ↓i_t, ↓i_f, ↓evN_of, ↓int_n, ↓int_0, ↓m_ld, ↓m_lk, ↓m_st0, ↓m_box, ↓m_mkm, ↓m_store, ↓m_mup, ↓m_app, ↓ap_0, ↓okT, ↓okF, ↓kd1, ↓ret_r, ↓res_t1, ↓res_t2, ↓one1, ↓one2, ↓rec_t, ↓rec_f, ↓fill_nil, ↓fill_cons, ↓c_i, ↓c_b, ↓c_m, ↓c_p, ↓c_nils, ↓c_sl, ↓c_agg, ↓len_1, ↓len_2, ↓len_3, ↓len_4, ↓beq11, ↓wrs1, ↓one_i, ↓one_p, ↓one_m, ↓one_sl, ↓one_nils, ↓d_nil, ↓d_puN, ↓d_puS, ↓d_rdN, ↓d_rdS, ↓d_alN, ↓d_alS, ↓d_efN, ↓d_efS, ↓d_gpuN, ↓d_gpuS, ↓d_grdN, ↓d_grdS, ↓d_gefN, ↓d_gefS, ↓k_nil, ↓k_cons, ↓ka_nil, ↓ka_cons, ↓rev_nil, ↓rev_cons, ↓and_t, ↓and_f, ↓rrec_t, ↓rrec_f, ↓s_m, ↓s_p, ↓s_i, ↓s_nils, ↓s_sl, ↓rec_nt, ↓rec_nf, ↓rec_dt, ↓neg_tt, ↓neg_tf, ↓ex_n, ↓ex_e, ↓ex_r, ↓m_mks, ↓rec_bb, ↓o_guardTN, ↓o_guardTS, ↓res_t3, ↓one3, ↓ga_old, ↓ga_new, ↓gu_same, ↓gu_other, ↓fv20, ↓fv21, ↓fv30, ↓fv32, ↓fv40, ↓fv41, ↓fv42, ↓fv43, i_t, i_f, rec_t, rec_f, getK_same, getK_other, ofL_cons, ofL_nil, and_t, and_f, rrec_t, rrec_f, ka_nil, ka_cons, k_nil, k_cons, len_1, len_2, len_3, len_4, c_i, c_b, c_m, c_p, c_nils, c_sl, c_agg, beq11, one_i, one_p, one_m, one_sl, one_nils, s_m, s_p, s_i, s_nils, s_sl, rev_nil, rev_cons, ap_0, beq_dec, ble_dec, ne_eq, not_false_eq_true, reduceCtorEq, Bool.not_true, Bool.not_false, Nat.zero_add, Nat.reduceAdd, Nat.reduceLT, Nat.reduceEqDiff, Nat.reduceLeDiff, Nat.zero_le, decide_true, decide_false, c7L2, ↓t_get f1, ↓t_get f6, ↓t_get f7, ↓t_get f8, ↓len_s, ↓a1, ↓a2, a3, ↓t_get ho, ↓hr, ↓e1, ↓bsl1, ↓bslK_of, ↓src_new, ↓e3]
    rfl
  · refine ⟨?_, ?_, ?_, ?_⟩ <;> simp only [get_same, get_other, ne_eq, Nat.reduceEqDiff, not_false_eq_true, f1, f6, f7, f8]
    rfl
  · rcases i3 z hz with h4 | h4
    · exact hob1 z h4
    · have h5 : h1.next + 1 ≤ z := h4
      refine ⟨by omega, fun hm => ?_, fun hm => ?_⟩
      · have := V1.gr.lt hs1 z hm; omega
      · have := (V1.now.lt hs1).2 z hm; omega
  · rw [k13.2 z (by omega) (fun hm => by have := (hob z hm).1; omega), k1.2 z (by omega) (fun hm => by have := V.S_hi z hm; omega)]

theorem loopR {vr : AV} {roots : List Int} (hu : (used Lo : Int) ≤ words) (hsz : words ≤ 20000) (hrb : ∀ i ∈ rid vr, i < b) (hN : roots.length < 1000000) (hin : ∀ w ∈ roots, In w) (n : Nat) : ∀ (ws : List Int) (i : Nat) (h : Heap) (fr : Fr) (Ln : List Cl) (ord : List Int) (v an tn fn out : AV) (outs : List Int),
    MX h b q xo xn mm words Lo Ln ord v ao to fo an tn fn → Sc h → RowR h vr roots → GR h out (outs.map iv) → (∀ i ∈ rid out, b ≤ i ∧ i ∉ rid v ∧ i ∉ fpX Ln an tn fn) → roots.drop i = ws → i ≤ roots.length → outs.length = i → FR fr q out vr i → ∀ f,
    ∃ fr' h' Ln' v' an' tn' fn' out', (∀ k, iter (exec (cal (n + 5)) c7L2) (ws.length + (f + 1)) fr h k = k (.exit 0) fr' h') ∧ FR fr' q out' vr roots.length ∧
      MX h' b q xo xn mm words Lo Ln' (proots (Lo.map Cl.bk) ws ⟨ord, Ln.map Cl.bk⟩).2.ord v' ao to fo an' tn' fn' ∧ Ln'.map Cl.bk = (proots (Lo.map Cl.bk) ws ⟨ord, Ln.map Cl.bk⟩).2.bs ∧ Sc h' ∧
      GR h' out' ((outs ++ (proots (Lo.map Cl.bk) ws ⟨ord, Ln.map Cl.bk⟩).1).map iv) ∧ (∀ i ∈ rid out', b ≤ i ∧ i ∉ rid v' ∧ i ∉ fpX Ln' an' tn' fn') ∧ (∀ id, id < b → h'.tr.get id = h.tr.get id) ∧ h.next ≤ h'.next
  | [], i, h, fr, Ln, ord, v, an, tn, fn, out, outs, V, hs, rr, go, hob, hd, hi, hoi, F, f => by
    have hii : i = roots.length := by
      have := congrArg List.length hd
      simp at this
      omega
    subst hii
    obtain ⟨f1, f6, f7, f8⟩ := F
    have a1 := fun k => b_lssF (a := (roots.length : Int)) (b := (roots.length : Int)) (by omega) k
    apply Exists.intro
    refine ⟨h, Ln, v, an, tn, fn, out, ?_, ?_, V, rfl, hs, by simpa [proots] using go, hob, fun _ _ => rfl, Nat.le_refl _⟩
    · intro k
      show iter (exec (cal (n + 5)) c7L2) (0 + (f + 1)) fr h k = _
      rw [Nat.zero_add, it_succ]
      simp -implicitDefEqProofs only [↓m_callf, ↓x_seq, ↓x_reg, ↓x_dreg, ↓x_cond, ↓x_skip, ↓x_exit, ↓x_ret, ↓x_block, ↓x_loop, ↓nrm_n, ↓nrm_e, ↓nrm_r, ↓o_nil, ↓o_consN, ↓o_consS, ↓o_guardN, ↓o_guardS, ↓put_n, ↓put_s, ↓r_pu, ↓r_rd, ↓r_al, ↓r_ef, ↓g_b, ↓e_t, ↓e_c, ↓e_f, ↓e_l0, ↓e_l1, ↓e_l2, ↓e_l3, ↓e_l4, ↓e_l5, ↓e_l6, ↓e_l7, ↓e_l8, ↓e_l9, ↓e_l10, ↓e_l11, ↓e_l12, ↓e_l13, ↓es_nil, ↓es_cons, ↓getK_same, ↓getK_other, ↓ofL_nil, ↓ofL_cons, ↓p_mv, ↓p_pick, ↓p_bld, ↓p_nilck, ↓p_bin, ↓p_isnil, ↓p_not, ↓p_ext, ↓p_len, ↓len_n, ↓len_s, ↓p_fad, ↓p_iad, ↓n_b, ↓n_p, ↓n_pf, ↓n_tup, ↓n_sl, ↓n_nils, ↓n_m, ↓n_f, ↓n_i, ↓n_mp, ↓nth0, ↓nth1, ↓nth2, ↓nil_pp, ↓nil_p, ↓nil_ss, ↓nil_s, ↓neg_f, ↓i_t, ↓i_f, ↓evN_of, ↓int_n, ↓int_0, ↓m_ld, ↓m_lk, ↓m_st0, ↓m_box, ↓m_mkm, ↓m_store, ↓m_mup, ↓m_app, ↓ap_0, ↓okT, ↓okF, ↓kd1, ↓ret_r, ↓res_t1, ↓res_t2, ↓one1, ↓one2, ↓rec_t, ↓rec_f, ↓fill_nil, ↓fill_cons, ↓c_i, ↓c_b, ↓c_m, ↓c_p, ↓c_nils, ↓c_sl, ↓c_agg, ↓len_1, ↓len_2, ↓len_3, ↓len_4, ↓beq11, ↓wrs1, ↓one_i, ↓one_p, ↓one_m, ↓one_sl, ↓one_nils, ↓d_nil, ↓d_puN, ↓d_puS, ↓d_rdN, ↓d_rdS, ↓d_alN, ↓d_alS, ↓d_efN, ↓d_efS, ↓d_gpuN, ↓d_gpuS, ↓d_grdN, ↓d_grdS, ↓d_gefN, ↓d_gefS, ↓k_nil, ↓k_cons, ↓ka_nil, ↓ka_cons, ↓rev_nil, ↓rev_cons, ↓and_t, ↓and_f, ↓rrec_t, ↓rrec_f, ↓s_m, ↓s_p, ↓s_i, ↓s_nils, ↓s_sl, ↓rec_nt, ↓rec_nf, ↓rec_dt, ↓neg_tt, ↓neg_tf, ↓ex_n, ↓ex_e, ↓ex_r, ↓m_mks, ↓rec_bb, ↓o_guardTN, ↓o_guardTS, ↓res_t3, ↓one3, ↓ga_old, ↓ga_new, ↓gu_same, ↓gu_other, ↓fv20, ↓fv21, ↓fv30, ↓fv32, ↓fv40, ↓fv41, ↓fv42, ↓fv43, i_t, i_f, rec_t, rec_f, getK_same, getK_other, ofL_cons, ofL_nil, and_t, and_f, rrec_t, rrec_f, ka_nil, ka_cons, k_nil, k_cons, len_1, len_2, len_3, len_4, c_i, c_b, c_m, c_p, c_nils, c_sl, c_agg, beq11, one_i, one_p, one_m, one_sl, one_nils, s_m, s_p, s_i, s_nils, s_sl, rev_nil, rev_cons, ap_0, beq_dec, ble_dec, ne_eq, not_false_eq_true, reduceCtorEq, Bool.not_true, Bool.not_false, Nat.zero_add, Nat.reduceAdd, Nat.reduceLT, Nat.reduceEqDiff, Nat.reduceLeDiff, Nat.zero_le, decide_true, decide_false, c7L2, ↓t_get f1, ↓t_get f6, ↓t_get f7, ↓t_get f8, ↓rr.len, ↓a1]
      rfl
    · refine ⟨?_, ?_, ?_, ?_⟩ <;> simp only [get_same, get_other, ne_eq, Nat.reduceEqDiff, not_false_eq_true, f1, f6, f7, f8]
  | w :: ws, i, h, fr, Ln, ord, v, an, tn, fn, out, outs, V, hs, rr, go, hob, hd, hi, hoi, F, f => by
    have hw : roots[i]? = some w := by
      have := congrArg (fun l : List Int => l[0]?) hd
      simpa using this
    have hlt : i < roots.length := (List.getElem?_eq_some_iff.1 hw).1
    obtain ⟨fr1, h1, Ln1, v1, an1, tn1, fn1, out1, e1, F1, V1, b1, hs1, go1, hob1, lo1, n1⟩ := stepR V hs hu hsz rr go hob hw (hin w (List.mem_of_getElem? hw)) (by omega) hN F n (ws.length + (f + 1))
    have rr1 : RowR h1 vr roots := by
      rcases rr with rr | ⟨id, t, off, cap, o, rfl, ho, hr⟩
      · exact .inl rr
      · exact .inr ⟨id, t, off, cap, o, rfl, by rw [lo1 id (hrb id (by simp [rid]))]; exact ho, hr⟩
    have hd1 : roots.drop (i + 1) = ws := by
      have := congrArg List.tail hd
      simpa using this
    obtain ⟨fr', h', Ln', v', an', tn', fn', out', e2, F2, V2, b2, hs2, go2, hob2, lo2, n2⟩ := loopR hu hsz hrb hN hin n ws (i + 1) h1 fr1 Ln1 _ v1 an1 tn1 fn1 out1 _ V1 hs1 rr1 go1 hob1 hd1 hlt (by simp [hoi]) F1 f
    rw [b1] at V2 b2 go2
    refine ⟨fr', h', Ln', v', an', tn', fn', out', fun k => ?_, F2, V2, b2, hs2, ?_, hob2, fun id hid => by rw [lo2 id hid, lo1 id hid], Nat.le_trans n1 n2⟩
    · rw [show (w :: ws).length + (f + 1) = ws.length + (f + 1) + 1 from by simp; omega, e1, e2]
    · rw [List.append_assoc] at go2
      exact go2
end
end Go.Proofs.Ytodlgflkhcknaaa.gcc

/- A moved block's fields are moved (emissaryref17): one by one. -/
namespace Go.Proofs.Ytodlgflkhcknaaa.gcc
open Go Go.AE
set_option linter.unusedSimpArgs false
set_option maxRecDepth 100000

theorem ats_set {c c' : Cl} (h2 : c'.fl.length = c.fl.length) : ∀ (L : List Cl) (i j : Nat), L[j]? = some c → ats i (L.set j c') = ats i L
  | [], i, j, h => by simp at h
  | x :: L, i, 0, h => by simp at h; subst h; simp only [List.set_cons_zero, ats, h2]
  | x :: L, i, j + 1, h => by simp only [List.set_cons_succ, ats]; rw [ats_set h2 L _ j (by simpa using h)]
theorem adds_set {c c' : Cl} (h2 : c'.fl.length = c.fl.length) : ∀ (L : List Cl) (a j : Nat), L[j]? = some c → adds a (L.set j c') = adds a L
  | [], a, j, h => by simp at h
  | x :: L, a, 0, h => by simp at h; subst h; simp only [List.set_cons_zero, adds, h2]
  | x :: L, a, j + 1, h => by simp only [List.set_cons_succ, adds]; rw [adds_set h2 L _ j (by simpa using h)]
theorem map_set_same {β : Type} {g : Cl → β} {c c' : Cl} (h2 : g c' = g c) : ∀ (L : List Cl) (j : Nat), L[j]? = some c → (L.set j c').map g = L.map g
  | [], j, h => by simp at h
  | x :: L, 0, h => by simp at h; subst h; simp [h2]
  | x :: L, j + 1, h => by simp only [List.set_cons_succ, List.map_cons]; rw [map_set_same h2 L j (by simpa using h)]
theorem rowsL_set {c c' : Cl} (h2 : c'.row = c.row) : ∀ (L : List Cl) (j : Nat), L[j]? = some c → rowsL (L.set j c') = rowsL L
  | [], j, h => by simp at h
  | x :: L, 0, h => by simp at h; subst h; simp [rowsL, h2]
  | x :: L, j + 1, h => by
    have := rowsL_set h2 L j (by simpa using h)
    simp only [rowsL] at this
    simp only [List.set_cons_succ, rowsL, List.flatMap_cons, this]

theorem pmove_in {A : List Bk} {s : Sx} {w : Int} (hw : In w) (hs : OKx A s) (hA : usedB A ≤ 20000) : In (pmove A s w).1 := by
  have hf := hs.fit
  have small : ∀ (o : List Int) (B : List Bk) (a : Nat) y, nowAt a o B w = some y → 0 ≤ y ∧ y ≤ 2 * ((a + usedB B : Nat) : Int) := fun o => by
    induction o with
    | nil => intro B a y h; cases B <;> cases h
    | cons u o ih =>
      intro B a y h
      cases B with
      | nil => cases h
      | cons c B =>
        simp only [nowAt] at h
        simp only [usedB]
        split at h
        · cases h; omega
        · have := ih B _ y h; omega
  unfold pmove
  cases lookB 0 A w with
  | none => exact hw
  | some c => cases h : nowAt 0 s.ord s.bs w with
    | some y => have := small _ _ _ _ h; show In y; unfold In; omega
    | none => show In (2 * (usedB s.bs : Int)); unfold In; omega

/-- From the i-th on the moved blocks are as they were. -/
def Frs (A : List Bk) (i : Nat) (s : Sx) : Prop := ∀ (j : Nat) w c, i ≤ j → s.ord[j]? = some w → s.bs[j]? = some c → c.2 = flB A w
theorem Frs.move {A : List Bk} {i : Nat} {s : Sx} (hl : s.ord.length = s.bs.length) (hf : Frs A i s) (w : Int) : Frs A i (pmove A s w).2 := by
  unfold pmove
  cases h1 : lookB 0 A w with
  | none => exact hf
  | some c => cases h2 : nowAt 0 s.ord s.bs w with
    | some y => exact hf
    | none =>
      intro j u d hij hu hd
      have hu : (s.ord ++ [w])[j]? = some u := hu
      have hd : (s.bs ++ [c])[j]? = some d := hd
      rw [List.getElem?_append] at hu hd
      rw [hl] at hu
      split at hu
      · rename_i hlt; rw [if_pos hlt] at hd; exact hf j u d hij hu hd
      · rename_i hlt
        rw [if_neg hlt] at hd
        cases hq : j - s.bs.length with
        | zero => rw [hq] at hu hd; simp at hu hd; subst hu; subst hd; unfold flB; rw [h1]
        | succ z => rw [hq] at hu; simp at hu
theorem Frs.set {A : List Bk} {i k : Nat} {y : Int} {s : Sx} (hf : Frs A (i + 1) s) : Frs A (i + 1) (pset s i k y) := by
  intro j u d hij hu hd
  unfold pset at hd
  cases hc : s.bs[i]? with
  | none => simp only [hc] at hd; exact hf j u d hij hu hd
  | some c =>
    simp only [hc] at hd
    rcases set_cases hd with ⟨h1, _⟩ | ⟨_, h1⟩
    · omega
    · exact hf j u d hij hu h1

section
variable {h : Heap} {x : Nat} {words : Int} {L : List Cl} {a t f : AV}
/-- A block's field is set in place. -/
theorem xPut (r : RX h x words L a t f) (hs : Sc h) {j : Nat} {c : Cl} (hj : L[j]? = some c) {i : Nat} (hi : i < c.fl.length) {y : Int} (hy : In y) :
    ∃ id cells, c.row = .sl id 0 0 c.fl.length none 1 ∧ h.tr.get id = some (.ve cells c.fl.length 0 0 []) ∧ RX (updO h id (.ve (cells.set (iv y) i) c.fl.length 0 0 [])) x words (L.set j (c.put i y)) a t f ∧
      Sc (updO h id (.ve (cells.set (iv y) i) c.fl.length 0 0 [])) ∧ Kp h (updO h id (.ve (cells.set (iv y) i) c.fl.length 0 0 [])) (rid c.row) := by
  have hmem := List.mem_of_getElem? hj
  obtain ⟨s4, b2, b3, b4⟩ := r.bl c hmem
  obtain ⟨na, nt, nr⟩ := r.ne
  obtain ⟨cx, c1, cr⟩ := r.hd
  rcases s4 with ⟨he, _⟩ | ⟨id, cells, hne, hrow, ho, hc⟩
  · rw [he] at hi; simp at hi
  have hk : Kp h (updO h id (.ve (cells.set (iv y) i) c.fl.length 0 0 [])) (rid c.row) := by rw [hrow]; exact Kp.upd h id _
  have hid : id ∈ rid c.row := by rw [hrow]; simp [rid]
  obtain ⟨ia, it, iff⟩ := nr c hmem id hid
  have only : ∀ z ∈ rid c.row, z = id := fun z hz => by rw [hrow] at hz; simpa [rid] using hz
  refine ⟨id, cells, hrow, ho, ⟨⟨cx, hk.get hs c1 (fun hm => by have := only _ hm; rw [this, ho] at c1; cases c1), cr⟩, ?_, ?_, ?_, fun d hd => ?_, fun p q d e hp hq hpq z hz => ?_, ⟨na, nt, fun d hd z hz => ?_⟩, by rw [used_set (put_len c i y) L j hj]; exact r.fits⟩, hs.upd ho _, hk⟩
  · rw [ats_set (c := c) (c' := c.put i y) (put_len c i y) L 0 j hj]; exact r.ga.keep hk hs (fun z hz hm => by have := only z hm; subst this; exact ia hz)
  · rw [map_set_same (g := fun c => iv c.tag) (c := c) (c' := c.put i y) rfl L j hj]; exact r.gt.keep hk hs (fun z hz hm => by have := only z hm; subst this; exact it hz)
  · rw [map_set_same (g := Cl.row) (c := c) (c' := c.put i y) rfl L j hj]; exact r.gf.keep hk hs (fun z hz hm => by have := only z hm; subst this; exact iff hz)
  · obtain ⟨p, hp⟩ := List.mem_iff_getElem?.1 hd
    rcases set_cases hp with ⟨rfl, rfl⟩ | ⟨hpj, hp⟩
    · refine ⟨.inr ⟨id, cells.set (iv y) i, fun e => hne ?_, hrow.trans (by rw [put_len]), by rw [get_upd, put_len]; exact if_pos rfl, fun p z hp => ?_⟩, b2, b3, fun z hz => ?_⟩
      · have := put_len c i y; rw [e] at this; exact List.length_eq_zero_iff.1 this.symm
      · rw [get_set]
        rcases set_cases (show (c.fl.set i y)[p]? = some z from hp) with ⟨rfl, rfl⟩ | ⟨hpi, hp⟩
        · rw [if_pos rfl]
        · rw [if_neg hpi]; exact hc p z hp
      · rcases List.mem_or_eq_of_mem_set (show z ∈ c.fl.set i y from hz) with h1 | rfl
        · exact b4 z h1
        · exact hy
    · obtain ⟨d1, d2⟩ := r.bl d (List.mem_of_getElem? hp)
      exact ⟨d1.keep hk hs fun z hz hm => r.sp j p c d hj hp (Ne.symm hpj) z hm hz, d2⟩
  · have back : ∀ (p : Nat) (d : Cl), (L.set j (c.put i y))[p]? = some d → ∃ d', L[p]? = some d' ∧ d'.row = d.row := fun p d hp => by
      rcases set_cases hp with ⟨rfl, rfl⟩ | ⟨_, hp⟩
      · exact ⟨c, hj, rfl⟩
      · exact ⟨d, hp, rfl⟩
    obtain ⟨d', hd1, hd2⟩ := back p d hp
    obtain ⟨e', he1, he2⟩ := back q e hq
    rw [← he2]
    exact r.sp p q d' e' hd1 he1 hpq z (by rw [hd2]; exact hz)
  · obtain ⟨p, hp⟩ := List.mem_iff_getElem?.1 hd
    rcases set_cases hp with ⟨rfl, rfl⟩ | ⟨_, hp⟩
    · exact nr c hmem z hz
    · exact nr d (List.mem_of_getElem? hp) z hz
end

def FD (fr : Fr) (q : Nat) (out : AV) (i : Nat) (row : AV) (k : Nat) : Prop :=
  fr.get 6 = some (.p q 0 0) ∧ fr.get 7 = some out ∧ fr.get 9 = some (iv i) ∧ fr.get 10 = some row ∧ fr.get 11 = some (iv k)

section
variable {b q xo xn mm : Nat} {words : Int} {Lo : List Cl} {ao to fo : AV}
theorem stepD {h : Heap} {Ln : List Cl} {ord : List Int} {v an tn fn out : AV} {outs : List AV} (V : MX h b q xo xn mm words Lo Ln ord v ao to fo an tn fn) (hs : Sc h) (hu : (used Lo : Int) ≤ words) (hsz : words ≤ 20000)
    {i : Nat} {c : Cl} (hc : Ln[i]? = some c) (go : GR h out outs) (hob : ∀ z ∈ rid out, b ≤ z ∧ z ∉ rid v ∧ z ∉ fpX Ln an tn fn) {k : Nat} {w : Int} (hw : c.fl[k]? = some w) {fr : Fr} (F : FD fr q out i c.row k) (n f : Nat) :
    ∃ fr' h' Ln' v' an' tn' fn' c', (∀ kk, iter (exec (cal (n + 5)) c7L0) (f + 1) fr h kk = iter (exec (cal (n + 5)) c7L0) f fr' h' kk) ∧ FD fr' q out i c'.row (k + 1) ∧
      MX h' b q xo xn mm words Lo Ln' (pset (pmove (Lo.map Cl.bk) ⟨ord, Ln.map Cl.bk⟩ w).2 i k (pmove (Lo.map Cl.bk) ⟨ord, Ln.map Cl.bk⟩ w).1).ord v' ao to fo an' tn' fn' ∧
      Ln'.map Cl.bk = (pset (pmove (Lo.map Cl.bk) ⟨ord, Ln.map Cl.bk⟩ w).2 i k (pmove (Lo.map Cl.bk) ⟨ord, Ln.map Cl.bk⟩ w).1).bs ∧ Sc h' ∧ Ln'[i]? = some c' ∧ c'.fl.length = c.fl.length ∧ c'.fl.drop (k + 1) = c.fl.drop (k + 1) ∧
      GR h' out outs ∧ (∀ z ∈ rid out, b ≤ z ∧ z ∉ rid v' ∧ z ∉ fpX Ln' an' tn' fn') ∧ (∀ id, id < b → h'.tr.get id = h.tr.get id) ∧ h.next ≤ h'.next := by
  obtain ⟨f6, f7, f9, f10, f11⟩ := F
  have hcm := List.mem_of_getElem? hc
  obtain ⟨r1, r2, r3, r4⟩ := V.now.bl c hcm
  have hin : In w := r4 w (List.mem_of_getElem? hw)
  have hA : usedB (Lo.map Cl.bk) ≤ 20000 := by rw [used_bk]; exact V.old.fits
  have hyin := pmove_in hin V.ok hA
  obtain ⟨h1, Ln1, v1, an1, tn1, fn1, e1, V1, b1, hs1, k1, i1, j1, p1⟩ := xMove V hs hu hsz hin n
  have hc1 := p1 i c hc
  have hkl : k < c.fl.length := (List.getElem?_eq_some_iff.1 hw).1
  generalize hr : pmove (Lo.map Cl.bk) ⟨ord, Ln.map Cl.bk⟩ w = r at *
  obtain ⟨id, cells, hrow, ho, now2, hs2, k2⟩ := xPut V1.now hs1 hc1 hkl hyin
  obtain ⟨cq, cq1, _⟩ := V.cell
  obtain ⟨c1, c1a, c1b⟩ := V1.cell
  have go1 : GR h1 out outs := go.keep k1 hs (V.outS go hob)
  have bn : b ≤ h.next := by have := hs _ _ cq1; have := V.hi.1; omega
  have hcr : ∀ z ∈ rid c.row, z ∈ fpX Ln1 an1 tn1 fn1 := fun z hz => mem_fpX.2 (.inr (.inr (.inr (List.mem_flatMap.2 ⟨c, List.mem_of_getElem? hc1, hz⟩))))
  have hob1 : ∀ z ∈ rid out, b ≤ z ∧ z ∉ rid v1 ∧ z ∉ fpX Ln1 an1 tn1 fn1 := fun z hz => by
    have hzl := go.lt hs z hz
    refine ⟨(hob z hz).1, fun hm => ?_, fun hm => ?_⟩
    · rcases i1 z hm with h4 | h4
      · exact (hob z hz).2.1 h4
      · omega
    · rcases j1 z hm with h4 | h4
      · exact (hob z hz).2.2 h4
      · omega
  have go2 := go1.keep k2 hs1 (fun z hz hm => (hob1 z hz).2.2 (hcr z hm))
  have hfp : fpX (Ln1.set i (c.put k r.1)) an1 tn1 fn1 = fpX Ln1 an1 tn1 fn1 := by unfold fpX; rw [rowsL_set (c := c) (c' := c.put k r.1) rfl Ln1 i hc1]
  have hsetb : (Ln1.set i (c.put k r.1)).map Cl.bk = (pset r.2 i k r.1).bs := by
    unfold pset
    rw [← b1]
    have : (Ln1.map Cl.bk)[i]? = some c.bk := by rw [List.getElem?_map, hc1]; rfl
    simp only [this]
    rw [List.map_set]; rfl
  have V2 : MX (updO h1 id (.ve (cells.set (iv r.1) k) c.fl.length 0 0 [])) b q xo xn mm words Lo (Ln1.set i (c.put k r.1)) r.2.ord v1 ao to fo an1 tn1 fn1 := by
    refine ⟨⟨c1, k2.get hs1 c1a (fun hm => V1.now.notSt c1a (hcr _ hm)), c1b⟩, V1.old.keep k2 hs1 (fun hm => ?_) (fun z hz hm => ?_), now2, ?_, ?_, ?_, V1.lo, ?_, ?_⟩
    · have := V1.hi.2.2.2.1 _ (hcr _ hm); have := V1.lo.1; omega
    · have := V1.hi.2.2.2.1 _ (hcr _ hm); have := V1.lo.2 z hz; omega
    · rw [mens_set (put_len c k r.1) r.2.ord Ln1 0 i hc1]; exact k2.get hs1 V1.mp (fun hm => (V1.now.notMp V1.mp).2 (hcr _ hm))
    · rw [adds_set (c := c) (c' := c.put k r.1) (put_len c k r.1) Ln1 0 i hc1]; exact V1.gr.keep k2 hs1 (fun z hz hm => V1.ne.2 z hz (hcr z hm))
    · rw [hsetb]
      have := V1.ok.set i k r.1
      unfold pset at this ⊢
      rw [b1] at this
      exact this
    · rw [hfp]; exact V1.hi
    · rw [hfp]; exact V1.ne
  have hfll : c.fl.length ≤ 20000 := by have := used_mem hcm; have := V.now.fits; omega
  obtain ⟨ir, tr, offr, capr, orr, hrow', hor, hrr⟩ := r1.read.elem hw
  apply Exists.intro
  refine ⟨updO h1 id (.ve (cells.set (iv r.1) k) c.fl.length 0 0 []), Ln1.set i (c.put k r.1), v1, an1, tn1, fn1, c.put k r.1, ?_, ?_, V2, hsetb, hs2, ?_, put_len c k r.1, ?_, go2, fun z hz => by rw [hfp]; exact hob1 z hz, fun z hz => ?_, k1.1⟩
  · intro kk
    have a1 := fun k' => b_lssT (a := (k : Int)) (b := (c.fl.length : Int)) (by omega) k'
    have a2 := fun k' => b_add (a := (k : Int)) (b := 1) (by omega) (by omega) k'
    have a3 : decide (k + 1 ≤ c.fl.length) = true := decide_eq_true hkl
    have a5 : ∀ K, wrK (.ve cells c.fl.length 0 0 []) 0 (k * 1) (iv r.1) K = K (.ve (cells.set (iv r.1) k) c.fl.length 0 0 []) := fun K => by rw [Nat.mul_one]; exact w_ve rfl hkl K
    rw [hrow] at hrow' f10
    cases hrow'
    rw [it_succ]
    simp -implicitDefEqProofs only [↓m_callf, ↓x_seq, ↓x_reg, ↓x_dreg, ↓x_cond, ↓x_skip, ↓x_exit, ↓x_ret, ↓x_block, ↓x_loop, ↓nrm_n, ↓nrm_e, ↓nrm_r, ↓o_nil, ↓o_consN, ↓o_consS, ↓o_guardN, ↓o_guardS, ↓put_n, ↓put_s, ↓r_pu, ↓r_rd, ↓r_al, ↓r_ef, ↓g_b, ↓e_t, ↓e_c, ↓e_f, ↓e_l0, ↓e_l1, ↓e_l2, ↓e_l3, ↓e_l4, ↓e_l5, ↓e_l6, ↓e_l7, ↓e_l8, ↓e_l9, ↓e_l10, ↓e_l11, ↓e_l12, ↓e_l13, ↓es_nil, ↓es_cons, ↓getK_same, ↓getK_other, ↓ofL_nil, ↓ofL_cons, ↓p_mv, ↓p_pick, ↓p_bld, ↓p_nilck, ↓p_bin, ↓p_isnil, ↓p_not, ↓p_ext, ↓p_len, ↓len_n, ↓len_s, ↓p_fad, ↓p_iad, ↓n_b, ↓n_p, ↓n_pf, ↓n_tup, ↓n_sl, ↓n_nils, ↓n_m, ↓n_f, ↓n_i, ↓n_mp, ↓nth0, ↓nth1, ↓nth2, ↓nil_pp, ↓nil_p, ↓nil_ss, ↓nil_s, ↓neg_f, ↓i_t, ↓i_f, ↓evN_of, ↓int_n, ↓int_0, ↓m_ld, ↓m_lk, ↓m_st0, ↓m_box, ↓m_mkm, ↓m_store, ↓m_mup, ↓m_app, ↓ap_0, ↓okT, ↓okF, ↓kd1, ↓ret_r, ↓res_t1, ↓res_t2, ↓one1, ↓one2, ↓rec_t, ↓rec_f, ↓fill_nil, ↓fill_cons, ↓c_i, ↓c_b, ↓c_m, ↓c_p, ↓c_nils, ↓c_sl, ↓c_agg, ↓len_1, ↓len_2, ↓len_3, ↓len_4, ↓beq11, ↓wrs1, ↓one_i, ↓one_p, ↓one_m, ↓one_sl, ↓one_nils, ↓d_nil, ↓d_puN, ↓d_puS, ↓d_rdN, ↓d_rdS, ↓d_alN, ↓d_alS, ↓d_efN, ↓d_efS, ↓d_gpuN, ↓d_gpuS, ↓d_grdN, ↓d_grdS, ↓d_gefN, ↓d_gefS, ↓k_nil, ↓k_cons, ↓ka_nil, ↓ka_cons, ↓rev_nil, ↓rev_cons, ↓and_t, ↓and_f, ↓rrec_t, ↓rrec_f, ↓s_m, ↓s_p, ↓s_i, ↓s_nils, ↓s_sl, ↓rec_nt, ↓rec_nf, ↓rec_dt, ↓neg_tt, ↓neg_tf, ↓ex_n, ↓ex_e, ↓ex_r, ↓m_mks, ↓rec_bb, ↓o_guardTN, ↓o_guardTS, ↓res_t3, ↓one3, ↓ga_old, ↓ga_new, ↓gu_same, ↓gu_other, ↓fv20, ↓fv21, ↓fv30, ↓fv32, ↓fv40, ↓fv41, ↓fv42, ↓fv43, i_t, i_f, rec_t, rec_f, getK_same, getK_other, ofL_cons, ofL_nil, and_t, and_f, rrec_t, rrec_f, ka_nil, ka_cons, k_nil, k_cons, len_1, len_2, len_3, len_4, c_i, c_b, c_m, c_p, c_nils, c_sl, c_agg, beq11, one_i, one_p, one_m, one_sl, one_nils, s_m, s_p, s_i, s_nils, s_sl, rev_nil, rev_cons, ap_0, beq_dec, ble_dec, ne_eq, not_false_eq_true, reduceCtorEq, Bool.not_true, Bool.not_false, Nat.zero_add, Nat.reduceAdd, Nat.reduceLT, Nat.reduceEqDiff, Nat.reduceLeDiff, Nat.zero_le, decide_true, decide_false, c7L0, ↓t_get f6, ↓t_get f7, ↓t_get f9, ↓t_get f10, ↓t_get f11, ↓len_s, ↓a1, ↓a2, a3, ↓t_get hor, ↓hrr, ↓e1, ↓t_get ho, ↓a5]
    rfl
  · refine ⟨?_, ?_, ?_, ?_, ?_⟩ <;> simp only [get_same, get_other, ne_eq, Nat.reduceEqDiff, not_false_eq_true, f6, f7, f9, f10, f11]
    · rfl
    · rfl
  · rw [List.getElem?_set, if_pos rfl, if_pos (List.getElem?_eq_some_iff.1 hc1).1]
  · show (c.fl.set k r.1).drop (k + 1) = _
    rw [List.drop_set_of_lt (by omega)]
  · rw [k2.2 z (by have := k1.1; omega) (fun hm => by have := V1.hi.2.2.2.1 _ (hcr _ hm); omega), k1.2 z (by omega) (fun hm => by have := V.S_hi z hm; omega)]
end
end Go.Proofs.Ytodlgflkhcknaaa.gcc

/- All moved blocks' fields are moved (emissaryref17); Collect. -/
namespace Go.Proofs.Ytodlgflkhcknaaa.gcc
open Go Go.AE
set_option linter.unusedSimpArgs false
set_option maxRecDepth 100000

section
variable {b q xo xn mm : Nat} {words : Int} {Lo : List Cl} {ao to fo : AV}
theorem loopD {out : AV} {outs : List AV} (hu : (used Lo : Int) ≤ words) (hsz : words ≤ 20000) {i N : Nat} (n : Nat) : ∀ (ws : List Int) (k : Nat) (h : Heap) (fr : Fr) (Ln : List Cl) (ord : List Int) (v an tn fn : AV) (c : Cl),
    MX h b q xo xn mm words Lo Ln ord v ao to fo an tn fn → Sc h → Ln[i]? = some c → c.fl.length = N → c.fl.drop k = ws → k ≤ N →
    GR h out outs → (∀ z ∈ rid out, b ≤ z ∧ z ∉ rid v ∧ z ∉ fpX Ln an tn fn) → FD fr q out i c.row k → ∀ f,
    ∃ fr' h' Ln' v' an' tn' fn', (∀ kk, iter (exec (cal (n + 5)) c7L0) (ws.length + (f + 1)) fr h kk = kk (.exit 4) fr' h') ∧ (fr'.get 6 = some (.p q 0 0) ∧ fr'.get 7 = some out ∧ fr'.get 9 = some (iv i)) ∧
      MX h' b q xo xn mm words Lo Ln' (pinner (Lo.map Cl.bk) i k ws ⟨ord, Ln.map Cl.bk⟩).ord v' ao to fo an' tn' fn' ∧ Ln'.map Cl.bk = (pinner (Lo.map Cl.bk) i k ws ⟨ord, Ln.map Cl.bk⟩).bs ∧ Sc h' ∧
      GR h' out outs ∧ (∀ z ∈ rid out, b ≤ z ∧ z ∉ rid v' ∧ z ∉ fpX Ln' an' tn' fn') ∧ (∀ id, id < b → h'.tr.get id = h.tr.get id) ∧ h.next ≤ h'.next
  | [], k, h, fr, Ln, ord, v, an, tn, fn, c, V, hs, hc, hN, hd, hk, go, hob, F, f => by
    have hkk : k = N := by
      have := congrArg List.length hd
      simp at this
      omega
    subst hkk
    obtain ⟨f6, f7, f9, f10, f11⟩ := F
    have a1 := fun k' => b_lssF (a := (k : Int)) (b := (k : Int)) (by omega) k'
    have a2 : ∀ k' : KV, lenK c.row k' = k' (iv c.fl.length) := (V.now.bl c (List.mem_of_getElem? hc)).1.read.len
    rw [hN] at a2
    apply Exists.intro
    refine ⟨h, Ln, v, an, tn, fn, ?_, ?_, V, rfl, hs, go, hob, fun _ _ => rfl, Nat.le_refl _⟩
    · intro kk
      show iter (exec (cal (n + 5)) c7L0) (0 + (f + 1)) fr h kk = _
      rw [Nat.zero_add, it_succ]
      simp -implicitDefEqProofs only [↓m_callf, ↓x_seq, ↓x_reg, ↓x_dreg, ↓x_cond, ↓x_skip, ↓x_exit, ↓x_ret, ↓x_block, ↓x_loop, ↓nrm_n, ↓nrm_e, ↓nrm_r, ↓o_nil, ↓o_consN, ↓o_consS, ↓o_guardN, ↓o_guardS, ↓put_n, ↓put_s, ↓r_pu, ↓r_rd, ↓r_al, ↓r_ef, ↓g_b, ↓e_t, ↓e_c, ↓e_f, ↓e_l0, ↓e_l1, ↓e_l2, ↓e_l3, ↓e_l4, ↓e_l5, ↓e_l6, ↓e_l7, ↓e_l8, ↓e_l9, ↓e_l10, ↓e_l11, ↓e_l12, ↓e_l13, ↓es_nil, ↓es_cons, ↓getK_same, ↓getK_other, ↓ofL_nil, ↓ofL_cons, ↓p_mv, ↓p_pick, ↓p_bld, ↓p_nilck, ↓p_bin, ↓p_isnil, ↓p_not, ↓p_ext, ↓p_len, ↓len_n, ↓len_s, ↓p_fad, ↓p_iad, ↓n_b, ↓n_p, ↓n_pf, ↓n_tup, ↓n_sl, ↓n_nils, ↓n_m, ↓n_f, ↓n_i, ↓n_mp, ↓nth0, ↓nth1, ↓nth2, ↓nil_pp, ↓nil_p, ↓nil_ss, ↓nil_s, ↓neg_f, ↓i_t, ↓i_f, ↓evN_of, ↓int_n, ↓int_0, ↓m_ld, ↓m_lk, ↓m_st0, ↓m_box, ↓m_mkm, ↓m_store, ↓m_mup, ↓m_app, ↓ap_0, ↓okT, ↓okF, ↓kd1, ↓ret_r, ↓res_t1, ↓res_t2, ↓one1, ↓one2, ↓rec_t, ↓rec_f, ↓fill_nil, ↓fill_cons, ↓c_i, ↓c_b, ↓c_m, ↓c_p, ↓c_nils, ↓c_sl, ↓c_agg, ↓len_1, ↓len_2, ↓len_3, ↓len_4, ↓beq11, ↓wrs1, ↓one_i, ↓one_p, ↓one_m, ↓one_sl, ↓one_nils, ↓d_nil, ↓d_puN, ↓d_puS, ↓d_rdN, ↓d_rdS, ↓d_alN, ↓d_alS, ↓d_efN, ↓d_efS, ↓d_gpuN, ↓d_gpuS, ↓d_grdN, ↓d_grdS, ↓d_gefN, ↓d_gefS, ↓k_nil, ↓k_cons, ↓ka_nil, ↓ka_cons, ↓rev_nil, ↓rev_cons, ↓and_t, ↓and_f, ↓rrec_t, ↓rrec_f, ↓s_m, ↓s_p, ↓s_i, ↓s_nils, ↓s_sl, ↓rec_nt, ↓rec_nf, ↓rec_dt, ↓neg_tt, ↓neg_tf, ↓ex_n, ↓ex_e, ↓ex_r, ↓m_mks, ↓rec_bb, ↓o_guardTN, ↓o_guardTS, ↓res_t3, ↓one3, ↓ga_old, ↓ga_new, ↓gu_same, ↓gu_other, ↓fv20, ↓fv21, ↓fv30, ↓fv32, ↓fv40, ↓fv41, ↓fv42, ↓fv43, i_t, i_f, rec_t, rec_f, getK_same, getK_other, ofL_cons, ofL_nil, and_t, and_f, rrec_t, rrec_f, ka_nil, ka_cons, k_nil, k_cons, len_1, len_2, len_3, len_4, c_i, c_b, c_m, c_p, c_nils, c_sl, c_agg, beq11, one_i, one_p, one_m, one_sl, one_nils, s_m, s_p, s_i, s_nils, s_sl, rev_nil, rev_cons, ap_0, beq_dec, ble_dec, ne_eq, not_false_eq_true, reduceCtorEq, Bool.not_true, Bool.not_false, Nat.zero_add, Nat.reduceAdd, Nat.reduceLT, Nat.reduceEqDiff, Nat.reduceLeDiff, Nat.zero_le, decide_true, decide_false, c7L0, ↓t_get f6, ↓t_get f7, ↓t_get f9, ↓t_get f10, ↓t_get f11, ↓a2, ↓a1]
      rfl
    · refine ⟨?_, ?_, ?_⟩ <;> simp only [get_same, get_other, ne_eq, Nat.reduceEqDiff, not_false_eq_true, f6, f7, f9, f10, f11]
  | w :: ws, k, h, fr, Ln, ord, v, an, tn, fn, c, V, hs, hc, hN, hd, hk, go, hob, F, f => by
    have hw : c.fl[k]? = some w := by
      have := congrArg (fun l : List Int => l[0]?) hd
      simpa using this
    have hlt : k < c.fl.length := (List.getElem?_eq_some_iff.1 hw).1
    obtain ⟨fr1, h1, Ln1, v1, an1, tn1, fn1, c1, e1, F1, V1, b1, hs1, hc1, hl1, hd1, go1, hob1, lo1, n1⟩ := stepD V hs hu hsz hc go hob hw F n (ws.length + (f + 1))
    have hd2 : c1.fl.drop (k + 1) = ws := by
      rw [hd1]
      have := congrArg List.tail hd
      simpa using this
    obtain ⟨fr', h', Ln', v', an', tn', fn', e2, F2, V2, b2, hs2, go2, hob2, lo2, n2⟩ := loopD (N := N) hu hsz n ws (k + 1) h1 fr1 Ln1 _ v1 an1 tn1 fn1 c1 V1 hs1 hc1 (by rw [hl1]; exact hN) hd2 (by omega) go1 hob1 F1 f
    rw [b1] at V2 b2
    refine ⟨fr', h', Ln', v', an', tn', fn', fun kk => ?_, F2, V2, b2, hs2, go2, hob2, fun id hid => by rw [lo2 id hid, lo1 id hid], Nat.le_trans n1 n2⟩
    rw [show (w :: ws).length + (f + 1) = ws.length + (f + 1) + 1 from by simp; omega, e1, e2]

theorem pinner_ord {A : List Bk} {i : Nat} {u : Int} {j : Nat} : ∀ (ws : List Int) (k : Nat) (s : Sx), s.ord[j]? = some u → (pinner A i k ws s).ord[j]? = some u
  | [], _, _, h => h
  | _ :: ws, k, _, h => pinner_ord ws (k + 1) _ (by rw [pset_ord]; exact pmove_pre h)
theorem pinner_frs {A : List Bk} {i : Nat} : ∀ (ws : List Int) (k : Nat) (s : Sx), OKx A s → Frs A (i + 1) s → Frs A (i + 1) (pinner A i k ws s)
  | [], _, _, _, h => h
  | w :: ws, k, _, o, h => pinner_frs ws (k + 1) _ ((o.move w).set i k _) (h.move o.len w).set

def FE (fr : Fr) (q : Nat) (out : AV) (i : Nat) : Prop := fr.get 6 = some (.p q 0 0) ∧ fr.get 7 = some out ∧ fr.get 9 = some (iv i)

theorem MX.ordLe {h : Heap} {Ln : List Cl} {ord : List Int} {v an tn fn : AV} (V : MX h b q xo xn mm words Lo Ln ord v ao to fo an tn fn) : ord.length = Ln.length ∧ ord.length ≤ used Lo := by
  have h1 := V.ok.len
  have h2 := len_usedB (Ln.map Cl.bk)
  have h3 := V.ok.fit
  rw [used_bk, used_bk] at h3
  rw [used_bk] at h2
  have h1 : ord.length = (Ln.map Cl.bk).length := h1
  have h3 : used Ln ≤ used Lo := h3
  exact ⟨by simpa using h1, by omega⟩

theorem endE {h : Heap} {Ln : List Cl} {ord : List Int} {v an tn fn out : AV} {i : Nat} {fr : Fr} (V : MX h b q xo xn mm words Lo Ln ord v ao to fo an tn fn) (hge : ord.length ≤ i) (F : FE fr q out i) (n f : Nat) :
    ∃ fr', (∀ kk, iter (exec (cal (n + 5)) c7L1) (f + 1) fr h kk = kk (.exit 2) fr' h) ∧ fr'.get 6 = some (.p q 0 0) ∧ fr'.get 7 = some out := by
  obtain ⟨f6, f7, f9⟩ := F
  obtain ⟨cq, cqa, cqb, cqc, cqd, cqe⟩ := V.cell
  have hlen : ∀ k : KV, lenK v k = k (iv (((adds 0 Ln).map iv).length : Nat)) := V.gr.len
  rw [List.length_map, adds_len, ← V.ordLe.1] at hlen
  have a1 := fun k' => b_lssF (a := (i : Int)) (b := (ord.length : Int)) (by omega) k'
  apply Exists.intro
  refine ⟨?_, ?_, ?_⟩
  · intro kk
    rw [it_succ]
    simp -implicitDefEqProofs only [↓m_callf, ↓x_seq, ↓x_reg, ↓x_dreg, ↓x_cond, ↓x_skip, ↓x_exit, ↓x_ret, ↓x_block, ↓x_loop, ↓nrm_n, ↓nrm_e, ↓nrm_r, ↓o_nil, ↓o_consN, ↓o_consS, ↓o_guardN, ↓o_guardS, ↓put_n, ↓put_s, ↓r_pu, ↓r_rd, ↓r_al, ↓r_ef, ↓g_b, ↓e_t, ↓e_c, ↓e_f, ↓e_l0, ↓e_l1, ↓e_l2, ↓e_l3, ↓e_l4, ↓e_l5, ↓e_l6, ↓e_l7, ↓e_l8, ↓e_l9, ↓e_l10, ↓e_l11, ↓e_l12, ↓e_l13, ↓es_nil, ↓es_cons, ↓getK_same, ↓getK_other, ↓ofL_nil, ↓ofL_cons, ↓p_mv, ↓p_pick, ↓p_bld, ↓p_nilck, ↓p_bin, ↓p_isnil, ↓p_not, ↓p_ext, ↓p_len, ↓len_n, ↓len_s, ↓p_fad, ↓p_iad, ↓n_b, ↓n_p, ↓n_pf, ↓n_tup, ↓n_sl, ↓n_nils, ↓n_m, ↓n_f, ↓n_i, ↓n_mp, ↓nth0, ↓nth1, ↓nth2, ↓nil_pp, ↓nil_p, ↓nil_ss, ↓nil_s, ↓neg_f, ↓i_t, ↓i_f, ↓evN_of, ↓int_n, ↓int_0, ↓m_ld, ↓m_lk, ↓m_st0, ↓m_box, ↓m_mkm, ↓m_store, ↓m_mup, ↓m_app, ↓ap_0, ↓okT, ↓okF, ↓kd1, ↓ret_r, ↓res_t1, ↓res_t2, ↓one1, ↓one2, ↓rec_t, ↓rec_f, ↓fill_nil, ↓fill_cons, ↓c_i, ↓c_b, ↓c_m, ↓c_p, ↓c_nils, ↓c_sl, ↓c_agg, ↓len_1, ↓len_2, ↓len_3, ↓len_4, ↓beq11, ↓wrs1, ↓one_i, ↓one_p, ↓one_m, ↓one_sl, ↓one_nils, ↓d_nil, ↓d_puN, ↓d_puS, ↓d_rdN, ↓d_rdS, ↓d_alN, ↓d_alS, ↓d_efN, ↓d_efS, ↓d_gpuN, ↓d_gpuS, ↓d_grdN, ↓d_grdS, ↓d_gefN, ↓d_gefS, ↓k_nil, ↓k_cons, ↓ka_nil, ↓ka_cons, ↓rev_nil, ↓rev_cons, ↓and_t, ↓and_f, ↓rrec_t, ↓rrec_f, ↓s_m, ↓s_p, ↓s_i, ↓s_nils, ↓s_sl, ↓rec_nt, ↓rec_nf, ↓rec_dt, ↓neg_tt, ↓neg_tf, ↓ex_n, ↓ex_e, ↓ex_r, ↓m_mks, ↓rec_bb, ↓o_guardTN, ↓o_guardTS, ↓res_t3, ↓one3, ↓ga_old, ↓ga_new, ↓gu_same, ↓gu_other, ↓fv20, ↓fv21, ↓fv30, ↓fv32, ↓fv40, ↓fv41, ↓fv42, ↓fv43, i_t, i_f, rec_t, rec_f, getK_same, getK_other, ofL_cons, ofL_nil, and_t, and_f, rrec_t, rrec_f, ka_nil, ka_cons, k_nil, k_cons, len_1, len_2, len_3, len_4, c_i, c_b, c_m, c_p, c_nils, c_sl, c_agg, beq11, one_i, one_p, one_m, one_sl, one_nils, s_m, s_p, s_i, s_nils, s_sl, rev_nil, rev_cons, ap_0, beq_dec, ble_dec, ne_eq, not_false_eq_true, reduceCtorEq, Bool.not_true, Bool.not_false, Nat.zero_add, Nat.reduceAdd, Nat.reduceLT, Nat.reduceEqDiff, Nat.reduceLeDiff, Nat.zero_le, decide_true, decide_false, c7L1, ↓t_get f6, ↓t_get f7, ↓t_get f9, ↓t_get cqa, ↓t_get cqe, ↓hlen, ↓a1]
    rfl
  · simp only [get_same, get_other, ne_eq, Nat.reduceEqDiff, not_false_eq_true, f6]
  · simp only [get_same, get_other, ne_eq, Nat.reduceEqDiff, not_false_eq_true, f7]

theorem adds_get : ∀ {L : List Cl} {a j : Nat} {c : Cl}, L[j]? = some c → (adds a L)[j]? = some (2 * ((a + used (L.take j) : Nat) : Int))
  | [], a, j, c, h => by simp at h
  | x :: L, a, 0, c, h => by simp [adds, used]
  | x :: L, a, j + 1, c, h => by
    simp only [adds, List.getElem?_cons_succ, List.take_succ_cons, used]
    rw [adds_get (by simpa using h)]
    congr 3
    omega
theorem used_take (L : List Cl) (j : Nat) : used (L.take j) ≤ used L := by
  have : L = L.take j ++ L.drop j := (List.take_append_drop j L).symm
  have h2 : used L = used (L.take j) + used (L.drop j) := by rw [← used_app, ← this]
  omega

theorem loopE {out : AV} {outs : List AV} (hu : (used Lo : Int) ≤ words) (hsz : words ≤ 20000) (n : Nat) : ∀ (d i : Nat) (h : Heap) (fr : Fr) (Ln : List Cl) (ord : List Int) (v an tn fn : AV),
    MX h b q xo xn mm words Lo Ln ord v ao to fo an tn fn → Sc h → Frs (Lo.map Cl.bk) i ⟨ord, Ln.map Cl.bk⟩ → GR h out outs → (∀ z ∈ rid out, b ≤ z ∧ z ∉ rid v ∧ z ∉ fpX Ln an tn fn) → used Lo + 1 = i + d → FE fr q out i → ∀ f,
    ∃ fr' h' Ln' v' an' tn' fn', (∀ kk, iter (exec (cal (n + 5)) c7L1) (d + (f + 1)) fr h kk = kk (.exit 2) fr' h') ∧ fr'.get 6 = some (.p q 0 0) ∧ fr'.get 7 = some out ∧
      MX h' b q xo xn mm words Lo Ln' (pouter (Lo.map Cl.bk) d i ⟨ord, Ln.map Cl.bk⟩).ord v' ao to fo an' tn' fn' ∧ Ln'.map Cl.bk = (pouter (Lo.map Cl.bk) d i ⟨ord, Ln.map Cl.bk⟩).bs ∧ Sc h' ∧
      GR h' out outs ∧ (∀ id, id < b → h'.tr.get id = h.tr.get id) ∧ h.next ≤ h'.next
  | 0, i, h, fr, Ln, ord, v, an, tn, fn, V, hs, hfr, go, hob, hd, F, f => by
    have := V.ordLe.2
    obtain ⟨fr', e1, e2, e3⟩ := endE V (by omega) F n f
    exact ⟨fr', h, Ln, v, an, tn, fn, fun kk => by rw [Nat.zero_add]; exact e1 kk, e2, e3, V, rfl, hs, go, fun _ _ => rfl, Nat.le_refl _⟩
  | d + 1, i, h, fr, Ln, ord, v, an, tn, fn, V, hs, hfr, go, hob, hd, F, f => by
    have F' := F
    obtain ⟨f6, f7, f9⟩ := F
    obtain ⟨cq, cqa, cqb, cqc, cqd, cqe⟩ := V.cell
    obtain ⟨hol1, hol⟩ := V.ordLe
    have hml : ((adds 0 Ln).map iv).length = ord.length := by rw [List.length_map, adds_len, hol1]
    have hlen : ∀ k : KV, lenK v k = k (iv (((adds 0 Ln).map iv).length : Nat)) := V.gr.len
    rw [hml] at hlen
    cases hw : ord[i]? with
    | none =>
      obtain ⟨fr', e1, e2, e3⟩ := endE V (List.getElem?_eq_none_iff.1 hw) F' n (d + (f + 1))
      simp only [pouter, hw]
      exact ⟨fr', h, Ln, v, an, tn, fn, fun kk => by rw [show d + 1 + (f + 1) = d + (f + 1) + 1 from by omega]; exact e1 kk, e2, e3, V, rfl, hs, go, fun _ _ => rfl, Nat.le_refl _⟩
    | some w =>
      have hlt : i < ord.length := (List.getElem?_eq_some_iff.1 hw).1
      obtain ⟨c, hc⟩ : ∃ c, Ln[i]? = some c := ⟨_, List.getElem?_eq_getElem (by omega)⟩
      have hcb : (Ln.map Cl.bk)[i]? = some c.bk := by rw [List.getElem?_map, hc]; rfl
      have hfl : c.fl = flB (Lo.map Cl.bk) w := hfr i w c.bk (Nat.le_refl _) hw hcb
      have hlook : look 0 Ln (2 * (used (Ln.take i) : Int)) = some c := by
        have := look_addr (a := 0) hc
        rw [Nat.zero_add] at this; exact this
      have hut := used_take Ln i
      have hnf := V.now.fits
      have hrow : rowOf Ln (2 * (used (Ln.take i) : Int)) = c.row := by unfold rowOf; rw [hlook]
      have a1 := fun k' => b_lssT (a := (i : Int)) (b := (ord.length : Int)) (by omega) k'
      obtain ⟨ivv, tv, ov, hv, hov, hrv⟩ := V.gr.read (j := i) (x := iv (2 * (used (Ln.take i) : Int))) (by rw [List.getElem?_map, adds_get hc, Nat.zero_add]; rfl)
      have a2 := fun k => xFields V.now (w := 2 * (used (Ln.take i) : Int)) (by unfold In; omega) (n + 2) k
      rw [hrow] at a2
      have hcl : c.fl.length ≤ 20000 := by have := used_mem (List.mem_of_getElem? hc); omega
      let fr1 : Fr := T.set (iv 0) (T.set c.row (T.set (.b true) fr 42) 10) 11
      have F1 : FD fr1 q out i c.row 0 := by
        refine ⟨?_, ?_, ?_, ?_, ?_⟩ <;> simp only [fr1, get_same, get_other, ne_eq, Nat.reduceEqDiff, not_false_eq_true, f6, f7, f9]
        rfl
      obtain ⟨fr2, h2, Ln2, v2, an2, tn2, fn2, e2, ⟨g6, g7, g9⟩, V2, b2, hs2, go2, hob2, lo2, n2⟩ := loopD hu hsz n c.fl 0 h fr1 Ln ord v an tn fn c V hs hc rfl rfl (Nat.zero_le _) go hob F1 (1000000 - c.fl.length - 1)
      rw [show c.fl.length + (1000000 - c.fl.length - 1 + 1) = 1000000 from by omega] at e2
      have hfr2 : Frs (Lo.map Cl.bk) (i + 1) (pinner (Lo.map Cl.bk) i 0 c.fl ⟨ord, Ln.map Cl.bk⟩) := pinner_frs c.fl 0 _ V.ok (fun j u d hij => hfr j u d (by omega))
      obtain ⟨fr', h', Ln', v', an', tn', fn', e3, F3, F3b, V3, b3, hs3, go3, lo3, n3⟩ := loopE hu hsz n d (i + 1) h2 (T.set (iv ((i : Int) + 1)) fr2 9) Ln2 _ v2 an2 tn2 fn2 V2 hs2 (by rw [b2]; exact hfr2) go2 hob2 (by omega) ⟨by simp only [get_other, ne_eq, Nat.reduceEqDiff, not_false_eq_true, g6], by simp only [get_other, ne_eq, Nat.reduceEqDiff, not_false_eq_true, g7], by simp only [get_same]; rfl⟩ f
      rw [b2] at V3 b3
      simp only [pouter, hw]
      rw [← hfl]
      refine ⟨fr', h', Ln', v', an', tn', fn', fun kk => ?_, F3, F3b, V3, b3, hs3, go3, fun id hid => by rw [lo3 id hid, lo2 id hid], by omega⟩
      rw [show d + 1 + (f + 1) = d + (f + 1) + 1 from by omega, it_succ]
      subst hv
      have a4 : decide (i + 1 ≤ ((adds 0 Ln).map iv).length) = true := decide_eq_true (by rw [hml]; exact hlt)
      have a3 : ∀ k', rdK ov tv (i * 1) k' = k' (iv (2 * (used (Ln.take i) : Int))) := fun k' => by rw [Nat.mul_one]; exact hrv k'
      have a5 := fun k' => b_add (a := (i : Int)) (b := 1) (by omega) (by omega) k'
      have a6 := fun k' => b_lssT (a := (i : Int)) (b := ((((adds 0 Ln).map iv).length : Nat) : Int)) (by rw [hml]; omega) k'
      have e2' : ∀ (kk : KE), iter (exec (cal (n + 5)) c7L0) 1000000 (T.set (iv 0) (T.set c.row (T.set (.b true) fr 42) 10) 11) h kk = kk (Ex.exit 4) fr2 h2 := e2
      simp -implicitDefEqProofs only [↓m_callf, ↓x_seq, ↓x_reg, ↓x_dreg, ↓x_cond, ↓x_skip, ↓x_exit, ↓x_ret, ↓x_block, ↓x_loop, ↓nrm_n, ↓nrm_e, ↓nrm_r, ↓o_nil, ↓o_consN, ↓o_consS, ↓o_guardN, ↓o_guardS, ↓put_n, ↓put_s, ↓r_pu, ↓r_rd, ↓r_al, ↓r_ef, ↓g_b, ↓e_t, ↓e_c, ↓e_f, ↓e_l0, ↓e_l1, ↓e_l2, ↓e_l3, ↓e_l4, ↓e_l5, ↓e_l6, ↓e_l7, ↓e_l8, ↓e_l9, ↓e_l10, ↓e_l11, ↓e_l12, ↓e_l13, ↓es_nil, ↓es_cons, ↓getK_same, ↓getK_other, ↓ofL_nil, ↓ofL_cons, ↓p_mv, ↓p_pick, ↓p_bld, ↓p_nilck, ↓p_bin, ↓p_isnil, ↓p_not, ↓p_ext, ↓p_len, ↓len_n, ↓len_s, ↓p_fad, ↓p_iad, ↓n_b, ↓n_p, ↓n_pf, ↓n_tup, ↓n_sl, ↓n_nils, ↓n_m, ↓n_f, ↓n_i, ↓n_mp, ↓nth0, ↓nth1, ↓nth2, ↓nil_pp, ↓nil_p, ↓nil_ss, ↓nil_s, ↓neg_f, ↓i_t, ↓i_f, ↓evN_of, ↓int_n, ↓int_0, ↓m_ld, ↓m_lk, ↓m_st0, ↓m_box, ↓m_mkm, ↓m_store, ↓m_mup, ↓m_app, ↓ap_0, ↓okT, ↓okF, ↓kd1, ↓ret_r, ↓res_t1, ↓res_t2, ↓one1, ↓one2, ↓rec_t, ↓rec_f, ↓fill_nil, ↓fill_cons, ↓c_i, ↓c_b, ↓c_m, ↓c_p, ↓c_nils, ↓c_sl, ↓c_agg, ↓len_1, ↓len_2, ↓len_3, ↓len_4, ↓beq11, ↓wrs1, ↓one_i, ↓one_p, ↓one_m, ↓one_sl, ↓one_nils, ↓d_nil, ↓d_puN, ↓d_puS, ↓d_rdN, ↓d_rdS, ↓d_alN, ↓d_alS, ↓d_efN, ↓d_efS, ↓d_gpuN, ↓d_gpuS, ↓d_grdN, ↓d_grdS, ↓d_gefN, ↓d_gefS, ↓k_nil, ↓k_cons, ↓ka_nil, ↓ka_cons, ↓rev_nil, ↓rev_cons, ↓and_t, ↓and_f, ↓rrec_t, ↓rrec_f, ↓s_m, ↓s_p, ↓s_i, ↓s_nils, ↓s_sl, ↓rec_nt, ↓rec_nf, ↓rec_dt, ↓neg_tt, ↓neg_tf, ↓ex_n, ↓ex_e, ↓ex_r, ↓m_mks, ↓rec_bb, ↓o_guardTN, ↓o_guardTS, ↓res_t3, ↓one3, ↓ga_old, ↓ga_new, ↓gu_same, ↓gu_other, ↓fv20, ↓fv21, ↓fv30, ↓fv32, ↓fv40, ↓fv41, ↓fv42, ↓fv43, i_t, i_f, rec_t, rec_f, getK_same, getK_other, ofL_cons, ofL_nil, and_t, and_f, rrec_t, rrec_f, ka_nil, ka_cons, k_nil, k_cons, len_1, len_2, len_3, len_4, c_i, c_b, c_m, c_p, c_nils, c_sl, c_agg, beq11, one_i, one_p, one_m, one_sl, one_nils, s_m, s_p, s_i, s_nils, s_sl, rev_nil, rev_cons, ap_0, beq_dec, ble_dec, ne_eq, not_false_eq_true, reduceCtorEq, Bool.not_true, Bool.not_false, Nat.zero_add, Nat.reduceAdd, Nat.reduceLT, Nat.reduceEqDiff, Nat.reduceLeDiff, Nat.zero_le, decide_true, decide_false, c7L1, ↓t_get f6, ↓t_get f7, ↓t_get f9, ↓t_get cqa, ↓t_get cqc, ↓t_get cqe, ↓hlen, ↓a1, a4, ↓t_get hov, ↓a3, ↓a2, ↓e2', ↓t_get g9, ↓a5, ↓a6]
      exact e3 kk
end
end Go.Proofs.Ytodlgflkhcknaaa.gcc

/- Collect (emissaryref17). -/
namespace Go.Proofs.Ytodlgflkhcknaaa.gcc
open Go Go.AE
set_option linter.unusedSimpArgs false
set_option maxRecDepth 100000

theorem proots_frs {A : List Bk} : ∀ (ws : List Int) (s : Sx), OKx A s → Frs A 0 s → Frs A 0 (proots A ws s).2
  | [], _, _, h => h
  | w :: ws, _, o, h => proots_frs ws _ (o.move w) (h.move o.len w)

section
variable {h : Heap} {x : Nat} {words : Int} {L : List Cl} {a t f : AV}
theorem xCollect (r : RX h x words L a t f) (hs : Sc h) (h0 : 0 ≤ words) (hu : (used L : Int) ≤ words) (hsz : words ≤ 20000) {vr : AV} {roots : List Int} (rr : RowR h vr roots) (hN : roots.length < 1000000) (hin : ∀ w ∈ roots, In w) (n : Nat) :
    ∃ h' xn Ln out an tn fn, (∀ k : KH, cal (n + 6) 7 [.p x 0 0, vr] h k = k (.tup [.p xn 0 0, out]) h') ∧ RX h' xn words Ln an tn fn ∧ Ln.map Cl.bk = (pcollect (L.map Cl.bk) roots).2.bs ∧ GR h' out ((pcollect (L.map Cl.bk) roots).1.map iv) ∧ Sc h' ∧ Kp h h' [] := by
  obtain ⟨h1, e1, now1, hs1, k1, n1⟩ := xNew hs h0 hsz (n + 4)
  have lt := r.lt hs
  have old1 := r.keep k1 hs (by simp) (fun _ _ => by simp)
  let h2 := addO h1 (.mp [])
  have k2 : Kp h1 h2 [] := Kp.add h1 _ _
  have hs2 : Sc h2 := hs1.add _
  let cq : T AV := T.set .nils (T.set (.m h1.next) (T.set (.p h.next 0 0) (T.set (.p x 0 0) .e 0) 1) 2) 3
  let h3 := addO h2 (.st cq 4)
  have k3 : Kp h2 h3 [] := Kp.add h2 _ _
  have hs3 : Sc h3 := hs2.add _
  have k13 : Kp h1 h3 [] := k2.trans k3 (fun i hi _ => hi)
  have k03 : Kp h h3 [] := k1.trans k13 (fun i hi _ => hi)
  have n2 : h2.next = h1.next + 1 := rfl
  have nofp : ∀ i, i ∉ fpX [] .nils .nils .nils := fun i hi => by simp [fpX, rid, rowsL] at hi
  have V : MX h3 h.next h2.next x h.next h1.next words L [] [] .nils a t f .nils .nils .nils := by
    refine ⟨⟨cq, by show (addO h2 _).tr.get h2.next = _; rw [get_add]; exact if_pos rfl, ?_, ?_, ?_, ?_⟩, old1.keep k13 hs1 (by simp) (fun _ _ => by simp), now1.keep k13 hs1 (by simp) (fun _ _ => by simp), ?_, .inl ⟨rfl, rfl⟩, ⟨rfl, List.nodup_nil, fun j w c hw => by simp at hw⟩,
      ⟨lt.1, lt.2⟩, ⟨by omega, by omega, by omega, fun i hi => absurd hi (nofp i), fun i hi => by simp [rid] at hi⟩, ⟨by omega, fun i hi => by simp [rid] at hi⟩⟩
    · simp only [cq, get_same, get_other, ne_eq, Nat.reduceEqDiff, not_false_eq_true]
    · simp only [cq, get_same, get_other, ne_eq, Nat.reduceEqDiff, not_false_eq_true]
    · simp only [cq, get_same, get_other, ne_eq, Nat.reduceEqDiff, not_false_eq_true]
    · simp only [cq, get_same]
    · refine k3.get hs2 (?_ : h2.tr.get h1.next = _) (by simp)
      show (addO h1 _).tr.get h1.next = _
      rw [get_add]; exact if_pos rfl
  have rr3 : RowR h3 vr roots := rr.keep k03 hs (fun _ _ => by simp)
  have FR0 : FR (T.set (iv 0) (T.set .nils (T.set (.p h2.next 0 0) (T.set .nils (T.set .nilp (T.set vr (T.set (.p x 0 0) .e 0) 1) 4) 5) 6) 7) 8) h2.next .nils vr 0 := by
    refine ⟨?_, ?_, ?_, ?_⟩ <;> simp only [get_same, get_other, ne_eq, Nat.reduceEqDiff, not_false_eq_true]
    rfl
  obtain ⟨fr4, h4, Ln4, v4, an4, tn4, fn4, out, e4, F4, V4, b4, hs4, go4, hob4, lo4, n4⟩ := loopR hu hsz (rr.lt hs) hN hin n roots 0 h3 _ [] [] .nils .nils .nils .nils .nils [] V hs3 rr3 (.inl ⟨rfl, rfl⟩) (fun i hi => by simp [rid] at hi) rfl (Nat.zero_le _) rfl FR0 (1000000 - roots.length - 1)
  rw [show roots.length + (1000000 - roots.length - 1 + 1) = 1000000 from by omega] at e4
  obtain ⟨f1, f6, f7, f8⟩ := F4
  have FE0 : FE (T.set (iv 0) fr4 9) h2.next out 0 := by
    refine ⟨?_, ?_, ?_⟩ <;> simp only [get_same, get_other, ne_eq, Nat.reduceEqDiff, not_false_eq_true, f6, f7]
    rfl
  have hfr : Frs (L.map Cl.bk) 0 ⟨(proots (L.map Cl.bk) roots ⟨[], List.map Cl.bk []⟩).2.ord, Ln4.map Cl.bk⟩ := by
    rw [b4]
    exact proots_frs roots _ V.ok (fun j w c _ hw => by simp at hw)
  obtain ⟨fr5, h5, Ln5, v5, an5, tn5, fn5, e5, F5, F5b, V5, b5, hs5, go5, lo5, n5⟩ := loopE hu hsz n (used L + 1) 0 h4 _ Ln4 _ v4 an4 tn4 fn4 V4 hs4 hfr go4 hob4 (by omega) FE0 (1000000 - (used L + 1) - 1)
  rw [show used L + 1 + (1000000 - (used L + 1) - 1 + 1) = 1000000 from by omega] at e5
  rw [b4] at b5 V5
  obtain ⟨c5, c5a, c5b, c5c, c5d, c5e⟩ := V5.cell
  obtain ⟨cx, cx1, cx2, cx3, cx4, cx5⟩ := r.hd
  refine ⟨h5, h.next, Ln5, out, an5, tn5, fn5, fun k => ?_, V5.now, ?_, ?_, hs5, ⟨by have := k03.1; omega, fun id hid _ => by rw [lo5 id hid, lo4 id hid, k03.2 id hid (by simp)]⟩⟩
  · have e4' : ∀ k : KE, iter (exec (cal (n + 5)) c7L2) 1000000 (T.set (iv 0) (T.set .nils (T.set (.p (addO h1 (.mp [])).next 0 0) (T.set .nils (T.set .nilp (T.set vr (T.set (.p x 0 0) .e 0) 1) 4) 5) 6) 7) 8)
        (addO (addO h1 (.mp [])) (.st (T.set .nils (T.set (.m h1.next) (T.set (.p h.next 0 0) (T.set (.p x 0 0) .e 0) 1) 2) 3) 4)) k = k (.exit 0) fr4 h4 := e4
    rw [run7]; simp only [ofL_cons, ofL_nil, Nat.zero_add, Nat.reduceAdd]
    simp -implicitDefEqProofs only [↓m_callf, ↓x_seq, ↓x_reg, ↓x_dreg, ↓x_cond, ↓x_skip, ↓x_exit, ↓x_ret, ↓x_block, ↓x_loop, ↓nrm_n, ↓nrm_e, ↓nrm_r, ↓o_nil, ↓o_consN, ↓o_consS, ↓o_guardN, ↓o_guardS, ↓put_n, ↓put_s, ↓r_pu, ↓r_rd, ↓r_al, ↓r_ef, ↓g_b, ↓e_t, ↓e_c, ↓e_f, ↓e_l0, ↓e_l1, ↓e_l2, ↓e_l3, ↓e_l4, ↓e_l5, ↓e_l6, ↓e_l7, ↓e_l8, ↓e_l9, ↓e_l10, ↓e_l11, ↓e_l12, ↓e_l13, ↓es_nil, ↓es_cons, ↓getK_same, ↓getK_other, ↓ofL_nil, ↓ofL_cons, ↓p_mv, ↓p_pick, ↓p_bld, ↓p_nilck, ↓p_bin, ↓p_isnil, ↓p_not, ↓p_ext, ↓p_len, ↓len_n, ↓len_s, ↓p_fad, ↓p_iad, ↓n_b, ↓n_p, ↓n_pf, ↓n_tup, ↓n_sl, ↓n_nils, ↓n_m, ↓n_f, ↓n_i, ↓n_mp, ↓nth0, ↓nth1, ↓nth2, ↓nil_pp, ↓nil_p, ↓nil_ss, ↓nil_s, ↓neg_f, ↓i_t, ↓i_f, ↓evN_of, ↓int_n, ↓int_0, ↓m_ld, ↓m_lk, ↓m_st0, ↓m_box, ↓m_mkm, ↓m_store, ↓m_mup, ↓m_app, ↓ap_0, ↓okT, ↓okF, ↓kd1, ↓ret_r, ↓res_t1, ↓res_t2, ↓one1, ↓one2, ↓rec_t, ↓rec_f, ↓fill_nil, ↓fill_cons, ↓c_i, ↓c_b, ↓c_m, ↓c_p, ↓c_nils, ↓c_sl, ↓c_agg, ↓len_1, ↓len_2, ↓len_3, ↓len_4, ↓beq11, ↓wrs1, ↓one_i, ↓one_p, ↓one_m, ↓one_sl, ↓one_nils, ↓d_nil, ↓d_puN, ↓d_puS, ↓d_rdN, ↓d_rdS, ↓d_alN, ↓d_alS, ↓d_efN, ↓d_efS, ↓d_gpuN, ↓d_gpuS, ↓d_grdN, ↓d_grdS, ↓d_gefN, ↓d_gefS, ↓k_nil, ↓k_cons, ↓ka_nil, ↓ka_cons, ↓rev_nil, ↓rev_cons, ↓and_t, ↓and_f, ↓rrec_t, ↓rrec_f, ↓s_m, ↓s_p, ↓s_i, ↓s_nils, ↓s_sl, ↓rec_nt, ↓rec_nf, ↓rec_dt, ↓neg_tt, ↓neg_tf, ↓ex_n, ↓ex_e, ↓ex_r, ↓m_mks, ↓rec_bb, ↓o_guardTN, ↓o_guardTS, ↓res_t3, ↓one3, ↓ga_old, ↓ga_new, ↓gu_same, ↓gu_other, ↓fv20, ↓fv21, ↓fv30, ↓fv32, ↓fv40, ↓fv41, ↓fv42, ↓fv43, i_t, i_f, rec_t, rec_f, getK_same, getK_other, ofL_cons, ofL_nil, and_t, and_f, rrec_t, rrec_f, ka_nil, ka_cons, k_nil, k_cons, len_1, len_2, len_3, len_4, c_i, c_b, c_m, c_p, c_nils, c_sl, c_agg, beq11, one_i, one_p, one_m, one_sl, one_nils, s_m, s_p, s_i, s_nils, s_sl, rev_nil, rev_cons, ap_0, beq_dec, ble_dec, ne_eq, not_false_eq_true, reduceCtorEq, Bool.not_true, Bool.not_false, Nat.zero_add, Nat.reduceAdd, Nat.reduceLT, Nat.reduceEqDiff, Nat.reduceLeDiff, Nat.zero_le, decide_true, decide_false, c7, ↓t_get cx1, ↓t_get cx5, ↓e1, ↓e4', ↓e5, ↓t_get F5, ↓t_get F5b, ↓t_get c5a, ↓t_get c5c]
  · rw [b5]
    unfold pcollect
    rw [used_bk]
    rfl
  · have : ([] : List Int) ++ (proots (L.map Cl.bk) roots ⟨[], List.map Cl.bk []⟩).1 = (pcollect (L.map Cl.bk) roots).1 := rfl
    rw [this] at go5
    exact go5
end

/-- Two rows of words are the same (emissaryref17's Words). -/
def FW (fr : Fr) (va vb : AV) (i : Nat) : Prop := fr.get 0 = some va ∧ fr.get 1 = some vb ∧ fr.get 5 = some (iv i)
theorem loopW {h : Heap} {va vb : AV} {l : List Int} (ra : RowR h va l) (rb : RowR h vb l) (hN : l.length < 1000000) (n : Nat) : ∀ (d i : Nat) (fr : Fr), i + d = l.length → FW fr va vb i → ∀ f, ∃ fr', ∀ k, iter (exec (cal n) c8L0) (d + (f + 1)) fr h k = k (.exit 0) fr' h
  | 0, i, fr, hd, F, f => by
    obtain ⟨f0, f1, f5⟩ := F
    have hi : i = l.length := by omega
    subst hi
    have a1 := fun k' => b_lssF (a := (l.length : Int)) (b := (l.length : Int)) (by omega) k'
    apply Exists.intro
    intro k
    rw [Nat.zero_add, it_succ]
    simp -implicitDefEqProofs only [↓m_callf, ↓x_seq, ↓x_reg, ↓x_dreg, ↓x_cond, ↓x_skip, ↓x_exit, ↓x_ret, ↓x_block, ↓x_loop, ↓nrm_n, ↓nrm_e, ↓nrm_r, ↓o_nil, ↓o_consN, ↓o_consS, ↓o_guardN, ↓o_guardS, ↓put_n, ↓put_s, ↓r_pu, ↓r_rd, ↓r_al, ↓r_ef, ↓g_b, ↓e_t, ↓e_c, ↓e_f, ↓e_l0, ↓e_l1, ↓e_l2, ↓e_l3, ↓e_l4, ↓e_l5, ↓e_l6, ↓e_l7, ↓e_l8, ↓e_l9, ↓e_l10, ↓e_l11, ↓e_l12, ↓e_l13, ↓es_nil, ↓es_cons, ↓getK_same, ↓getK_other, ↓ofL_nil, ↓ofL_cons, ↓p_mv, ↓p_pick, ↓p_bld, ↓p_nilck, ↓p_bin, ↓p_isnil, ↓p_not, ↓p_ext, ↓p_len, ↓len_n, ↓len_s, ↓p_fad, ↓p_iad, ↓n_b, ↓n_p, ↓n_pf, ↓n_tup, ↓n_sl, ↓n_nils, ↓n_m, ↓n_f, ↓n_i, ↓n_mp, ↓nth0, ↓nth1, ↓nth2, ↓nil_pp, ↓nil_p, ↓nil_ss, ↓nil_s, ↓neg_f, ↓i_t, ↓i_f, ↓evN_of, ↓int_n, ↓int_0, ↓m_ld, ↓m_lk, ↓m_st0, ↓m_box, ↓m_mkm, ↓m_store, ↓m_mup, ↓m_app, ↓ap_0, ↓okT, ↓okF, ↓kd1, ↓ret_r, ↓res_t1, ↓res_t2, ↓one1, ↓one2, ↓rec_t, ↓rec_f, ↓fill_nil, ↓fill_cons, ↓c_i, ↓c_b, ↓c_m, ↓c_p, ↓c_nils, ↓c_sl, ↓c_agg, ↓len_1, ↓len_2, ↓len_3, ↓len_4, ↓beq11, ↓wrs1, ↓one_i, ↓one_p, ↓one_m, ↓one_sl, ↓one_nils, ↓d_nil, ↓d_puN, ↓d_puS, ↓d_rdN, ↓d_rdS, ↓d_alN, ↓d_alS, ↓d_efN, ↓d_efS, ↓d_gpuN, ↓d_gpuS, ↓d_grdN, ↓d_grdS, ↓d_gefN, ↓d_gefS, ↓k_nil, ↓k_cons, ↓ka_nil, ↓ka_cons, ↓rev_nil, ↓rev_cons, ↓and_t, ↓and_f, ↓rrec_t, ↓rrec_f, ↓s_m, ↓s_p, ↓s_i, ↓s_nils, ↓s_sl, ↓rec_nt, ↓rec_nf, ↓rec_dt, ↓neg_tt, ↓neg_tf, ↓ex_n, ↓ex_e, ↓ex_r, ↓m_mks, ↓rec_bb, ↓o_guardTN, ↓o_guardTS, ↓res_t3, ↓one3, ↓ga_old, ↓ga_new, ↓gu_same, ↓gu_other, ↓fv20, ↓fv21, ↓fv30, ↓fv32, ↓fv40, ↓fv41, ↓fv42, ↓fv43, i_t, i_f, rec_t, rec_f, getK_same, getK_other, ofL_cons, ofL_nil, and_t, and_f, rrec_t, rrec_f, ka_nil, ka_cons, k_nil, k_cons, len_1, len_2, len_3, len_4, c_i, c_b, c_m, c_p, c_nils, c_sl, c_agg, beq11, one_i, one_p, one_m, one_sl, one_nils, s_m, s_p, s_i, s_nils, s_sl, rev_nil, rev_cons, ap_0, beq_dec, ble_dec, ne_eq, not_false_eq_true, reduceCtorEq, Bool.not_true, Bool.not_false, Nat.zero_add, Nat.reduceAdd, Nat.reduceLT, Nat.reduceEqDiff, Nat.reduceLeDiff, Nat.zero_le, decide_true, decide_false, c8L0, ↓t_get f0, ↓t_get f1, ↓t_get f5, ↓ra.len, ↓a1]
    rfl
  | d + 1, i, fr, hd, F, f => by
    obtain ⟨f0, f1, f5⟩ := F
    obtain ⟨y, hy⟩ : ∃ y, l[i]? = some y := ⟨_, List.getElem?_eq_getElem (by omega)⟩
    obtain ⟨ia, ta, oa, ca, ba, rfl, ha, hra⟩ := ra.elem hy
    obtain ⟨ib, tb, ob, cb, bb, rfl, hb, hrb⟩ := rb.elem hy
    have a1 := fun k' => b_lssT (a := (i : Int)) (b := (l.length : Int)) (by omega) k'
    have a2 := fun k' => b_add (a := (i : Int)) (b := 1) (by omega) (by omega) k'
    have a3 : decide (i + 1 ≤ l.length) = true := decide_eq_true (by omega)
    have a4 := fun k' => b_neqF (a := y) (b := y) rfl k'
    obtain ⟨fr', e⟩ := loopW ra rb hN n d (i + 1) (T.set (iv ((i : Int) + 1)) (T.set (.b false) (T.set (.b true) fr 14) 25) 5) (by omega) ⟨by simp only [get_other, ne_eq, Nat.reduceEqDiff, not_false_eq_true, f0], by simp only [get_other, ne_eq, Nat.reduceEqDiff, not_false_eq_true, f1], by simp only [get_same]; rfl⟩ f
    refine ⟨fr', fun k => ?_⟩
    rw [show d + 1 + (f + 1) = d + (f + 1) + 1 from by omega, it_succ]
    simp -implicitDefEqProofs only [↓m_callf, ↓x_seq, ↓x_reg, ↓x_dreg, ↓x_cond, ↓x_skip, ↓x_exit, ↓x_ret, ↓x_block, ↓x_loop, ↓nrm_n, ↓nrm_e, ↓nrm_r, ↓o_nil, ↓o_consN, ↓o_consS, ↓o_guardN, ↓o_guardS, ↓put_n, ↓put_s, ↓r_pu, ↓r_rd, ↓r_al, ↓r_ef, ↓g_b, ↓e_t, ↓e_c, ↓e_f, ↓e_l0, ↓e_l1, ↓e_l2, ↓e_l3, ↓e_l4, ↓e_l5, ↓e_l6, ↓e_l7, ↓e_l8, ↓e_l9, ↓e_l10, ↓e_l11, ↓e_l12, ↓e_l13, ↓es_nil, ↓es_cons, ↓getK_same, ↓getK_other, ↓ofL_nil, ↓ofL_cons, ↓p_mv, ↓p_pick, ↓p_bld, ↓p_nilck, ↓p_bin, ↓p_isnil, ↓p_not, ↓p_ext, ↓p_len, ↓len_n, ↓len_s, ↓p_fad, ↓p_iad, ↓n_b, ↓n_p, ↓n_pf, ↓n_tup, ↓n_sl, ↓n_nils, ↓n_m, ↓n_f, ↓n_i, ↓n_mp, ↓nth0, ↓nth1, ↓nth2, ↓nil_pp, ↓nil_p, ↓nil_ss, ↓nil_s, ↓neg_f, ↓i_t, ↓i_f, ↓evN_of, ↓int_n, ↓int_0, ↓m_ld, ↓m_lk, ↓m_st0, ↓m_box, ↓m_mkm, ↓m_store, ↓m_mup, ↓m_app, ↓ap_0, ↓okT, ↓okF, ↓kd1, ↓ret_r, ↓res_t1, ↓res_t2, ↓one1, ↓one2, ↓rec_t, ↓rec_f, ↓fill_nil, ↓fill_cons, ↓c_i, ↓c_b, ↓c_m, ↓c_p, ↓c_nils, ↓c_sl, ↓c_agg, ↓len_1, ↓len_2, ↓len_3, ↓len_4, ↓beq11, ↓wrs1, ↓one_i, ↓one_p, ↓one_m, ↓one_sl, ↓one_nils, ↓d_nil, ↓d_puN, ↓d_puS, ↓d_rdN, ↓d_rdS, ↓d_alN, ↓d_alS, ↓d_efN, ↓d_efS, ↓d_gpuN, ↓d_gpuS, ↓d_grdN, ↓d_grdS, ↓d_gefN, ↓d_gefS, ↓k_nil, ↓k_cons, ↓ka_nil, ↓ka_cons, ↓rev_nil, ↓rev_cons, ↓and_t, ↓and_f, ↓rrec_t, ↓rrec_f, ↓s_m, ↓s_p, ↓s_i, ↓s_nils, ↓s_sl, ↓rec_nt, ↓rec_nf, ↓rec_dt, ↓neg_tt, ↓neg_tf, ↓ex_n, ↓ex_e, ↓ex_r, ↓m_mks, ↓rec_bb, ↓o_guardTN, ↓o_guardTS, ↓res_t3, ↓one3, ↓ga_old, ↓ga_new, ↓gu_same, ↓gu_other, ↓fv20, ↓fv21, ↓fv30, ↓fv32, ↓fv40, ↓fv41, ↓fv42, ↓fv43, i_t, i_f, rec_t, rec_f, getK_same, getK_other, ofL_cons, ofL_nil, and_t, and_f, rrec_t, rrec_f, ka_nil, ka_cons, k_nil, k_cons, len_1, len_2, len_3, len_4, c_i, c_b, c_m, c_p, c_nils, c_sl, c_agg, beq11, one_i, one_p, one_m, one_sl, one_nils, s_m, s_p, s_i, s_nils, s_sl, rev_nil, rev_cons, ap_0, beq_dec, ble_dec, ne_eq, not_false_eq_true, reduceCtorEq, Bool.not_true, Bool.not_false, Nat.zero_add, Nat.reduceAdd, Nat.reduceLT, Nat.reduceEqDiff, Nat.reduceLeDiff, Nat.zero_le, decide_true, decide_false, c8L0, ↓t_get f0, ↓t_get f1, ↓t_get f5, ↓len_s, ↓a1, ↓a2, a3, ↓t_get ha, ↓hra, ↓t_get hb, ↓hrb, ↓a4]
    exact e k
theorem xWords {h : Heap} {va vb : AV} {l : List Int} (ra : RowR h va l) (rb : RowR h vb l) (hN : l.length < 1000000) (n : Nat) (k : KH) : cal (n + 1) 8 [va, vb] h k = k (.b true) h := by
  obtain ⟨fr', e⟩ := loopW ra rb hN n l.length 0 (T.set (iv 0) (T.set (.b false) (T.set (.b false) (T.set vb (T.set va .e 0) 1) 4) 10) 5) (by omega) ⟨by simp only [get_same, get_other, ne_eq, Nat.reduceEqDiff, not_false_eq_true], by simp only [get_same, get_other, ne_eq, Nat.reduceEqDiff, not_false_eq_true], by simp only [get_same]; rfl⟩ (1000000 - l.length - 1)
  rw [show l.length + (1000000 - l.length - 1 + 1) = 1000000 from by omega] at e
  have a1 := fun k' => b_neqF (a := (l.length : Int)) (b := (l.length : Int)) rfl k'
  rw [run8]; simp only [ofL_cons, ofL_nil, Nat.zero_add, Nat.reduceAdd]
  simp -implicitDefEqProofs only [↓m_callf, ↓x_seq, ↓x_reg, ↓x_dreg, ↓x_cond, ↓x_skip, ↓x_exit, ↓x_ret, ↓x_block, ↓x_loop, ↓nrm_n, ↓nrm_e, ↓nrm_r, ↓o_nil, ↓o_consN, ↓o_consS, ↓o_guardN, ↓o_guardS, ↓put_n, ↓put_s, ↓r_pu, ↓r_rd, ↓r_al, ↓r_ef, ↓g_b, ↓e_t, ↓e_c, ↓e_f, ↓e_l0, ↓e_l1, ↓e_l2, ↓e_l3, ↓e_l4, ↓e_l5, ↓e_l6, ↓e_l7, ↓e_l8, ↓e_l9, ↓e_l10, ↓e_l11, ↓e_l12, ↓e_l13, ↓es_nil, ↓es_cons, ↓getK_same, ↓getK_other, ↓ofL_nil, ↓ofL_cons, ↓p_mv, ↓p_pick, ↓p_bld, ↓p_nilck, ↓p_bin, ↓p_isnil, ↓p_not, ↓p_ext, ↓p_len, ↓len_n, ↓len_s, ↓p_fad, ↓p_iad, ↓n_b, ↓n_p, ↓n_pf, ↓n_tup, ↓n_sl, ↓n_nils, ↓n_m, ↓n_f, ↓n_i, ↓n_mp, ↓nth0, ↓nth1, ↓nth2, ↓nil_pp, ↓nil_p, ↓nil_ss, ↓nil_s, ↓neg_f, ↓i_t, ↓i_f, ↓evN_of, ↓int_n, ↓int_0, ↓m_ld, ↓m_lk, ↓m_st0, ↓m_box, ↓m_mkm, ↓m_store, ↓m_mup, ↓m_app, ↓ap_0, ↓okT, ↓okF, ↓kd1, ↓ret_r, ↓res_t1, ↓res_t2, ↓one1, ↓one2, ↓rec_t, ↓rec_f, ↓fill_nil, ↓fill_cons, ↓c_i, ↓c_b, ↓c_m, ↓c_p, ↓c_nils, ↓c_sl, ↓c_agg, ↓len_1, ↓len_2, ↓len_3, ↓len_4, ↓beq11, ↓wrs1, ↓one_i, ↓one_p, ↓one_m, ↓one_sl, ↓one_nils, ↓d_nil, ↓d_puN, ↓d_puS, ↓d_rdN, ↓d_rdS, ↓d_alN, ↓d_alS, ↓d_efN, ↓d_efS, ↓d_gpuN, ↓d_gpuS, ↓d_grdN, ↓d_grdS, ↓d_gefN, ↓d_gefS, ↓k_nil, ↓k_cons, ↓ka_nil, ↓ka_cons, ↓rev_nil, ↓rev_cons, ↓and_t, ↓and_f, ↓rrec_t, ↓rrec_f, ↓s_m, ↓s_p, ↓s_i, ↓s_nils, ↓s_sl, ↓rec_nt, ↓rec_nf, ↓rec_dt, ↓neg_tt, ↓neg_tf, ↓ex_n, ↓ex_e, ↓ex_r, ↓m_mks, ↓rec_bb, ↓o_guardTN, ↓o_guardTS, ↓res_t3, ↓one3, ↓ga_old, ↓ga_new, ↓gu_same, ↓gu_other, ↓fv20, ↓fv21, ↓fv30, ↓fv32, ↓fv40, ↓fv41, ↓fv42, ↓fv43, i_t, i_f, rec_t, rec_f, getK_same, getK_other, ofL_cons, ofL_nil, and_t, and_f, rrec_t, rrec_f, ka_nil, ka_cons, k_nil, k_cons, len_1, len_2, len_3, len_4, c_i, c_b, c_m, c_p, c_nils, c_sl, c_agg, beq11, one_i, one_p, one_m, one_sl, one_nils, s_m, s_p, s_i, s_nils, s_sl, rev_nil, rev_cons, ap_0, beq_dec, ble_dec, ne_eq, not_false_eq_true, reduceCtorEq, Bool.not_true, Bool.not_false, Nat.zero_add, Nat.reduceAdd, Nat.reduceLT, Nat.reduceEqDiff, Nat.reduceLeDiff, Nat.zero_le, decide_true, decide_false, c8, ↓ra.len, ↓rb.len, ↓a1, ↓e]
theorem GR.row {h : Heap} {v : AV} {l : List Int} (g : GR h v (l.map iv)) : RowR h v l := by
  rcases g with ⟨h1, rfl⟩ | ⟨id, t, cells, minv, segs, h1, rfl, h3, h4, h5⟩
  · exact .inl ⟨by simpa using h1, rfl⟩
  · rw [List.length_map] at h3 ⊢
    exact .inr ⟨id, t, 0, none, _, rfl, h3, fun j y hj k => by
      rw [Nat.zero_add, m_ve _ _ _ _ _ _ _ (List.getElem?_eq_some_iff.1 hj).1, t_get (h5 j (iv y) (by rw [List.getElem?_map, hj]; rfl))]⟩
end Go.Proofs.Ytodlgflkhcknaaa.gcc
