/- All operations that look at no memory, together. -/
import Derived.Test.YtodlgflkhcknaaaAFOps5
namespace Go.AE
set_option linter.unusedVariables false
variable {oq : Unit} [Opq oq]
open Go

section
variable {P : Program} {X : CX} {φ : Emb} {e : Env} {a : Act}

theorem s_not {x : Operand} {k : KV} (hE : ER X φ e a) (h : pNot (cOpd X x) e k = true) : POut P φ k (do pure (.value (← Op.unary .not (a.eval x)))) := by
  obtain ⟨v, hv, h1⟩ := ev_sound hE h
  obtain ⟨b, rfl, h2⟩ := onB_true h1
  rw [VR_b.1 hv]
  exact POut.of (u := .bool (!b)) (VR_b.2 (by rw [notB_eq])) h2 fun w => rfl

theorem s_neg {x : Operand} {k : KV} (hE : ER X φ e a) (h : pNeg (cOpd X x) e k = true) : POut P φ k (do pure (.value (← Op.unary .neg (a.eval x)))) := by
  obtain ⟨v, hv, h1⟩ := ev_sound hE h
  obtain ⟨kd, n, rfl, h2⟩ := onI_true h1
  rw [VR_i.1 hv]
  rw [kI_eq, wrapF_eq] at h2
  exact POut.of (u := .int kd (kd.wrap (0 - n))) (VR_i.2 rfl) h2 fun w => rfl

theorem s_cpl {x : Operand} {k : KV} (hE : ER X φ e a) (h : pCpl (cOpd X x) e k = true) : POut P φ k (do pure (.value (← Op.unary .xor (a.eval x)))) := by
  obtain ⟨v, hv, h1⟩ := ev_sound hE h
  obtain ⟨kd, n, rfl, h2⟩ := onI_true h1
  rw [VR_i.1 hv]
  rw [kI_eq, wrapF_eq] at h2
  refine POut.of (u := .int kd (kd.wrap (.ofNat (Nat.xor (toU kd (if kd.signed then -1 else kd.max)) (toU kd n))))) (VR_i.2 rfl) h2 fun w => ?_
  simp only [Op.unary, Op.intBits, BitVec.toNat_xor, toU_eq, Sem.run_pure]
  rfl

theorem s_conv (hY : X.ty = tysOf P) {s d : TypeId} {x : Operand} {k : KV} {p : POp} (hE : ER X φ e a) (hc : cConv X s d x = some (.pu p)) (h : runP p e k = true) :
    POut P φ k (do pure (.value (← convert s d (a.eval x)))) := by
  unfold cConv at hc
  rw [hY] at hc
  split at hc
  · rename_i q k' h1 h2
    cases hc
    obtain ⟨v, hv, h3⟩ := ev_sound hE (show ev (cOpd X x) e (fun v => onIO v (fun _ n => kI k k' (wrapF k' n)) fun j => ite' (beqK k' .i64) (k (.o j)) false) = true from h)
    rcases onIO_true h3 with ⟨kd, n, rfl, h4⟩ | ⟨j, rfl, h4⟩
    · rw [VR_i.1 hv]
      rw [kI_eq, wrapF_eq] at h4
      exact POut.of (u := .int k' (k'.wrap n)) (VR_i.2 rfl) h4 fun w => by simp [convert, run_und h1, run_und h2, Conv.intToInt]
    · obtain ⟨h5, h6⟩ := ite'_and h4
      cases beqK_eq h5
      rw [VR_o.1 hv]
      exact POut.of (u := .int .i64 (Opq.val j)) (VR_o.2 rfl) h6 fun w => by simp [convert, run_und h1, run_und h2, Conv.intToInt, Opq.fits]
  · rename_i h1 h2
    cases hc
    obtain ⟨v, hv, h3⟩ := ev_sound hE (show ev (cOpd X x) e (fun v => onS v fun n w => k (.s n w)) = true from h)
    obtain ⟨n, m, rfl, h4⟩ := onS_true h3
    obtain ⟨str, hs, e1, e2⟩ := VR_s.1 hv
    rw [hs]
    exact POut.of (u := .string str) (VR_s.2 ⟨str, rfl, e1, e2⟩) h4 fun w => by simp [convert, run_und h1, run_und h2]
  · split at hc <;> cases hc
  · split at hc <;> cases hc
  · cases hc

theorem s_mkf {f : Nat} {first caps : Array Operand} {k : KV} (hE : ER X φ e a) (h : pMkf f (first.toList.map (cOpd X)) (caps.toList.map (cOpd X)) e k = true) :
    POut P φ k (do pure (.value (← Instr.makeFunc (.func f) (first.map a.eval) (caps.map a.eval)))) := by
  obtain ⟨l1, h1, h2⟩ := evs_sound hE h
  obtain ⟨l2, h3, h4⟩ := evs_sound hE h2
  exact POut.of (u := .func (.func f) (first.map a.eval) (caps.map a.eval)) (VR_f.2 ⟨_, _, rfl, by rw [eval_arr]; exact h1, by rw [eval_arr]; exact h3⟩) h4 fun w => rfl

theorem s_fad (hY : X.ty = tysOf P) {t : TypeId} {x : Operand} {fs : Array Field} {i n : Nat} {f : Field} {k : KV} (hE : ER X φ e a) (hu : undT X.ty t = some (.struct fs)) (hf : fs[i]? = some f)
    (hs : sizeT X.ty f.type = some (n + 1)) (h : pFad f.offset (cOpd X x) e k = true) : POut P φ k (do pure (.value (← Instr.fieldAt t (a.eval x) i))) := by
  rw [hY] at hu hs
  obtain ⟨v, hv, h1⟩ := ev_sound hE h
  obtain ⟨id, tag, off, rfl, h2⟩ := onP_true h1
  obtain ⟨l, hl, hle, hx⟩ := VR_p.1 hv
  refine POut.of (v := .p id tag (off + f.offset)) (u := .pointer (some (l.at (off + f.offset)))) (VR_p.2 ⟨l, hl, Nat.le_trans hle (Nat.le_add_right ..), rfl⟩) h2 fun w => ?_
  rw [hx]
  simp [Instr.fieldAt, run_und hu, hf, Instr.sureAddr, fieldPlace, run_size hs, l.at_add hle]

theorem s_fld (hY : X.ty = tysOf P) {t : TypeId} {x : Operand} {fs : Array Field} {i s : Nat} {g : Bool} {f : Field} {k : KV} (hE : ER X φ e a) (hu : undT X.ty t = some (.struct fs)) (hf : fs[i]? = some f)
    (hs : sizeT X.ty f.type = some s) (hg : aggT X.ty f.type = some g) (h : pFld f.offset s g (cOpd X x) e k = true) : POut P φ k (do pure (.value (← Instr.field t (a.eval x) i))) := by
  rw [hY] at hu hs hg
  obtain ⟨v, hv, h1⟩ := ev_sound hE h
  obtain ⟨l, rfl, h2⟩ := onAgg_true h1
  obtain ⟨arr, hx, hl⟩ := VR_agg.1 hv
  obtain ⟨v', u, hv', hk, hr⟩ := part_sound hl hs hg h2
  refine POut.of hv' hk fun w => ?_
  rw [hx]
  simp [Instr.field, run_und hu, hf, asAgg, hr]

theorem s_iad (hY : X.ty = tysOf P) {t el : TypeId} {x i : Operand} {s : Nat} {k : KV} (hE : ER X φ e a) (hu : undT X.ty t = some (.slice el)) (hs : sizeT X.ty el = some s)
    (h : pIad s (cOpd X x) (cOpd X i) e k = true) : POut P φ k (do pure (.value (← Instr.indexAt t (a.eval x) (a.eval i)))) := by
  rw [hY] at hu hs
  obtain ⟨v, hv, h1⟩ := ev_sound hE h
  rcases onSl_true h1 with ⟨_, h2⟩ | ⟨id, tag, off, len, cap, esz, rfl, h2⟩
  · cases h2
  · obtain ⟨kd, n, hi, h3⟩ := evN_sound hE h2
    obtain ⟨hb, h4⟩ := ite'_and h3
    have hlt : n < len := ble_le hb
    obtain ⟨l, p, c, hl, hle, hx, hlc, _, hp, _⟩ := VR_sl.1 hv
    have hp' := hp (by omega)
    refine POut.of (v := .p id tag (off + n * s)) (u := .pointer (some (l.at (off + n * s)))) (VR_p.2 ⟨l, hl, Nat.le_trans hle (Nat.le_add_right ..), rfl⟩) h4 fun w => ?_
    rw [hx, hi]
    have hc : (0 : Int) ≤ (Int.ofNat n) ∧ (Int.ofNat n) < (len : Int) := ⟨by simp, by simpa using hlt⟩
    simp only [Instr.indexAt, asIntOf, Sem.run_bind, Sem.run_pure, Result.andThen_ok, run_und hu]
    rw [if_pos hc]
    simp only [Sem.run_bind, run_size hs, Result.andThen_ok, Sem.run_pure]
    rw [hp', show (Int.ofNat n).toNat = n from rfl, l.at_add hle]

theorem s_iada (hY : X.ty = tysOf P) {t el : TypeId} {x i : Operand} {s m : Nat} {k : KV} (hE : ER X φ e a) (hu : undT X.ty t = some (.array m el)) (hs : sizeT X.ty el = some s)
    (h : pIada m s (cOpd X x) (cOpd X i) e k = true) : POut P φ k (do pure (.value (← Instr.indexAt t (a.eval x) (a.eval i)))) := by
  rw [hY] at hu hs
  obtain ⟨v, hv, h1⟩ := ev_sound hE h
  obtain ⟨id, tag, off, rfl, h2⟩ := onP_true h1
  obtain ⟨kd, n, hi, h3⟩ := evN_sound hE h2
  obtain ⟨hb, h4⟩ := ite'_and h3
  have hlt : n < m := ble_le hb
  obtain ⟨l, hl, hle, hx⟩ := VR_p.1 hv
  refine POut.of (v := .p id tag (off + n * s)) (u := .pointer (some (l.at (off + n * s)))) (VR_p.2 ⟨l, hl, Nat.le_trans hle (Nat.le_add_right ..), rfl⟩) h4 fun w => ?_
  rw [hx, hi]
  have hc : (0 : Int) ≤ (Int.ofNat n) ∧ (Int.ofNat n) < (m : Int) := ⟨by simp, by simpa using hlt⟩
  simp only [Instr.indexAt, asIntOf, Sem.run_bind, Sem.run_pure, Result.andThen_ok, run_und hu, Instr.sureAddr]
  rw [if_pos hc]
  simp only [Sem.run_bind, run_size hs, Result.andThen_ok, Sem.run_pure]
  rw [show (Int.ofNat n).toNat = n from rfl, l.at_add hle]

theorem s_idxs (hY : X.ty = tysOf P) {t : TypeId} {x i : Operand} {k : KV} (hE : ER X φ e a) (hu : undT X.ty t = some .string)
    (h : pIdxs (cOpd X x) (cOpd X i) e k = true) : POut P φ k (do pure (.value (← Instr.index t (a.eval x) (a.eval i)))) := by
  rw [hY] at hu
  obtain ⟨v, hv, h1⟩ := ev_sound hE h
  obtain ⟨n, m, rfl, h2⟩ := onS_true h1
  obtain ⟨s, hx, rfl, rfl⟩ := VR_s.1 hv
  obtain ⟨kd, j, hi, h3⟩ := evN_sound hE h2
  obtain ⟨hb, h4⟩ := ite'_and h3
  have hlt : j < s.data.toList.length := ble_le hb
  have hlt' : j < s.size := by rw [Array.length_toList] at hlt; exact hlt
  have hget : s.data.toList[j]? = some s[j] := by
    rw [List.getElem?_eq_getElem hlt]; simp; rfl
  rw [nob_byte hget] at h4
  refine POut.of (u := .int .u8 (s[j].toNat)) (VR_i.2 rfl) h4 fun w => ?_
  rw [hx, hi]
  have hc : (0 : Int) ≤ (Int.ofNat j) := by simp
  simp only [Instr.index, asIntOf, Sem.run_bind, Sem.run_pure, Result.andThen_ok, run_und hu, if_pos hc]
  rw [show (Int.ofNat j).toNat = j from rfl, ByteArray.getElem?_lt' s j hlt']
  rfl

theorem s_idxa (hY : X.ty = tysOf P) {t el : TypeId} {x i : Operand} {s m : Nat} {g : Bool} {k : KV} (hE : ER X φ e a) (hu : undT X.ty t = some (.array m el)) (hs : sizeT X.ty el = some s) (hg : aggT X.ty el = some g)
    (h : pIdxa m s g (cOpd X x) (cOpd X i) e k = true) : POut P φ k (do pure (.value (← Instr.index t (a.eval x) (a.eval i)))) := by
  rw [hY] at hu hs hg
  obtain ⟨v, hv, h1⟩ := ev_sound hE h
  obtain ⟨l, rfl, h2⟩ := onAgg_true h1
  obtain ⟨arr, hx, hl⟩ := VR_agg.1 hv
  obtain ⟨kd, n, hi, h3⟩ := evN_sound hE h2
  obtain ⟨hb, h4⟩ := ite'_and h3
  have hlt : n < m := ble_le hb
  obtain ⟨v', u, hv', hk, hr⟩ := part_sound hl hs hg h4
  refine POut.of hv' hk fun w => ?_
  rw [hx, hi]
  have hc : (0 : Int) ≤ (Int.ofNat n) ∧ (Int.ofNat n) < (m : Int) := ⟨by simp, by simpa using hlt⟩
  simp only [Instr.index, asIntOf, Sem.run_bind, Sem.run_pure, Result.andThen_ok, run_und hu]
  rw [if_pos hc]
  simp only [Sem.run_bind, run_size hs, Result.andThen_ok]
  exact hr w

theorem s_ext {x : Operand} {i : Nat} {k : KV} (hE : ER X φ e a) (h : pExt (cOpd X x) i e k = true) : POut P φ k (do pure (.value (← Instr.extract (a.eval x) i))) := by
  obtain ⟨v, hv, h1⟩ := ev_sound hE h
  obtain ⟨l, rfl, h2⟩ := onTup_true h1
  obtain ⟨arr, hx, hl⟩ := VR_tup.1 hv
  obtain ⟨v', hg, hk⟩ := nthK_true h2
  obtain ⟨u, hu, hr⟩ := VRL_get hl _ _ hg
  rw [Array.getElem?_toList] at hu
  refine POut.of hr hk fun w => ?_
  rw [hx]
  simp [Instr.extract, hu]

theorem s_lens (hY : X.ty = tysOf P) {t : TypeId} {x : Operand} {k : KV} {ty : TypeId} (hE : ER X φ e a) (hu : undT X.ty t = some .string) (h : pLens (cOpd X x) e k = true) :
    POut P φ k (do pure (.value (← Builtin.len_ #[t] ty #[a.eval x]))) := by
  rw [hY] at hu
  obtain ⟨v, hv, h1⟩ := ev_sound hE h
  obtain ⟨n, m, rfl, h2⟩ := onS_true h1
  obtain ⟨s, hx, rfl, rfl⟩ := VR_s.1 hv
  refine POut.of (u := .int .i64 (Int.ofNat s.data.toList.length)) (VR_i.2 rfl) h2 fun w => ?_
  rw [hx]
  have : s.size = s.data.toList.length := Array.length_toList.symm
  simp only [Builtin.len_, List.getElem?_toArray, List.getElem?_cons_zero, Sem.run_bind, run_und hu, Result.andThen_ok, goInt, this, Sem.run_pure]
  rfl

theorem s_len (hY : X.ty = tysOf P) {t el : TypeId} {x : Operand} {k : KV} {ty : TypeId} (hE : ER X φ e a) (hu : undT X.ty t = some (.slice el)) (h : pLen (cOpd X x) e k = true) :
    POut P φ k (do pure (.value (← Builtin.len_ #[t] ty #[a.eval x]))) := by
  rw [hY] at hu
  obtain ⟨v, hv, h1⟩ := ev_sound hE h
  rcases onSl_true h1 with ⟨rfl, h2⟩ | ⟨id, tag, off, len, cap, esz, rfl, h2⟩
  · have hx := VR_nils.1 hv
    refine POut.of (u := .int .i64 (Int.ofNat 0)) (VR_i.2 rfl) h2 fun w => ?_
    rw [hx]
    simp only [Builtin.len_, List.getElem?_toArray, List.getElem?_cons_zero, Sem.run_bind, run_und hu, Result.andThen_ok, goInt, Sem.run_pure]
    rfl
  · obtain ⟨l, p, c, _, _, hx, _⟩ := VR_sl.1 hv
    refine POut.of (u := .int .i64 (Int.ofNat len)) (VR_i.2 rfl) h2 fun w => ?_
    rw [hx]
    simp only [Builtin.len_, List.getElem?_toArray, List.getElem?_cons_zero, Sem.run_bind, run_und hu, Result.andThen_ok, goInt, Sem.run_pure]
    rfl

theorem s_nilck {x : Operand} {k : KV} {o : Oper} (ho : o.op = .nilCheck x) (hE : ER X φ e a) (h : pNilck (cOpd X x) e k = true) : POut P φ k (execOp a.eval o) := by
  obtain ⟨v, hv, h1⟩ := ev_sound hE h
  rcases onPF_true h1 with ⟨id, tag, off, rfl, h2⟩ | ⟨fn, f, c, rfl, h2⟩
  · obtain ⟨l, hl, hle, hx⟩ := VR_p.1 hv
    refine ⟨_, .pointer (some (l.at off)), VR_p.2 ⟨l, hl, hle, rfl⟩, h2, fun w => ?_⟩
    unfold execOp
    rw [ho]
    simp only [hx, Sem.run_pure]
  · obtain ⟨xs, ys, hx, r1, r2⟩ := VR_f.1 hv
    refine ⟨_, .func (.func fn) xs ys, VR_f.2 ⟨xs, ys, rfl, r1, r2⟩, h2, fun w => ?_⟩
    unfold execOp
    rw [ho]
    simp only [hx, Sem.run_pure]
end
end Go.AE
