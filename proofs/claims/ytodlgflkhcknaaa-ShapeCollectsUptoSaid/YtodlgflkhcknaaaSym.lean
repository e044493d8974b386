/- The evaluator's steps as equations, for runs over data that are left open. -/
import Derived.Test.YtodlgflkhcknaaaAFOpens
set_option linter.unusedVariables false
namespace Go.AE
open Go

section
variable {call : Nat → List AV → Heap → KH → Bool}
theorem x_seq (a b : CCode) (fr : Fr) (h : Heap) (k : KE) : exec call (.seq a b) fr h k = exec call a fr h fun e fr h => exNrm e (k e fr h) (exec call b fr h k) := rfl
theorem x_reg (ops : List COper) (fr : Fr) (h : Heap) (k : KE) : exec call (.reg ops) fr h k = runOps call ops ⟨fr, []⟩ h (k .nrm) := rfl
theorem x_dreg (ops : List COper) (fr : Fr) (h : Heap) (k : KE) : exec call (.dreg ops) fr h k = runD call ops ⟨fr, []⟩ h [] [] (k .nrm) := rfl
theorem x_cond (c : Opd) (a b : CCode) (fr : Fr) (h : Heap) (k : KE) : exec call (.cond c a b) fr h k = ev c ⟨fr, []⟩ fun v => onB v fun x => @Bool.rec (fun _ => Bool) (exec call b fr h k) (exec call a fr h k) x := rfl
theorem x_skip (fr : Fr) (h : Heap) (k : KE) : exec call .skip fr h k = k .nrm fr h := rfl
theorem x_exit (i : Nat) (fr : Fr) (h : Heap) (k : KE) : exec call (.exit i) fr h k = k (.exit i) fr h := rfl
theorem x_ret (fr : Fr) (h : Heap) (k : KE) : exec call .ret fr h k = k .ret fr h := rfl
theorem x_block (i : Nat) (c : CCode) (fr : Fr) (h : Heap) (k : KE) : exec call (.block i c) fr h k =
    exec call c fr h fun e fr h => @Ex.rec (fun _ => Bool) (k .nrm fr h) (fun j => @Bool.rec (fun _ => Bool) (k (.exit j) fr h) (k .nrm fr h) (Nat.beq j i)) (k .ret fr h) e := rfl
theorem x_loop (c : CCode) (fr : Fr) (h : Heap) (k : KE) : exec call (.loop c) fr h k = iter (exec call c) 1000000 fr h k := rfl
theorem nrm_n (d f : Bool) : exNrm .nrm d f = f := rfl
theorem nrm_e (i : Nat) (d f : Bool) : exNrm (.exit i) d f = d := rfl
theorem nrm_r (d f : Bool) : exNrm .ret d f = d := rfl
theorem o_nil (fr : Fr) (ls : List AV) (h : Heap) (K : KF) : runOps call [] ⟨fr, ls⟩ h K = K fr h := rfl
theorem o_consN (op : COp) (lo hi : Nat) (l : List COper) (fr : Fr) (ls : List AV) (h : Heap) (K : KF) :
    runOps call (⟨none, none, op, lo, hi⟩ :: l) ⟨fr, ls⟩ h K = runO op call ⟨fr, ls⟩ h fun v h => runOps call l ⟨fr, v :: ls⟩ h K := rfl
theorem o_consS (d : Nat) (op : COp) (lo hi : Nat) (l : List COper) (fr : Fr) (ls : List AV) (h : Heap) (K : KF) :
    runOps call (⟨some d, none, op, lo, hi⟩ :: l) ⟨fr, ls⟩ h K = runO op call ⟨fr, ls⟩ h fun v h => runOps call l ⟨T.set v fr d, v :: ls⟩ h K := rfl
theorem o_guardN (x : Opd) (op : COp) (lo hi : Nat) (l : List COper) (fr : Fr) (ls : List AV) (h : Heap) (K : KF) :
    runOps call (⟨none, some (x, false), op, lo, hi⟩ :: l) ⟨fr, ls⟩ h K = ev x ⟨fr, ls⟩ fun v => onGuard v (fun x => @Bool.rec (fun _ => Bool) (runO op call ⟨fr, ls⟩ h fun v h => runOps call l ⟨fr, v :: ls⟩ h K) (runOps call l ⟨fr, .u :: ls⟩ h K) x)
      (runOps call l ⟨fr, .u :: ls⟩ h K) := rfl
theorem o_guardS (d : Nat) (x : Opd) (op : COp) (lo hi : Nat) (l : List COper) (fr : Fr) (ls : List AV) (h : Heap) (K : KF) :
    runOps call (⟨some d, some (x, false), op, lo, hi⟩ :: l) ⟨fr, ls⟩ h K = ev x ⟨fr, ls⟩ fun v => onGuard v (fun x => @Bool.rec (fun _ => Bool) (runO op call ⟨fr, ls⟩ h fun v h => runOps call l ⟨T.set v fr d, v :: ls⟩ h K) (runOps call l ⟨T.set .u fr d, .u :: ls⟩ h K) x)
      (runOps call l ⟨T.set .u fr d, .u :: ls⟩ h K) := rfl
theorem put_n (v : AV) (fr : Fr) (ls : List AV) : putE none v ⟨fr, ls⟩ = ⟨fr, v :: ls⟩ := rfl
theorem put_s (d : Nat) (v : AV) (fr : Fr) (ls : List AV) : putE (some d) v ⟨fr, ls⟩ = ⟨T.set v fr d, v :: ls⟩ := rfl
theorem r_pu (p : POp) (E : Env) (h : Heap) (k : KH) : runO (.pu p) call E h k = runP p E fun v => k v h := rfl
theorem r_rd (p : ROp) (E : Env) (h : Heap) (k : KH) : runO (.rd p) call E h k = runR p E h fun v => k v h := rfl
theorem r_al (p : AOp) (E : Env) (h : Heap) (k : KH) : runO (.al p) call E h k = runA p E h k := rfl
theorem r_ef (p : EOp) (E : Env) (h : Heap) (k : KH) : runO (.ef p) call E h k = runE p call E h k := rfl
theorem g_b (x : Bool) (f : Bool → Bool) (d : Bool) : onGuard (.b x) f d = f x := rfl
end
/- operands -/
theorem e_t (n : Nat) (fr : Fr) (ls : List AV) (k : KV) : ev (.t n) ⟨fr, ls⟩ k = fr.getK n false k := rfl
theorem e_c (v : AV) (E : Env) (k : KV) : ev (.c v) E k = k v := rfl
theorem e_f (n : Nat) (E : Env) (k : KV) : ev (.f n) E k = k (.f n [] []) := rfl
theorem e_l0 (fr : Fr) (a : AV) (l : List AV) (k : KV) : ev (.l 0) ⟨fr, a :: l⟩ k = k a := rfl
theorem e_l1 (fr : Fr) (a b : AV) (l : List AV) (k : KV) : ev (.l 1) ⟨fr, a :: b :: l⟩ k = k b := rfl
theorem e_l2 (fr : Fr) (a b c : AV) (l : List AV) (k : KV) : ev (.l 2) ⟨fr, a :: b :: c :: l⟩ k = k c := rfl
theorem e_l3 (fr : Fr) (a b c d : AV) (l : List AV) (k : KV) : ev (.l 3) ⟨fr, a :: b :: c :: d :: l⟩ k = k d := rfl
theorem e_l4 (fr : Fr) (a b c d e : AV) (l : List AV) (k : KV) : ev (.l 4) ⟨fr, a :: b :: c :: d :: e :: l⟩ k = k e := rfl
theorem e_l5 (fr : Fr) (a b c d e f : AV) (l : List AV) (k : KV) : ev (.l 5) ⟨fr, a :: b :: c :: d :: e :: f :: l⟩ k = k f := rfl
theorem e_l6 (fr : Fr) (a b c d e f g : AV) (l : List AV) (k : KV) : ev (.l 6) ⟨fr, a :: b :: c :: d :: e :: f :: g :: l⟩ k = k g := rfl
theorem e_l7 (fr : Fr) (a b c d e f g x : AV) (l : List AV) (k : KV) : ev (.l 7) ⟨fr, a :: b :: c :: d :: e :: f :: g :: x :: l⟩ k = k x := rfl
theorem e_l8 (fr : Fr) (a b c d e f g x y : AV) (l : List AV) (k : KV) : ev (.l 8) ⟨fr, a :: b :: c :: d :: e :: f :: g :: x :: y :: l⟩ k = k y := rfl
theorem e_l9 (fr : Fr) (a b c d e f g x y z : AV) (l : List AV) (k : KV) : ev (.l 9) ⟨fr, a :: b :: c :: d :: e :: f :: g :: x :: y :: z :: l⟩ k = k z := rfl
theorem e_l10 (fr : Fr) (a b c d e f g x y z u : AV) (l : List AV) (k : KV) : ev (.l 10) ⟨fr, a :: b :: c :: d :: e :: f :: g :: x :: y :: z :: u :: l⟩ k = k u := rfl
theorem e_l11 (fr : Fr) (a b c d e f g x y z u v : AV) (l : List AV) (k : KV) : ev (.l 11) ⟨fr, a :: b :: c :: d :: e :: f :: g :: x :: y :: z :: u :: v :: l⟩ k = k v := rfl
theorem e_l12 (fr : Fr) (a b c d e f g x y z u v w : AV) (l : List AV) (k : KV) : ev (.l 12) ⟨fr, a :: b :: c :: d :: e :: f :: g :: x :: y :: z :: u :: v :: w :: l⟩ k = k w := rfl
theorem e_l13 (fr : Fr) (a b c d e f g x y z u v w m : AV) (l : List AV) (k : KV) : ev (.l 13) ⟨fr, a :: b :: c :: d :: e :: f :: g :: x :: y :: z :: u :: v :: w :: m :: l⟩ k = k m := rfl
theorem es_nil (E : Env) (k : List AV → Bool) : evs [] E k = k [] := rfl
theorem es_cons (x : Opd) (l : List Opd) (E : Env) (k : List AV → Bool) : evs (x :: l) E k = ev x E fun v => evs l E fun vs => k (v :: vs) := rfl
/- tries -/
theorem t_get {α : Type} {t : T α} {k : Nat} {x : α} (h : t.get k = some x) (d : Bool) (f : α → Bool) : t.getK k d f = f x := by rw [getK_eq, h]
theorem t_none {α : Type} {t : T α} {k : Nat} (h : t.get k = none) (d : Bool) (f : α → Bool) : t.getK k d f = d := by rw [getK_eq, h]
theorem get_same {α : Type} (x : α) (t : T α) (k : Nat) : (T.set x t k).get k = some x := by rw [get_set, if_pos rfl]
theorem get_other {α : Type} (x : α) (t : T α) {k j : Nat} (h : j ≠ k) : (T.set x t k).get j = t.get j := by rw [get_set, if_neg h]
theorem getK_same {α : Type} (x : α) (t : T α) (k : Nat) (d : Bool) (f : α → Bool) : (T.set x t k).getK k d f = f x := t_get (get_same x t k) d f
theorem getK_other {α : Type} (x : α) (t : T α) {k j : Nat} (h : j ≠ k) (d : Bool) (f : α → Bool) : (T.set x t k).getK j d f = t.getK j d f := by rw [getK_eq, getK_eq, get_other x t h]
theorem ofL_nil {α : Type} (i : Nat) (t : T α) : T.ofList [] i t = t := rfl
theorem ofL_cons {α : Type} (x : α) (l : List α) (i : Nat) (t : T α) : T.ofList (x :: l) i t = T.ofList l (i + 1) (T.set x t i) := rfl
/- what looks at no memory -/
theorem p_mv (x : Opd) (E : Env) (k : KV) : runP (.mv x) E k = ev x E k := rfl
theorem p_pick (c a b : Opd) (E : Env) (k : KV) : runP (.pick c a b) E k = ev c E fun v => onB v fun x => @Bool.rec (fun _ => Bool) (ev b E k) (ev a E k) x := rfl
theorem p_bld (z : List AV) (ps : List (Nat × Nat × Opd)) (E : Env) (k : KV) : runP (.bld z ps) E k = fillK ps E z fun l => k (.agg l) := rfl
theorem p_nilck (x : Opd) (E : Env) (k : KV) : runP (.nilck x) E k = ev x E fun v => onPF v (fun a b c => k (.p a b c)) (fun a b c => k (.f a b c)) := rfl
theorem p_bin (op : BinOp) (x y : Opd) (E : Env) (k : KV) : runP (.bin op x y) E k = ev x E fun a => ev y E fun b => kBin op a b k := rfl
theorem p_isnil (neg : Bool) (c : Nat) (x : Opd) (E : Env) (k : KV) : runP (.isnil neg c x) E k = ev x E fun a => nilK c a (kNeg neg k) := rfl
theorem p_not (x : Opd) (E : Env) (k : KV) : runP (.not x) E k = ev x E fun v => onB v fun b => k (.b (!b)) := by show (ev x E fun v => onB v fun b => k (.b (notB b))) = _; simp only [notB_eq]
theorem p_ext (x : Opd) (i : Nat) (E : Env) (k : KV) : runP (.ext x i) E k = ev x E fun v => onTup v fun l => nthK l i k := rfl
noncomputable def lenK (v : AV) (k : KV) : Bool := onSl v (k (.i .i64 (.ofNat 0))) fun _ _ _ n _ _ => k (.i .i64 (.ofNat n))
theorem p_len (x : Opd) (E : Env) (k : KV) : runP (.len x) E k = ev x E fun v => lenK v k := rfl
theorem len_n (k : KV) : lenK .nils k = k (.i .i64 0) := rfl
theorem len_s (id t o n : Nat) (c : Option Nat) (s : Nat) (k : KV) : lenK (.sl id t o n c s) k = k (.i .i64 (n : Int)) := rfl
theorem p_fad (off : Nat) (x : Opd) (E : Env) (k : KV) : runP (.fad off x) E k = ev x E fun v => onP v fun a b c => k (.p a b (c + off)) := rfl
theorem p_iad (sz : Nat) (x i : Opd) (E : Env) (k : KV) : runP (.iad sz x i) E k = ev x E fun v => onSl v false fun id tag off len _ _ => evN i E fun i => ite' (Nat.ble (i + 1) len) (k (.p id tag (off + i * sz))) false := rfl
theorem n_b (x : Bool) (f : Bool → Bool) : onB (.b x) f = f x := rfl
theorem n_p (a b c : Nat) (f : Nat → Nat → Nat → Bool) : onP (.p a b c) f = f a b c := rfl
theorem n_pf (a b c : Nat) (f : Nat → Nat → Nat → Bool) (g : Nat → List AV → List AV → Bool) : onPF (.p a b c) f g = f a b c := rfl
theorem n_tup (l : List AV) (f : List AV → Bool) : onTup (.tup l) f = f l := rfl
theorem n_sl (id t o n : Nat) (c : Option Nat) (s : Nat) (g : Bool) (f : Nat → Nat → Nat → Nat → Option Nat → Nat → Bool) : onSl (.sl id t o n c s) g f = f id t o n c s := rfl
theorem n_nils (g : Bool) (f : Nat → Nat → Nat → Nat → Option Nat → Nat → Bool) : onSl .nils g f = g := rfl
theorem n_m (i : Nat) (g : Bool) (f : Nat → Bool) : onM (.m i) g f = f i := rfl
theorem n_f (n : Nat) (a b : List AV) (f : Nat → List AV → List AV → Bool) : onF (.f n a b) f = f n a b := rfl
theorem n_i (kd : IntKind) (n : Int) (f : IntKind → Int → Bool) : onI (.i kd n) f = f kd n := rfl
theorem n_mp (es : List (AV × AV)) (f : List (AV × AV) → Bool) : onMp (.mp es) f = f es := rfl
theorem nth0 (a : AV) (l : List AV) (k : KV) : nthK (a :: l) 0 k = k a := rfl
theorem nth1 (a b : AV) (l : List AV) (k : KV) : nthK (a :: b :: l) 1 k = k b := rfl
theorem nth2 (a b c : AV) (l : List AV) (k : KV) : nthK (a :: b :: c :: l) 2 k = k c := rfl
theorem nil_pp (k : Bool → Bool) : nilK 0 .nilp k = k true := rfl
theorem nil_p (a b c : Nat) (k : Bool → Bool) : nilK 0 (.p a b c) k = k false := rfl
theorem nil_ss (k : Bool → Bool) : nilK 1 .nils k = k true := rfl
theorem nil_s (id t o n : Nat) (c : Option Nat) (s : Nat) (k : Bool → Bool) : nilK 1 (.sl id t o n c s) k = k false := rfl
theorem neg_f (k : KV) (r : Bool) : kNeg false k r = k (.b r) := rfl
theorem i_t (a b : Bool) : ite' true a b = a := rfl
theorem i_f (a b : Bool) : ite' false a b = b := rfl
theorem evN_of (x : Opd) (E : Env) (k : Nat → Bool) : evN x E k = ev x E fun v => onI v fun _ n => @Int.rec (fun _ => Bool) k (fun _ => false) n := rfl
theorem int_n (k f : Nat → Bool) (n : Nat) : @Int.rec (fun _ => Bool) k f (n : Int) = k n := rfl
theorem int_0 (k f : Nat → Bool) : @Int.rec (fun _ => Bool) k f (0 : Int) = k 0 := rfl
/- numbers -/
theorem w64 {n : Int} (h1 : -9223372036854775808 ≤ n) (h2 : n ≤ 9223372036854775807) : IntKind.wrap .i64 n = n := by
  have hb : IntKind.bits .i64 = 64 := rfl
  have hs : IntKind.signed .i64 = true := rfl
  unfold IntKind.wrap
  simp only [hb, hs, Bool.true_and, decide_eq_true_eq]
  have e1 : (2 : Int) ^ 64 = 18446744073709551616 := by decide
  have e2 : (2 : Int) ^ (64 - 1) = 9223372036854775808 := by decide
  rw [e1, e2]
  by_cases h : n % 18446744073709551616 ≥ 9223372036854775808
  · rw [if_pos h]; omega
  · rw [if_neg h]; omega
theorem b_add {a b : Int} (h1 : -9223372036854775808 ≤ a + b) (h2 : a + b ≤ 9223372036854775807) (k : KV) : kBin .add (.i .i64 a) (.i .i64 b) k = k (.i .i64 (a + b)) := by
  show kI k .i64 (wrapF .i64 (addI a b)) = _
  rw [kI_eq, wrapF_eq, addI_eq, w64 h1 h2]
theorem b_sub {a b : Int} (h1 : -9223372036854775808 ≤ a - b) (h2 : a - b ≤ 9223372036854775807) (k : KV) : kBin .sub (.i .i64 a) (.i .i64 b) k = k (.i .i64 (a - b)) := by
  show kI k .i64 (wrapF .i64 (Int.sub a b)) = _
  rw [kI_eq, wrapF_eq]
  show k (.i .i64 (IntKind.wrap .i64 (a - b))) = _
  rw [w64 h1 h2]
theorem b_mul {a b : Int} (h1 : -9223372036854775808 ≤ a * b) (h2 : a * b ≤ 9223372036854775807) (k : KV) : kBin .mul (.i .i64 a) (.i .i64 b) k = k (.i .i64 (a * b)) := by
  show kI k .i64 (wrapF .i64 (Int.mul a b)) = _
  rw [kI_eq, wrapF_eq]
  show k (.i .i64 (IntKind.wrap .i64 (a * b))) = _
  rw [w64 h1 h2]
theorem b_lss (a b : Int) (k : KV) : kBin .lss (.i .i64 a) (.i .i64 b) k = k (.b (decide (a < b))) := by
  show k (.b (notB (leI b a))) = _
  rw [notB_eq, leI_eq]; congr 2; rw [← decide_not]; congr 1; exact propext Int.not_le
theorem b_gtr (a b : Int) (k : KV) : kBin .gtr (.i .i64 a) (.i .i64 b) k = k (.b (decide (b < a))) := by
  show k (.b (notB (leI a b))) = _
  rw [notB_eq, leI_eq]; congr 2; rw [← decide_not]; congr 1; exact propext Int.not_le
theorem b_geq (a b : Int) (k : KV) : kBin .geq (.i .i64 a) (.i .i64 b) k = k (.b (decide (b ≤ a))) := by
  show k (.b (leI b a)) = _
  rw [leI_eq]
theorem b_eql (a b : Int) (k : KV) : kBin .eql (.i .i64 a) (.i .i64 b) k = k (.b (decide (a = b))) := by
  show k (.b (beqI a b)) = _
  rw [beqI_eq]; congr 2
theorem b_neq (a b : Int) (k : KV) : kBin .neq (.i .i64 a) (.i .i64 b) k = k (.b (!decide (a = b))) := by
  show k (.b (notB (beqI a b))) = _
  rw [notB_eq, beqI_eq]; congr 2
/- memory -/
theorem m_ld (x : Opd) (E : Env) (h : Heap) (k : KV) : runR (.ld x) E h k = ev x E fun v => onP v fun id tag off => h.tr.getK id false fun o => rdK o tag off k := rfl
theorem m_lk (z : AV) (ok : Bool) (kc : Nat) (m key : Opd) (E : Env) (h : Heap) (k : KV) : runR (.lk z ok kc m key) E h k =
    ev m E fun m => ev key E fun key => ite' (kindIs kc key) (onM m (okV ok k z false) fun id => h.tr.getK id false fun o => onMp o fun es => findK es key (okV ok k z false) fun v => okV ok k v true) false := rfl
theorem m_st0 (cells : T AV) (n off : Nat) (k : KV) (h : off < n) : rdK (.st cells n) 0 off k = cells.getK off false k := by
  show ite' true (ite' (Nat.ble (off + 1) n) (cells.getK off false k) false) false = _
  rw [Nat.ble_eq_true_of_le h]; rfl
theorem m_ve (cells : T AV) (ext ver minv off : Nat) (segs : List (Nat × Nat)) (k : KV) (h : off < ext) : rdK (.ve cells ext ver minv segs) ver off k = cells.getK off false k := by
  show ite' (Nat.ble (off + 1) ext) (ite' (ite' (Nat.beq ver ver) true _) (cells.getK off false k) false) false = _
  rw [Nat.ble_eq_true_of_le h, beq_self]; rfl
theorem m_box (x : Opd) (E : Env) (h : Heap) (k : KH) : runA (.box x) E h k = ev x E fun v => k (.p h.next 0 0) (addO h (.st (T.ofList (cellsOf v) 0 .e) (lenL (cellsOf v) 0))) := rfl
theorem m_mkm (E : Env) (h : Heap) (k : KH) : runA .mkm E h k = k (.m h.next) (addO h (.mp [])) := rfl
theorem m_call (f : Opd) (args : List Opd) (call : Nat → List AV → Heap → KH → Bool) (E : Env) (h : Heap) (k : KH) : runE (.call f args) call E h k = ev f E fun f => onF f fun fn first caps => evs args E fun args => call fn (appL first (appL args caps)) h k := rfl
theorem m_store (n : Nat) (a x : Opd) (call : Nat → List AV → Heap → KH → Bool) (E : Env) (h : Heap) (k : KH) : runE (.st n a x) call E h k =
    ev a E fun a => onP a fun id tag off => ev x E fun v => ite' (Nat.beq (lenL (cellsOf v) 0) n) (h.tr.getK id false fun o => wrsK (cellsOf v) o tag off fun o => k .u (updO h id o)) false := rfl
theorem m_mup (kc : Nat) (m key x : Opd) (call : Nat → List AV → Heap → KH → Bool) (E : Env) (h : Heap) (k : KH) : runE (.mup kc m key x) call E h k =
    ev m E fun m => onM m false fun id => ev key E fun key => ite' (kindIs kc key) (ev x E fun v => h.tr.getK id false fun o => onMp o fun es => putM es key v fun es => k .u (updO h id (.mp es))) false := rfl
theorem m_app (sz bytes : Nat) (x y : Opd) (call : Nat → List AV → Heap → KH → Bool) (E : Env) (h : Heap) (k : KH) : runE (.app sz bytes x y) call E h k = ev x E fun x => ev y E fun y => srcK sz y h fun new n => appK sz bytes x new n h k := rfl
theorem ap_0 (l : List AV) : appL [] (appL l []) = l := by rw [appL_eq, appL_eq]; simp
theorem okT (k : KV) (v : AV) (b : Bool) : okV true k v b = k (.tup [v, .b b]) := rfl
theorem okF (k : KV) (v : AV) (b : Bool) : okV false k v b = k v := rfl
theorem kd1 (kd : IntKind) (n : Int) : kindIs 1 (.i kd n) = true := rfl
theorem ret_r (l : List CRes) (k : KH) (fr : Fr) (h : Heap) : retK l k .ret fr h = resK l fr h (oneOrTup fun v => k v h) := rfl
theorem res_t1 (t : Nat) (fr : Fr) (h : Heap) (k : List AV → Bool) : resK [.tmp t] fr h k = fr.getK t false fun v => k [v] := rfl
theorem res_t2 (t u : Nat) (fr : Fr) (h : Heap) (k : List AV → Bool) : resK [.tmp t, .tmp u] fr h k = fr.getK t false fun v => fr.getK u false fun w => k [v, w] := rfl
theorem one1 (k : KV) (v : AV) : oneOrTup k [v] = k v := rfl
theorem one2 (k : KV) (v w : AV) : oneOrTup k [v, w] = k (.tup [v, w]) := rfl
theorem rec_t (a b : Bool) : @Bool.rec (fun _ => Bool) a b true = b := rfl
theorem rec_f (a b : Bool) : @Bool.rec (fun _ => Bool) a b false = a := rfl

/- structs that are built -/
noncomputable def fillV (v : AV) (off : Nat) (z : List AV) (K : List AV → Bool) : Bool := ite' (Nat.beq (lenL (cellsOf v) 0) 1) (ite' (Nat.ble (Nat.add off 1) (lenL z 0)) (K (putL z (cellsOf v) off)) false) false
theorem fill_nil (E : Env) (z : List AV) (k : List AV → Bool) : fillK [] E z k = k z := rfl
theorem fill_cons (off : Nat) (x : Opd) (ps : List (Nat × Nat × Opd)) (E : Env) (z : List AV) (k : List AV → Bool) : fillK ((off, (1, x)) :: ps) E z k = ev x E fun v => fillV v off z fun z => fillK ps E z k := rfl
theorem fv20 {v : AV} (hc : cellsOf v = [v]) (a b : AV) (K : List AV → Bool) : fillV v 0 [a, b] K = K [v, b] := by unfold fillV; rw [hc]; rfl
theorem fv21 {v : AV} (hc : cellsOf v = [v]) (a b : AV) (K : List AV → Bool) : fillV v 1 [a, b] K = K [a, v] := by unfold fillV; rw [hc]; rfl
theorem fv30 {v : AV} (hc : cellsOf v = [v]) (a b c : AV) (K : List AV → Bool) : fillV v 0 [a, b, c] K = K [v, b, c] := by unfold fillV; rw [hc]; rfl
theorem fv32 {v : AV} (hc : cellsOf v = [v]) (a b c : AV) (K : List AV → Bool) : fillV v 2 [a, b, c] K = K [a, b, v] := by unfold fillV; rw [hc]; rfl
theorem fv40 {v : AV} (hc : cellsOf v = [v]) (a b c d : AV) (K : List AV → Bool) : fillV v 0 [a, b, c, d] K = K [v, b, c, d] := by unfold fillV; rw [hc]; rfl
theorem fv41 {v : AV} (hc : cellsOf v = [v]) (a b c d : AV) (K : List AV → Bool) : fillV v 1 [a, b, c, d] K = K [a, v, c, d] := by unfold fillV; rw [hc]; rfl
theorem fv42 {v : AV} (hc : cellsOf v = [v]) (a b c d : AV) (K : List AV → Bool) : fillV v 2 [a, b, c, d] K = K [a, b, v, d] := by unfold fillV; rw [hc]; rfl
theorem fv43 {v : AV} (hc : cellsOf v = [v]) (a b c d : AV) (K : List AV → Bool) : fillV v 3 [a, b, c, d] K = K [a, b, c, v] := by unfold fillV; rw [hc]; rfl
theorem c_i (kd : IntKind) (n : Int) : cellsOf (.i kd n) = [.i kd n] := rfl
theorem c_b (b : Bool) : cellsOf (.b b) = [.b b] := rfl
theorem c_m (i : Nat) : cellsOf (.m i) = [.m i] := rfl
theorem c_p (a b c : Nat) : cellsOf (.p a b c) = [.p a b c] := rfl
theorem c_nils : cellsOf .nils = [.nils] := rfl
theorem c_sl (id t o n : Nat) (c : Option Nat) (s : Nat) : cellsOf (.sl id t o n c s) = [.sl id t o n c s] := rfl
theorem c_agg (l : List AV) : cellsOf (.agg l) = l := rfl
theorem len_1 (a : AV) : lenL [a] 0 = 1 := rfl
theorem len_2 (a b : AV) : lenL [a, b] 0 = 2 := rfl
theorem len_3 (a b c : AV) : lenL [a, b, c] 0 = 3 := rfl
theorem len_4 (a b c d : AV) : lenL [a, b, c, d] 0 = 4 := rfl
theorem beq11 : Nat.beq 1 1 = true := rfl
/- stores -/
theorem wrs1 (v : AV) (o : Obj) (tag off : Nat) (k : Obj → Bool) : wrsK [v] o tag off k = wrK o tag off v k := rfl
theorem w_ve {cells : T AV} {ext ver minv off : Nat} {segs : List (Nat × Nat)} {v : AV} (hv : oneC v = true) (h : off < ext) (k : Obj → Bool) : wrK (.ve cells ext ver minv segs) ver off v k = k (.ve (cells.set v off) ext ver ver segs) := by
  show ite' (oneC v) (ite' (Nat.beq ver ver) (ite' (Nat.ble (off + 1) ext) (k (.ve (cells.set v off) ext ver ver segs)) false) false) false = _
  rw [hv, beq_self, Nat.ble_eq_true_of_le h]; rfl
theorem w_st {cells : T AV} {n off : Nat} {v : AV} (hv : oneC v = true) (h : off < n) (k : Obj → Bool) : wrK (.st cells n) 0 off v k = k (.st (cells.set v off) n) := by
  show ite' (oneC v) (ite' (Nat.beq 0 0) (ite' (Nat.ble (off + 1) n) (k (.st (cells.set v off) n)) false) false) false = _
  rw [hv, Nat.ble_eq_true_of_le h]; rfl
theorem one_i (kd : IntKind) (n : Int) : oneC (.i kd n) = true := rfl
theorem one_p (a b c : Nat) : oneC (.p a b c) = true := rfl
theorem one_m (a : Nat) : oneC (.m a) = true := rfl
theorem one_sl (id t o n : Nat) (c : Option Nat) (s : Nat) : oneC (.sl id t o n c s) = true := rfl
theorem one_nils : oneC .nils = true := rfl
/- regions whose order is open -/
section
variable {call : Nat → List AV → Heap → KH → Bool}
theorem d_nil (fr : Fr) (ls : List AV) (h : Heap) (rs : List Rec) (hs : List Heap) (k : KF) : runD call [] ⟨fr, ls⟩ h rs hs k = andB (chkAll (revL hs [h]) rs) (k fr h) := rfl
theorem d_puN (p : POp) (lo hi : Nat) (l : List COper) (fr : Fr) (ls : List AV) (h : Heap) (rs : List Rec) (hs : List Heap) (k : KF) : runD call (⟨none, none, .pu p, lo, hi⟩ :: l) ⟨fr, ls⟩ h rs hs k =
    runP p ⟨fr, ls⟩ fun v => runD call l ⟨fr, v :: ls⟩ h rs hs k := rfl
theorem d_puS (d : Nat) (p : POp) (lo hi : Nat) (l : List COper) (fr : Fr) (ls : List AV) (h : Heap) (rs : List Rec) (hs : List Heap) (k : KF) : runD call (⟨some d, none, .pu p, lo, hi⟩ :: l) ⟨fr, ls⟩ h rs hs k =
    runP p ⟨fr, ls⟩ fun v => runD call l ⟨T.set v fr d, v :: ls⟩ h rs hs k := rfl
theorem d_rdN (r : ROp) (lo hi : Nat) (l : List COper) (fr : Fr) (ls : List AV) (h : Heap) (rs : List Rec) (hs : List Heap) (k : KF) : runD call (⟨none, none, .rd r, lo, hi⟩ :: l) ⟨fr, ls⟩ h rs hs k =
    runR r ⟨fr, ls⟩ h fun v => runD call l ⟨fr, v :: ls⟩ h (@Bool.rec (fun _ => List Rec) (⟨r, ⟨fr, ls⟩, v, lo, hi⟩ :: rs) rs (Nat.beq lo hi)) hs k := rfl
theorem d_rdS (d : Nat) (r : ROp) (lo hi : Nat) (l : List COper) (fr : Fr) (ls : List AV) (h : Heap) (rs : List Rec) (hs : List Heap) (k : KF) : runD call (⟨some d, none, .rd r, lo, hi⟩ :: l) ⟨fr, ls⟩ h rs hs k =
    runR r ⟨fr, ls⟩ h fun v => runD call l ⟨T.set v fr d, v :: ls⟩ h (@Bool.rec (fun _ => List Rec) (⟨r, ⟨fr, ls⟩, v, lo, hi⟩ :: rs) rs (Nat.beq lo hi)) hs k := rfl
theorem d_alN (p : AOp) (lo hi : Nat) (l : List COper) (fr : Fr) (ls : List AV) (h : Heap) (rs : List Rec) (hs : List Heap) (k : KF) : runD call (⟨none, none, .al p, lo, hi⟩ :: l) ⟨fr, ls⟩ h rs hs k =
    runA p ⟨fr, ls⟩ h fun v h' => runD call l ⟨fr, v :: ls⟩ h' rs hs k := rfl
theorem d_alS (d : Nat) (p : AOp) (lo hi : Nat) (l : List COper) (fr : Fr) (ls : List AV) (h : Heap) (rs : List Rec) (hs : List Heap) (k : KF) : runD call (⟨some d, none, .al p, lo, hi⟩ :: l) ⟨fr, ls⟩ h rs hs k =
    runA p ⟨fr, ls⟩ h fun v h' => runD call l ⟨T.set v fr d, v :: ls⟩ h' rs hs k := rfl
theorem d_efN (p : EOp) (lo hi : Nat) (l : List COper) (fr : Fr) (ls : List AV) (h : Heap) (rs : List Rec) (hs : List Heap) (k : KF) : runD call (⟨none, none, .ef p, lo, hi⟩ :: l) ⟨fr, ls⟩ h rs hs k =
    runE p call ⟨fr, ls⟩ h fun v h' => runD call l ⟨fr, v :: ls⟩ h' rs (h :: hs) k := rfl
theorem d_efS (d : Nat) (p : EOp) (lo hi : Nat) (l : List COper) (fr : Fr) (ls : List AV) (h : Heap) (rs : List Rec) (hs : List Heap) (k : KF) : runD call (⟨some d, none, .ef p, lo, hi⟩ :: l) ⟨fr, ls⟩ h rs hs k =
    runE p call ⟨fr, ls⟩ h fun v h' => runD call l ⟨T.set v fr d, v :: ls⟩ h' rs (h :: hs) k := rfl
theorem d_gpuN (x : Opd) (p : POp) (lo hi : Nat) (l : List COper) (fr : Fr) (ls : List AV) (h : Heap) (rs : List Rec) (hs : List Heap) (k : KF) : runD call (⟨none, some (x, false), .pu p, lo, hi⟩ :: l) ⟨fr, ls⟩ h rs hs k =
    ev x ⟨fr, ls⟩ fun v => onGuard v (fun x => @Bool.rec (fun _ => Bool) (runP p ⟨fr, ls⟩ fun v => runD call l ⟨fr, v :: ls⟩ h rs hs k) (runD call l ⟨fr, .u :: ls⟩ h rs hs k) x) (runD call l ⟨fr, .u :: ls⟩ h rs hs k) := rfl
theorem d_gpuS (d : Nat) (x : Opd) (p : POp) (lo hi : Nat) (l : List COper) (fr : Fr) (ls : List AV) (h : Heap) (rs : List Rec) (hs : List Heap) (k : KF) : runD call (⟨some d, some (x, false), .pu p, lo, hi⟩ :: l) ⟨fr, ls⟩ h rs hs k =
    ev x ⟨fr, ls⟩ fun v => onGuard v (fun x => @Bool.rec (fun _ => Bool) (runP p ⟨fr, ls⟩ fun v => runD call l ⟨T.set v fr d, v :: ls⟩ h rs hs k) (runD call l ⟨T.set .u fr d, .u :: ls⟩ h rs hs k) x) (runD call l ⟨T.set .u fr d, .u :: ls⟩ h rs hs k) := rfl
theorem d_grdN (x : Opd) (r : ROp) (lo hi : Nat) (l : List COper) (fr : Fr) (ls : List AV) (h : Heap) (rs : List Rec) (hs : List Heap) (k : KF) : runD call (⟨none, some (x, false), .rd r, lo, hi⟩ :: l) ⟨fr, ls⟩ h rs hs k =
    ev x ⟨fr, ls⟩ fun v => onGuard v (fun x => @Bool.rec (fun _ => Bool) (runR r ⟨fr, ls⟩ h fun v => runD call l ⟨fr, v :: ls⟩ h (@Bool.rec (fun _ => List Rec) (⟨r, ⟨fr, ls⟩, v, lo, hi⟩ :: rs) rs (Nat.beq lo hi)) hs k) (runD call l ⟨fr, .u :: ls⟩ h rs hs k) x) (runD call l ⟨fr, .u :: ls⟩ h rs hs k) := rfl
theorem d_grdS (d : Nat) (x : Opd) (r : ROp) (lo hi : Nat) (l : List COper) (fr : Fr) (ls : List AV) (h : Heap) (rs : List Rec) (hs : List Heap) (k : KF) : runD call (⟨some d, some (x, false), .rd r, lo, hi⟩ :: l) ⟨fr, ls⟩ h rs hs k =
    ev x ⟨fr, ls⟩ fun v => onGuard v (fun x => @Bool.rec (fun _ => Bool) (runR r ⟨fr, ls⟩ h fun v => runD call l ⟨T.set v fr d, v :: ls⟩ h (@Bool.rec (fun _ => List Rec) (⟨r, ⟨fr, ls⟩, v, lo, hi⟩ :: rs) rs (Nat.beq lo hi)) hs k) (runD call l ⟨T.set .u fr d, .u :: ls⟩ h rs hs k) x) (runD call l ⟨T.set .u fr d, .u :: ls⟩ h rs hs k) := rfl
theorem d_gefN (x : Opd) (p : EOp) (lo hi : Nat) (l : List COper) (fr : Fr) (ls : List AV) (h : Heap) (rs : List Rec) (hs : List Heap) (k : KF) : runD call (⟨none, some (x, false), .ef p, lo, hi⟩ :: l) ⟨fr, ls⟩ h rs hs k =
    ev x ⟨fr, ls⟩ fun v => onGuard v (fun x => @Bool.rec (fun _ => Bool) (runE p call ⟨fr, ls⟩ h fun v h' => runD call l ⟨fr, v :: ls⟩ h' rs (h :: hs) k) (runD call l ⟨fr, .u :: ls⟩ h rs (h :: hs) k) x) (runD call l ⟨fr, .u :: ls⟩ h rs (h :: hs) k) := rfl
theorem d_gefS (d : Nat) (x : Opd) (p : EOp) (lo hi : Nat) (l : List COper) (fr : Fr) (ls : List AV) (h : Heap) (rs : List Rec) (hs : List Heap) (k : KF) : runD call (⟨some d, some (x, false), .ef p, lo, hi⟩ :: l) ⟨fr, ls⟩ h rs hs k =
    ev x ⟨fr, ls⟩ fun v => onGuard v (fun x => @Bool.rec (fun _ => Bool) (runE p call ⟨fr, ls⟩ h fun v h' => runD call l ⟨T.set v fr d, v :: ls⟩ h' rs (h :: hs) k) (runD call l ⟨T.set .u fr d, .u :: ls⟩ h rs (h :: hs) k) x) (runD call l ⟨T.set .u fr d, .u :: ls⟩ h rs (h :: hs) k) := rfl
end
theorem k_nil (l : List Heap) : chkAll l [] = true := rfl
theorem k_cons (l : List Heap) (r : Rec) (rs : List Rec) : chkAll l (r :: rs) = andB (chkAt r l 0) (chkAll l rs) := rfl
theorem ka_nil (r : Rec) (j : Nat) : chkAt r [] j = true := rfl
theorem ka_cons (op : ROp) (E : Env) (v : AV) (lo hi : Nat) (h : Heap) (l : List Heap) (j : Nat) : chkAt ⟨op, E, v, lo, hi⟩ (h :: l) j = andB (ite' (ite' (Nat.ble lo j) (Nat.ble j hi) false) (runR op E h (sameV v)) true) (chkAt ⟨op, E, v, lo, hi⟩ l (j + 1)) := rfl
theorem rev_nil {α : Type} (a : List α) : revL [] a = a := rfl
theorem rev_cons {α : Type} (x : α) (l a : List α) : revL (x :: l) a = revL l (x :: a) := rfl
theorem and_t (a : Bool) : andB true a = a := rfl
theorem and_f (a : Bool) : andB false a = false := rfl
theorem ble_dec (a b : Nat) : Nat.ble a b = decide (a ≤ b) := by
  by_cases h : a ≤ b
  · rw [Nat.ble_eq_true_of_le h, decide_eq_true h]
  · rw [decide_eq_false h]; cases hb : Nat.ble a b with
    | false => rfl
    | true => exact absurd (Nat.le_of_ble_eq_true hb) h
theorem beq_dec (a b : Nat) : Nat.beq a b = decide (a = b) := by
  by_cases h : a = b
  · rw [decide_eq_true h, h, beq_self]
  · rw [decide_eq_false h]; cases hb : Nat.beq a b with
    | false => rfl
    | true => exact absurd (Nat.eq_of_beq_eq_true hb) h
theorem rrec_t (a b : List Rec) : @Bool.rec (fun _ => List Rec) a b true = b := rfl
theorem rrec_f (a b : List Rec) : @Bool.rec (fun _ => List Rec) a b false = a := rfl
theorem s_m (i : Nat) : sameV (.m i) (.m i) = true := beq_self i
theorem s_p (a b c : Nat) : sameV (.p a b c) (.p a b c) = true := by
  show ite' (Nat.beq a a) (ite' (Nat.beq b b) (Nat.beq c c) false) false = true
  rw [beq_self, beq_self, beq_self]; rfl
theorem s_i (kd : IntKind) (n : Int) : sameV (.i kd n) (.i kd n) = true := by
  show ite' (beqK kd kd) (beqI n n) false = true
  rw [beqI_eq]
  cases kd <;> simp [beqK, kindNo, ite']
theorem s_nils : sameV .nils .nils = true := rfl
theorem s_sl (id t o n : Nat) (s : Nat) : sameV (.sl id t o n none s) (.sl id t o n none s) = true := by
  show ite' (Nat.beq id id) (ite' (Nat.beq t t) (ite' (Nat.beq o o) (ite' (Nat.beq n n) (ite' (Nat.beq s s) true false) false) false) false) false = true
  rw [beq_self, beq_self, beq_self, beq_self, beq_self]; rfl
theorem rec_nt (a b : Bool) : @Bool.rec (fun _ => Bool) a b (!true) = a := rfl
theorem rec_nf (a b : Bool) : @Bool.rec (fun _ => Bool) a b (!false) = b := rfl
theorem rec_dt (a b : Bool) : @Bool.rec (fun _ => Bool) a b (decide True) = b := rfl
theorem b_lssT {a b : Int} (h : a < b) (k : KV) : kBin .lss (.i .i64 a) (.i .i64 b) k = k (.b true) := by rw [b_lss, decide_eq_true h]
theorem b_lssF {a b : Int} (h : ¬ a < b) (k : KV) : kBin .lss (.i .i64 a) (.i .i64 b) k = k (.b false) := by rw [b_lss, decide_eq_false h]
theorem b_gtrT {a b : Int} (h : b < a) (k : KV) : kBin .gtr (.i .i64 a) (.i .i64 b) k = k (.b true) := by rw [b_gtr, decide_eq_true h]
theorem b_gtrF {a b : Int} (h : ¬ b < a) (k : KV) : kBin .gtr (.i .i64 a) (.i .i64 b) k = k (.b false) := by rw [b_gtr, decide_eq_false h]
theorem b_geqT {a b : Int} (h : b ≤ a) (k : KV) : kBin .geq (.i .i64 a) (.i .i64 b) k = k (.b true) := by rw [b_geq, decide_eq_true h]
theorem b_geqF {a b : Int} (h : ¬ b ≤ a) (k : KV) : kBin .geq (.i .i64 a) (.i .i64 b) k = k (.b false) := by rw [b_geq, decide_eq_false h]
theorem b_eqlT {a b : Int} (h : a = b) (k : KV) : kBin .eql (.i .i64 a) (.i .i64 b) k = k (.b true) := by rw [b_eql, decide_eq_true h]
theorem b_eqlF {a b : Int} (h : ¬ a = b) (k : KV) : kBin .eql (.i .i64 a) (.i .i64 b) k = k (.b false) := by rw [b_eql, decide_eq_false h]
theorem b_neqT {a b : Int} (h : ¬ a = b) (k : KV) : kBin .neq (.i .i64 a) (.i .i64 b) k = k (.b true) := by rw [b_neq, decide_eq_false h]; rfl
theorem b_neqF {a b : Int} (h : a = b) (k : KV) : kBin .neq (.i .i64 a) (.i .i64 b) k = k (.b false) := by rw [b_neq, decide_eq_true h]; rfl
theorem neg_tt (k : KV) : kNeg true k true = k (.b false) := rfl
theorem neg_tf (k : KV) : kNeg true k false = k (.b true) := rfl
theorem it_succ (c : Fr → Heap → KE → Bool) (n : Nat) (fr : Fr) (h : Heap) (k : KE) : iter c (n + 1) fr h k = c fr h fun e fr h => exNrm e (k e fr h) (iter c n fr h k) := rfl
theorem ex_n (a : Bool) (f : Nat → Bool) (b : Bool) : @Ex.rec (fun _ => Bool) a f b .nrm = a := rfl
theorem ex_e (a : Bool) (f : Nat → Bool) (b : Bool) (i : Nat) : @Ex.rec (fun _ => Bool) a f b (.exit i) = f i := rfl
theorem ex_r (a : Bool) (f : Nat → Bool) (b : Bool) : @Ex.rec (fun _ => Bool) a f b .ret = b := rfl
theorem m_mks (z : AV) (x y : Opd) (E : Env) (h : Heap) (k : KH) : runA (.mks [z] 1 8 x y) E h k = evN x E fun l => evN y E fun c => ite' (Nat.ble l c) (ite' (Nat.ble c 16777216) (ite' (Nat.ble (Nat.mul 8 c) 16777216)
    (k (.sl h.next 0 0 l (some c) 1) (addO h (.st (T.ofList (repL [z] c) 0 .e) (Nat.mul c 1)))) false) false) false := rfl
theorem rec_bb (a b : Bool) (n : Nat) : @Bool.rec (fun _ => Bool) a b (Nat.beq n n) = b := by rw [beq_self]
theorem m_callf (fn : Nat) (args : List Opd) (call : Nat → List AV → Heap → KH → Bool) (E : Env) (h : Heap) (k : KH) : runE (.call (.f fn) args) call E h k = evs args E fun args => call fn args h k := by
  show (evs args E fun args => call fn (appL [] (appL args [])) h k) = _
  simp only [ap_0]
section
variable {call : Nat → List AV → Heap → KH → Bool}
theorem o_guardTN (x : Opd) (op : COp) (lo hi : Nat) (l : List COper) (fr : Fr) (ls : List AV) (h : Heap) (K : KF) :
    runOps call (⟨none, some (x, true), op, lo, hi⟩ :: l) ⟨fr, ls⟩ h K = ev x ⟨fr, ls⟩ fun v => onGuard v (fun x => @Bool.rec (fun _ => Bool) (runOps call l ⟨fr, .u :: ls⟩ h K) (runO op call ⟨fr, ls⟩ h fun v h => runOps call l ⟨fr, v :: ls⟩ h K) x)
      (runOps call l ⟨fr, .u :: ls⟩ h K) := rfl
theorem o_guardTS (d : Nat) (x : Opd) (op : COp) (lo hi : Nat) (l : List COper) (fr : Fr) (ls : List AV) (h : Heap) (K : KF) :
    runOps call (⟨some d, some (x, true), op, lo, hi⟩ :: l) ⟨fr, ls⟩ h K = ev x ⟨fr, ls⟩ fun v => onGuard v (fun x => @Bool.rec (fun _ => Bool) (runOps call l ⟨T.set .u fr d, .u :: ls⟩ h K) (runO op call ⟨fr, ls⟩ h fun v h => runOps call l ⟨T.set v fr d, v :: ls⟩ h K) x)
      (runOps call l ⟨T.set .u fr d, .u :: ls⟩ h K) := rfl
end
theorem res_t3 (t u w : Nat) (fr : Fr) (h : Heap) (k : List AV → Bool) : resK [.tmp t, .tmp u, .tmp w] fr h k = fr.getK t false fun a => fr.getK u false fun b => fr.getK w false fun c => k [a, b, c] := rfl
theorem one3 (k : KV) (a b c : AV) : oneOrTup k [a, b, c] = k (.tup [a, b, c]) := rfl
end Go.AE
