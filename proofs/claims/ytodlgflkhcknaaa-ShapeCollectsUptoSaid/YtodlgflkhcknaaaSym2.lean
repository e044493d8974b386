/- More of the evaluator's steps: structs in rows, strings, calls of closures; words. -/
import Derived.Test.YtodlgflkhcknaaaSym
set_option linter.unusedVariables false
namespace Go.AE
open Go

theorem m_ldn (n : Nat) (x : Opd) (E : Env) (h : Heap) (k : KV) : runR (.ldn n x) E h k = ev x E fun v => onP v fun id tag off => h.tr.getK id false fun o => rdsK o tag n off fun l => k (.agg l) := rfl
theorem rds_2 (o : Go.AE.Obj) (t off : Nat) (k : List AV → Bool) : rdsK o t 2 off k = rdK o t off fun a => rdK o t (off + 1) fun b => k [a, b] := rfl
theorem rds_3 (o : Go.AE.Obj) (t off : Nat) (k : List AV → Bool) : rdsK o t 3 off k = rdK o t off fun a => rdK o t (off + 1) fun b => rdK o t (off + 1 + 1) fun c => k [a, b, c] := rfl
theorem wrs_2 (a b : AV) (o : Go.AE.Obj) (t off : Nat) (k : Go.AE.Obj → Bool) : wrsK [a, b] o t off k = wrK o t off a fun o => wrK o t (off + 1) b k := rfl
theorem wrs_3 (a b c : AV) (o : Go.AE.Obj) (t off : Nat) (k : Go.AE.Obj → Bool) : wrsK [a, b, c] o t off k = wrK o t off a fun o => wrK o t (off + 1) b fun o => wrK o t (off + 1 + 1) c k := rfl
theorem one_s (n v : Nat) : oneC (.s n v) = true := rfl
theorem one_b (b : Bool) : oneC (.b b) = true := rfl
theorem c_s (n v : Nat) : cellsOf (.s n v) = [.s n v] := rfl
theorem len_5 (a b c d e : AV) : lenL [a, b, c, d, e] 0 = 5 := rfl
theorem m_new (z : List AV) (E : Env) (h : Heap) (k : KH) : runA (.new z) E h k = k (.p h.next 0 0) (addO h (.st (T.ofList z 0 .e) (lenL z 0))) := rfl
theorem p_lens (x : Opd) (E : Env) (k : KV) : runP (.lens x) E k = ev x E fun v => onS v fun n _ => k (.i .i64 (n : Int)) := rfl
theorem n_s (n v : Nat) (f : Nat → Nat → Bool) : onS (.s n v) f = f n v := rfl
theorem p_eqb (x y : Opd) (E : Env) (k : KV) : runP (.eqb false x y) E k = ev x E fun a => ev y E fun b => onB a fun p => onB b fun q => k (.b (p == q)) := by
  show (ev x E fun a => ev y E fun b => onB a fun p => onB b fun q => kNeg false k (@Bool.rec (fun _ => Bool) (notB q) q p)) = _
  have : ∀ p q : Bool, kNeg false k (@Bool.rec (fun _ => Bool) (notB q) q p) = k (.b (p == q)) := fun p q => by cases p <;> cases q <;> rfl
  simp only [this]
theorem p_mkf (fn : Nat) (caps : List Opd) (E : Env) (k : KV) : runP (.mkf fn [] caps) E k = evs caps E fun b => k (.f fn [] b) := rfl
theorem m_callv (j : Nat) (args : List Opd) (call : Nat → List AV → Heap → KH → Bool) (E : Env) (h : Heap) (k : KH) : runE (.call (.l j) args) call E h k = ev (.l j) E fun f => onF f fun fn first caps => evs args E fun args => call fn (appL first (appL args caps)) h k := rfl
theorem ap_cl (l m : List AV) : appL [] (appL l m) = l ++ m := by rw [appL_eq, appL_eq]; simp
theorem p_idxs (x i : Opd) (E : Env) (k : KV) : runP (.idxs x i) E k = ev x E fun v => onS v fun n w => evN i E fun i => ite' (Nat.ble (i + 1) n) (k (.i .u8 (byteAt w i : Int))) false := rfl
theorem p_cvi (kd : IntKind) (x : Opd) (E : Env) (k : KV) : runP (.cvi kd x) E k = ev x E fun v => onIO v (fun _ n => k (.i kd (IntKind.wrap kd n))) fun j => ite' (beqK kd .i64) (k (.o j)) false := by
  show (ev x E fun v => onIO v (fun _ n => kI k kd (wrapF kd n)) fun j => ite' (beqK kd .i64) (k (.o j)) false) = _
  simp only [kI_eq, wrapF_eq]
theorem n_io (kd : IntKind) (n : Int) (f : IntKind → Int → Bool) (g : Nat → Bool) : onIO (.i kd n) f g = f kd n := rfl
/- structs of more cells as parts -/
theorem fill_agg2 (off : Nat) (x : Opd) (ps : List (Nat × Nat × Opd)) (E : Env) (z : List AV) (k : List AV → Bool) : fillK ((off, (2, x)) :: ps) E z k = ev x E fun v => ite' (Nat.beq (lenL (cellsOf v) 0) 2) (ite' (Nat.ble (off + 2) (lenL z 0)) (fillK ps E (putL z (cellsOf v) off) k) false) false := rfl
theorem fill_agg3 (off : Nat) (x : Opd) (ps : List (Nat × Nat × Opd)) (E : Env) (z : List AV) (k : List AV → Bool) : fillK ((off, (3, x)) :: ps) E z k = ev x E fun v => ite' (Nat.beq (lenL (cellsOf v) 0) 3) (ite' (Nat.ble (off + 3) (lenL z 0)) (fillK ps E (putL z (cellsOf v) off) k) false) false := rfl
theorem put_22 (a b x y : AV) : putL [x, y] [a, b] 0 = [a, b] := rfl
theorem put_23 (a b x y z : AV) : putL [x, y, z] [a, b] 0 = [a, b, z] := rfl
theorem put_33 (a b c x y z : AV) : putL [x, y, z] [a, b, c] 0 = [a, b, c] := rfl
theorem put_34 (a b c x y z u : AV) : putL [x, y, z, u] [a, b, c] 0 = [a, b, c, u] := rfl
theorem put_35 (a b c x y z u v : AV) : putL [x, y, z, u, v] [a, b, c] 0 = [a, b, c, u, v] := rfl
theorem fv31 {v : AV} (hc : cellsOf v = [v]) (a b c : AV) (K : List AV → Bool) : fillV v 1 [a, b, c] K = K [a, v, c] := by unfold fillV; rw [hc]; rfl
theorem fv54 {v : AV} (hc : cellsOf v = [v]) (a b c d e : AV) (K : List AV → Bool) : fillV v 4 [a, b, c, d, e] K = K [a, b, c, d, v] := by unfold fillV; rw [hc]; rfl
section
variable {call : Nat → List AV → Heap → KH → Bool}
theorem d_gtpuN (x : Opd) (p : POp) (lo hi : Nat) (l : List COper) (fr : Fr) (ls : List AV) (h : Heap) (rs : List Rec) (hs : List Heap) (k : KF) : runD call (⟨none, some (x, true), .pu p, lo, hi⟩ :: l) ⟨fr, ls⟩ h rs hs k =
    ev x ⟨fr, ls⟩ fun v => onGuard v (fun x => @Bool.rec (fun _ => Bool) (runD call l ⟨fr, .u :: ls⟩ h rs hs k) (runP p ⟨fr, ls⟩ fun v => runD call l ⟨fr, v :: ls⟩ h rs hs k) x) (runD call l ⟨fr, .u :: ls⟩ h rs hs k) := rfl
theorem d_gtpuS (d : Nat) (x : Opd) (p : POp) (lo hi : Nat) (l : List COper) (fr : Fr) (ls : List AV) (h : Heap) (rs : List Rec) (hs : List Heap) (k : KF) : runD call (⟨some d, some (x, true), .pu p, lo, hi⟩ :: l) ⟨fr, ls⟩ h rs hs k =
    ev x ⟨fr, ls⟩ fun v => onGuard v (fun x => @Bool.rec (fun _ => Bool) (runD call l ⟨T.set .u fr d, .u :: ls⟩ h rs hs k) (runP p ⟨fr, ls⟩ fun v => runD call l ⟨T.set v fr d, v :: ls⟩ h rs hs k) x) (runD call l ⟨T.set .u fr d, .u :: ls⟩ h rs hs k) := rfl
theorem d_gtrdN (x : Opd) (r : ROp) (lo hi : Nat) (l : List COper) (fr : Fr) (ls : List AV) (h : Heap) (rs : List Rec) (hs : List Heap) (k : KF) : runD call (⟨none, some (x, true), .rd r, lo, hi⟩ :: l) ⟨fr, ls⟩ h rs hs k =
    ev x ⟨fr, ls⟩ fun v => onGuard v (fun x => @Bool.rec (fun _ => Bool) (runD call l ⟨fr, .u :: ls⟩ h rs hs k) (runR r ⟨fr, ls⟩ h fun v => runD call l ⟨fr, v :: ls⟩ h (@Bool.rec (fun _ => List Rec) (⟨r, ⟨fr, ls⟩, v, lo, hi⟩ :: rs) rs (Nat.beq lo hi)) hs k) x) (runD call l ⟨fr, .u :: ls⟩ h rs hs k) := rfl
theorem d_gtrdS (d : Nat) (x : Opd) (r : ROp) (lo hi : Nat) (l : List COper) (fr : Fr) (ls : List AV) (h : Heap) (rs : List Rec) (hs : List Heap) (k : KF) : runD call (⟨some d, some (x, true), .rd r, lo, hi⟩ :: l) ⟨fr, ls⟩ h rs hs k =
    ev x ⟨fr, ls⟩ fun v => onGuard v (fun x => @Bool.rec (fun _ => Bool) (runD call l ⟨T.set .u fr d, .u :: ls⟩ h rs hs k) (runR r ⟨fr, ls⟩ h fun v => runD call l ⟨T.set v fr d, v :: ls⟩ h (@Bool.rec (fun _ => List Rec) (⟨r, ⟨fr, ls⟩, v, lo, hi⟩ :: rs) rs (Nat.beq lo hi)) hs k) x) (runD call l ⟨T.set .u fr d, .u :: ls⟩ h rs hs k) := rfl
theorem d_gtefN (x : Opd) (p : EOp) (lo hi : Nat) (l : List COper) (fr : Fr) (ls : List AV) (h : Heap) (rs : List Rec) (hs : List Heap) (k : KF) : runD call (⟨none, some (x, true), .ef p, lo, hi⟩ :: l) ⟨fr, ls⟩ h rs hs k =
    ev x ⟨fr, ls⟩ fun v => onGuard v (fun x => @Bool.rec (fun _ => Bool) (runD call l ⟨fr, .u :: ls⟩ h rs (h :: hs) k) (runE p call ⟨fr, ls⟩ h fun v h' => runD call l ⟨fr, v :: ls⟩ h' rs (h :: hs) k) x) (runD call l ⟨fr, .u :: ls⟩ h rs (h :: hs) k) := rfl
theorem d_gtefS (d : Nat) (x : Opd) (p : EOp) (lo hi : Nat) (l : List COper) (fr : Fr) (ls : List AV) (h : Heap) (rs : List Rec) (hs : List Heap) (k : KF) : runD call (⟨some d, some (x, true), .ef p, lo, hi⟩ :: l) ⟨fr, ls⟩ h rs hs k =
    ev x ⟨fr, ls⟩ fun v => onGuard v (fun x => @Bool.rec (fun _ => Bool) (runD call l ⟨T.set .u fr d, .u :: ls⟩ h rs (h :: hs) k) (runE p call ⟨fr, ls⟩ h fun v h' => runD call l ⟨T.set v fr d, v :: ls⟩ h' rs (h :: hs) k) x) (runD call l ⟨T.set .u fr d, .u :: ls⟩ h rs (h :: hs) k) := rfl
end
theorem g_u (f : Bool → Bool) (d : Bool) : onGuard (.tup []) f d = d := rfl
theorem ga_new2 {H : Heap} {o : Go.AE.Obj} {id : Nat} (h : id = H.next) (d : Bool) (f : Go.AE.Obj → Bool) : (addO H o).tr.getK id d f = f o := by rw [h]; exact getK_same o H.tr H.next d f
theorem nx1 (n : Nat) : (n = n + 1) = False := by simp
theorem nx1' (n : Nat) : (n + 1 = n) = False := by simp
theorem nx2 (n : Nat) : (n = n + 1 + 1) = False := by simp; omega
theorem nx2' (n : Nat) : (n + 1 + 1 = n) = False := by simp; omega
theorem nx3 (n : Nat) : (n + 1 = n + 1 + 1) = False := by simp
theorem nx3' (n : Nat) : (n + 1 + 1 = n + 1) = False := by simp
theorem m_b2s (x : Opd) (E : Env) (h : Heap) (k : KV) : runR (.b2s x) E h k = ev x E fun v => onSl v (k (.s 0 0)) fun id tag off len _ _ => h.tr.getK id false fun o => rdsK o tag len off fun l => bytesK l 0 0 fun w => k (.s len w) := rfl
theorem m_mksb (z : AV) (x y : Opd) (E : Env) (h : Heap) (k : KH) : runA (.mks [z] 1 1 x y) E h k = evN x E fun l => evN y E fun c => ite' (Nat.ble l c) (ite' (Nat.ble c 16777216) (ite' (Nat.ble (Nat.mul 1 c) 16777216)
    (k (.sl h.next 0 0 l (some c) 1) (addO h (.st (T.ofList (repL [z] c) 0 .e) (Nat.mul c 1)))) false) false) false := rfl
theorem res_cell2 (t : Nat) (fr : Fr) (h : Heap) (k : List AV → Bool) : resK [.cell t 2 true] fr h k = fr.getK t false fun p => onP p fun id tag off => h.tr.getK id false fun o => rdsK o tag 2 off fun l => k [.agg l] := rfl
theorem res_cell3 (t u : Nat) (fr : Fr) (h : Heap) (k : List AV → Bool) : resK [.cell t 3 true, .tmp u] fr h k = fr.getK t false fun p => onP p fun id tag off => h.tr.getK id false fun o => rdsK o tag 3 off fun l => fr.getK u false fun v => k [.agg l, v] := rfl
theorem ret_nrm (l : List CRes) (k : KH) (fr : Fr) (h : Heap) : retK l k .nrm fr h = resK l fr h (oneOrTup fun v => k v h) := rfl
theorem res_none (fr : Fr) (h : Heap) (k : List AV → Bool) : resK [] fr h k = k [] := rfl
theorem one_none (k : KV) : oneOrTup k [] = k (.tup []) := rfl
theorem nn_t : (!true) = false := rfl
theorem nn_f : (!false) = true := rfl
/- words -/
theorem bw_shl (x : Int) (k : KV) : kBin .shl (.i .i64 x) (.i .u64 1) k = k (.i .i64 (IntKind.wrap .i64 (x * 2))) := by
  show kI k .i64 (wrapF .i64 (Int.mul x (.ofNat 2))) = _
  rw [kI_eq, wrapF_eq]; rfl
theorem bw_or (x : Int) (k : KV) : kBin .or (.i .i64 x) (.i .i64 1) k = k (.i .i64 (IntKind.wrap .i64 ((Nat.lor (toU .i64 x) 1 : Nat) : Int))) := by
  show kI k .i64 (wrapF .i64 (.ofNat (Nat.lor (toU .i64 x) 1))) = _
  rw [kI_eq, wrapF_eq]; rfl
theorem bw_and (x : Int) (k : KV) : kBin .and (.i .i64 x) (.i .i64 1) k = k (.i .i64 (IntKind.wrap .i64 ((Nat.land (toU .i64 x) 1 : Nat) : Int))) := by
  show kI k .i64 (wrapF .i64 (.ofNat (Nat.land (toU .i64 x) 1))) = _
  rw [kI_eq, wrapF_eq]; rfl
theorem bw_shr (x : Int) (k : KV) : kBin .shr (.i .i64 x) (.i .u64 1) k = k (.i .i64 (x / 2)) := by
  show kI k .i64 (Int.fdiv x (.ofNat 2)) = _
  rw [kI_eq]
  congr 2
  exact Int.fdiv_eq_ediv_of_nonneg _ (by decide)
theorem toU_mod (x : Int) : ((toU .i64 x : Nat) : Int) = x % 18446744073709551616 := by
  cases x with
  | ofNat a =>
    show ((a % 2 ^ 64 : Nat) : Int) = (a : Int) % 18446744073709551616
    omega
  | negSucc a =>
    show ((2 ^ 64 - 1 - a % 2 ^ 64 : Nat) : Int) = Int.negSucc a % 18446744073709551616
    have : Int.negSucc a = -((a : Int) + 1) := rfl
    rw [this]
    omega
theorem lor_one {z : Nat} (h : z % 2 = 0) : Nat.lor z 1 = z + 1 := by
  have h1 : z = 2 * (z / 2) := by omega
  have : Nat.lor z 1 = z ||| 1 := rfl
  rw [this]
  apply Nat.eq_of_testBit_eq
  intro i
  rw [Nat.testBit_or]
  cases i with
  | zero => rw [Nat.testBit_zero, Nat.testBit_zero, Nat.testBit_zero]; simp [h]; omega
  | succ i =>
    rw [Nat.testBit_succ, Nat.testBit_succ, Nat.testBit_succ]
    have e1 : (1 : Nat) / 2 = 0 := rfl
    have e2 : (z + 1) / 2 = z / 2 := by omega
    rw [e1, e2]; simp
theorem land_one' (z : Nat) : Nat.land z 1 = z % 2 := Nat.and_one_is_mod z
/-- A number that fits into a word. -/
def In62 (x : Int) : Prop := -4611686018427387904 ≤ x ∧ x < 4611686018427387904
theorem bw_shl' {x : Int} (h : In62 x) (k : KV) : kBin .shl (.i .i64 x) (.i .u64 1) k = k (.i .i64 (x * 2)) := by
  rw [bw_shl, w64 (by have := h.1; omega) (by have := h.2; omega)]
theorem bw_or' {x : Int} (h : In62 x) (k : KV) : kBin .or (.i .i64 (x * 2)) (.i .i64 1) k = k (.i .i64 (2 * x + 1)) := by
  have h1 := toU_mod (x * 2)
  obtain ⟨g1, g2⟩ := h
  rw [bw_or, lor_one (by omega)]
  have e : (((toU .i64 (x * 2) + 1 : Nat)) : Int) = (x * 2) % 18446744073709551616 + 1 := by omega
  rw [e]
  congr 2
  have hb : IntKind.bits .i64 = 64 := rfl
  have hs : IntKind.signed .i64 = true := rfl
  unfold IntKind.wrap
  simp only [hb, hs, Bool.true_and, decide_eq_true_eq]
  have e1 : (2 : Int) ^ 64 = 18446744073709551616 := by decide
  have e2 : (2 : Int) ^ (64 - 1) = 9223372036854775808 := by decide
  rw [e1, e2]
  by_cases hh : ((x * 2) % 18446744073709551616 + 1) % 18446744073709551616 ≥ 9223372036854775808
  · rw [if_pos hh]; omega
  · rw [if_neg hh]; omega
theorem bw_and' (x : Int) (k : KV) : kBin .and (.i .i64 x) (.i .i64 1) k = k (.i .i64 (x % 2)) := by
  have h1 := toU_mod x
  rw [bw_and, land_one', w64 (by omega) (by omega)]
  congr 2
  omega
end Go.AE
