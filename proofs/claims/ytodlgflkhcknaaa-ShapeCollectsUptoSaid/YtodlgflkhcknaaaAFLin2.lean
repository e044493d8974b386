/- Every run goes one way: what looks at the memory, what makes and what changes. -/
import Derived.Test.YtodlgflkhcknaaaAFLin
namespace Go.AE
set_option linter.unusedVariables false
open Go

theorem lin_rdK (o : Obj) (tag off : Nat) : Lin (rdK o tag off) := by
  cases o with
  | st cells n => exact Lin.ite _ (Lin.ite _ (lin_get (G := fun x k => k x) cells off fun x => Lin.pure x) Lin.fail) Lin.fail
  | ve cells ext ver minv segs =>
    delta rdK; (try dsimp only)
    repeat' first
      | apply Lin.ite
      | exact lin_get (G := fun x k => k x) cells off fun x => Lin.pure x
      | exact Lin.fail
      | apply Lin.rec
  | mp es => exact Lin.fail
  | ro cells => exact lin_get (G := fun x k => k x) cells off fun x => Lin.pure x
theorem lin_rdsK (o : Obj) (tag : Nat) : ∀ n off, Lin (rdsK o tag n off)
  | 0, _ => Lin.pure []
  | n + 1, off => Lin.bind (G := fun v k => rdsK o tag n (Nat.succ off) fun vs => k (v :: vs)) (lin_rdK o tag off) fun v =>
      (lin_rdsK o tag n (off + 1)).bind (G := fun vs k => k (v :: vs)) fun vs => Lin.pure _
theorem lin_okV (ok : Bool) (v : AV) (b : Bool) : Lin fun k => okV ok k v b := by cases ok <;> exact Lin.pure _
theorem lin_find {N : (AV → Bool) → Bool} {S : AV → (AV → Bool) → Bool} (hN : Lin N) (hS : ∀ v, Lin (S v)) : ∀ (es : List (AV × AV)) (key : AV), Lin fun k => findK es key (N k) fun v => S v k
  | [], _ => hN
  | e :: es, key => Lin.bind (G := fun r k => @Bool.rec (fun _ => Bool) (findK es key (N k) fun v => S v k) (S e.2 k) r) (lin_eqS e.1 key) fun r => Lin.rec r (lin_find hN hS es key) (hS _)
theorem lin_bytes : ∀ (l : List AV) (acc sh : Nat), Lin (bytesK l acc sh)
  | [], acc, _ => Lin.pure acc
  | v :: l, acc, sh => lin_onI (G := fun kd n k => ite' (beqK kd .u8) (@Int.rec (fun _ => Bool) (fun b => ite' (Nat.ble b 255) (bytesK l (Nat.add acc (Nat.shiftLeft b sh)) (Nat.add sh 8) k) false) (fun _ => false) n) false) v fun kd n => by
      refine Lin.ite _ ?_ Lin.fail
      cases n with
      | ofNat b => exact Lin.ite _ (lin_bytes l _ _) Lin.fail
      | negSucc b => exact Lin.fail

theorem lin_runR (o : ROp) (e : Env) (h : Heap) : Lin (runR o e h) := by
  cases o with
  | ld x => delta runR rLd; (try dsimp only); exact (lin_ev x e).bind fun v => lin_onP v fun id tag off => lin_get _ _ fun o => lin_rdK _ _ _
  | ldn n x => delta runR rLdn; (try dsimp only); exact (lin_ev x e).bind fun v => lin_onP v fun id tag off => lin_get _ _ fun o => (lin_rdsK _ _ _ _).bind fun l => Lin.pure _
  | lk z ok kc m key =>
    delta runR rLk; (try dsimp only)
    exact (lin_ev m e).bind fun m => (lin_ev key e).bind fun key => Lin.ite _ (lin_onM m (lin_okV ..) fun id => lin_get _ _ fun o => lin_onMp o fun es => lin_find (lin_okV ok z false) (fun v => lin_okV ok v true) es key) Lin.fail
  | lenm x => delta runR rLenm; (try dsimp only); exact (lin_ev x e).bind fun v => lin_onM v (Lin.pure _) fun id => lin_get _ _ fun o => lin_onMp o fun es => Lin.pure _
  | b2s x => delta runR rB2s; (try dsimp only); exact (lin_ev x e).bind fun v => lin_onSl v (Lin.pure _) fun id tag off len _ _ => lin_get _ _ fun o => (lin_rdsK _ _ _ _).bind fun l => (lin_bytes l 0 0).bind fun w => Lin.pure _

variable {h : Heap}
theorem next_add (h : Heap) (o : Obj) : h.next ≤ (addO h o).next := Nat.le_succ _
theorem next_upd (h : Heap) (id : Nat) (o : Obj) : h.next ≤ (updO h id o).next := Nat.le_refl _

theorem lin_runA (o : AOp) (e : Env) : LinG h (runA o e h) := by
  cases o with
  | new z => delta runA aNew; (try dsimp only); exact LinG.pure _ _ (next_add ..)
  | box x => delta runA aBox; (try dsimp only); exact LinG.lin (lin_ev x e) fun v => LinG.pure _ _ (next_add ..)
  | bsl z sz len ps => delta runA aBsl; (try dsimp only); exact LinG.lin (lin_fill e ps _) fun l => LinG.pure _ _ (next_add ..)
  | mkm => delta runA aMkm; (try dsimp only); exact LinG.pure _ _ (next_add ..)
  | mks z sz b x y => delta runA aMks; (try dsimp only); exact LinG.lin (lin_evN x e) fun l => LinG.lin (lin_evN y e) fun c => LinG.ite _ (LinG.ite _ (LinG.ite _ (LinG.pure _ _ (next_add ..)) LinG.fail) LinG.fail) LinG.fail
  | s2b x => delta runA aS2b; (try dsimp only); exact LinG.lin (lin_ev x e) fun v => linG_onS v fun n w => LinG.pure _ _ (next_add ..)

theorem lin_wrK (o : Obj) (tag off : Nat) (v : AV) : Lin (wrK o tag off v) := by
  delta wrK; (try dsimp only)
  refine Lin.ite _ ?_ Lin.fail
  cases o with
  | st cells n => exact Lin.ite _ (Lin.ite _ (Lin.pure _) Lin.fail) Lin.fail
  | ve cells ext ver minv segs => exact Lin.ite _ (Lin.ite _ (Lin.pure _) Lin.fail) Lin.fail
  | mp es => exact Lin.fail
  | ro cells => exact Lin.fail
theorem lin_wrsK (tag : Nat) : ∀ (vs : List AV) (o : Obj) (off : Nat), Lin (wrsK vs o tag off)
  | [], o, _ => Lin.pure o
  | v :: vs, o, off => Lin.bind (G := fun o k => wrsK vs o tag (Nat.succ off) k) (lin_wrK o tag off v) fun o => lin_wrsK tag vs o _
theorem lin_putM : ∀ (es : List (AV × AV)) (key v : AV), Lin (putM es key v)
  | [], _, _ => Lin.pure _
  | e :: es, key, v => Lin.bind (G := fun r k => @Bool.rec (fun _ => Bool) (putM es key v fun l => k (e :: l)) (k ((e.1, v) :: es)) r) (lin_eqS e.1 key) fun r =>
      Lin.rec r ((lin_putM es key v).bind (G := fun l k => k (e :: l)) fun l => Lin.pure _) (Lin.pure _)

/-- Two things handed on. -/
theorem linG_srcK {β : Type} (sz : Nat) (v : AV) {G : List AV → Nat → (β → Heap → Bool) → Bool} (g : ∀ l n, LinG h (G l n)) : LinG h fun k => srcK sz v h fun l n => G l n k := by
  delta srcK; (try dsimp only)
  cases v with
  | nils => exact g _ _
  | s n w => exact LinG.ite _ (g _ _) LinG.fail
  | sl id tag off len cap esz => exact linG_get _ _ fun o => LinG.lin (lin_rdsK _ _ _ _) fun l => g _ _
  | _ => exact LinG.fail

theorem lin_newVec (sz : Nat) (l : List AV) (n : Nat) : LinG h (newVec sz l n h) := by delta newVec; exact LinG.pure _ _ (next_add ..)
theorem lin_growK (o : Obj) (sz tag off len : Nat) (new : List AV) (n : Nat) : LinG h (growK o sz tag off len new n h) := by
  delta growK; (try dsimp only); exact LinG.lin (lin_rdsK _ _ _ _) fun l => lin_newVec ..
theorem lin_appVe (cells : T AV) (ext ver minv : Nat) (segs : List (Nat × Nat)) (sz id tag off len : Nat) (new : List AV) (n st : Nat) : LinG h (appVe cells ext ver minv segs sz id tag off len new n st h) := by
  delta appVe; (try dsimp only)
  exact LinG.ite _ (LinG.ite _ (LinG.pure _ _ (next_upd ..)) LinG.fail) LinG.fail
theorem lin_appTo (o : Obj) (sz id tag off len : Nat) (cap : Option Nat) (new : List AV) (n : Nat) : LinG h (appTo o sz id tag off len cap new n h) := by
  delta appTo; (try dsimp only)
  cases cap with
  | none => cases o with
    | st cells m => exact LinG.fail
    | ve cells ext ver minv segs => exact lin_appVe ..
    | mp es => exact LinG.fail
    | ro cells => exact LinG.fail
  | some c =>
    refine LinG.rec _ (lin_growK ..) ?_
    cases o with
    | st cells m => exact LinG.lin (lin_wrsK _ _ _ _) fun o => LinG.pure _ _ (next_upd ..)
    | ve cells ext ver minv segs => exact LinG.fail
    | mp es => exact LinG.fail
    | ro cells => exact LinG.fail
theorem lin_appK (sz bytes : Nat) (x : AV) (new : List AV) (n : Nat) : LinG h (appK sz bytes x new n h) := by
  delta appK; (try dsimp only)
  refine LinG.ite _ (linG_onSl x (LinG.pure _ _ (Nat.le_refl _)) fun _ _ _ _ _ _ => LinG.pure _ _ (Nat.le_refl _)) (linG_onSl x (LinG.ite _ (lin_newVec ..) LinG.fail) fun id tag off len cap esz => ?_)
  exact LinG.ite _ (LinG.ite _ (linG_get _ _ fun o => lin_appTo ..) LinG.fail) LinG.fail

def LinC (call : Nat → List AV → Heap → KH → Bool) : Prop := ∀ f args h, LinG h (call f args h)

theorem lin_runE (o : EOp) {call : Nat → List AV → Heap → KH → Bool} (hc : LinC call) (e : Env) : LinG h (runE o call e h) := by
  cases o with
  | st n a x => delta runE eSt; (try dsimp only); exact LinG.lin (lin_ev a e) fun a => linG_onP a fun id tag off => LinG.lin (lin_ev x e) fun v => LinG.ite _ (linG_get _ _ fun o => LinG.lin (lin_wrsK _ _ _ _) fun o => LinG.pure _ _ (next_upd ..)) LinG.fail
  | mup kc m key x =>
    delta runE eMup; (try dsimp only)
    exact LinG.lin (lin_ev m e) fun m => linG_onM m LinG.fail fun id => LinG.lin (lin_ev key e) fun key => LinG.ite _ (LinG.lin (lin_ev x e) fun v => linG_get _ _ fun o => linG_onMp o fun es => LinG.lin (lin_putM ..) fun es => LinG.pure _ _ (next_upd ..)) LinG.fail
  | call f args => delta runE eCall; (try dsimp only); exact LinG.lin (lin_ev f e) fun f => linG_onF f fun fn first caps => LinG.lin (lin_evs e args) fun args => hc _ _ _
  | app sz b x y => delta runE eApp; (try dsimp only); exact LinG.lin (lin_ev x e) fun x => LinG.lin (lin_ev y e) fun y => linG_srcK sz y fun new n => lin_appK ..
  | copy sz x y =>
    delta runE eCopy; (try dsimp only)
    exact LinG.lin (lin_ev x e) fun x => LinG.lin (lin_ev y e) fun y => linG_srcK sz y fun new n => linG_onSl x (LinG.pure _ _ (Nat.le_refl _)) fun id tag off len _ _ => linG_get _ _ fun o => LinG.lin (lin_wrsK _ _ _ _) fun o => LinG.pure _ _ (next_upd ..)

theorem lin_runO (o : COp) {call : Nat → List AV → Heap → KH → Bool} (hc : LinC call) (e : Env) : LinG h (runO o call e h) := by
  cases o with
  | pu p => exact LinG.lin (G := fun v k => k v h) (lin_runP p e) fun v => LinG.pure _ _ (Nat.le_refl _)
  | rd p => exact LinG.lin (G := fun v k => k v h) (lin_runR p e h) fun v => LinG.pure _ _ (Nat.le_refl _)
  | al p => exact lin_runA p e
  | ef p => exact lin_runE p hc e

theorem lin_guard {α : Type} {Y N : (α → Heap → Bool) → Bool} (g : Option (Opd × Bool)) (e : Env) (y : LinG h Y) (n : LinG h N) : LinG h fun k => wantsK g e (Y k) (N k) := by
  cases g with
  | none => exact y
  | some g =>
    delta wantsK; (try dsimp only)
    refine LinG.lin (G := fun v k => onGuard v (fun x => @Bool.rec (fun _ => Bool) (@Bool.rec (fun _ => Bool) (Y k) (N k) g.2) (@Bool.rec (fun _ => Bool) (N k) (Y k) g.2) x) (N k)) (lin_ev g.1 e) fun v => ?_
    cases v <;> first
      | exact LinG.rec _ (LinG.rec _ y n) (LinG.rec _ n y)
      | exact LinG.fail
      | exact n
      | (rename_i l; cases l <;> first | exact n | exact LinG.fail)

theorem lin_stepK (o : COper) {call : Nat → List AV → Heap → KH → Bool} (hc : LinC call) (e : Env) : LinG h (stepK o call e h) :=
  lin_guard o.guard e (lin_runO o.op hc e) (LinG.pure _ _ (Nat.le_refl _))

theorem lin_runOps {call : Nat → List AV → Heap → KH → Bool} (hc : LinC call) : ∀ (l : List COper) (e : Env) (h : Heap), LinG h (runOps call l e h)
  | [], e, h => LinG.pure _ _ (Nat.le_refl _)
  | o :: l, e, h => LinG.bind (G := fun v h k => runOps call l (putE o.live v e) h k) (lin_stepK o hc e) fun v h' _ => lin_runOps hc l _ _

theorem lin_runD {call : Nat → List AV → Heap → KH → Bool} (hc : LinC call) : ∀ (l : List COper) (e : Env) (h : Heap) (rs : List Rec) (hs : List Heap), LinG h (runD call l e h rs hs)
  | [], e, h, rs, hs => LinG.rec _ LinG.fail (LinG.pure _ _ (Nat.le_refl _))
  | o :: l, e, h, rs, hs => by
    delta runD; (try dsimp only)
    refine lin_guard o.guard e (Y := fun k => runO o.op call e h fun v h' => runD call l (putE o.live v e) h' (addRec o e v rs) (@Bool.rec (fun _ => List Heap) hs (h :: hs) (isEf o.op)) k)
      (N := fun k => runD call l (putE o.live .u e) h rs (@Bool.rec (fun _ => List Heap) hs (h :: hs) (isEf o.op)) k) ?_ (lin_runD hc l _ _ _ _)
    exact LinG.bind (G := fun v h' k => runD call l (putE o.live v e) h' (addRec o e v rs) (@Bool.rec (fun _ => List Heap) hs (h :: hs) (isEf o.op)) k) (lin_runO o.op hc e) fun v h' _ => lin_runD hc l _ _ _ _

/- The code: an outcome, a frame and a heap are handed on. -/
def LinE (h : Heap) (F : KE → Bool) : Prop := (∀ k, F k = false) ∨ ∃ x fr h', h.next ≤ h'.next ∧ ∀ k, F k = k x fr h'
theorem LinE.of {F : KF → Bool} (f : LinG h F) (x : Ex) : LinE h fun k => F (k x) := by
  rcases f with f | ⟨fr, h', hn, f⟩
  · exact .inl fun k => f _
  · exact .inr ⟨x, fr, h', hn, fun k => f _⟩
theorem LinE.bind {F : KE → Bool} {G : Ex → Fr → Heap → KE → Bool} (f : LinE h F) (g : ∀ x fr h', LinE h' (G x fr h')) : LinE h fun k => F fun x fr h' => G x fr h' k := by
  rcases f with f | ⟨x, fr, h', hn, f⟩
  · exact .inl fun k => f _
  · rcases g x fr h' with g | ⟨y, fr2, h2, hn2, g⟩
    · exact .inl fun k => (f _).trans (g k)
    · exact .inr ⟨y, fr2, h2, Nat.le_trans hn hn2, fun k => (f _).trans (g k)⟩
theorem LinE.nrm (x : Ex) (fr : Fr) {G : KE → Bool} (g : LinE h G) : LinE h fun k => exNrm x (k x fr h) (G k) := by
  cases x with
  | nrm => exact g
  | exit i => exact .inr ⟨_, _, _, Nat.le_refl _, fun _ => rfl⟩
  | ret => exact .inr ⟨_, _, _, Nat.le_refl _, fun _ => rfl⟩
theorem lin_iter {c : Fr → Heap → KE → Bool} (hc : ∀ fr h, LinE h (c fr h)) : ∀ n fr h, LinE h (iter c n fr h)
  | 0, _, _ => .inl fun _ => rfl
  | n + 1, fr, h => LinE.bind (G := fun x fr h k => exNrm x (k x fr h) (iter c n fr h k)) (hc fr h) fun x fr h => LinE.nrm x fr (lin_iter hc n fr h)

theorem lin_exec {call : Nat → List AV → Heap → KH → Bool} (hc : LinC call) (c : CCode) : ∀ fr h, LinE h (exec call c fr h) := by
  induction c with
  | skip => exact fun fr h => .inr ⟨_, _, _, Nat.le_refl _, fun _ => rfl⟩
  | reg ops => exact fun fr h => LinE.of (lin_runOps hc ops _ _) _
  | dreg ops => exact fun fr h => LinE.of (lin_runD hc ops _ _ _ _) _
  | seq a b ia ib => exact fun fr h => LinE.bind (G := fun x fr h k => exNrm x (k x fr h) (exec call b fr h k)) (ia fr h) fun x fr h => LinE.nrm x fr (ib fr h)
  | cond c a b ia ib =>
    intro fr h
    rcases lin_ev c ⟨fr, []⟩ with f | ⟨v, f⟩
    · exact .inl fun k => f _
    · have : ∀ k, exec call (.cond c a b) fr h k = onB v fun x => @Bool.rec (fun _ => Bool) (exec call b fr h k) (exec call a fr h k) x := fun k => f _
      cases v with
      | b x => cases x with
        | true => rcases ia fr h with g | ⟨y, fr2, h2, hn2, g⟩
                  · exact .inl fun k => (this k).trans (g k)
                  · exact .inr ⟨y, fr2, h2, hn2, fun k => (this k).trans (g k)⟩
        | false => rcases ib fr h with g | ⟨y, fr2, h2, hn2, g⟩
                   · exact .inl fun k => (this k).trans (g k)
                   · exact .inr ⟨y, fr2, h2, hn2, fun k => (this k).trans (g k)⟩
      | _ => exact .inl fun k => this k
  | block id c ic =>
    exact fun fr h => LinE.bind (G := fun e fr h k => @Ex.rec (fun _ => Bool) (k .nrm fr h) (fun i => @Bool.rec (fun _ => Bool) (k (.exit i) fr h) (k .nrm fr h) (Nat.beq i id)) (k .ret fr h) e) (ic fr h) fun x fr h => by
      cases x with
      | nrm => exact .inr ⟨_, _, _, Nat.le_refl _, fun _ => rfl⟩
      | exit i => dsimp only; cases Nat.beq i id <;> exact .inr ⟨_, _, _, Nat.le_refl _, fun _ => rfl⟩
      | ret => exact .inr ⟨_, _, _, Nat.le_refl _, fun _ => rfl⟩
  | loop c ic =>
    intro fr h
    rcases lin_iter ic 1000000 fr h with f | ⟨x, fr2, h2, hn, f⟩
    · exact .inl fun k => f k
    · exact .inr ⟨x, fr2, h2, hn, fun k => f k⟩
  | exit id => exact fun fr h => .inr ⟨_, _, _, Nat.le_refl _, fun _ => rfl⟩
  | ret => exact fun fr h => .inr ⟨_, _, _, Nat.le_refl _, fun _ => rfl⟩
  | bad => exact fun fr h => .inl fun _ => rfl

theorem lin_res (fr : Fr) (h : Heap) : ∀ l : List CRes, Lin (resK l fr h)
  | [] => Lin.pure []
  | .tmp t :: l => Lin.bind (G := fun v k => resK l fr h fun vs => k (v :: vs)) (lin_ev (.t t) ⟨fr, []⟩) fun v => (lin_res fr h l).bind (G := fun vs k => k (v :: vs)) fun vs => Lin.pure _
  | .cell a n ag :: l => by
    delta resK; (try dsimp only)
    refine Lin.bind (G := fun p k => onP p fun id tag off => h.tr.getK id false fun o => @Bool.rec (fun _ => Bool) (rdK o tag off fun v => resK l fr h fun vs => k (v :: vs))
        (rdsK o tag n off fun m => resK l fr h fun vs => k (.agg m :: vs)) ag) (lin_ev (.t a) ⟨fr, []⟩) fun p => lin_onP p fun id tag off => lin_get _ _ fun o => ?_
    cases ag with
    | false => exact (lin_rdK _ _ _).bind (G := fun v k => resK l fr h fun vs => k (v :: vs)) fun v => (lin_res fr h l).bind (G := fun vs k => k (v :: vs)) fun vs => Lin.pure _
    | true => exact (lin_rdsK _ _ _ _).bind (G := fun m k => resK l fr h fun vs => k (.agg m :: vs)) fun m => (lin_res fr h l).bind (G := fun vs k => k (.agg m :: vs)) fun vs => Lin.pure _

theorem lin_one (l : List AV) (h : Heap) : LinG h fun k : KH => oneOrTup (fun v => k v h) l := by
  cases l with
  | nil => exact LinG.pure _ _ (Nat.le_refl _)
  | cons v l => cases l <;> exact LinG.pure _ _ (Nat.le_refl _)

theorem lin_callF (tab : Nat → Option CFunc) : ∀ n, LinC (callF tab n)
  | 0 => fun f args h => .inl fun _ => rfl
  | n + 1 => fun f args h => by
    cases ht : tab f with
    | none => exact .inl fun k => by show @Option.rec CFunc (fun _ => Bool) _ _ (tab f) = _; rw [ht]
    | some fn =>
      have he : ∀ k, callF tab (n + 1) f args h k = exec (callF tab n) fn.body (T.ofList args 0 .e) h (retK fn.res k) := fun k => by
        show @Option.rec CFunc (fun _ => Bool) _ _ (tab f) = _; rw [ht]; rfl
      rcases lin_exec (lin_callF tab n) fn.body (T.ofList args 0 .e) h with g | ⟨x, fr, h', hn, g⟩
      · exact .inl fun k => (he k).trans (g _)
      · have hr : LinG h' fun k => retK fn.res k x fr h' := by
          cases x with
          | nrm => exact LinG.lin (lin_res fr h' fn.res) fun l => lin_one l h'
          | exit i => exact LinG.fail
          | ret => exact LinG.lin (lin_res fr h' fn.res) fun l => lin_one l h'
        rcases hr with r | ⟨v, h2, hn2, r⟩
        · exact .inl fun k => (he k).trans ((g _).trans (r k))
        · exact .inr ⟨v, h2, Nat.le_trans hn hn2, fun k => (he k).trans ((g _).trans (r k))⟩
end Go.AE
