/- Every run goes one way: it fails, or it hands on one thing; the heap's numbers only grow. -/
import Derived.Test.YtodlgflkhcknaaaAFCore
namespace Go.AE
set_option linter.unusedVariables false
open Go

def Lin {α : Type} (F : (α → Bool) → Bool) : Prop := (∀ k, F k = false) ∨ ∃ x, ∀ k, F k = k x
theorem Lin.pure {α : Type} (x : α) : Lin (fun k : α → Bool => k x) := .inr ⟨x, fun _ => rfl⟩
theorem Lin.fail {α : Type} : Lin (fun _ : α → Bool => false) := .inl fun _ => rfl
theorem Lin.bind {α β : Type} {F : (α → Bool) → Bool} {G : α → (β → Bool) → Bool} (h : Lin F) (g : ∀ x, Lin (G x)) : Lin fun k => F fun x => G x k := by
  rcases h with h | ⟨x, h⟩
  · exact .inl fun k => h _
  · rcases g x with g | ⟨y, g⟩
    · exact .inl fun k => (h _).trans (g k)
    · exact .inr ⟨y, fun k => (h _).trans (g k)⟩
theorem Lin.ite {α : Type} {F G : (α → Bool) → Bool} (c : Bool) (f : Lin F) (g : Lin G) : Lin fun k => ite' c (F k) (G k) := by cases c <;> assumption
theorem Lin.rec {α : Type} {F G : (α → Bool) → Bool} (c : Bool) (f : Lin F) (g : Lin G) : Lin fun k => @Bool.rec (fun _ => Bool) (F k) (G k) c := by cases c <;> assumption

def LinG {α : Type} (h : Heap) (F : (α → Heap → Bool) → Bool) : Prop := (∀ k, F k = false) ∨ ∃ x h', h.next ≤ h'.next ∧ ∀ k, F k = k x h'
section
variable {α β : Type} {h : Heap}
theorem LinG.pure (x : α) (h' : Heap) (hn : h.next ≤ h'.next) : LinG h (fun k : α → Heap → Bool => k x h') := .inr ⟨x, h', hn, fun _ => rfl⟩
theorem LinG.fail : LinG h (fun _ : α → Heap → Bool => false) := .inl fun _ => rfl
theorem LinG.lin {F : (α → Bool) → Bool} {G : α → (β → Heap → Bool) → Bool} (f : Lin F) (g : ∀ x, LinG h (G x)) : LinG h fun k => F fun x => G x k := by
  rcases f with f | ⟨x, f⟩
  · exact .inl fun k => f _
  · rcases g x with g | ⟨y, h', hn, g⟩
    · exact .inl fun k => (f _).trans (g k)
    · exact .inr ⟨y, h', hn, fun k => (f _).trans (g k)⟩
theorem LinG.bind {F : (α → Heap → Bool) → Bool} {G : α → Heap → (β → Heap → Bool) → Bool} (f : LinG h F) (g : ∀ x h', h.next ≤ h'.next → LinG h' (G x h')) : LinG h fun k => F fun x h' => G x h' k := by
  rcases f with f | ⟨x, h', hn, f⟩
  · exact .inl fun k => f _
  · rcases g x h' hn with g | ⟨y, h2, hn2, g⟩
    · exact .inl fun k => (f _).trans (g k)
    · exact .inr ⟨y, h2, Nat.le_trans hn hn2, fun k => (f _).trans (g k)⟩
theorem LinG.ite {F G : (α → Heap → Bool) → Bool} (c : Bool) (f : LinG h F) (g : LinG h G) : LinG h fun k => ite' c (F k) (G k) := by cases c <;> assumption
theorem LinG.rec {F G : (α → Heap → Bool) → Bool} (c : Bool) (f : LinG h F) (g : LinG h G) : LinG h fun k => @Bool.rec (fun _ => Bool) (F k) (G k) c := by cases c <;> assumption
end

theorem lin_get {α β : Type} (t : T α) (i : Nat) {G : α → (β → Bool) → Bool} (g : ∀ x, Lin (G x)) : Lin fun k => t.getK i false fun x => G x k := by
  induction t generalizing i with
  | e => exact .inl fun _ => rfl
  | n v l r il ir =>
    cases i with
    | zero => cases v with
      | none => exact .inl fun _ => rfl
      | some x => exact g x
    | succ i => exact Lin.rec (Nat.beq (Nat.mod i 2) 0) (ir _) (il _)
theorem linG_get {α β : Type} {h : Heap} (t : T α) (i : Nat) {G : α → (β → Heap → Bool) → Bool} (g : ∀ x, LinG h (G x)) : LinG h fun k => t.getK i false fun x => G x k := by
  induction t generalizing i with
  | e => exact .inl fun _ => rfl
  | n v l r il ir =>
    cases i with
    | zero => cases v with
      | none => exact .inl fun _ => rfl
      | some x => exact g x
    | succ i => exact LinG.rec (Nat.beq (Nat.mod i 2) 0) (ir _) (il _)

section
variable {β : Type}
theorem lin_onB {G : Bool → (β → Bool) → Bool} (v : AV) (g : ∀ x, Lin (G x)) : Lin fun k => onB v fun x => G x k := by cases v <;> first | exact g _ | exact Lin.fail
theorem lin_onI {G : IntKind → Int → (β → Bool) → Bool} (v : AV) (g : ∀ x y, Lin (G x y)) : Lin fun k => onI v fun x y => G x y k := by cases v <;> first | exact g _ _ | exact Lin.fail
theorem lin_onS {G : Nat → Nat → (β → Bool) → Bool} (v : AV) (g : ∀ x y, Lin (G x y)) : Lin fun k => onS v fun x y => G x y k := by cases v <;> first | exact g _ _ | exact Lin.fail
theorem lin_onO {G : Nat → (β → Bool) → Bool} (v : AV) (g : ∀ x, Lin (G x)) : Lin fun k => onO v fun x => G x k := by cases v <;> first | exact g _ | exact Lin.fail
theorem lin_onIO {F : IntKind → Int → (β → Bool) → Bool} {G : Nat → (β → Bool) → Bool} (v : AV) (f : ∀ x y, Lin (F x y)) (g : ∀ x, Lin (G x)) : Lin fun k => onIO v (fun x y => F x y k) (fun x => G x k) := by cases v <;> first | exact f _ _ | exact g _ | exact Lin.fail
theorem lin_onIS {F G : _ → _ → (β → Bool) → Bool} (v : AV) (f : ∀ x y, Lin (F x y)) (g : ∀ x y, Lin (G x y)) : Lin fun k => onIS v (fun x y => F x y k) (fun x y => G x y k) := by cases v <;> first | exact g _ _ | exact f _ _ | exact Lin.fail
theorem lin_onISO {F G : _ → _ → (β → Bool) → Bool} {Q : Nat → (β → Bool) → Bool} (v : AV) (f : ∀ x y, Lin (F x y)) (g : ∀ x y, Lin (G x y)) (q : ∀ x, Lin (Q x)) : Lin fun k => onISO v (fun x y => F x y k) (fun x y => G x y k) (fun x => Q x k) := by cases v <;> first | exact g _ _ | exact f _ _ | exact q _ | exact Lin.fail
theorem lin_onP {G : Nat → Nat → Nat → (β → Bool) → Bool} (v : AV) (g : ∀ x y z, Lin (G x y z)) : Lin fun k => onP v fun x y z => G x y z k := by cases v <;> first | exact g _ _ _ | exact Lin.fail
theorem lin_onM {F : (β → Bool) → Bool} {G : Nat → (β → Bool) → Bool} (v : AV) (f : Lin F) (g : ∀ x, Lin (G x)) : Lin fun k => onM v (F k) fun x => G x k := by cases v <;> first | exact f | exact g _ | exact Lin.fail
theorem lin_onAgg {G : List AV → (β → Bool) → Bool} (v : AV) (g : ∀ x, Lin (G x)) : Lin fun k => onAgg v fun x => G x k := by cases v <;> first | exact g _ | exact Lin.fail
theorem lin_onTup {G : List AV → (β → Bool) → Bool} (v : AV) (g : ∀ x, Lin (G x)) : Lin fun k => onTup v fun x => G x k := by cases v <;> first | exact g _ | exact Lin.fail
theorem lin_onSl {F : (β → Bool) → Bool} {G : Nat → Nat → Nat → Nat → Option Nat → Nat → (β → Bool) → Bool} (v : AV) (f : Lin F) (g : ∀ a b c d e s, Lin (G a b c d e s)) :
    Lin fun k => onSl v (F k) fun a b c d e s => G a b c d e s k := by cases v <;> first | exact f | exact g _ _ _ _ _ _ | exact Lin.fail
theorem lin_onPF {F : Nat → Nat → Nat → (β → Bool) → Bool} {G : Nat → List AV → List AV → (β → Bool) → Bool} (v : AV) (f : ∀ x y z, Lin (F x y z)) (g : ∀ x y z, Lin (G x y z)) :
    Lin fun k => onPF v (fun x y z => F x y z k) fun x y z => G x y z k := by cases v <;> first | exact g _ _ _ | exact f _ _ _ | exact Lin.fail
theorem lin_onMp {G : List (AV × AV) → (β → Bool) → Bool} (o : Obj) (g : ∀ x, Lin (G x)) : Lin fun k => onMp o fun x => G x k := by cases o <;> first | exact g _ | exact Lin.fail
variable {h : Heap}
theorem linG_onP {G : Nat → Nat → Nat → (β → Heap → Bool) → Bool} (v : AV) (g : ∀ x y z, LinG h (G x y z)) : LinG h fun k => onP v fun x y z => G x y z k := by cases v <;> first | exact g _ _ _ | exact LinG.fail
theorem linG_onS {G : Nat → Nat → (β → Heap → Bool) → Bool} (v : AV) (g : ∀ x y, LinG h (G x y)) : LinG h fun k => onS v fun x y => G x y k := by cases v <;> first | exact g _ _ | exact LinG.fail
theorem linG_onF {G : Nat → List AV → List AV → (β → Heap → Bool) → Bool} (v : AV) (g : ∀ x y z, LinG h (G x y z)) : LinG h fun k => onF v fun x y z => G x y z k := by cases v <;> first | exact g _ _ _ | exact LinG.fail
theorem linG_onM {F : (β → Heap → Bool) → Bool} {G : Nat → (β → Heap → Bool) → Bool} (v : AV) (f : LinG h F) (g : ∀ x, LinG h (G x)) : LinG h fun k => onM v (F k) fun x => G x k := by cases v <;> first | exact f | exact g _ | exact LinG.fail
theorem linG_onSl {F : (β → Heap → Bool) → Bool} {G : Nat → Nat → Nat → Nat → Option Nat → Nat → (β → Heap → Bool) → Bool} (v : AV) (f : LinG h F) (g : ∀ a b c d e s, LinG h (G a b c d e s)) :
    LinG h fun k => onSl v (F k) fun a b c d e s => G a b c d e s k := by cases v <;> first | exact f | exact g _ _ _ _ _ _ | exact LinG.fail
theorem linG_onMp {G : List (AV × AV) → (β → Heap → Bool) → Bool} (o : Obj) (g : ∀ x, LinG h (G x)) : LinG h fun k => onMp o fun x => G x k := by cases o <;> first | exact g _ | exact LinG.fail
end

/- Operands. -/
theorem lin_nth (l : List AV) : ∀ n, Lin (nthK l n) := by
  induction l with
  | nil => intro n; exact Lin.fail
  | cons x l ih => intro n; cases n with
    | zero => exact Lin.pure x
    | succ n => exact ih n
theorem lin_ev (x : Opd) (e : Env) : Lin (ev x e) := by
  cases x with
  | t n => exact lin_get (G := fun x k => k x) e.fr n fun x => Lin.pure x
  | l j => exact lin_nth _ _
  | c v => exact Lin.pure v
  | f fn => exact Lin.pure _
  | bad => exact Lin.fail
theorem lin_evs (e : Env) : ∀ l : List Opd, Lin (evs l e)
  | [] => Lin.pure []
  | x :: l => Lin.bind (G := fun v k => evs l e fun vs => k (v :: vs)) (lin_ev x e) fun v => (lin_evs e l).bind (G := fun vs k => k (v :: vs)) fun vs => Lin.pure _
theorem lin_evN (x : Opd) (e : Env) : Lin (evN x e) :=
  Lin.bind (G := fun v k => onI v fun _ n => @Int.rec (fun _ => Bool) k (fun _ => false) n) (lin_ev x e) fun v => lin_onI (G := fun _ n k => @Int.rec (fun _ => Bool) k (fun _ => false) n) v fun _ n => by
    cases n with
    | ofNat n => exact Lin.pure n
    | negSucc n => exact Lin.fail
theorem lin_bnd (o : Option Opd) (d : Nat) (e : Env) : Lin (bnd o d e) := by
  cases o with
  | none => exact Lin.pure d
  | some x => exact lin_evN x e

theorem lin_kI (kd : IntKind) (n : Int) : Lin fun k => kI k kd n := by
  cases n with
  | ofNat a => cases a <;> exact Lin.pure _
  | negSucc a => cases a <;> exact Lin.pure _

theorem lin_arith (op : BinOp) (kd : IntKind) (a b : Int) : Lin (kArith op kd a b) := by
  cases op <;> first
    | exact lin_kI _ _
    | exact Lin.ite _ Lin.fail (lin_kI _ _)
    | exact Lin.pure _
    | exact Lin.fail
theorem lin_shift (op : BinOp) (kd : IntKind) (a b : Int) : Lin (kShift op kd a b) := by
  cases b with
  | negSucc b => exact Lin.fail
  | ofNat b => cases op <;> first | exact lin_kI _ _ | exact Lin.fail
theorem lin_str (op : BinOp) (n v m w : Nat) : Lin (kStr op n v m w) := by
  cases op <;> first
    | exact Lin.ite _ (Lin.pure _) Lin.fail
    | exact Lin.pure _
    | exact Lin.fail
theorem lin_kOpn (op : BinOp) : Lin (kOpn op) := by
  cases op <;> first | exact Lin.pure _ | exact Lin.fail
theorem lin_kBin (op : BinOp) (x y : AV) : Lin (kBin op x y) :=
  lin_onISO (Q := fun i k => onO y fun j => ite' (Nat.beq i j) (kOpn op k) false) (F := fun kd a k => onI y fun kd' b => ite' (isShift op) (kShift op kd a b k) (ite' (beqK kd kd') (kArith op kd a b k) false)) (G := fun n v k => onS y fun m w => kStr op n v m w k) x
    (fun kd a => lin_onI (G := fun kd' b k => ite' (isShift op) (kShift op kd a b k) (ite' (beqK kd kd') (kArith op kd a b k) false)) y fun kd' b => Lin.ite _ (lin_shift ..) (Lin.ite _ (lin_arith ..) Lin.fail))
    (fun n v => lin_onS (G := fun m w k => kStr op n v m w k) y fun m w => lin_str ..)
    (fun i => lin_onO (G := fun j k => ite' (Nat.beq i j) (kOpn op k) false) y fun j => Lin.ite _ (lin_kOpn op) Lin.fail)

theorem lin_eqS (x y : AV) : Lin (eqS x y) := by
  cases x with
  | b p => exact lin_onB (G := fun q k => k (@Bool.rec (fun _ => Bool) (notB q) q p)) y fun q => Lin.pure _
  | i kd n => exact lin_onI (G := fun kd' m k => ite' (beqK kd kd') (k (beqI n m)) false) y fun kd' m => Lin.ite _ (Lin.pure _) Lin.fail
  | s n v => exact lin_onS (G := fun m w k => k (beqS n v m w)) y fun m w => Lin.pure _
  | o i => exact lin_onO (G := fun j k => ite' (Nat.beq i j) (k true) false) y fun j => Lin.ite _ (Lin.pure _) Lin.fail
  | _ => exact Lin.fail
theorem lin_eqL : ∀ (ks : List Nat) (l m : List AV), Lin (eqL ks l m)
  | [], _, _ => Lin.pure true
  | c :: ks, [], _ => Lin.fail
  | c :: ks, x :: l, [] => Lin.fail
  | c :: ks, x :: l, y :: m => Lin.ite _ (Lin.bind (G := fun r k => @Bool.rec (fun _ => Bool) (k false) (eqL ks l m k) r) (lin_eqS x y) fun r => Lin.rec r (Lin.pure false) (lin_eqL ks l m)) Lin.fail
theorem lin_nilK (c : Nat) (v : AV) : Lin (nilK c v) := by
  cases v <;> first
    | exact Lin.fail
    | exact Lin.ite _ (Lin.pure _) Lin.fail

theorem lin_fill (e : Env) : ∀ (ps : List (Nat × Nat × Opd)) (z : List AV), Lin (fillK ps e z)
  | [], z => Lin.pure z
  | p :: ps, z => Lin.bind (G := fun v k => ite' (Nat.beq (lenL (cellsOf v) 0) p.2.1) (ite' (Nat.ble (Nat.add p.1 p.2.1) (lenL z 0)) (fillK ps e (putL z (cellsOf v) p.1) k) false) false) (lin_ev p.2.2 e)
      fun v => Lin.ite _ (Lin.ite _ (lin_fill e ps _) Lin.fail) Lin.fail
theorem lin_part (cs : List AV) (off sz : Nat) (ag : Bool) : Lin (partK cs off sz ag) := by
  cases ag with
  | false => exact lin_nth _ _
  | true => exact Lin.ite _ (Lin.pure _) Lin.fail

theorem lin_runP (o : POp) (e : Env) : Lin (runP o e) := by
  cases o with
  | mv x => exact lin_ev x e
  | pick c a b => exact Lin.bind (β := AV) (G := fun v k => onB v fun x => @Bool.rec (fun _ => Bool) (ev b e k) (ev a e k) x) (lin_ev c e) fun v => lin_onB (β := AV) (G := fun x k => @Bool.rec (fun _ => Bool) (ev b e k) (ev a e k) x) v fun x => Lin.rec x (lin_ev b e) (lin_ev a e)
  | bld z ps => exact (lin_fill e ps z).bind (β := AV) (G := fun l k => k (.agg l)) fun l => Lin.pure _
  | nilck x => exact (lin_ev x e).bind (β := AV) (G := fun v k => onPF v (fun a b c => k (.p a b c)) (fun a b c => k (.f a b c))) fun v => lin_onPF (β := AV) (F := fun a b c k => k (.p a b c)) (G := fun a b c k => k (.f a b c)) v (fun _ _ _ => Lin.pure _) fun _ _ _ => Lin.pure _
  | bin op x y => exact (lin_ev x e).bind (β := AV) (G := fun a k => ev y e fun b => kBin op a b k) fun a => (lin_ev y e).bind (β := AV) (G := fun b k => kBin op a b k) fun b => lin_kBin ..
  | eqb neg x y =>
    exact (lin_ev x e).bind (β := AV) (G := fun a k => ev y e fun b => onB a fun p => onB b fun q => kNeg neg k (@Bool.rec (fun _ => Bool) (notB q) q p)) fun a => (lin_ev y e).bind (β := AV) (G := fun b k => onB a fun p => onB b fun q => kNeg neg k (@Bool.rec (fun _ => Bool) (notB q) q p)) fun b =>
      lin_onB (β := AV) (G := fun p k => onB b fun q => kNeg neg k (@Bool.rec (fun _ => Bool) (notB q) q p)) a fun p => lin_onB (β := AV) (G := fun q k => kNeg neg k (@Bool.rec (fun _ => Bool) (notB q) q p)) b fun q => Lin.pure _
  | eql neg ks x y =>
    exact (lin_ev x e).bind (β := AV) (G := fun a k => ev y e fun b => onAgg a fun l => onAgg b fun m => eqL ks l m (kNeg neg k)) fun a => (lin_ev y e).bind (β := AV) (G := fun b k => onAgg a fun l => onAgg b fun m => eqL ks l m (kNeg neg k)) fun b =>
      lin_onAgg (β := AV) (G := fun l k => onAgg b fun m => eqL ks l m (kNeg neg k)) a fun l => lin_onAgg (β := AV) (G := fun m k => eqL ks l m (kNeg neg k)) b fun m => (lin_eqL ks l m).bind (β := AV) (G := fun r k => kNeg neg k r) fun r => Lin.pure _
  | isnil neg c x => exact (lin_ev x e).bind (β := AV) (G := fun a k => nilK c a (kNeg neg k)) fun a => (lin_nilK c a).bind (β := AV) (G := fun r k => kNeg neg k r) fun r => Lin.pure _
  | not x => exact (lin_ev x e).bind (β := AV) (G := fun v k => onB v fun b => k (.b (notB b))) fun v => lin_onB (β := AV) (G := fun b k => k (.b (notB b))) v fun b => Lin.pure _
  | neg x => exact (lin_ev x e).bind (β := AV) (G := fun v k => onI v fun kd n => kI k kd (wrapF kd (Int.sub (.ofNat 0) n))) fun v => lin_onI (β := AV) (G := fun kd n k => kI k kd (wrapF kd (Int.sub (.ofNat 0) n))) v fun kd n => lin_kI _ _
  | cpl x => exact (lin_ev x e).bind (β := AV) (G := fun v k => onI v fun kd n => kI k kd (wrapF kd (.ofNat (Nat.xor (toU kd (if kd.signed then -1 else kd.max)) (toU kd n))))) fun v => lin_onI (β := AV) (G := fun kd n k => kI k kd (wrapF kd (.ofNat (Nat.xor (toU kd (if kd.signed then -1 else kd.max)) (toU kd n))))) v fun kd n => lin_kI _ _
  | cvi kd x => exact (lin_ev x e).bind (β := AV) (G := fun v k => onIO v (fun _ n => kI k kd (wrapF kd n)) (fun j => ite' (beqK kd .i64) (k (.o j)) false)) fun v => lin_onIO (β := AV) (F := fun _ n k => kI k kd (wrapF kd n)) (G := fun j k => ite' (beqK kd .i64) (k (.o j)) false) v (fun _ n => lin_kI _ _) fun j => Lin.ite _ (Lin.pure _) Lin.fail
  | cvid x => exact (lin_ev x e).bind (β := AV) (G := fun v k => onS v fun n w => k (.s n w)) fun v => lin_onS (β := AV) (G := fun n w k => k (.s n w)) v fun _ _ => Lin.pure _
  | mkif t x => exact (lin_ev x e).bind (β := AV) (G := fun v k => k (.ifc t v)) fun v => Lin.pure _
  | mkf fn first caps => exact (lin_evs e first).bind (β := AV) (G := fun a k => evs caps e fun b => k (.f fn a b)) fun a => (lin_evs e caps).bind (β := AV) (G := fun b k => k (.f fn a b)) fun b => Lin.pure _
  | slc sz x lo hi mx =>
    refine (lin_ev x e).bind (β := AV) (G := fun v k => onSl v (bnd lo 0 e fun l => bnd hi 0 e fun h => bnd mx 0 e fun m => ite' (Nat.beq (Nat.add l (Nat.add h m)) 0) (k .nils) false)
      (fun id tag off len cap esz => bnd lo 0 e fun l => bnd hi len e fun h => ite' (Nat.beq esz sz) (ite' (Nat.ble l h)
      (@Option.rec Opd (fun _ => Bool) (slcCap sz id tag off l h len cap k)
        (fun mx => evN mx e (slcMax sz id tag off l h (@Option.rec Nat (fun _ => Nat) len (fun c => c) cap) k)) mx) false) false)) fun v => ?_
    refine lin_onSl (β := AV) (F := fun k => bnd lo 0 e fun l => bnd hi 0 e fun h => bnd mx 0 e fun m => ite' (Nat.beq (Nat.add l (Nat.add h m)) 0) (k .nils) false)
      (G := fun id tag off len cap esz k => bnd lo 0 e fun l => bnd hi len e fun h => ite' (Nat.beq esz sz) (ite' (Nat.ble l h)
      (@Option.rec Opd (fun _ => Bool) (slcCap sz id tag off l h len cap k)
        (fun mx => evN mx e (slcMax sz id tag off l h (@Option.rec Nat (fun _ => Nat) len (fun c => c) cap) k)) mx) false) false) v ?_ fun id tag off len cap esz => ?_
    · exact (lin_bnd lo 0 e).bind (β := AV) (G := fun l k => bnd hi 0 e fun h => bnd mx 0 e fun m => ite' (Nat.beq (Nat.add l (Nat.add h m)) 0) (k .nils) false) fun l =>
        (lin_bnd hi 0 e).bind (β := AV) (G := fun h k => bnd mx 0 e fun m => ite' (Nat.beq (Nat.add l (Nat.add h m)) 0) (k .nils) false) fun h =>
        (lin_bnd mx 0 e).bind (β := AV) (G := fun m k => ite' (Nat.beq (Nat.add l (Nat.add h m)) 0) (k .nils) false) fun m => Lin.ite _ (Lin.pure _) Lin.fail
    · refine (lin_bnd lo 0 e).bind (β := AV) (G := fun l k => bnd hi len e fun h => ite' (Nat.beq esz sz) (ite' (Nat.ble l h)
        (@Option.rec Opd (fun _ => Bool) (slcCap sz id tag off l h len cap k)
          (fun mx => evN mx e (slcMax sz id tag off l h (@Option.rec Nat (fun _ => Nat) len (fun c => c) cap) k)) mx) false) false) fun l => ?_
      refine (lin_bnd hi len e).bind (β := AV) (G := fun h k => ite' (Nat.beq esz sz) (ite' (Nat.ble l h)
        (@Option.rec Opd (fun _ => Bool) (slcCap sz id tag off l h len cap k)
          (fun mx => evN mx e (slcMax sz id tag off l h (@Option.rec Nat (fun _ => Nat) len (fun c => c) cap) k)) mx) false) false) fun h => ?_
      refine Lin.ite _ (Lin.ite _ ?_ Lin.fail) Lin.fail
      cases mx with
      | none => cases cap with
        | none => exact Lin.ite _ (Lin.pure _) Lin.fail
        | some c => exact Lin.ite _ (Lin.pure _) Lin.fail
      | some mx => exact (lin_evN mx e).bind (β := AV) (G := fun m k => slcMax sz id tag off l h (@Option.rec Nat (fun _ => Nat) len (fun c => c) cap) k m) fun m => Lin.ite _ (Lin.ite _ (Lin.pure _) Lin.fail) Lin.fail
  | slcs x lo hi =>
    refine (lin_ev x e).bind (β := AV) (G := fun v k => onS v fun n w => bnd lo 0 e fun l => bnd hi n e fun h => ite' (Nat.ble l h) (ite' (Nat.ble h n)
      (k (.s (Nat.sub h l) (Nat.mod (Nat.shiftRight w (Nat.mul 8 l)) (Nat.pow 2 (Nat.mul 8 (Nat.sub h l)))))) false) false) fun v => ?_
    refine lin_onS (β := AV) (G := fun n w k => bnd lo 0 e fun l => bnd hi n e fun h => ite' (Nat.ble l h) (ite' (Nat.ble h n)
      (k (.s (Nat.sub h l) (Nat.mod (Nat.shiftRight w (Nat.mul 8 l)) (Nat.pow 2 (Nat.mul 8 (Nat.sub h l)))))) false) false) v fun n w => ?_
    refine (lin_bnd lo 0 e).bind (β := AV) (G := fun l k => bnd hi n e fun h => ite' (Nat.ble l h) (ite' (Nat.ble h n)
      (k (.s (Nat.sub h l) (Nat.mod (Nat.shiftRight w (Nat.mul 8 l)) (Nat.pow 2 (Nat.mul 8 (Nat.sub h l)))))) false) false) fun l => ?_
    exact (lin_bnd hi n e).bind (β := AV) (G := fun h k => ite' (Nat.ble l h) (ite' (Nat.ble h n)
      (k (.s (Nat.sub h l) (Nat.mod (Nat.shiftRight w (Nat.mul 8 l)) (Nat.pow 2 (Nat.mul 8 (Nat.sub h l)))))) false) false) fun h => Lin.ite _ (Lin.ite _ (Lin.pure _) Lin.fail) Lin.fail
  | fad off x => exact (lin_ev x e).bind (β := AV) (G := fun v k => onP v fun a b c => k (.p a b (Nat.add c off))) fun v => lin_onP (β := AV) (G := fun a b c k => k (.p a b (Nat.add c off))) v fun _ _ _ => Lin.pure _
  | fld off sz ag x => exact (lin_ev x e).bind (β := AV) (G := fun v k => onAgg v fun l => partK l off sz ag k) fun v => lin_onAgg (β := AV) (G := fun l k => partK l off sz ag k) v fun l => lin_part ..
  | iad sz x i =>
    exact (lin_ev x e).bind (β := AV) (G := fun v k => onSl v false fun id tag off len _ _ => evN i e fun i => ite' (Nat.ble (Nat.succ i) len) (k (.p id tag (Nat.add off (Nat.mul i sz)))) false) fun v =>
      lin_onSl (β := AV) (F := fun _ => false) (G := fun id tag off len _ _ k => evN i e fun i => ite' (Nat.ble (Nat.succ i) len) (k (.p id tag (Nat.add off (Nat.mul i sz)))) false) v Lin.fail fun id tag off len _ _ =>
      (lin_evN i e).bind (β := AV) (G := fun i k => ite' (Nat.ble (Nat.succ i) len) (k (.p id tag (Nat.add off (Nat.mul i sz)))) false) fun i => Lin.ite _ (Lin.pure _) Lin.fail
  | iada len sz x i =>
    exact (lin_ev x e).bind (β := AV) (G := fun v k => onP v fun id tag off => evN i e fun i => ite' (Nat.ble (Nat.succ i) len) (k (.p id tag (Nat.add off (Nat.mul i sz)))) false) fun v =>
      lin_onP (β := AV) (G := fun id tag off k => evN i e fun i => ite' (Nat.ble (Nat.succ i) len) (k (.p id tag (Nat.add off (Nat.mul i sz)))) false) v fun id tag off =>
      (lin_evN i e).bind (β := AV) (G := fun i k => ite' (Nat.ble (Nat.succ i) len) (k (.p id tag (Nat.add off (Nat.mul i sz)))) false) fun i => Lin.ite _ (Lin.pure _) Lin.fail
  | idxs x i =>
    exact (lin_ev x e).bind (β := AV) (G := fun v k => onS v fun n w => evN i e fun i => ite' (Nat.ble (Nat.succ i) n) (k (.i .u8 (.ofNat (byteAt w i)))) false) fun v =>
      lin_onS (β := AV) (G := fun n w k => evN i e fun i => ite' (Nat.ble (Nat.succ i) n) (k (.i .u8 (.ofNat (byteAt w i)))) false) v fun n w =>
      (lin_evN i e).bind (β := AV) (G := fun i k => ite' (Nat.ble (Nat.succ i) n) (k (.i .u8 (.ofNat (byteAt w i)))) false) fun i => Lin.ite _ (Lin.pure _) Lin.fail
  | idxa len sz ag x i =>
    exact (lin_ev x e).bind (β := AV) (G := fun v k => onAgg v fun l => evN i e fun i => ite' (Nat.ble (Nat.succ i) len) (partK l (Nat.mul i sz) sz ag k) false) fun v =>
      lin_onAgg (β := AV) (G := fun l k => evN i e fun i => ite' (Nat.ble (Nat.succ i) len) (partK l (Nat.mul i sz) sz ag k) false) v fun l =>
      (lin_evN i e).bind (β := AV) (G := fun i k => ite' (Nat.ble (Nat.succ i) len) (partK l (Nat.mul i sz) sz ag k) false) fun i => Lin.ite _ (lin_part ..) Lin.fail
  | ext x i => exact (lin_ev x e).bind (β := AV) (G := fun v k => onTup v fun l => nthK l i k) fun v => lin_onTup (β := AV) (G := fun l k => nthK l i k) v fun l => lin_nth ..
  | lens x => exact (lin_ev x e).bind (β := AV) (G := fun v k => onS v fun n _ => k (.i .i64 (.ofNat n))) fun v => lin_onS (β := AV) (G := fun n _ k => k (.i .i64 (.ofNat n))) v fun _ _ => Lin.pure _
  | len x => exact (lin_ev x e).bind (β := AV) (G := fun v k => onSl v (k (.i .i64 (.ofNat 0))) fun _ _ _ n _ _ => k (.i .i64 (.ofNat n))) fun v => lin_onSl (β := AV) (F := fun k => k (.i .i64 (.ofNat 0))) (G := fun _ _ _ n _ _ k => k (.i .i64 (.ofNat n))) v (Lin.pure _) fun _ _ _ _ _ _ => Lin.pure _
  | mx x y =>
    exact (lin_ev x e).bind (β := AV) (G := fun a k => ev y e fun b => onI a fun kd a => onI b fun kd' b => ite' (beqK kd kd') (k (.i kd (@Bool.rec (fun _ => Int) a b (leI a b)))) false) fun a =>
      (lin_ev y e).bind (β := AV) (G := fun b k => onI a fun kd a => onI b fun kd' b => ite' (beqK kd kd') (k (.i kd (@Bool.rec (fun _ => Int) a b (leI a b)))) false) fun b =>
      lin_onI (β := AV) (G := fun kd a k => onI b fun kd' b => ite' (beqK kd kd') (k (.i kd (@Bool.rec (fun _ => Int) a b (leI a b)))) false) a fun kd a =>
      lin_onI (β := AV) (G := fun kd' b k => ite' (beqK kd kd') (k (.i kd (@Bool.rec (fun _ => Int) a b (leI a b)))) false) b fun kd' b => Lin.ite _ (Lin.pure _) Lin.fail
  | mn x y =>
    exact (lin_ev x e).bind (β := AV) (G := fun a k => ev y e fun b => onI a fun kd a => onI b fun kd' b => ite' (beqK kd kd') (k (.i kd (@Bool.rec (fun _ => Int) b a (leI a b)))) false) fun a =>
      (lin_ev y e).bind (β := AV) (G := fun b k => onI a fun kd a => onI b fun kd' b => ite' (beqK kd kd') (k (.i kd (@Bool.rec (fun _ => Int) b a (leI a b)))) false) fun b =>
      lin_onI (β := AV) (G := fun kd a k => onI b fun kd' b => ite' (beqK kd kd') (k (.i kd (@Bool.rec (fun _ => Int) b a (leI a b)))) false) a fun kd a =>
      lin_onI (β := AV) (G := fun kd' b k => ite' (beqK kd kd') (k (.i kd (@Bool.rec (fun _ => Int) b a (leI a b)))) false) b fun kd' b => Lin.ite _ (Lin.pure _) Lin.fail
  | bad => exact Lin.fail
end Go.AE
