/- Calls that are alike are reckoned once: what a call of plain values comes to, moved to where it is wanted. -/
import Derived.Test.YtodlgflkhcknaaaAFTop
namespace Go.AE
set_option linter.unusedVariables false
open Go
noncomputable section

/-- The same value with each object's number raised. -/
def shV (n : Nat) (a : AV) : AV :=
  @AV.rec (fun _ => AV) (fun _ => List AV)
    (fun x => .b x) (fun k m => .i k m) (fun m w => .s m w) .nilp
    (fun id tag off => .p (Nat.add n id) tag off) .nils
    (fun id tag off len cap esz => .sl (Nat.add n id) tag off len cap esz) .nilm
    (fun id => .m (Nat.add n id)) .nilf (fun fn _ _ ra rb => .f fn ra rb) .nili
    (fun t _ r => .ifc t r) (fun _ r => .agg r) (fun _ r => .tup r) (fun k => .o k)
    [] (fun _ _ rv rl => rv :: rl) a
def shL (n : Nat) (l : List AV) : List AV := cellsOf (shV n (.agg l))

/-- An object that is told: its number, its cells; how it grows, if it does. -/
structure Told where
  id : Nat
  cells : List AV
  k : Option (Nat × Nat × List (Nat × Nat))
/-- What a call comes to: its result, the objects that are told, how many numbers it takes. -/
structure Ent where
  f : Nat
  args : List AV
  res : AV
  objs : List Told
  cnt : Nat

def objOf (n : Nat) (t : Told) : Obj :=
  @Option.rec (Nat × Nat × List (Nat × Nat)) (fun _ => Obj) (.st (T.ofList (shL n t.cells) 0 .e) (lenL t.cells 0)) (fun p => .ve (T.ofList (shL n t.cells) 0 .e) (lenL t.cells 0) p.1 p.2.1 p.2.2) t.k
def addAll (n : Nat) (l : List Told) : T Obj → T Obj := @List.rec Told (fun _ => T Obj → T Obj) (fun t => t) (fun x _ ih t => ih (T.set (objOf n x) t (Nat.add n x.id))) l
def useEnt (e : Ent) (h : Heap) (k : KH) : Bool := k (shV h.next e.res) ⟨Nat.add h.next e.cnt, addAll h.next e.objs h.tr⟩
def memK (es : List Ent) (f : Nat) (args : List AV) (h : Heap) (k : KH) (d : Bool) : Bool :=
  @List.rec Ent (fun _ => Bool) d (fun e _ ih => ite' (Nat.beq e.f f) (ite' (sameV (.agg e.args) (.agg args)) (useEnt e h k) ih) ih) es
def callM (tab : Nat → Option CFunc) (es : List Ent) (n : Nat) : Nat → List AV → Heap → KH → Bool :=
  @Nat.rec (fun _ => Nat → List AV → Heap → KH → Bool) (fun _ _ _ _ => false)
    (fun _ ih f args h k => memK es f args h k (@Option.rec CFunc (fun _ => Bool) false (fun fn => exec ih fn.body (T.ofList args 0 .e) h (retK fn.res k)) (tab f))) n

/- The question that is asked of a call, once. -/
def cellsSame (cs : List AV) (t : T AV) : Nat → Bool := @List.rec AV (fun _ => Nat → Bool) (fun _ => true) (fun x _ ih j => t.getK j false fun v => ite' (sameV x v) (ih (Nat.succ j)) false) cs
def segSame (l : List (Nat × Nat)) : List (Nat × Nat) → Bool :=
  @List.rec (Nat × Nat) (fun _ => List (Nat × Nat) → Bool) (fun m => @List.rec (Nat × Nat) (fun _ => Bool) true (fun _ _ _ => false) m)
    (fun x _ ih m => @List.rec (Nat × Nat) (fun _ => Bool) false (fun y ys _ => ite' (Nat.beq x.1 y.1) (ite' (Nat.beq x.2 y.2) (ih ys) false) false) m) l
def objSame (t : Told) (o : Obj) : Bool :=
  @Obj.rec (fun _ => Bool)
    (fun cells n => @Option.rec (Nat × Nat × List (Nat × Nat)) (fun _ => Bool) (ite' (Nat.beq n (lenL t.cells 0)) (cellsSame t.cells cells 0) false) (fun _ => false) t.k)
    (fun cells ext ver minv segs => @Option.rec (Nat × Nat × List (Nat × Nat)) (fun _ => Bool) false
      (fun p => ite' (Nat.beq ext (lenL t.cells 0)) (ite' (Nat.beq ver p.1) (ite' (Nat.beq minv p.2.1) (ite' (segSame segs p.2.2) (cellsSame t.cells cells 0) false) false) false) false) t.k)
    (fun _ => false) (fun _ => false) o
def allSame (l : List Told) (h : Heap) : Bool := @List.rec Told (fun _ => Bool) true (fun x _ ih => h.tr.getK x.id false fun o => ite' (objSame x o) ih false) l
def asks (e : Ent) (v : AV) (h : Heap) : Bool := ite' (sameV e.res v) (ite' (Nat.beq h.next e.cnt) (allSame e.objs h) false) false
def plainL (l : List AV) : Bool := @List.rec AV (fun _ => Bool) true (fun x _ ih => ite' (eqS x x fun _ => true) ih false) l
end

variable {oq : Unit} [Opq oq]

theorem lin_memK (es : List Ent) (f : Nat) (args : List AV) (h : Heap) {D : KH → Bool} (hD : LinG h D) : LinG h fun k => memK es f args h k (D k) := by
  induction es with
  | nil => exact hD
  | cons e es ih => exact LinG.ite _ (LinG.ite _ (LinG.pure _ _ (Nat.le_add_right _ _)) ih) ih

theorem lin_callM (tab : Nat → Option CFunc) (es : List Ent) : ∀ n, LinC (callM tab es n)
  | 0 => fun f args h => .inl fun _ => rfl
  | n + 1 => fun f args h => by
    refine lin_memK es f args h (D := fun k => @Option.rec CFunc (fun _ => Bool) false (fun fn => exec (callM tab es n) fn.body (T.ofList args 0 .e) h (retK fn.res k)) (tab f)) ?_
    cases tab f with
    | none => exact .inl fun k => rfl
    | some fn =>
      rcases lin_exec (lin_callM tab es n) fn.body (T.ofList args 0 .e) h with g | ⟨x, fr, h', hn, g⟩
      · exact .inl fun k => g _
      · have hr : LinG h' fun k => retK fn.res k x fr h' := by
          cases x with
          | nrm => exact LinG.lin (lin_res fr h' fn.res) fun l => lin_one l h'
          | exit i => exact LinG.fail
          | ret => exact LinG.lin (lin_res fr h' fn.res) fun l => lin_one l h'
        rcases hr with r | ⟨v, h2, hn2, r⟩
        · exact .inl fun k => (g _).trans (r k)
        · exact .inr ⟨v, h2, Nat.le_trans hn hn2, fun k => (g _).trans (r k)⟩

theorem plain_VR {φ ψ : Emb} {a : AV} {v : Value} (h : eqS a a (fun _ => true) = true) (hv : VR φ a v) : VR ψ a v := by
  cases a with
  | b x => exact hv
  | i k n => exact hv
  | s n w => exact hv
  | o k => exact hv
  | _ => cases h
theorem plain_VRL {φ ψ : Emb} : ∀ {l : List AV} {vs : List Value}, plainL l = true → VRL φ l vs → VRL ψ l vs
  | [], _, _, h => h
  | x :: l, _, hp, ⟨v, vs, e, hv, hl⟩ => by
    obtain ⟨h1, h2⟩ := ite'_and (show ite' (eqS x x fun _ => true) (plainL l) false = true from hp)
    exact ⟨v, vs, e, plain_VR h1 hv, plain_VRL h2 hl⟩

/-- What stands for the raised numbers. -/
def Raised (ψ χ : Emb) (n : Nat) : Prop := ∀ id t l, ψ id t = some l → χ (n + id) t = some l
theorem VR_raise {ψ χ : Emb} {n : Nat} (hs : Raised ψ χ n) (a : AV) : ∀ v, VR ψ a v → VR χ (shV n a) v := by
  refine @AV.rec (fun a => ∀ v, VR ψ a v → VR χ (shV n a) v) (fun l => ∀ vs, VRL ψ l vs → VRL χ (shL n l) vs) ?_ ?_ ?_ ?_ ?_ ?_ ?_ ?_ ?_ ?_ ?_ ?_ ?_ ?_ ?_ ?_ ?_ ?_ a
  · exact fun x v h => h
  · exact fun k m v h => h
  · exact fun m w v h => h
  · exact fun v h => h
  · intro id tag off v h
    obtain ⟨l, hl, hle, hv⟩ := VR_p.1 h
    exact VR_p.2 ⟨l, hs _ _ _ hl, hle, hv⟩
  · exact fun v h => h
  · intro id tag off len cap esz v h
    obtain ⟨l, p, c, hl, h2⟩ := VR_sl.1 h
    exact VR_sl.2 ⟨l, p, c, hs _ _ _ hl, h2⟩
  · exact fun v h => h
  · intro id v h
    obtain ⟨l, hl, hv⟩ := VR_m.1 h
    exact VR_m.2 ⟨l, hs _ _ _ hl, hv⟩
  · exact fun v h => h
  · intro fn la lb iha ihb v h
    obtain ⟨x, y, hv, hx, hy⟩ := VR_f.1 h
    exact VR_f.2 ⟨x, y, hv, iha _ hx, ihb _ hy⟩
  · exact fun v h => h
  · intro t x ih v h
    obtain ⟨y, hv, hy⟩ := VR_ifc.1 h
    exact VR_ifc.2 ⟨y, hv, ih _ hy⟩
  · intro l ih v h
    obtain ⟨x, hv, hx⟩ := VR_agg.1 h
    exact VR_agg.2 ⟨x, hv, ih _ hx⟩
  · intro l ih v h
    obtain ⟨x, hv, hx⟩ := VR_tup.1 h
    exact VR_tup.2 ⟨x, hv, ih _ hx⟩
  · exact fun k v h => h
  · exact fun vs h => h
  · rintro x l ihx ihl vs ⟨v, ws, e, hv, hl⟩
    exact ⟨v, ws, e, ihx _ hv, ihl _ hl⟩
end Go.AE
