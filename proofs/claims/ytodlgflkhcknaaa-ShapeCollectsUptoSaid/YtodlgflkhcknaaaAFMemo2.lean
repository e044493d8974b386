/- Calls that are alike are reckoned once: it is sound. -/
import Derived.Test.YtodlgflkhcknaaaAFMemo
namespace Go.AE
set_option linter.unusedVariables false
variable {oq : Unit} [Opq oq]
open Go

theorem shL_cons (n : Nat) (x : AV) (l : List AV) : shL n (x :: l) = shV n x :: shL n l := rfl
theorem shL_len (n : Nat) : ∀ l : List AV, (shL n l).length = l.length
  | [] => rfl
  | x :: l => by rw [shL_cons, List.length_cons, List.length_cons, shL_len n l]
theorem shL_get (n : Nat) : ∀ (l : List AV) (j : Nat) (v : AV), (shL n l)[j]? = some v → ∃ x, l[j]? = some x ∧ v = shV n x
  | [], j, v, h => by have h : ([] : List AV)[j]? = some v := h; simp at h
  | x :: l, 0, v, h => by rw [shL_cons] at h; cases h; exact ⟨x, rfl, rfl⟩
  | x :: l, j + 1, v, h => by rw [shL_cons] at h; obtain ⟨y, h1, h2⟩ := shL_get n l j v (by simpa using h); exact ⟨y, by simpa using h1, h2⟩

theorem cells_same : ∀ (cs : List AV) (t : T AV) (i : Nat), cellsSame cs t i = true → ∀ (j : Nat) (v : AV), cs[j]? = some v → t.get (i + j) = some v
  | [], t, i, _, j, v, h => by simp at h
  | x :: cs, t, i, hs, j, v, h => by
    obtain ⟨y, hy, h1⟩ := getK_true (show t.getK i false (fun v => ite' (sameV x v) (cellsSame cs t (i + 1)) false) = true from hs)
    obtain ⟨h2, h3⟩ := ite'_and h1
    cases j with
    | zero => cases h; rw [Nat.add_zero, hy, sameV_eq _ _ h2]
    | succ j => rw [show i + (j + 1) = i + 1 + j from by omega]; exact cells_same cs t (i + 1) h3 j v (by simpa using h)
theorem seg_same : ∀ (l m : List (Nat × Nat)), segSame l m = true → l = m
  | [], [], _ => rfl
  | [], y :: m, h => by cases h
  | x :: l, [], h => by cases h
  | x :: l, y :: m, h => by
    obtain ⟨h1, h⟩ := ite'_and (show ite' (Nat.beq x.1 y.1) (ite' (Nat.beq x.2 y.2) (segSame l m) false) false = true from h)
    obtain ⟨h2, h3⟩ := ite'_and h
    rw [seg_same l m h3]
    obtain ⟨a, b⟩ := x
    obtain ⟨c, d⟩ := y
    have e1 : a = c := beq_eq h1
    have e2 : b = d := beq_eq h2
    rw [e1, e2]

theorem OR_raise {ψ χ : Emb} {n : Nat} {w : World} (hs : Raised ψ χ n) {t : Told} {o : Obj} (hsame : objSame t o = true) (hO : OR ψ w t.id o) (hback : ∀ tag l, χ (n + t.id) tag = some l → ψ t.id tag = some l) : OR χ w (n + t.id) (objOf n t) := by
  obtain ⟨id, cs, k⟩ := t
  have told : ∀ (cells : T AV), cellsSame cs cells 0 = true → ∀ j v, (T.ofList (shL n cs) 0 .e).get j = some v → ∃ x, cells.get j = some x ∧ v = shV n x := fun cells hc j v hj => by
    rw [get_ofList] at hj
    split at hj
    · rw [Nat.sub_zero] at hj
      obtain ⟨x, h1, h2⟩ := shL_get n cs j v hj
      have := cells_same cs cells 0 hc j x h1
      rw [Nat.zero_add] at this
      exact ⟨x, this, h2⟩
    · cases hj
  have cell : ∀ (cells : T AV) (l : Loc) (j : Nat) (v : AV), cellsSame cs cells 0 = true → (T.ofList (shL n cs) 0 .e).get j = some v → (∀ x, cells.get j = some x → CellR ψ w l j x) → CellR χ w l j v := fun cells l j v hc hj hcr => by
    obtain ⟨x, h1, rfl⟩ := told cells hc j v hj
    obtain ⟨u, hu, hr⟩ := hcr x h1
    exact ⟨u, hu, VR_raise hs _ _ hr⟩
  cases o with
  | st cells m =>
    cases k with
    | some p => cases hsame
    | none =>
      obtain ⟨h1, h2⟩ := ite'_and (show ite' (Nat.beq m (lenL cs 0)) (cellsSame cs cells 0) false = true from hsame)
      intro tag l hl
      obtain ⟨g0, g1, g2, g3, g4, g5⟩ := hO tag l (hback _ _ hl)
      refine ⟨g0, g1, g2, by rw [g3]; exact beq_eq h1, g4, fun j hj v hv => cell cells l j v h2 hv fun x hx => g5 j (by rw [beq_eq h1]; exact hj) x hx⟩
  | ve cells ext ver minv segs =>
    cases k with
    | none => cases hsame
    | some p =>
      obtain ⟨h1, h⟩ := ite'_and (show ite' (Nat.beq ext (lenL cs 0)) (ite' (Nat.beq ver p.1) (ite' (Nat.beq minv p.2.1) (ite' (segSame segs p.2.2) (cellsSame cs cells 0) false) false) false) false = true from hsame)
      obtain ⟨h2, h⟩ := ite'_and h
      obtain ⟨h3, h⟩ := ite'_and h
      obtain ⟨h4, h5⟩ := ite'_and h
      obtain ⟨k1, k2, k3, k4, k5⟩ := hO
      have e1 : ext = lenL cs 0 := beq_eq h1
      have e2 : ver = p.1 := beq_eq h2
      have e3 : minv = p.2.1 := beq_eq h3
      have e4 : segs = p.2.2 := seg_same _ _ h4
      refine ⟨by rw [← e2, ← e3]; exact k1, fun j hj => ?_, by rw [← e4]; exact k3, by rw [← e2, ← e4]; exact k4, fun tag l hl => ?_⟩
      · have hl : j < cs.length := by
          have h9 := lenL_eq cs 0
          have hj : j < lenL cs 0 := hj
          omega
        have : j - 0 < (shL n cs).length := by rw [shL_len]; omega
        show ∃ v, (T.ofList (shL n cs) 0 .e).get j = some v
        rw [get_ofList, if_pos ⟨Nat.zero_le _, by omega⟩]
        exact ⟨_, List.getElem?_eq_getElem this⟩
      · obtain ⟨g0, g1, g2⟩ := k5 tag l (hback _ _ hl)
        refine ⟨by rw [← e2]; exact g0, g1, fun hm j hj hje hst v hv => cell cells l j v h5 hv fun x hx => g2 (by rw [e3]; exact hm) j hj (by rw [e1]; exact hje) (by rw [e4]; exact hst) x hx⟩
  | mp es => cases hsame
  | ro cells => cases hsame

theorem addAll_get (n : Nat) : ∀ (l : List Told) (tr : T Obj) (id : Nat) (o : Obj), (addAll n l tr).get id = some o → (∃ x ∈ l, id = n + x.id ∧ o = objOf n x) ∨ tr.get id = some o
  | [], tr, id, o, h => .inr h
  | x :: l, tr, id, o, h => by
    rcases addAll_get n l (T.set (objOf n x) tr (n + x.id)) id o h with ⟨y, h1, h2⟩ | h1
    · exact .inl ⟨y, List.mem_cons_of_mem _ h1, h2⟩
    · rw [get_set] at h1
      split at h1
      · rename_i e; cases h1; exact .inl ⟨x, List.mem_cons_self, e, rfl⟩
      · exact .inr h1
theorem all_same {h : Heap} : ∀ {l : List Told}, allSame l h = true → ∀ x ∈ l, ∃ o, h.tr.get x.id = some o ∧ objSame x o = true
  | y :: l, hs, x, hx => by
    obtain ⟨o, ho, h1⟩ := getK_true (show h.tr.getK y.id false (fun o => ite' (objSame y o) (allSame l h) false) = true from hs)
    obtain ⟨h2, h3⟩ := ite'_and h1
    cases hx with
    | head => exact ⟨o, ho, h2⟩
    | tail _ hx => exact all_same h3 x hx

/-- What an abstract heap stands for, but for what is only read. -/
structure WR0 (φ : Emb) (h : Heap) (w : World) : Prop where
  scope : ∀ id o, h.tr.get id = some o → id < h.next
  obj : ∀ id o, h.tr.get id = some o → OR φ w id o
  inj : ∀ id t id' t' l l', φ id t = some l → φ id' t' = some l' → l.block = l'.block → id = id' ∧ l.base + l'.start = l'.base + l.start ∧ l.size = l'.size
  here : ∀ id t l, φ id t = some l → l.block < w.heap.size
theorem WR.zero {φ : Emb} {h : Heap} {w : World} (hro : Opq.ro = 0) (hW : WR φ h w) : WR0 φ h w := ⟨hW.scope, hW.obj, fun _ _ _ _ _ _ h1 h2 hb => hW.inj _ _ _ _ _ _ (by omega) h1 h2 hb, hW.here⟩

/-- What a call comes to is as it is told. -/
def EntOK (P : Program) (e : Ent) : Prop :=
  (∀ args' w, (callFunc e.f args').run P w = .ok (.enter e.f args') w) ∧ plainL e.args = true ∧
  ∀ (w : World) (args' : Array Value), VRL noEmb e.args args'.toList → Calls P e.f args' w fun x w' => ∃ ψ u h', x = .returned u ∧ VR ψ e.res u ∧ WR0 ψ h' w' ∧ h'.next = e.cnt ∧ Stp noEmb 0 w ψ e.cnt w' ∧ allSame e.objs h' = true

theorem ent_of (hro : Opq.ro = 0) {P : Program} {call : Nat → List AV → Heap → KH → Bool} (hC : CallOK P call) {e : Ent} (hp : plainL e.args = true) (h : call e.f e.args noHeap (asks e) = true) : EntOK P e := by
  obtain ⟨h1, h2⟩ := hC _ _ _ _ h
  have parts : ∀ v h', asks e v h' = true → v = e.res ∧ h'.next = e.cnt ∧ allSame e.objs h' = true := fun v h' ha => by
    obtain ⟨g1, ha⟩ := ite'_and (show ite' (sameV e.res v) (ite' (Nat.beq h'.next e.cnt) (allSame e.objs h') false) false = true from ha)
    obtain ⟨g2, g3⟩ := ite'_and ha
    exact ⟨sameV_eq _ _ g1, beq_eq g2, g3⟩
  refine ⟨h1, hp, fun w args' hv => ?_⟩
  refine Calls.mono (h2 noEmb w e.cnt args' hv (start hro w) (fun id t l hl => (by cases hl)) fun v h' ha => Nat.le_of_eq (parts v h' ha).2.1) fun x w' hx => ?_
  obtain ⟨v, h', ψ, u, ha, rfl, hu, hW, hS⟩ := hx
  obtain ⟨rfl, g2, g3⟩ := parts v h' ha
  exact ⟨ψ, u, h', rfl, hu, hW.zero hro, g2, by rw [← g2]; exact hS, g3⟩

theorem ent_use {P : Program} {e : Ent} (he : EntOK P e) {φ : Emb} {h : Heap} {w : World} {M : Nat} {args' : Array Value} (hv : VRL φ e.args args'.toList) (hW : WR φ h w) (hF : Fresh φ h.next M) (hM : h.next + e.cnt ≤ M) :
    Calls P e.f args' w fun x w' => ∃ χ u, x = .returned u ∧ VR χ (shV h.next e.res) u ∧ WR χ ⟨h.next + e.cnt, addAll h.next e.objs h.tr⟩ w' ∧ Stp φ h.next w χ (h.next + e.cnt) w' := by
  obtain ⟨_, hp, hc⟩ := he
  refine Calls.mono (hc w args' (plain_VRL hp hv)) fun x w' hx => ?_
  obtain ⟨ψ, u, h', rfl, hu, hW', hn, hS, hall⟩ := hx
  have hψ : ∀ i t l, ψ i t = some l → i < e.cnt ∧ w.heap.size ≤ l.block := fun i t l hl => by
    rcases hS.new i t l hl with h1 | ⟨h1, _⟩ | ⟨h1, h2, _⟩
    · cases h1
    · omega
    · exact ⟨h1, h2⟩
  let χ : Emb := fun id t => if h.next ≤ id ∧ id < h.next + e.cnt then ψ (id - h.next) t else φ id t
  have hin : ∀ i t, i < e.cnt → χ (h.next + i) t = ψ i t := fun i t hi => by
    show (if h.next ≤ h.next + i ∧ h.next + i < h.next + e.cnt then ψ (h.next + i - h.next) t else φ (h.next + i) t) = _
    rw [if_pos ⟨by omega, by omega⟩, show h.next + i - h.next = i from by omega]
  have hraise : Raised ψ χ h.next := fun i t l hl => by rw [hin i t (hψ i t l hl).1]; exact hl
  have hinv : ∀ id t l, χ id t = some l → (φ id t = some l ∧ (id < h.next ∨ M ≤ id)) ∨ ∃ i, id = h.next + i ∧ i < e.cnt ∧ ψ i t = some l := fun id t l hl => by
    have hl' : (if h.next ≤ id ∧ id < h.next + e.cnt then ψ (id - h.next) t else φ id t) = some l := hl
    split at hl'
    · rename_i hc; exact .inr ⟨id - h.next, by omega, by omega, hl'⟩
    · exact .inl ⟨hl', hF _ _ _ hl'⟩
  have hsub : Sub φ χ := fun id t l hl => by
    show (if h.next ≤ id ∧ id < h.next + e.cnt then ψ (id - h.next) t else φ id t) = some l
    rw [if_neg (fun hc => by rcases hF _ _ _ hl with h1 | h1 <;> omega)]; exact hl
  have hold : ∀ B, B < w.heap.size → w'.heap[B]? = w.heap[B]? := fun B hB => hS.block B hB fun id t l _ _ hl => (by cases hl)
  have hsz := hS.size
  refine ⟨χ, u, rfl, VR_raise hraise _ _ hu, ⟨fun id o ho => ?_, fun id o ho => ?_, fun id t id' t' l l' hr hl hl' hb => ?_, fun id t l hl => ?_, ⟨Nat.le_trans hW.roo.1 (Nat.le_add_right _ _), fun id o ho hid => ?_⟩⟩, ⟨hsub, Nat.le_add_right _ _, fun id t l hl => ?_, hS.os, hS.tape, hS.output, hsz, fun B hB _ => hold B hB⟩⟩
  · show id < h.next + e.cnt
    rcases addAll_get _ _ _ _ _ ho with ⟨x, hx, rfl, _⟩ | h1
    · obtain ⟨o', ho', _⟩ := all_same hall x hx
      have := hW'.scope _ _ ho'; omega
    · have := hW.scope _ _ h1; omega
  · rcases addAll_get _ _ _ _ _ ho with ⟨x, hx, rfl, rfl⟩ | h1
    · obtain ⟨o', ho', hsame⟩ := all_same hall x hx
      have hlt := hW'.scope _ _ ho'
      exact OR_raise hraise hsame (hW'.obj _ _ ho') fun tag l hl => by rw [hin _ _ (by omega)] at hl; exact hl
    · have hlt := hW.scope _ _ h1
      refine OR_same (hW.obj _ _ h1) hsub (fun t l hl => ?_) fun t l hl => hold _ (hW.here _ _ _ hl)
      rcases hinv _ _ _ hl with ⟨h2, _⟩ | ⟨i, h2, _⟩
      · exact h2
      · omega
  · rcases hinv _ _ _ hl with ⟨h1, _⟩ | ⟨i, rfl, hi, h1⟩ <;> rcases hinv _ _ _ hl' with ⟨h2, _⟩ | ⟨j, rfl, hj, h2⟩
    · exact hW.inj _ _ _ _ _ _ hr h1 h2 hb
    · have := hW.here _ _ _ h1; have := (hψ _ _ _ h2).2; omega
    · have := hW.here _ _ _ h2; have := (hψ _ _ _ h1).2; omega
    · obtain ⟨rfl, h3⟩ := hW'.inj _ _ _ _ _ _ h1 h2 hb
      exact ⟨rfl, h3⟩
  · rcases hinv _ _ _ hl with ⟨h1, _⟩ | ⟨i, rfl, hi, h1⟩
    · have := hW.here _ _ _ h1; omega
    · exact hW'.here _ _ _ h1
  · have := hW.roo.1
    rcases addAll_get _ _ _ _ _ ho with ⟨x, hx, rfl, rfl⟩ | h1
    · omega
    · exact hW.roo.2 _ _ h1 hid
  · rcases hinv _ _ _ hl with ⟨h1, _⟩ | ⟨i, rfl, hi, h1⟩
    · exact .inl h1
    · exact .inr (.inr ⟨by omega, (hψ _ _ _ h1).2, .inl (by omega)⟩)

theorem memK_true : ∀ {es : List Ent} {f : Nat} {args : List AV} {h : Heap} {k : KH} {d : Bool}, memK es f args h k d = true → (∃ e ∈ es, e.f = f ∧ e.args = args ∧ useEnt e h k = true) ∨ d = true
  | [], f, args, h, k, d, hm => .inr hm
  | e :: es, f, args, h, k, d, hm => by
    have hm : ite' (Nat.beq e.f f) (ite' (sameV (.agg e.args) (.agg args)) (useEnt e h k) (memK es f args h k d)) (memK es f args h k d) = true := hm
    have rest : memK es f args h k d = true → (∃ e' ∈ e :: es, e'.f = f ∧ e'.args = args ∧ useEnt e' h k = true) ∨ d = true := fun hr => by
      rcases memK_true hr with ⟨e', h1, h2⟩ | h1
      · exact .inl ⟨e', List.mem_cons_of_mem _ h1, h2⟩
      · exact .inr h1
    rcases ite'_true hm with ⟨h1, h2⟩ | ⟨_, h2⟩
    · rcases ite'_true h2 with ⟨h3, h4⟩ | ⟨_, h4⟩
      · have := sameV_eq _ _ h3
        cases this
        exact .inl ⟨e, List.mem_cons_self, beq_eq h1, rfl, h4⟩
      · exact rest h4
    · exact rest h2

/-- Calls answer as the evaluator says that knows some of them. -/
theorem callM_sound {P : Program} (hm : P.follows .mixedOrders = true) {eqs : List Nat} (hQ : ∀ t ∈ eqs, EqOK P t) (hN : ∀ (f : Nat) (fn : Func), P.funcs[f]? = some fn → fn.body ≠ none → fn.name ≠ "runtime.NumGoroutine")
    {es : List Ent} (hE : ∀ e ∈ es, EntOK P e) : ∀ n, CallOK P (callM (tabOf (tysOf P) eqs (funsOf P)) es n)
  | 0 => fun f args h k hr => by cases hr
  | n + 1 => fun f args h k hr => by
    rcases memK_true (show memK es f args h k (@Option.rec CFunc (fun _ => Bool) false (fun fn => exec (callM (tabOf (tysOf P) eqs (funsOf P)) es n) fn.body (T.ofList args 0 .e) h (retK fn.res k)) (tabOf (tysOf P) eqs (funsOf P) f)) = true from hr) with ⟨e, he, rfl, rfl, hu⟩ | hd
    · have hok := hE e he
      refine ⟨hok.1, fun φ w M args' hv hW hF hM => ?_⟩
      have hu : k (shV h.next e.res) ⟨h.next + e.cnt, addAll h.next e.objs h.tr⟩ = true := hu
      refine Calls.mono (ent_use hok hv hW hF (hM _ _ hu)) fun x w' hx => ?_
      obtain ⟨χ, u, rfl, h1, h2, h3⟩ := hx
      exact ⟨_, _, χ, u, hu, rfl, h1, h2, h3⟩
    · exact body_sound hm hQ hN (callM_sound hm hQ hN hE n) (lin_callM _ es n) hd

/-- The same word for a law, by the evaluator that knows some calls. -/
theorem law_walkM (hro : Opq.ro = 0) {P : Program} {call : Nat → List AV → Heap → KH → Bool} (hC : CallOK P call) (hL : LinC call)
    {f : Nat} {avs : List AV} {args : Array Value} (hv : VRL noEmb avs args.toList) (hr : call f avs noHeap (fun v _ => onB v fun b => b) = true) (w : World) :
    Calls P f args w fun e w' => e = .returned (.bool true) ∧ w.keptBut w' (fun _ => False) := by
  rcases hL f avs noHeap with g | ⟨v, h', hn, g⟩
  · rw [g] at hr; cases hr
  · have ht : onB v (fun b => b) = true := (g _).symm.trans hr
    obtain ⟨b, rfl, hb⟩ := onB_true ht
    have hb : b = true := hb
    subst hb
    obtain ⟨_, hc⟩ := hC f avs noHeap (kEq (.b true) h') ((g _).trans (kEq_self _ _))
    refine Calls.mono (hc noEmb w h'.next args hv (start hro w) (fun id t l hl => (by cases hl)) fun x h2 hx => by rw [(kEq_true hx).2]; exact Nat.le_refl _) fun e w' he => ?_
    obtain ⟨x, h2, ψ, u, hx, rfl, hu, _, hS⟩ := he
    obtain ⟨rfl, rfl⟩ := kEq_true hx
    rw [VR_b.1 hu]
    exact ⟨rfl, kept hS⟩
end Go.AE
