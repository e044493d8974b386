/- Regions whose order is open: the invariants. -/
import Derived.Test.YtodlgflkhcknaaaAFReg4
namespace Go.AE
set_option linter.unusedVariables false
variable {oq : Unit} [Opq oq]
open Go

noncomputable def locAt (f : Nat → Nat) : Nat → List Nat
  | 0 => []
  | i + 1 => f i :: locAt f i
def dstAt (ops : Array Oper) (i : Nat) : Option Nat := (ops[i]?).bind (·.dst)
noncomputable def slotAt (ops : Array Oper) (i : Nat) : Nat := slotOf (dstAt ops i)
/-- What a slot holds before an operation, in the text's order. -/
noncomputable def CS (X : CX) (ops : Array Oper) (fr0 : Fr) (V : Nat → AV) : Nat → Nat → Option AV
  | 0, t => if X.lv.get t = some () then fr0.get t else none
  | i + 1, t => if dstAt ops i = some t then some (V i) else CS X ops fr0 V i t

/-- The slots that an operation looks at. -/
def looks (ops : Array Oper) (o : Oper) (t : Nat) : Prop := .tmp t ∈ o.op.operands ∨ ∃ j want g, o.guard = some (j, want) ∧ ops[j]? = some g ∧ g.dst = some t

structure DC (P : Program) (X : CX) (call : Nat → List AV → Heap → KH → Bool) (ops : Array Oper) (cl : List COper) (di : List DI) (bef : Nat → Nat) (E : Nat → Env) (H : Nat → Heap) (V : Nat → AV) (W : Nat → Bool) (fr0 : Fr) : Prop where
  g : Good P X call
  len : cl.length = ops.size
  dlen : di.length = cl.length
  ok : ∀ (i : Nat) (o : Oper), ops[i]? = some o → ∃ c d, cl[i]? = some c ∧ di[i]? = some d ∧ DOk ops o c i bef d ∧ cOp (X.at (locAt (slotAt ops) i)) o.op o.type = some c.op ∧ liveOf X o.dst = some c.live ∧
    guardOf (X.at (locAt (slotAt ops) i)) ops o c.guard
  pair : ∀ (i j : Nat) (x y : DI), i < j → di[i]? = some x → di[j]? = some y → pairOK x y = true
  tra : Tra call cl E H V W
  e0 : E 0 = ⟨fr0, []⟩
  lohi : ∀ (i : Nat) (c : COper) (x : DI), cl[i]? = some c → di[i]? = some x → c.lo = countD (fun e => andB e.ef (Nat.testBit x.bef e.i)) di 0 ∧ c.hi = countD (fun e => andB e.ef (notB (Nat.testBit e.bef x.i))) di 0
  chk : ∀ (i : Nat) (c : COper) (r : ROp), cl[i]? = some c → c.op = .rd r → W i = true → c.lo ≠ c.hi → Chk (stg cl H) ⟨r, E i, V i, c.lo, c.hi⟩

section
variable {P : Program} {X : CX} {call : Nat → List AV → Heap → KH → Bool} {ops : Array Oper} {cl : List COper} {di : List DI} {bef : Nat → Nat} {E : Nat → Env} {H : Nat → Heap} {V : Nat → AV} {W : Nat → Bool} {fr0 : Fr}

theorem DC.oper (D : DC P X call ops cl di bef E H V W fr0) {i : Nat} {c : COper} (hc : cl[i]? = some c) : ∃ o, ops[i]? = some o := by
  have : i < ops.size := by rw [← D.len]; exact (List.getElem?_eq_some_iff.1 hc).1
  exact ⟨ops[i], Array.getElem?_eq_getElem this⟩

theorem DC.bef_lt (D : DC P X call ops cl di bef E H V W fr0) : ∀ (i j : Nat) (o : Oper), ops[i]? = some o → (bef i).testBit j = true → j < i := by
  intro i
  induction i using Nat.strongRecOn with
  | _ i ih =>
    intro j o ho hb
    obtain ⟨c, d, _, _, dk, _⟩ := D.ok i o ho
    rw [dk.befs] at hb
    obtain ⟨e, he, hbd, h1⟩ := dk.back j hb
    have hlt := dk.lt e he hbd
    rcases h1 with rfl | h1
    · exact hlt
    · have hi : i < ops.size := (Array.getElem?_eq_some_iff.1 ho).1
      have := ih e.on hlt j ops[e.on] (Array.getElem?_eq_getElem (by omega)) h1
      omega

/-- Two operations: the first is before the second in any order, or they leave each other alone. -/
theorem DC.apart (D : DC P X call ops cl di bef E H V W fr0) {i j : Nat} {oi oj : Oper} {ci cj : COper} (hij : i < j) (hi : ops[i]? = some oi) (hj : ops[j]? = some oj) (hci : cl[i]? = some ci) (hcj : cl[j]? = some cj) :
    (bef j).testBit i = true ∨ ((∀ t, oi.dst = some t → ¬ looks ops oj t) ∧ (∀ t, oi.dst = some t → oj.dst ≠ some t) ∧ (∀ t, oj.dst = some t → ¬ looks ops oi t) ∧ (isEf cj.op = true → isEf ci.op = false ∧ isAl ci.op = false)) := by
  obtain ⟨c, x, h1, h2, dx, _⟩ := D.ok i oi hi
  obtain ⟨c', y, h3, h4, dy, _⟩ := D.ok j oj hj
  rw [hci] at h1; cases h1
  rw [hcj] at h3; cases h3
  rw [dy.befs]
  have lk : ∀ {o : Oper} {c : COper} {i : Nat} {d : DI}, DOk ops o c i bef d → ∀ t, looks ops o t → d.look.testBit (t + 1) = true := fun dk t ht => by
    rcases ht with ht | ⟨j, want, g, hg, hj, hd⟩
    · exact dk.look t ht
    · exact dk.guard j want g t hg hj hd
  rcases pair_parts (D.pair i j x y hij h2 h4) with h | ⟨a, b, c, d⟩
  · left; rw [dx.no] at h; exact h
  · right
    refine ⟨fun t ht hl => a _ (dx.dst t ht) (lk dy t hl), fun t ht hl => b _ (dx.dst t ht) (dy.dst t hl), fun t ht hl => c _ (dy.dst t ht) (lk dx t hl), fun he => ?_⟩
    rw [← dx.ef, ← dx.al]; exact d (by rw [dy.ef]; exact he)

/-- What has run: it is closed under 'before'. -/
def Closed (bef : Nat → Nat) (L : Nat → Prop) : Prop := ∀ i, L i → ∀ j, (bef i).testBit j = true → L j

structure Ready (ops : Array Oper) (L : Nat → Prop) (q : Nat) (o : Oper) : Prop where
  here : ops[q]? = some o
  not : ¬ L q
  edges : ∀ e ∈ o.after, Region.binds .any e = true → L e.on

theorem DC.done (D : DC P X call ops cl di bef E H V W fr0) {L : Nat → Prop} (hL : Closed bef L) {q : Nat} {o : Oper} (hr : Ready ops L q o) : ∀ j, (bef q).testBit j = true → L j := by
  intro j hj
  obtain ⟨c, d, _, _, dk, _⟩ := D.ok q o hr.here
  rw [dk.befs] at hj
  obtain ⟨e, he, hb, h1⟩ := dk.back j hj
  rcases h1 with rfl | h1
  · exact hr.edges e he hb
  · exact hL _ (hr.edges e he hb) _ h1

/- Slots. -/
theorem DC.cs_loc (D : DC P X call ops cl di bef E H V W fr0) : ∀ (i : Nat), i ≤ cl.length → ∀ (t j : Nat) (v : AV), whereIs t (locAt (slotAt ops) i) 0 = some j → (E i).ls[j]? = some v → CS X ops fr0 V i t = some v
  | 0, _, t, j, v, h, _ => by cases h
  | i + 1, hi, t, j, v, h, hv => by
    have hlt : i < cl.length := hi
    rw [D.tra.env i cl[i] (List.getElem?_eq_getElem hlt)] at hv
    rw [CS]
    rcases whereIs_cons (show whereIs t (slotAt ops i :: locAt (slotAt ops) i) 0 = some j from h) with ⟨h1, rfl⟩ | ⟨h1, j, rfl, h2⟩
    · have hd : dstAt ops i = some t := by
        unfold slotAt at h1
        cases hd : dstAt ops i with
        | none => rw [hd] at h1; cases h1
        | some d => rw [hd] at h1; have : d + 1 = t + 1 := h1; rw [show d = t from by omega]
      rw [if_pos hd]; exact hv
    · rw [if_neg (fun hd => h1 (by unfold slotAt; rw [hd]; rfl))]
      exact D.cs_loc i (by omega) t j v h2 (by simpa [putE] using hv)

theorem DC.cs_fr (D : DC P X call ops cl di bef E H V W fr0) : ∀ (i : Nat), i ≤ cl.length → ∀ (t : Nat) (v : AV), X.lv.get t = some () → (E i).fr.get t = some v → CS X ops fr0 V i t = some v
  | 0, _, t, v, h, hv => by rw [CS, if_pos h]; rw [D.e0] at hv; exact hv
  | i + 1, hi, t, v, h, hv => by
    have hlt : i < cl.length := hi
    have hci := List.getElem?_eq_getElem hlt
    rw [D.tra.env i cl[i] hci] at hv
    obtain ⟨o, ho⟩ := D.oper hci
    obtain ⟨c, d, h1, _, _, _, hl, _⟩ := D.ok i o ho
    rw [hci] at h1
    have hcc : cl[i] = c := by simpa using h1
    rw [hcc] at hv
    have hd : dstAt ops i = o.dst := by unfold dstAt; rw [ho]; rfl
    rw [CS, hd]
    rcases live_parts hl with ⟨h2, h3⟩ | ⟨t', h2, h3, h4⟩
    · rw [h2, if_neg (by simp)]; rw [h3] at hv; exact D.cs_fr i (by omega) t v h hv
    · rw [h2]
      rcases h4 with ⟨h4, h5⟩ | ⟨h4, h5⟩
      · rw [h5] at hv
        have hv : (T.set (V i) (E i).fr t').get t = some v := hv
        rw [get_set] at hv
        by_cases e : t = t'
        · rw [if_pos e] at hv; rw [if_pos (by rw [e])]; exact hv
        · rw [if_neg e] at hv; rw [if_neg (by simp; exact fun x => e x.symm)]; exact D.cs_fr i (by omega) t v h hv
      · rw [h5] at hv
        have : t' ≠ t := by rintro rfl; rw [h4] at h; cases h
        rw [if_neg (by simpa using this)]; exact D.cs_fr i (by omega) t v h hv

def writes (ops : Array Oper) (x t : Nat) : Prop := dstAt ops x = some t

/-- Each slot holds what it should where those that have written it are the first of its writers. -/
def Slots (X : CX) (ops : Array Oper) (fr0 : Fr) (V : Nat → AV) (L : Nat → Prop) (φ : Emb) (a : Act) : Prop :=
  ∀ t i, i ≤ ops.size → (∀ x, x < ops.size → writes ops x t → (x < i ↔ L x)) → ∀ v, CS X ops fr0 V i t = some v → VR φ v (a.tmps.getD t undef)

theorem writes_iff {x t : Nat} {o : Oper} (h : ops[x]? = some o) : writes ops x t ↔ o.dst = some t := by unfold writes dstAt; rw [h]; rfl

theorem get_of_lt {x : Nat} (h : x < ops.size) : ∃ o, ops[x]? = some o := ⟨ops[x], Array.getElem?_eq_getElem h⟩

theorem DC.cl_of (D : DC P X call ops cl di bef E H V W fr0) {x : Nat} {o : Oper} (h : ops[x]? = some o) : ∃ c, cl[x]? = some c := let ⟨c, _, h1, _⟩ := D.ok x o h; ⟨c, h1⟩

/-- An operation that may run finds in the slots it looks at what it finds there in the text's order. -/
theorem DC.sees (D : DC P X call ops cl di bef E H V W fr0) {L : Nat → Prop} (hL : Closed bef L) {q : Nat} {o : Oper} (hr : Ready ops L q o) {φ : Emb} {a : Act} (hS : Slots X ops fr0 V L φ a) :
    ∀ t, looks ops o t → ∀ v, CS X ops fr0 V q t = some v → VR φ v (a.tmps.getD t undef) := by
  intro t ht
  have hq : q < ops.size := (Array.getElem?_eq_some_iff.1 hr.here).1
  obtain ⟨cq, hcq⟩ := D.cl_of hr.here
  refine hS t q (by omega) fun x hx hw => ?_
  obtain ⟨ox, hox⟩ := get_of_lt hx
  obtain ⟨cx, hcx⟩ := D.cl_of hox
  rw [writes_iff hox] at hw
  constructor
  · intro hlt
    rcases D.apart hlt hox hr.here hcx hcq with h | ⟨h, _⟩
    · exact D.done hL hr x h
    · exact absurd ht (h t hw)
  · intro hLx
    rcases Nat.lt_trichotomy x q with h | h | h
    · exact h
    · subst h; exact absurd hLx hr.not
    · rcases D.apart h hr.here hox hcq hcx with h1 | ⟨_, _, h1, _⟩
      · exact absurd (hL x hLx q h1) hr.not
      · exact absurd ht (h1 t hw)

theorem DC.slots_next (D : DC P X call ops cl di bef E H V W fr0) {L : Nat → Prop} (hL : Closed bef L) {q : Nat} {o : Oper} (hr : Ready ops L q o) {φ : Emb} {a : Act} (hS : Slots X ops fr0 V L φ a) {u : Value} (hu : VR φ (V q) u)
    (hn : X.nt ≤ a.tmps.size) : Slots X ops fr0 V (fun i => i = q ∨ L i) φ (a.put o.dst u) := by
  intro t i hi hw v hv
  have hq : q < ops.size := (Array.getElem?_eq_some_iff.1 hr.here).1
  obtain ⟨cq, d, hcq, _, _, _, hlive, _⟩ := D.ok q o hr.here
  by_cases hd : o.dst = some t
  · have hlt : t < a.tmps.size := by
      rcases live_parts hlive with ⟨h, _⟩ | ⟨t', h, h2, _⟩
      · rw [h] at hd; cases hd
      · rw [h] at hd; cases hd; omega
    rw [hd, put_here hlt]
    have hqi : q < i := (hw q hq ((writes_iff hr.here).2 hd)).2 (.inl rfl)
    have key : ∀ j, q < j → j ≤ i → CS X ops fr0 V j t = some (V q) := fun j h1 h2 => by
      induction j with
      | zero => omega
      | succ j ih =>
        rw [CS]
        by_cases e : q = j
        · subst e; rw [if_pos (show dstAt ops q = some t from (writes_iff hr.here).2 hd)]
        · rw [if_neg, ih (by omega) (by omega)]
          intro hwj
          have hj : j < ops.size := by omega
          have hLj : L j := ((hw j hj hwj).1 (by omega)).resolve_left (fun x => e x.symm)
          obtain ⟨oj, hoj⟩ := get_of_lt hj
          obtain ⟨cj, hcj⟩ := D.cl_of hoj
          have hdj : oj.dst = some t := (writes_iff hoj).1 hwj
          rcases D.apart (by omega : q < j) hr.here hoj hcq hcj with h3 | ⟨_, h3, _⟩
          · exact hr.not (hL j hLj q h3)
          · exact h3 t hd hdj
    rw [key i hqi (Nat.le_refl _)] at hv
    cases hv; exact hu
  · rw [put_there hd]
    refine hS t i hi (fun x hx hwx => ?_) v hv
    have hne : x ≠ q := by rintro rfl; exact hd ((writes_iff hr.here).1 hwx)
    rw [hw x hx hwx]
    constructor
    · rintro (h | h)
      · exact absurd h hne
      · exact h
    · exact .inr

theorem Slots.mono {L : Nat → Prop} {φ ψ : Emb} {a : Act} (h : Slots X ops fr0 V L φ a) (hs : Sub φ ψ) : Slots X ops fr0 V L ψ a := fun t i hi hw v hv => VR_mono hs _ _ (h t i hi hw v hv)

theorem where_pick (p : Nat → Prop) [DecidablePred p] (t : Nat) : ∀ (l : List Nat) (n : Nat), whereIs t (l.map fun x => if p (x - 1) then x else 0) n = if p t then whereIs t l n else none := by
  intro l
  induction l with
  | nil => intro n; split <;> rfl
  | cons x l ih =>
    intro n
    show @Bool.rec (fun _ => Option Nat) (whereIs t (l.map fun x => if p (x - 1) then x else 0) (n + 1)) (some n) (Nat.beq (if p (x - 1) then x else 0) (t + 1)) =
      if p t then @Bool.rec (fun _ => Option Nat) (whereIs t l (n + 1)) (some n) (Nat.beq x (t + 1)) else none
    rw [ih]
    by_cases hx : x = t + 1
    · subst hx
      rw [show t + 1 - 1 = t from by omega]
      by_cases hp : p t
      · rw [if_pos hp, if_pos hp, if_pos hp, beq_self]
      · rw [if_neg hp, if_neg hp, if_neg hp]
        cases hb : Nat.beq 0 (t + 1)
        · rfl
        · exact absurd (beq_eq hb) (by omega)
    · have h1 : Nat.beq x (t + 1) = false := by cases hb : Nat.beq x (t + 1) <;> first | rfl | exact absurd (beq_eq hb) hx
      have h2 : Nat.beq (if p (x - 1) then x else 0) (t + 1) = false := by
        cases hb : Nat.beq (if p (x - 1) then x else 0) (t + 1)
        · rfl
        · have := beq_eq hb; split at this <;> omega
      rw [h1, h2]

theorem tmp_bound : ∀ l : List Operand, ∃ B : Nat, ∀ t : Nat, Operand.tmp t ∈ l → t < B
  | [] => ⟨0, fun t h => by cases h⟩
  | x :: l => by
    obtain ⟨B, hB⟩ := tmp_bound l
    cases x with
    | tmp n =>
      refine ⟨B + n + 1, fun t h => ?_⟩
      cases h with
      | head => omega
      | tail _ h => have := hB t h; omega
    | _ => exact ⟨B, fun t h => by cases h with
      | tail _ h => exact hB t h⟩

theorem looks_bound (o : Oper) : ∃ B : Nat, ∀ t : Nat, looks ops o t → t < B := by
  obtain ⟨B, hB⟩ := tmp_bound o.op.operands.toList
  cases hg : o.guard with
  | none =>
    refine ⟨B, fun t h => ?_⟩
    rcases h with h | ⟨j, want, g, h1, _⟩
    · exact hB t (by simpa using h)
    · rw [hg] at h1; cases h1
  | some p =>
    obtain ⟨j, want⟩ := p
    refine ⟨B + (dstAt ops j).getD 0 + 1, fun t h => ?_⟩
    rcases h with h | ⟨j', want', g, h1, h2, h3⟩
    · have := hB t (by simpa using h); omega
    · rw [hg] at h1; cases h1
      have : dstAt ops j = some t := by unfold dstAt; rw [h2]; exact h3
      rw [this]; simp only [Option.getD_some]; omega

/-- An operation that may run, made ready as if it saw only the slots it looks at. -/
theorem DC.env (D : DC P X call ops cl di bef E H V W fr0) {q : Nat} {o : Oper} {c : COper} (ho : ops[q]? = some o) (hc : cl[q]? = some c) {φ : Emb} {a : Act}
    (hS : ∀ t, looks ops o t → ∀ v, CS X ops fr0 V q t = some v → VR φ v (a.tmps.getD t undef)) :
    ∃ Y : CX, Good P Y call ∧ cOp Y o.op o.type = some c.op ∧ guardOf Y ops o c.guard ∧ ER Y φ (E q) a := by
  obtain ⟨c', d, h1, _, _, hop, _, hgd⟩ := D.ok q o ho
  rw [hc] at h1; cases h1
  obtain ⟨B, hB⟩ := looks_bound (ops := ops) o
  have hq : q ≤ cl.length := Nat.le_of_lt (List.getElem?_eq_some_iff.1 hc).1
  have dec : DecidablePred (looks ops o) := fun _ => Classical.propDecidable _
  let f : Nat → Option Unit := fun t => if looks ops o t then X.lv.get t else none
  let Y : CX := ⟨X.ty, X.eqs, mkT f B, (locAt (slotAt ops) q).map fun x => if looks ops o (x - 1) then x else 0, X.nt⟩
  have hlv : ∀ t, looks ops o t → (mkT f B).get t = X.lv.get t := fun t ht => by rw [get_mkT, if_pos (hB t ht)]; exact if_pos ht
  have hw : ∀ t, whereIs t Y.loc 0 = if looks ops o t then whereIs t (locAt (slotAt ops) q) 0 else none := fun t => where_pick (looks ops o) t _ 0
  have hopd : ∀ t, looks ops o t → cOpd (X.at (locAt (slotAt ops) q)) (.tmp t) = cOpd Y (.tmp t) := fun t ht => by
    have h2 : whereIs t Y.loc 0 = whereIs t (X.at (locAt (slotAt ops) q)).loc 0 := by rw [hw t, if_pos ht]; rfl
    have h3 : Y.lv.get t = (X.at (locAt (slotAt ops) q)).lv.get t := hlv t ht
    simp only [cOpd, h2, h3]
  refine ⟨Y, ⟨D.g.ty, D.g.eqs, D.g.ok, D.g.lin⟩, ?_, ?_, ⟨fun t j hj v hv => ?_, fun t ht v hv => ?_⟩⟩
  · rw [← hop]
    refine (cOp_congr (X := X.at (locAt (slotAt ops) q)) (Y := Y) rfl rfl fun x hx => ?_).symm
    cases x with
    | tmp t => exact hopd t (.inl hx)
    | _ => rfl
  · unfold guardOf at hgd ⊢
    cases hg : o.guard with
    | none => simp only [hg] at hgd ⊢; exact hgd
    | some p =>
      obtain ⟨j, want⟩ := p
      simp only [hg] at hgd ⊢
      obtain ⟨g, t, hj, ht, he⟩ := hgd
      exact ⟨g, t, hj, ht, by rw [he, hopd t (.inr ⟨j, want, g, hg, hj, ht⟩)]⟩
  · rw [hw t] at hj
    split at hj
    · rename_i hl; exact hS t hl v (D.cs_loc q hq t j v hj hv)
    · cases hj
  · have ht : (mkT f B).get t = some () := ht
    rw [get_mkT] at ht
    split at ht
    · have ht : (if looks ops o t then X.lv.get t else none) = some () := ht
      split at ht
      · rename_i hl; exact hS t hl v (D.cs_fr q hq t v ht hv)
      · cases ht
    · cases ht
end
end Go.AE
