/- Regions whose order is open: what their making-ready tells. -/
import Derived.Test.YtodlgflkhcknaaaAFReg1
namespace Go.AE
set_option linter.unusedVariables false
variable {oq : Unit} [Opq oq]
open Go

/- What is made ready depends on the operands alone. -/
section
variable {X Y : CX}
theorem places_congr (ht : X.ty = Y.ty) (fs : Array Field) : ∀ l : List (Nat × Operand), (∀ x ∈ l.map (·.2), cOpd X x = cOpd Y x) → places X fs l = places Y fs l
  | [], _ => rfl
  | (i, x) :: l, h => by
    have h1 := places_congr ht fs l fun y hy => h y (List.mem_cons_of_mem _ hy)
    have h2 : cOpd X x = cOpd Y x := h x (by simp)
    simp only [places, h1, h2, ht]
theorem placesA_congr (n : Nat) : ∀ l : List (Nat × Operand), (∀ x ∈ l.map (·.2), cOpd X x = cOpd Y x) → placesA X n l = placesA Y n l
  | [], _ => rfl
  | (i, x) :: l, h => by
    have h1 := placesA_congr n l fun y hy => h y (List.mem_cons_of_mem _ hy)
    have h2 : cOpd X x = cOpd Y x := h x (by simp)
    simp only [placesA, h1, h2]
theorem map_congr (l : List Operand) (h : ∀ x ∈ l, cOpd X x = cOpd Y x) : l.map (cOpd X) = l.map (cOpd Y) := List.map_congr_left h

theorem cNil_congr (neg : Bool) (c : Nat) {x y : Operand} (hx : cOpd X x = cOpd Y x) (hy : cOpd X y = cOpd Y y) : cNil X neg c x y = cNil Y neg c x y := by
  unfold cNil; rw [hx, hy]
theorem cEq_congr (ht : X.ty = Y.ty) (he : X.eqs = Y.eqs) (neg : Bool) (t : TypeId) (d : TypeDesc) {x y : Operand} (hx : cOpd X x = cOpd Y x) (hy : cOpd X y = cOpd Y y) : cEq X neg t d x y = cEq Y neg t d x y := by
  unfold cEq; simp only [hx, hy, ht, he, cNil_congr neg _ hx hy]
theorem cBin_congr (ht : X.ty = Y.ty) (he : X.eqs = Y.eqs) (op : BinOp) (t : TypeId) {x y : Operand} (hx : cOpd X x = cOpd Y x) (hy : cOpd X y = cOpd Y y) : cBin X op t x y = cBin Y op t x y := by
  unfold cBin; simp only [hx, hy, ht, cEq_congr ht he _ t _ hx hy]
theorem cConv_congr (ht : X.ty = Y.ty) (s d : TypeId) {x : Operand} (hx : cOpd X x = cOpd Y x) : cConv X s d x = cConv Y s d x := by
  unfold cConv; simp only [hx, ht]
theorem cBuild_congr (ht : X.ty = Y.ty) (t : TypeId) (l : List (Nat × Operand)) (h : ∀ x ∈ l.map (·.2), cOpd X x = cOpd Y x) : cBuild X t l = cBuild Y t l := by
  unfold cBuild; simp only [ht, places_congr ht _ l h, placesA_congr _ l h]
theorem cCall_congr (ht : X.ty = Y.ty) (c : Call) (t : TypeId) (h : ∀ x ∈ c.operands, cOpd X x = cOpd Y x) : cCall X c t = cCall Y c t := by
  obtain ⟨callee, args, argTypes⟩ := c
  obtain ⟨args⟩ := args
  have ha : ∀ x ∈ args, cOpd X x = cOpd Y x := fun x hx => h x (by simp [Call.operands, hx])
  unfold cCall
  cases callee with
  | value f => have hf : cOpd X f = cOpd Y f := h f (by simp [Call.operands]); simp only [hf, map_congr args ha]
  | invoke r m => rfl
  | builtin b =>
    have hi : isIntT X t = isIntT Y t := by unfold isIntT; rw [ht]
    obtain ⟨argTypes⟩ := argTypes
    cases b <;> try rfl
    all_goals
      rcases args with _ | ⟨x, _ | ⟨y, _ | ⟨z, rest⟩⟩⟩ <;> rcases argTypes with _ | ⟨p, _ | ⟨q, _ | ⟨r, more⟩⟩⟩ <;> try rfl
    all_goals
      try have hx : cOpd X x = cOpd Y x := ha x (by simp)
      try have hy : cOpd X y = cOpd Y y := ha y (by simp)
      first
        | (simp only [cApp, ht, hx, hy]; done)
        | (simp only [cCopy, ht, hx, hy]; done)
        | (simp only [cLen, ht, hx]; done)
        | (simp only [hi]; cases isIntT Y t <;> first | rfl | (simp only [hx, hy]; done))

theorem cOp_congr (ht : X.ty = Y.ty) (he : X.eqs = Y.eqs) {o : Op} {t : TypeId} (h : ∀ x ∈ o.operands, cOpd X x = cOpd Y x) : cOp X o t = cOp Y o t := by
  have hk : keyT X = keyT Y := by funext t; unfold keyT; rw [ht]
  cases o <;> simp only [Op.operands] at h <;> simp only [cOp, hk]
  case build t ps => exact cBuild_congr ht _ _ fun x hx => h x (by simpa using hx)
  case buildSlice t n ps => simp only [ht, placesA_congr _ ps.toList fun x hx => h x (by simpa using hx)]
  case makeFunc fn first captured =>
    simp only [map_congr first.toList fun x hx => h x (by simp at hx; simp [hx]), map_congr captured.toList fun x hx => h x (by simp at hx; simp [hx])]
  case call c => exact cCall_congr ht c _ h
  case binOp op t x y z => exact cBin_congr ht he _ _ (h x (by simp)) (h y (by simp))
  case convert s d x => exact cConv_congr ht _ _ (h x (by simp))
  case slice t x lo hi mx =>
    have hx : cOpd X x = cOpd Y x := h x (by simp)
    have hl : lo.map (cOpd X) = lo.map (cOpd Y) := by cases lo with
      | none => rfl
      | some y => exact congrArg some (h y (by simp))
    have hh : hi.map (cOpd X) = hi.map (cOpd Y) := by cases hi with
      | none => rfl
      | some y => exact congrArg some (h y (by simp))
    have hm : mx.map (cOpd X) = mx.map (cOpd Y) := by cases mx with
      | none => rfl
      | some y => exact congrArg some (h y (by simp))
    have hh' : ∀ y, hi = some y → cOpd X y = cOpd Y y := fun y hy => h y (by simp [hy])
    have hm' : ∀ y, mx = some y → cOpd X y = cOpd Y y := fun y hy => h y (by simp [hy])
    rw [ht, hx, hl]
    cases undT Y.ty t with
    | none => rfl
    | some d =>
      cases d <;> try rfl
      · simp only [hh]
      · rename_i e
        simp only []
        cases sizeT Y.ty e with
        | none => rfl
        | some s => cases hi with
          | none => cases mx <;> rfl
          | some y => cases mx with
            | none => simp only [Option.map, hh' y rfl]
            | some z => simp only [hh' y rfl, hm' z rfl]
  all_goals (first
    | rfl
    | (simp only [ht]; done)
    | (rename_i x; simp only [ht, h x (by simp)]; done)
    | (rename_i x _; simp only [ht, h x (by simp)]; done)
    | (rename_i x y; simp only [ht, h x (by simp), h y (by simp)]; done)
    | (rename_i x y _; simp only [ht, h x (by simp), h y (by simp)]; done)
    | (rename_i x y z; simp only [ht, h x (by simp), h y (by simp), h z (by simp)]; done))
end

/- Bits. -/
theorem testBit_bit (n j : Nat) : (bit n).testBit j = decide (n = j) := by
  show (1 <<< n).testBit j = _
  rw [Nat.shiftLeft_eq, Nat.one_mul, Nat.testBit_two_pow]
theorem testBit_or (a b j : Nat) : (Nat.lor a b).testBit j = (a.testBit j || b.testBit j) := Nat.testBit_or a b j
theorem land_zero {a b : Nat} (h : Nat.beq (Nat.land a b) 0 = true) (j : Nat) (ha : a.testBit j = true) (hb : b.testBit j = true) : False := by
  have h1 : a &&& b = 0 := beq_eq h
  have h2 : (a &&& b).testBit j = true := by rw [Nat.testBit_and, ha, hb]; rfl
  rw [h1] at h2; simp at h2

theorem mask_mono : ∀ (l : List Operand) (m j : Nat), m.testBit j = true → (maskOf l m).testBit j = true
  | [], _, _, h => h
  | .tmp t :: l, m, j, h => mask_mono l _ j (by rw [testBit_or, h, Bool.or_true])
  | .const _ :: l, m, j, h => mask_mono l m j h
  | .global _ :: l, m, j, h => mask_mono l m j h
  | .func _ :: l, m, j, h => mask_mono l m j h
theorem mask_mem : ∀ (l : List Operand) (m t : Nat), .tmp t ∈ l → (maskOf l m).testBit (t + 1) = true
  | x :: l, m, t, h => by
    cases h with
    | head => exact mask_mono l _ _ (by rw [testBit_or, testBit_bit]; simp)
    | tail _ h => cases x <;> exact mask_mem l _ t h

theorem bef_bits {acc : T Nat} : ∀ (l : List Edge) (m j : Nat), (befOf acc l m).testBit j = true →
    m.testBit j = true ∨ ∃ e ∈ l, Region.binds .any e = true ∧ (j = e.on ∨ ∃ b, acc.get e.on = some b ∧ b.testBit j = true)
  | [], m, j, h => .inl h
  | e :: l, m, j, h => by
    unfold befOf at h
    split at h
    · rename_i hb
      rcases bef_bits l _ j h with h1 | ⟨e', he', h1⟩
      · rw [testBit_or, testBit_or, testBit_bit] at h1
        simp only [Bool.or_eq_true, decide_eq_true_eq] at h1
        rcases h1 with (h1 | h1) | h1
        · exact .inr ⟨e, List.mem_cons_self, hb, .inl h1.symm⟩
        · cases hg : acc.get e.on with
          | none => rw [hg] at h1; simp at h1
          | some b => rw [hg] at h1; exact .inr ⟨e, List.mem_cons_self, hb, .inr ⟨b, hg, h1⟩⟩
        · exact .inl h1
      · exact .inr ⟨e', List.mem_cons_of_mem _ he', h1⟩
    · rcases bef_bits l m j h with h1 | ⟨e', he', h1⟩
      · exact .inl h1
      · exact .inr ⟨e', List.mem_cons_of_mem _ he', h1⟩
theorem edges_lt {i : Nat} : ∀ {l : List Edge}, edgesOK i l = true → ∀ e ∈ l, Region.binds .any e = true → e.on < i
  | e :: l, h, e', he, hb => by
    unfold edgesOK at h
    cases he with
    | head => rw [hb] at h; simp only [andB_eq, Bool.and_eq_true] at h; exact ble_le h.1
    | tail _ he =>
      split at h
      · simp only [andB_eq, Bool.and_eq_true] at h; exact edges_lt h.2 e' he hb
      · exact edges_lt h e' he hb

/-- What is known of each operation of a region. -/
structure DOk (ops : Array Oper) (o : Oper) (c : COper) (i : Nat) (bef : Nat → Nat) (d : DI) : Prop where
  no : d.i = i
  dst : ∀ t, o.dst = some t → d.dst.testBit (t + 1) = true
  look : ∀ t, .tmp t ∈ o.op.operands → d.look.testBit (t + 1) = true
  guard : ∀ j want g t, o.guard = some (j, want) → ops[j]? = some g → g.dst = some t → d.look.testBit (t + 1) = true
  lt : ∀ e ∈ o.after, Region.binds .any e = true → e.on < i
  back : ∀ j, d.bef.testBit j = true → ∃ e ∈ o.after, Region.binds .any e = true ∧ (j = e.on ∨ (bef e.on).testBit j = true)
  befs : bef i = d.bef
  al : d.al = isAl c.op
  ef : d.ef = isEf c.op

theorem bitS_some (t : Nat) : (bitS (slotOf (some t))).testBit (t + 1) = true := by
  show (bit (t + 1)).testBit (t + 1) = true
  rw [testBit_bit]; simp

theorem dInfo_spec {ops : Array Oper} : ∀ (l : List Oper) (cl : List COper) (i : Nat) (acc : T Nat) (di : List DI), dInfo ops l cl i acc = some di →
    l.length = cl.length ∧ di.length = cl.length ∧ ∃ bef : Nat → Nat, (∀ j, j < i → bef j = (acc.get j).getD 0) ∧
      ∀ (j : Nat) (o : Oper) (c : COper) (d : DI), l[j]? = some o → cl[j]? = some c → di[j]? = some d → DOk ops o c (i + j) bef d
  | [], [], i, acc, di, h => by cases h; exact ⟨rfl, rfl, fun j => (acc.get j).getD 0, fun _ _ => rfl, fun j o c d h => by cases h⟩
  | [], c :: cl, i, acc, di, h => by cases h
  | o :: l, [], i, acc, di, h => by cases h
  | o :: l, c :: cl, i, acc, di, h => by
    unfold dInfo at h
    split at h
    · cases h
    · rename_i he
      split at h
      · cases h
      · rename_i r hr
        cases h
        obtain ⟨h1, h2, bef, hb, hall⟩ := dInfo_spec l cl (i + 1) _ r hr
        refine ⟨by simp [h1], by simp [h2], bef, fun j hj => ?_, fun j o' c' d ho hc hd => ?_⟩
        · rw [hb j (by omega), get_set, if_neg (by omega)]
        · cases j with
          | zero =>
            cases ho; cases hc; cases hd
            refine ⟨rfl, fun t ht => ?_, fun t ht => mask_mem _ _ t (by simpa using ht), fun j want g t hg hj ht => ?_, fun e hm hbd => edges_lt he e (by simpa using hm) hbd, fun j hj => ?_, ?_, rfl, rfl⟩
            · rw [ht]; exact bitS_some t
            · simp only [hg, hj, ht]
              exact mask_mono _ _ _ (bitS_some t)
            · rcases bef_bits _ _ _ hj with h3 | ⟨e, hm, hbd, h3⟩
              · simp at h3
              · have hlt := edges_lt he e hm hbd
                refine ⟨e, by simpa using hm, hbd, ?_⟩
                rcases h3 with h3 | ⟨b, h3, h4⟩
                · exact .inl h3
                · right; rw [hb e.on (by omega), get_set, if_neg (by omega), h3]; exact h4
            · show bef i = _; rw [hb i (by omega), get_set, if_pos rfl]; rfl
          | succ j =>
            have := hall j o' c' d (by simpa using ho) (by simpa using hc) (by simpa using hd)
            rw [show i + (j + 1) = i + 1 + j from by omega]; exact this

theorem pairs_spec : ∀ {l : List DI}, pairsOK l = true → ∀ (i j : Nat) (x y : DI), i < j → l[i]? = some x → l[j]? = some y → pairOK x y = true
  | z :: l, h, i, j, x, y, hij, hx, hy => by
    unfold pairsOK at h
    simp only [andB_eq, Bool.and_eq_true, List.all_eq_true] at h
    cases j with
    | zero => omega
    | succ j =>
      have hy : l[j]? = some y := by simpa using hy
      cases i with
      | zero => cases hx; exact h.1 y (List.mem_of_getElem? hy)
      | succ i => exact pairs_spec h.2 i j x y (by omega) (by simpa using hx) hy

theorem pair_parts {x y : DI} (h : pairOK x y = true) : y.bef.testBit x.i = true ∨
    ((∀ t, x.dst.testBit t = true → y.look.testBit t = true → False) ∧ (∀ t, x.dst.testBit t = true → y.dst.testBit t = true → False) ∧ (∀ t, y.dst.testBit t = true → x.look.testBit t = true → False) ∧
      (y.ef = true → x.ef = false ∧ x.al = false)) := by
  unfold pairOK at h
  cases hb : y.bef.testBit x.i with
  | true => exact .inl rfl
  | false =>
    right
    rw [hb] at h
    simp only [andB_eq, Bool.and_eq_true] at h
    obtain ⟨h1, h2, h3⟩ := h
    refine ⟨fun t a b => land_zero h1 t a (by rw [testBit_or, b, Bool.true_or]), fun t a b => land_zero h1 t a (by rw [testBit_or, b, Bool.or_true]), fun t a b => land_zero h2 t a b, fun hy => ?_⟩
    rw [hy] at h3
    cases hx : x.ef <;> rw [hx] at h3
    · refine ⟨rfl, ?_⟩
      have h3 : notB x.al = true := h3
      cases ha : x.al <;> rw [ha] at h3 <;> first | rfl | cases h3
    · cases h3

theorem lohi_cons (all : List DI) (x : DI) (ds : List DI) (c : COper) (cl : List COper) : withLoHi all (x :: ds) (c :: cl) =
    ⟨c.live, c.guard, c.op, countD (fun e => andB e.ef (Nat.testBit x.bef e.i)) all 0, countD (fun e => andB e.ef (notB (Nat.testBit e.bef x.i))) all 0⟩ :: withLoHi all ds cl := by rw [withLoHi]
theorem lohi_len (all : List DI) (ds : List DI) : ∀ {cl : List COper}, ds.length = cl.length → (withLoHi all ds cl).length = cl.length := by
  induction ds with
  | nil => intro cl h; cases cl with
    | nil => rfl
    | cons c cl => cases h
  | cons x ds ih => intro cl h; cases cl with
    | nil => cases h
    | cons c cl => rw [lohi_cons, List.length_cons, List.length_cons, ih (by simpa using h)]
theorem lohi_spec (all : List DI) (ds : List DI) : ∀ {cl : List COper}, ds.length = cl.length → ∀ (i : Nat) (c' : COper), (withLoHi all ds cl)[i]? = some c' → ∃ c x, cl[i]? = some c ∧ ds[i]? = some x ∧
    c'.live = c.live ∧ c'.guard = c.guard ∧ c'.op = c.op ∧ c'.lo = countD (fun e => andB e.ef (Nat.testBit x.bef e.i)) all 0 ∧ c'.hi = countD (fun e => andB e.ef (notB (Nat.testBit e.bef x.i))) all 0 := by
  induction ds with
  | nil => intro cl h i c' hc; cases cl with
    | nil => have hc : ([] : List COper)[i]? = some c' := hc; simp at hc
    | cons c cl => cases h
  | cons x ds ih => intro cl h i c' hc; cases cl with
    | nil => cases h
    | cons c cl =>
      rw [lohi_cons] at hc
      cases i with
      | zero =>
        rw [List.getElem?_cons_zero] at hc
        rw [← Option.some.inj hc]
        exact ⟨c, x, rfl, rfl, rfl, rfl, rfl, rfl, rfl⟩
      | succ i =>
        rw [List.getElem?_cons_succ] at hc
        obtain ⟨c2, x2, h1, h2, h3⟩ := ih (by simpa using h) i c' hc
        exact ⟨c2, x2, by rw [List.getElem?_cons_succ]; exact h1, by rw [List.getElem?_cons_succ]; exact h2, h3⟩
theorem countD_cons (f : DI → Bool) (x : DI) (l : List DI) (n : Nat) : countD f (x :: l) n = if f x = true then countD f l (n + 1) else countD f l n := by
  rw [countD]; cases f x <;> rfl
theorem countD_add (f : DI → Bool) (l : List DI) : ∀ n : Nat, countD f l n = countD f l 0 + n := by
  induction l with
  | nil => intro n; rw [countD, countD]; omega
  | cons x l ih =>
    intro n
    rw [countD_cons, countD_cons]
    split
    · rw [ih (n + 1), ih (0 + 1)]; omega
    · exact ih n
theorem countD_le {f g : DI → Bool} (l : List DI) : (∀ x ∈ l, f x = true → g x = true) → countD f l 0 ≤ countD g l 0 := by
  induction l with
  | nil => intro _; exact Nat.le_refl _
  | cons x l ih =>
    intro h
    have ih := ih fun y hy => h y (List.mem_cons_of_mem _ hy)
    have hx := h x List.mem_cons_self
    rw [countD_cons, countD_cons]
    split
    · rename_i hf
      rw [if_pos (hx hf), countD_add f l (0 + 1), countD_add g l (0 + 1)]; omega
    · split
      · rw [countD_add g l (0 + 1)]; omega
      · exact ih
end Go.AE
