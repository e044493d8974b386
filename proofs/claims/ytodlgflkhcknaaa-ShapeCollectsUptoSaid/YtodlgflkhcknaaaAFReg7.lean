/- Regions whose order is open: each operation, in any order; the region. -/
import Derived.Test.YtodlgflkhcknaaaAFReg6
namespace Go.AE
set_option linter.unusedVariables false
variable {oq : Unit} [Opq oq]
open Go

theorem sameV_eq : ∀ a v : AV, sameV a v = true → v = a := by
  intro a
  refine @AV.rec (fun a => ∀ v, sameV a v = true → v = a) (fun l => ∀ m, sameV (.agg l) (.agg m) = true → m = l) ?_ ?_ ?_ ?_ ?_ ?_ ?_ ?_ ?_ ?_ ?_ ?_ ?_ ?_ ?_ ?_ ?_ ?_ a
  · intro x v h
    obtain ⟨y, rfl, h⟩ := onB_true (show onB v (fun y => @Bool.rec (fun _ => Bool) (notB y) y x) = true from h)
    cases x <;> cases y <;> first | rfl | cases h
  · intro kd n v h
    obtain ⟨kd', m, rfl, h⟩ := onI_true (show onI v (fun kd' m => ite' (beqK kd kd') (beqI n m) false) = true from h)
    obtain ⟨h1, h2⟩ := ite'_and h
    rw [beqI_eq] at h2
    rw [beqK_eq h1, eq_of_beq h2]
  · intro n w v h
    obtain ⟨m, x, rfl, h⟩ := onS_true (show onS v (fun m x => beqS n w m x) = true from h)
    obtain ⟨h1, h2⟩ := ite'_and (show ite' (Nat.beq n m) (Nat.beq w x) false = true from h)
    rw [beq_eq h1, beq_eq h2]
  · intro v h; cases v <;> first | rfl | cases h
  · intro i t o v h
    obtain ⟨j, u, p, rfl, h⟩ := onP_true (show onP v (fun j u p => ite' (Nat.beq i j) (ite' (Nat.beq t u) (Nat.beq o p) false) false) = true from h)
    obtain ⟨h1, h⟩ := ite'_and h
    obtain ⟨h2, h3⟩ := ite'_and h
    rw [beq_eq h1, beq_eq h2, beq_eq h3]
  · intro v h; cases v <;> first | rfl | cases h
  · intro i t o n cp e v h
    rcases onSl_true (show onSl v false (fun j u p m cq f => ite' (Nat.beq i j) (ite' (Nat.beq t u) (ite' (Nat.beq o p) (ite' (Nat.beq n m) (ite' (Nat.beq e f)
      (@Option.rec Nat (fun _ => Bool) (@Option.rec Nat (fun _ => Bool) true (fun _ => false) cq) (fun x => @Option.rec Nat (fun _ => Bool) false (fun y => Nat.beq x y) cq) cp) false) false) false) false) false) = true from h) with ⟨_, h⟩ | ⟨j, u, p, m, cq, f, rfl, h⟩
    · cases h
    · obtain ⟨h1, h⟩ := ite'_and h
      obtain ⟨h2, h⟩ := ite'_and h
      obtain ⟨h3, h⟩ := ite'_and h
      obtain ⟨h4, h⟩ := ite'_and h
      obtain ⟨h5, h⟩ := ite'_and h
      have hc : cq = cp := by
        cases cp <;> cases cq <;> first
          | rfl
          | cases h
          | (rw [beq_eq h])
      rw [beq_eq h1, beq_eq h2, beq_eq h3, beq_eq h4, beq_eq h5, hc]
  · intro v h; cases v <;> first | rfl | cases h
  · intro i v h
    rcases onM_true (show onM v false (fun j => Nat.beq i j) = true from h) with ⟨_, h⟩ | ⟨j, rfl, h⟩
    · cases h
    · rw [beq_eq h]
  · intro v h; cases v <;> first | rfl | cases h
  · intro i la lb iha ihb v h
    obtain ⟨j, x, y, rfl, h⟩ := onF_true (show onF v (fun j x y => ite' (Nat.beq i j) (ite' (sameV (.agg la) (.agg x)) (sameV (.agg lb) (.agg y)) false) false) = true from h)
    obtain ⟨h1, h⟩ := ite'_and h
    obtain ⟨h2, h3⟩ := ite'_and h
    rw [beq_eq h1, iha x h2, ihb y h3]
  · intro v h; cases v <;> first | rfl | cases h
  · intro t x ih v h
    obtain ⟨u, y, rfl, h⟩ := onIfc_true (show onIfc v (fun u w => ite' (Nat.beq t u) (sameV x w) false) = true from h)
    obtain ⟨h1, h2⟩ := ite'_and h
    rw [beq_eq h1, ih y h2]
  · intro l ih v h
    obtain ⟨m, rfl, h⟩ := onAgg_true (show onAgg v (fun m => sameV (.agg l) (.agg m)) = true from h)
    rw [ih m h]
  · intro l ih v h
    obtain ⟨m, rfl, h⟩ := onTup_true (show onTup v (fun m => sameV (.agg l) (.agg m)) = true from h)
    rw [ih m h]
  · intro k v h
    obtain ⟨j, rfl, h⟩ := onO_true (show onO v (fun j => Nat.beq k j) = true from h)
    rw [beq_eq h]
  · intro m h
    cases m with
    | nil => rfl
    | cons y ys => cases h
  · intro x l ihx ihl m h
    cases m with
    | nil => cases h
    | cons y ys =>
      obtain ⟨h1, h2⟩ := ite'_and (show ite' (sameV x y) (sameV (.agg l) (.agg ys)) false = true from h)
      rw [ihx y h1, ihl ys h2]

section
variable {P : Program} {X : CX} {call : Nat → List AV → Heap → KH → Bool} {ops : Array Oper} {cl : List COper} {di : List DI} {bef : Nat → Nat} {E : Nat → Env} {H : Nat → Heap} {V : Nat → AV} {W : Nat → Bool} {fr0 : Fr}
  {M : Nat} {φ0 : Emb} {w0 : World} {L : Nat → Prop} {s : Nat} {φ : Emb} {w : World}

theorem DC.count (D : DC P X call ops cl di bef E H V W fr0) (s : Nat) : cnt cl s = countD (fun d => andB d.ef (Nat.ble (d.i + 1) s)) di 0 := by
  have := cnt_count cl di 0 s D.dlen fun j c d hc hd => by
    obtain ⟨o, ho⟩ := D.oper hc
    obtain ⟨c', d', h1, h2, dk, _⟩ := D.ok j o ho
    rw [hc] at h1; cases h1
    rw [hd] at h2; cases h2
    exact ⟨by rw [dk.no]; omega, dk.ef⟩
  rw [this, Nat.zero_add]

theorem DC.di_of (D : DC P X call ops cl di bef E H V W fr0) {d : DI} (hd : d ∈ di) : ∃ (x : Nat) (o : Oper) (c : COper), ops[x]? = some o ∧ cl[x]? = some c ∧ d.i = x ∧ d.bef = bef x ∧ d.ef = isEf c.op := by
  obtain ⟨x, hx⟩ := List.getElem?_of_mem hd
  have hlt : x < cl.length := by rw [← D.dlen]; exact (List.getElem?_eq_some_iff.1 hx).1
  have hc := List.getElem?_eq_getElem hlt
  obtain ⟨o, ho⟩ := D.oper hc
  obtain ⟨c', d', h1, h2, dk, _⟩ := D.ok x o ho
  rw [hx] at h2; cases h2
  exact ⟨x, o, c', ho, h1, dk.no, dk.befs.symm, dk.ef⟩

theorem Stage.lt_of (hs : Stage cl L s) {x : Nat} {c : COper} (hc : cl[x]? = some c) (he : isEf c.op = true) (h : L x) : x < s := by
  rcases Nat.lt_or_ge x s with h1 | h1
  · exact h1
  · exact absurd h (hs.next x c h1 hc he)

/-- A read that may run says now what it says in the text's order. -/
theorem DC.reads (D : DC P X call ops cl di bef E H V W fr0) (hL : Closed bef L) {q : Nat} {o : Oper} (hr : Ready ops L q o) (hs : Stage cl L s) (m : Mem cl H W M φ0 w0 L s φ w) {c : COper} (hc : cl[q]? = some c) {r : ROp} (hop : c.op = .rd r) (hw : W q = true) :
    ∃ k : KV, runR r (E q) (H s) k = true ∧ ∀ v, k v = true → v = V q := by
  have hq : q < cl.length := (List.getElem?_eq_some_iff.1 hc).1
  obtain ⟨c', d, h1, hd, dk, _⟩ := D.ok q o hr.here
  rw [hc] at h1; cases h1
  obtain ⟨hlo, hhi⟩ := D.lohi q c d hc hd
  have lo_s : c.lo ≤ cnt cl s := by
    rw [hlo, D.count s]
    refine countD_le di fun x hx hf => ?_
    rw [andB_eq, Bool.and_eq_true] at hf ⊢
    obtain ⟨y, oy, cy, _, hcy, hxi, _, hef⟩ := D.di_of hx
    refine ⟨hf.1, Nat.ble_eq_true_of_le ?_⟩
    rw [hxi]
    rw [hxi, ← dk.befs] at hf
    exact hs.lt_of hcy (by rw [← hef]; exact hf.1) (D.done hL hr y hf.2)
  have s_hi : cnt cl s ≤ c.hi := by
    rw [hhi, D.count s]
    refine countD_le di fun x hx hf => ?_
    rw [andB_eq, Bool.and_eq_true] at hf ⊢
    obtain ⟨y, oy, cy, _, hcy, hxi, hxb, hef⟩ := D.di_of hx
    refine ⟨hf.1, ?_⟩
    have hlt : y < s := by have := ble_le hf.2; omega
    have hLy := hs.past y cy hlt hcy (by rw [← hef]; exact hf.1)
    cases hb : Nat.testBit x.bef d.i with
    | false => rfl
    | true => rw [hxb, dk.no] at hb; exact absurd (hL y hLy q hb) hr.not
  have lo_q : c.lo ≤ cnt cl q := by
    rw [hlo, D.count q]
    refine countD_le di fun x hx hf => ?_
    rw [andB_eq, Bool.and_eq_true] at hf ⊢
    obtain ⟨y, oy, cy, _, hcy, hxi, _, hef⟩ := D.di_of hx
    refine ⟨hf.1, Nat.ble_eq_true_of_le ?_⟩
    rw [hxi]
    rw [hxi, ← dk.befs] at hf
    exact D.bef_lt q y o hr.here hf.2
  have q_hi : cnt cl q ≤ c.hi := by
    rw [hhi, D.count q]
    refine countD_le di fun x hx hf => ?_
    rw [andB_eq, Bool.and_eq_true] at hf ⊢
    obtain ⟨y, oy, cy, hoy, hcy, hxi, hxb, hef⟩ := D.di_of hx
    refine ⟨hf.1, ?_⟩
    have hlt : y < q := by have := ble_le hf.2; omega
    cases hb : Nat.testBit x.bef d.i with
    | false => rfl
    | true => rw [hxb, dk.no] at hb; have := D.bef_lt y q oy hoy hb; omega
  by_cases hne : c.lo = c.hi
  · have hcq : cnt cl q = cnt cl s := by omega
    have noef : isEf c.op = false := by rw [hop]; rfl
    have hqs : q < s := by
      rcases Nat.lt_trichotomy q s with h | h | h
      · exact h
      · subst h
        rcases hs.here with h1 | ⟨c2, h1, h2⟩
        · omega
        · rw [hc] at h1; cases h1; rw [noef] at h2; cases h2
      · rcases hs.here with h1 | ⟨c2, h1, h2⟩
        · omega
        · have h3 := cnt_succ cl s c2 h1 h2
          have h4 := cnt_mono cl (show s + 1 ≤ q from h)
          omega
    have hno : ∀ (x : Nat) (c' : COper), q ≤ x → x < s → cl[x]? = some c' → isEf c'.op = false := fun x c' h1 h2 h3 => by
      cases he : isEf c'.op with
      | false => rfl
      | true =>
        have h4 := cnt_succ cl x c' h3 he
        have h5 := cnt_mono cl h1
        have h6 := cnt_mono cl (show x + 1 ≤ s from h2)
        omega
    rcases D.tra.step q c hc with ⟨_, _, hrun⟩ | ⟨hw', _⟩
    · obtain ⟨_, hrr⟩ := step_read hop hrun
      refine ⟨fun v => kEq (V q) (H q) v (H q), ?_, fun v hv => (kEq_true hv).1⟩
      exact read_grow (D.grow hs.le m.sc hno s (Nat.le_of_lt hqs) (Nat.le_refl _)) r (E q) _ ((hrr _).trans (kEq_self _ _))
    · rw [hw] at hw'; cases hw'
  · exact ⟨sameV (V q), D.chk q c r hc hop hw hne _ _ (stg_get cl H s hs.here) lo_s s_hi, fun v hv => sameV_eq _ v hv⟩

structure Inv (X : CX) (ops : Array Oper) (cl : List COper) (bef : Nat → Nat) (H : Nat → Heap) (V : Nat → AV) (W : Nat → Bool) (fr0 : Fr) (M : Nat) (φ0 : Emb) (w0 : World) (L : Nat → Prop) (a : Act) (w : World) : Prop where
  closed : Closed bef L
  size : X.nt ≤ a.tmps.size
  defers : a.defers = []
  mem : ∃ φ s, Slots X ops fr0 V L φ a ∧ Stage cl L s ∧ Mem cl H W M φ0 w0 L s φ w

theorem dr_step (D : DC P X call ops cl di bef E H V W fr0) (hF0 : Fresh φ0 (H 0).next M) (hMn : (H cl.length).next ≤ M) {a : Act} (I : Inv X ops cl bef H V W fr0 M φ0 w0 L a w) {q : Nat} {o : Oper} (hr : Ready ops L q o)
    {Q : Exit → Act → World → Prop} : wpOp P ops Q q (Inv X ops cl bef H V W fr0 M φ0 w0 fun i => i = q ∨ L i) a w := by
  obtain ⟨hL, hn, hd, φ, s, hS, hs, m⟩ := I
  obtain ⟨c, d, hc, _, _, _, _, _⟩ := D.ok q o hr.here
  have hq : q < cl.length := (List.getElem?_eq_some_iff.1 hc).1
  obtain ⟨Y, gY, hop, hgd, hER⟩ := D.env hr.here hc (D.sees hL hr hS)
  have hcl : Closed bef fun i => i = q ∨ L i := fun i hi j hj => by
    rcases hi with rfl | hi
    · exact .inr (D.done hL hr j hj)
    · exact .inr (hL i hi j hj)
  have fin : ∀ (ψ : Emb) (u : Value) (w' : World), Sub φ ψ → VR ψ (V q) u → (∃ s', Stage cl (fun i => i = q ∨ L i) s' ∧ Mem cl H W M φ0 w0 (fun i => i = q ∨ L i) s' ψ w') →
      Inv X ops cl bef H V W fr0 M φ0 w0 (fun i => i = q ∨ L i) (a.put o.dst u) w' := fun ψ u w' hsub hu hm => by
    obtain ⟨s', h1, h2⟩ := hm
    exact ⟨hcl, by rw [put_size]; exact hn, by rw [put_defers]; exact hd, ψ, s', D.slots_next hL hr (hS.mono hsub) hu hn, h1, h2⟩
  unfold wpOp
  simp only [hr.here]
  rcases D.tra.step q c hc with ⟨hw, hwants, hrun⟩ | ⟨hw, hwants, hV, hH⟩
  · have hwt : Region.wanted o (yielded ops a.tmps) = true := by
      rcases guard_sound hgd hER (yes := true) (no := false) (hwants _ _) with h | h
      · exact h.1
      · cases h.2
    rw [if_pos hwt]
    left
    cases hk : c.op with
    | pu p =>
      have hr' : runO c.op call (E q) (H q) (kEq (V q) (H (q + 1))) = true := (hrun _).trans (kEq_self _ _)
      have hp := (step_pure hk hrun)
      rw [hk] at hop
      obtain ⟨v, u, hv, hkv, hex⟩ := pure_sound (k := fun v => kEq (V q) (H q) v (H q)) gY.ty gY.eqs hER hop ((hp.2 _).trans (kEq_self _ _))
      obtain rfl := (kEq_true hkv).1
      unfold Oper.wp; rw [hex w, Oper.upon_value]
      have noal : ∀ c', cl[q]? = some c' → isAl c'.op = true → W q = true → False := fun c' h1 h2 _ => by rw [hc] at h1; cases h1; rw [hk] at h2; cases h2
      exact fin φ u w (Sub.refl _) hv ⟨s, hs.noted hc (by rw [hk]; rfl), m.noted noal⟩
    | rd p =>
      rw [hk] at hop
      obtain ⟨k, hkr, hkv⟩ := D.reads hL hr hs m hc hk hw
      obtain ⟨v, u, hv, hk2, hex⟩ := read_sound gY.ty m.wr hER hop hkr
      obtain rfl := hkv v hk2
      unfold Oper.wp; rw [hex, Oper.upon_value]
      have noal : ∀ c', cl[q]? = some c' → isAl c'.op = true → W q = true → False := fun c' h1 h2 _ => by rw [hc] at h1; cases h1; rw [hk] at h2; cases h2
      exact fin φ u w (Sub.refl _) hv ⟨s, hs.noted hc (by rw [hk]; rfl), m.noted noal⟩
    | al p =>
      have hal : isAl c.op = true := by rw [hk]; rfl
      obtain ⟨p', obj, hk', hH, hrunA, _⟩ := D.made hc hal hw
      rw [hk] at hk'; cases hk'
      rw [hk] at hop
      have hfr : Fresh φ (AE.before cl H W L s q).next ((H q).next + 1) := fun id t l hl => by
        show id < (H q).next ∨ (H q).next + 1 ≤ id
        have : id ≠ (H q).next := fun e => by rw [e, m.unm q c hc hal hw hr.not] at hl; cases hl
        omega
      obtain ⟨v, h', ψ, u, w', hkv, hv, hex, hW', hS'⟩ := alloc_sound (k := kEq (V q) (addO (AE.before cl H W L s q) obj)) gY.ty (m.before D q (Nat.le_of_lt (List.getElem?_eq_some_iff.1 hc).1)) hfr hER hop ((hrunA (AE.before cl H W L s q) rfl _).trans (kEq_self _ _)) fun v h' hx => by
        rw [(kEq_true hx).2]; exact Nat.le_refl _
      obtain ⟨rfl, rfl⟩ := kEq_true hkv
      have hafter : ∀ (x : Nat) (c' : COper), q < x → cl[x]? = some c' → isEf c'.op = true → ¬ L x := fun x c' hlt hcx hex hLx => by
        obtain ⟨ox, hox⟩ := D.oper hcx
        rcases D.apart hlt hr.here hox hc hcx with h | ⟨_, _, _, h⟩
        · exact hr.not (hL x hLx q h)
        · have := (h hex).2; rw [hal] at this; cases this
      have hm := D.makes hF0 hMn m hs hc hal hw hr.not hafter hH hW' hS'
      have hs' := hs.noted hc (show isEf c.op = false by rw [hk]; rfl)
      unfold Oper.wp
      rcases hex with hex | ⟨rfl, hex⟩
      · rw [hex, Oper.upon_value]; exact fin ψ u w' hS'.sub hv ⟨s, hs', hm⟩
      · rw [hex, Oper.upon_skip]; exact fin ψ _ w' hS'.sub hv ⟨s, hs', hm⟩
    | ef p =>
      have hef : isEf c.op = true := by rw [hk]; rfl
      have e := D.which hL hr hc hef hs
      subst e
      have hrun' : runO c.op call (E q) (H q) (kEq (V q) (H (q + 1))) = true := (hrun _).trans (kEq_self _ _)
      have hfr : Fresh φ (H q).next (H (q + 1)).next := fun id t l hl => by
        rcases m.dom id t l hl with h | ⟨a', c', h1, h2, h3, h4, h5, rfl⟩ | h
        · exact .inl h
        · right
          have hne : a' ≠ q := fun e => by subst e; rw [hc] at h1; cases h1; rw [hk] at h2; cases h2
          exact D.mono (by omega) (Nat.le_of_lt (List.getElem?_eq_some_iff.1 h1).1)
        · have := D.mono (i := q + 1) (j := cl.length) hq (Nat.le_refl _); exact .inr (by omega)
      refine op_wp gY hop hER m.wr hfr hrun' (fun v h' hx => by rw [(kEq_true hx).2]; exact Nat.le_refl _) fun v h' ψ u w' hx hv hW' hS' => ?_
      obtain ⟨rfl, rfl⟩ := kEq_true hx
      have hm := D.changed hF0 hMn m hc hef (fun a' c' hlt hca haa => by
        obtain ⟨oa, hoa⟩ := D.oper hca
        rcases D.apart hlt hoa hr.here hca hc with h | ⟨_, _, _, h⟩
        · exact D.done hL hr a' h
        · have := (h hef).2; rw [haa] at this; cases this) hW' hS'
      exact fin ψ u w' hS'.sub hv (D.advance _ (q + 1) rfl hq hm (fun x c' hx hcx hex => by
        by_cases e : x = q
        · exact .inl e
        · exact .inr (hs.past x c' (by omega) hcx hex)) fun x c' hx hcx hex h => by
          rcases h with h | h
          · omega
          · exact hs.next x c' (by omega) hcx hex h)
  · have hwt : Region.wanted o (yielded ops a.tmps) = false := by
      rcases guard_sound hgd hER (yes := false) (no := true) (hwants _ _) with h | h
      · cases h.2
      · exact h.1
    rw [hwt, if_neg (by simp)]
    have hno : ∀ c', cl[q]? = some c' → isAl c'.op = true → W q = true → False := fun _ _ _ h => by rw [hw] at h; cases h
    have hm := m.noted hno
    refine fin φ undef w (Sub.refl _) (by rw [hV]; exact VR_u.2 rfl) ?_
    cases hef : isEf c.op with
    | false => exact ⟨s, hs.noted hc hef, hm⟩
    | true =>
      have e := D.which hL hr hc hef hs
      subst e
      exact D.advance _ (q + 1) rfl hq (D.adv1 hm hc (.inr hw)) (fun x c' hx hcx hex => by
        by_cases e : x = q
        · exact .inl e
        · exact .inr (hs.past x c' (by omega) hcx hex)) fun x c' hx hcx hex h => by
          rcases h with h | h
          · omega
          · exact hs.next x c' (by omega) hcx hex h
end
end Go.AE
