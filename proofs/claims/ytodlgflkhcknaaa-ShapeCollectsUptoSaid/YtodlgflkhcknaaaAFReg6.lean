/- Regions whose order is open: the memory. -/
import Derived.Test.YtodlgflkhcknaaaAFReg5
namespace Go.AE
set_option linter.unusedVariables false
variable {oq : Unit} [Opq oq]
open Go

theorem cnt_mono1 : ∀ (cl : List COper) (x : Nat), cnt cl x ≤ cnt cl (x + 1)
  | [], _ => Nat.le_refl _
  | c :: cl, 0 => by rw [cnt, cnt]; exact Nat.zero_le _
  | c :: cl, x + 1 => by rw [cnt, cnt]; have := cnt_mono1 cl x; omega
theorem cnt_mono (cl : List COper) {x y : Nat} (h : x ≤ y) : cnt cl x ≤ cnt cl y := by
  induction h with
  | refl => exact Nat.le_refl _
  | step _ ih => exact Nat.le_trans ih (cnt_mono1 _ _)
theorem cnt_succ : ∀ (cl : List COper) (x : Nat) (c : COper), cl[x]? = some c → isEf c.op = true → cnt cl (x + 1) = cnt cl x + 1
  | [], x, c, h, _ => by simp at h
  | c :: cl, 0, c', h, he => by
    have : c = c' := by simpa using h
    subst this
    rw [cnt, cnt, if_pos he]
    cases cl <;> rfl
  | c :: cl, x + 1, c', h, he => by
    rw [cnt, cnt, cnt_succ cl x c' (by simpa using h) he]; omega

theorem countD_none {f : DI → Bool} : ∀ (l : List DI), (∀ d ∈ l, f d = false) → countD f l 0 = 0 := by
  intro l
  induction l with
  | nil => intro _; rfl
  | cons x l ih => intro h; rw [countD_cons, h x List.mem_cons_self, if_neg (by simp)]; exact ih fun d hd => h d (List.mem_cons_of_mem _ hd)
theorem cnt_count : ∀ (cl : List COper) (ds : List DI) (i0 s : Nat), ds.length = cl.length → (∀ (j : Nat) (c : COper) (d : DI), cl[j]? = some c → ds[j]? = some d → d.i = i0 + j ∧ d.ef = isEf c.op) →
    cnt cl s = countD (fun d => andB d.ef (Nat.ble (d.i + 1) (i0 + s))) ds 0 := by
  intro cl
  induction cl with
  | nil => intro ds i0 s hl h; cases ds with
    | nil => rfl
    | cons x ds => cases hl
  | cons c cl ih => intro ds i0 s hl h; cases ds with
    | nil => cases hl
    | cons x ds =>
      have hx := h 0 c x rfl rfl
      have ih' := fun s => ih ds (i0 + 1) s (by simpa using hl) fun j c d hc hd => by
        have := h (j + 1) c d (by simpa using hc) (by simpa using hd)
        exact ⟨by omega, this.2⟩
      cases s with
      | zero =>
        rw [cnt]; symm
        refine countD_none _ fun d hd => ?_
        obtain ⟨j, hj⟩ := List.getElem?_of_mem hd
        have hjl : j < (c :: cl).length := by rw [← hl]; exact (List.getElem?_eq_some_iff.1 hj).1
        have := (h j _ d (List.getElem?_eq_getElem hjl) hj).1
        cases hb : Nat.ble (d.i + 1) (i0 + 0)
        · rw [andB_eq, Bool.and_false]
        · have := ble_le hb; omega
      | succ s =>
        rw [cnt, countD_cons, ih' s, hx.2]
        have hb : Nat.ble (x.i + 1) (i0 + (s + 1)) = true := Nat.ble_eq_true_of_le (by omega)
        rw [hb, andB_eq, Bool.and_true, show i0 + 1 + s = i0 + (s + 1) from by omega]
        split
        · rw [countD_add _ ds (0 + 1)]; omega
        · omega

structure Stage (cl : List COper) (L : Nat → Prop) (s : Nat) : Prop where
  le : s ≤ cl.length
  past : ∀ (x : Nat) (c : COper), x < s → cl[x]? = some c → isEf c.op = true → L x
  next : ∀ (x : Nat) (c : COper), s ≤ x → cl[x]? = some c → isEf c.op = true → ¬ L x
  here : s = cl.length ∨ ∃ c, cl[s]? = some c ∧ isEf c.op = true

structure Mem (cl : List COper) (H : Nat → Heap) (W : Nat → Bool) (M : Nat) (φ0 : Emb) (w0 : World) (L : Nat → Prop) (s : Nat) (φ : Emb) (w : World) : Prop where
  wr : WR φ (H s) w
  sc : ∀ j, j ≤ s → ∀ id o, (H j).tr.get id = some o → id < (H j).next
  early : ∀ (a : Nat) (c : COper) (o : Obj), cl[a]? = some c → isAl c.op = true → W a = true → s ≤ a → L a → H (a + 1) = addO (H a) o → OR φ w (H a).next o
  dom : ∀ id t l, φ id t = some l → id < (H s).next ∨ (∃ a c, cl[a]? = some c ∧ isAl c.op = true ∧ W a = true ∧ s ≤ a ∧ L a ∧ id = (H a).next) ∨ M ≤ id
  unm : ∀ (a : Nat) (c : COper), cl[a]? = some c → isAl c.op = true → W a = true → ¬ L a → ∀ t, φ (H a).next t = none
  stp : Stp φ0 (H 0).next w0 φ (H cl.length).next w
  ro0 : Opq.ro ≤ (H 0).next

section
variable {P : Program} {X : CX} {call : Nat → List AV → Heap → KH → Bool} {ops : Array Oper} {cl : List COper} {di : List DI} {bef : Nat → Nat} {E : Nat → Env} {H : Nat → Heap} {V : Nat → AV} {W : Nat → Bool} {fr0 : Fr}
  {M : Nat} {φ0 : Emb} {w0 : World} {L : Nat → Prop} {s : Nat} {φ : Emb} {w : World}

theorem DC.mono (D : DC P X call ops cl di bef E H V W fr0) {i j : Nat} (h : i ≤ j) : j ≤ cl.length → (H i).next ≤ (H j).next := by
  induction h with
  | refl => intro _; exact Nat.le_refl _
  | step _ ih =>
    intro hj
    rename_i k _
    exact Nat.le_trans (ih (by omega)) (step_next D.g.lin (D.tra.step k cl[k] (List.getElem?_eq_getElem (by omega))))

theorem DC.made (D : DC P X call ops cl di bef E H V W fr0) {a : Nat} {c : COper} (hc : cl[a]? = some c) (ha : isAl c.op = true) (hw : W a = true) : ∃ p obj, c.op = .al p ∧ H (a + 1) = addO (H a) obj ∧
    (∀ h2 : Heap, h2.next = (H a).next → ∀ k, runA p (E a) h2 k = k (V a) (addO h2 obj)) ∧ ∀ (φ : Emb) (w : World), (∀ t, φ (H a).next t = none) → OR φ w (H a).next obj := by
  cases hop : c.op with
  | al p =>
    rcases D.tra.step a c hc with ⟨_, _, hrun⟩ | ⟨hw', _⟩
    · obtain ⟨obj, h1, h2, h3⟩ := step_alloc hop hrun
      exact ⟨p, obj, rfl, h1, h2, h3⟩
    · rw [hw] at hw'; cases hw'
  | _ => rw [hop] at ha; cases ha

theorem DC.made_lt (D : DC P X call ops cl di bef E H V W fr0) {a : Nat} {c : COper} (hc : cl[a]? = some c) (ha : isAl c.op = true) (hw : W a = true) : (H (a + 1)).next = (H a).next + 1 := by
  obtain ⟨p, obj, _, h1, _⟩ := D.made hc ha hw
  rw [h1]; rfl

theorem DC.made_inj (D : DC P X call ops cl di bef E H V W fr0) {a b : Nat} {c d : COper} (hc : cl[a]? = some c) (ha : isAl c.op = true) (hw : W a = true) (hd : cl[b]? = some d) (hb : isAl d.op = true) (hw' : W b = true)
    (h : (H a).next = (H b).next) : a = b := by
  have la := (List.getElem?_eq_some_iff.1 hc).1
  have lb := (List.getElem?_eq_some_iff.1 hd).1
  have h1 := D.made_lt hc ha hw
  have h2 := D.made_lt hd hb hw'
  rcases Nat.lt_trichotomy a b with h3 | h3 | h3
  · have := D.mono (i := a + 1) (j := b) h3 (by omega); omega
  · exact h3
  · have := D.mono (i := b + 1) (j := a) h3 (by omega); omega

theorem Mem.still (m : Mem cl H W M φ0 w0 L s φ w) (hH : H (s + 1) = H s) (hno : ∀ c, cl[s]? = some c → isAl c.op = true → W s = true → False) : Mem cl H W M φ0 w0 L (s + 1) φ w := by
  refine ⟨by rw [hH]; exact m.wr, fun j hj id o ho => ?_, fun a c o hc ha hw hs hL hH' => m.early a c o hc ha hw (by omega) hL hH', fun id t l hl => ?_, m.unm, m.stp, m.ro0⟩
  · by_cases e : j = s + 1
    · subst e; rw [hH] at ho ⊢; exact m.sc s (Nat.le_refl _) id o ho
    · exact m.sc j (by omega) id o ho
  · rw [hH]
    rcases m.dom id t l hl with h | ⟨a, c, h1, h2, h3, h4, h5⟩ | h
    · exact .inl h
    · by_cases e : a = s
      · subst e; exact (hno c h1 h2 h3).elim
      · exact .inr (.inl ⟨a, c, h1, h2, h3, by omega, h5⟩)
    · exact .inr (.inr h)

theorem DC.adv1 (D : DC P X call ops cl di bef E H V W fr0) (m : Mem cl H W M φ0 w0 L s φ w) {c : COper} (hc : cl[s]? = some c) (hne : isEf c.op = false ∨ W s = false) : Mem cl H W M φ0 w0 L (s + 1) φ w := by
  rcases D.tra.step s c hc with ⟨hw, _, hrun⟩ | ⟨hw, _, _, hH⟩
  · have noal : isAl c.op = false → ∀ c', cl[s]? = some c' → isAl c'.op = true → W s = true → False := fun h c' hc' ha _ => by
      rw [hc] at hc'; cases hc'; rw [h] at ha; cases ha
    cases hop : c.op with
    | pu p => exact m.still (step_pure hop hrun).1 (noal (by rw [hop]; rfl))
    | rd p => exact m.still (step_read hop hrun).1 (noal (by rw [hop]; rfl))
    | ef p =>
      rcases hne with h | h
      · rw [hop] at h; cases h
      · rw [hw] at h; cases h
    | al p =>
      have hal : isAl c.op = true := by rw [hop]; rfl
      obtain ⟨p', obj, _, hH, _, hvac⟩ := D.made hc hal hw
      have hwr : WR φ (H (s + 1)) w := by
        refine ⟨fun id o ho => ?_, fun id o ho => ?_, m.wr.inj, m.wr.here, by rw [hH]; exact Nat.le_succ_of_le m.wr.roo.1, fun id o ho hid => ?_⟩
        · rw [hH, get_add] at ho
          rw [hH]; show id < (H s).next + 1
          split at ho
          · omega
          · have := m.wr.scope id o ho; omega
        · rw [hH, get_add] at ho
          split at ho
          · rename_i e
            cases ho; subst e
            by_cases hL : L s
            · exact m.early s c obj hc hal hw (Nat.le_refl _) hL hH
            · exact hvac φ w (m.unm s c hc hal hw hL)
          · exact m.wr.obj id o ho
        · rw [hH, get_add] at ho
          have := m.wr.roo.1
          split at ho
          · omega
          · exact m.wr.roo.2 _ _ ho hid
      refine ⟨hwr, fun j hj id o ho => ?_, fun a c o hc ha hw hs hL hH' => m.early a c o hc ha hw (by omega) hL hH', fun id t l hl => ?_, m.unm, m.stp, m.ro0⟩
      · by_cases e : j = s + 1
        · subst e; exact hwr.scope id o ho
        · exact m.sc j (by omega) id o ho
      · have hlt := D.made_lt hc hal hw
        rcases m.dom id t l hl with h | ⟨a, c', h1, h2, h3, h4, h5, h6⟩ | h
        · exact .inl (by omega)
        · by_cases e : a = s
          · subst e; exact .inl (by omega)
          · exact .inr (.inl ⟨a, c', h1, h2, h3, by omega, h5, h6⟩)
        · exact .inr (.inr h)
  · exact m.still hH fun c' _ _ h => by rw [hw] at h; cases h

theorem DC.advance (D : DC P X call ops cl di bef E H V W fr0) : ∀ (k s : Nat), cl.length - s = k → s ≤ cl.length → Mem cl H W M φ0 w0 L s φ w → (∀ (x : Nat) (c : COper), x < s → cl[x]? = some c → isEf c.op = true → L x) →
    (∀ (x : Nat) (c : COper), s ≤ x → cl[x]? = some c → isEf c.op = true → ¬ L x) → ∃ s', Stage cl L s' ∧ Mem cl H W M φ0 w0 L s' φ w := by
  intro k
  induction k with
  | zero => intro s hk hs m h1 h2; exact ⟨s, ⟨hs, h1, h2, .inl (by omega)⟩, m⟩
  | succ k ih =>
    intro s hk hs m h1 h2
    have hlt : s < cl.length := by omega
    have hc := List.getElem?_eq_getElem hlt
    cases he : isEf cl[s].op with
    | true => exact ⟨s, ⟨hs, h1, h2, .inr ⟨_, hc, he⟩⟩, m⟩
    | false =>
      refine ih (s + 1) (by omega) hlt (D.adv1 m hc (.inl he)) (fun x c hx hcx hex => ?_) fun x c hx hcx hex => h2 x c (by omega) hcx hex
      by_cases e : x = s
      · subst e; rw [hc] at hcx; cases hcx; rw [he] at hex; cases hex
      · exact h1 x c (by omega) hcx hex

/-- Between changes heaps only grow. -/
theorem DC.grow (D : DC P X call ops cl di bef E H V W fr0) {q s : Nat} (hs : s ≤ cl.length) (sc : ∀ j, j ≤ s → ∀ id o, (H j).tr.get id = some o → id < (H j).next) (hno : ∀ (x : Nat) (c : COper), q ≤ x → x < s → cl[x]? = some c → isEf c.op = false) :
    ∀ j, q ≤ j → j ≤ s → ∀ id o, (H q).tr.get id = some o → (H j).tr.get id = some o := by
  intro j hqj
  induction hqj with
  | refl => intro _ id o h; exact h
  | step hle ih =>
    rename_i j
    intro hj id o h
    have h1 := ih (by omega) id o h
    have hlt : j < cl.length := by omega
    have hc := List.getElem?_eq_getElem hlt
    have hne := hno j cl[j] hle (by omega) hc
    have hsame : H (j + 1) = H j → (H (j + 1)).tr.get id = some o := fun e => by rw [e]; exact h1
    rcases D.tra.step j cl[j] hc with ⟨hw, _, hrun⟩ | ⟨_, _, _, hH⟩
    · cases hop : cl[j].op with
      | pu p => exact hsame (step_pure hop hrun).1
      | rd p => exact hsame (step_read hop hrun).1
      | ef p => rw [hop] at hne; cases hne
      | al p =>
        obtain ⟨obj, hH, _⟩ := step_alloc hop hrun
        have := sc j (by omega) id o h1
        show (H (j + 1)).tr.get id = some o
        rw [hH, get_add, if_neg (by omega)]; exact h1
    · exact hsame hH

/-- An operation that makes nothing is noted. -/
theorem Mem.noted (m : Mem cl H W M φ0 w0 L s φ w) {q : Nat} (hno : ∀ c, cl[q]? = some c → isAl c.op = true → W q = true → False) : Mem cl H W M φ0 w0 (fun i => i = q ∨ L i) s φ w := by
  refine ⟨m.wr, m.sc, fun a c o hc ha hw hs hL hH => ?_, fun id t l hl => ?_, fun a c hc ha hw hL => m.unm a c hc ha hw fun h => hL (.inr h), m.stp, m.ro0⟩
  · rcases hL with rfl | hL
    · exact (hno c hc ha hw).elim
    · exact m.early a c o hc ha hw hs hL hH
  · rcases m.dom id t l hl with h | ⟨a, c, h1, h2, h3, h4, h5, h6⟩ | h
    · exact .inl h
    · exact .inr (.inl ⟨a, c, h1, h2, h3, h4, .inr h5, h6⟩)
    · exact .inr (.inr h)

theorem Stage.noted (hs : Stage cl L s) {q : Nat} {c : COper} (hc : cl[q]? = some c) (hne : isEf c.op = false) : Stage cl (fun i => i = q ∨ L i) s :=
  ⟨hs.le, fun x c hx hcx he => .inr (hs.past x c hx hcx he), fun x c' hx hcx he h => by
    rcases h with rfl | h
    · rw [hc] at hcx; cases hcx; rw [hne] at he; cases he
    · exact hs.next x c' hx hcx he h, hs.here⟩

/-- The change that may run is the next one. -/
theorem DC.which (D : DC P X call ops cl di bef E H V W fr0) (hL : Closed bef L) {q : Nat} {o : Oper} (hr : Ready ops L q o) {c : COper} (hc : cl[q]? = some c) (he : isEf c.op = true) (hs : Stage cl L s) : q = s := by
  have hq : q < cl.length := (List.getElem?_eq_some_iff.1 hc).1
  rcases Nat.lt_trichotomy q s with h | h | h
  · exact absurd (hs.past q c h hc he) hr.not
  · exact h
  · rcases hs.here with h1 | ⟨c', hc', he'⟩
    · omega
    · obtain ⟨o', ho'⟩ := D.oper hc'
      rcases D.apart h ho' hr.here hc' hc with h2 | ⟨_, _, _, h2⟩
      · exact absurd (D.done hL hr s h2) (hs.next s c' (Nat.le_refl _) hc' he')
      · rw [(h2 he).1] at he'; cases he'

/-- A change's step: what was made early stays. -/
theorem DC.changed (D : DC P X call ops cl di bef E H V W fr0) (hF0 : Fresh φ0 (H 0).next M) (hMn : (H cl.length).next ≤ M) (m : Mem cl H W M φ0 w0 L s φ w) {c : COper} (hc : cl[s]? = some c) (he : isEf c.op = true)
    (hbefore : ∀ (a : Nat) (c' : COper), a < s → cl[a]? = some c' → isAl c'.op = true → L a) {ψ : Emb} {w' : World} (hW' : WR ψ (H (s + 1)) w') (hS : Stp φ (H s).next w ψ (H (s + 1)).next w') :
    Mem cl H W M φ0 w0 (fun i => i = s ∨ L i) (s + 1) ψ w' := by
  have hlt : s < cl.length := (List.getElem?_eq_some_iff.1 hc).1
  have noal : isAl c.op = true → False := fun h => by
    cases hop : c.op with
    | al p => rw [hop] at he; cases he
    | _ => rw [hop] at h; cases h
  have later : ∀ (a : Nat) (c' : COper), cl[a]? = some c' → isAl c'.op = true → s ≤ a → s + 1 ≤ a := fun a c' hca ha hle => by
    by_cases e : a = s
    · subst e; rw [hc] at hca; cases hca; exact (noal ha).elim
    · omega
  have big : ∀ (a : Nat) (c' : COper), cl[a]? = some c' → s + 1 ≤ a → (H (s + 1)).next ≤ (H a).next := fun a c' hca hle => D.mono hle (Nat.le_of_lt (List.getElem?_eq_some_iff.1 hca).1)
  have h1 := D.mono (i := s) (j := s + 1) (by omega) hlt
  refine ⟨hW', fun j hj id o ho => ?_, fun a c' o hca ha hw hs hL hH => ?_, fun id t l hl => ?_, fun a c' hca ha hw hL t => ?_, m.stp.comp hS hF0 (D.mono (Nat.zero_le s) (by omega)) (D.mono hlt (Nat.le_refl _)) hMn, m.ro0⟩
  · by_cases e : j = s + 1
    · subst e; exact hW'.scope id o ho
    · exact m.sc j (by omega) id o ho
  · rcases hL with rfl | hL
    · omega
    · have h2 := big a c' hca hs
      have hO := m.early a c' o hca ha hw (by omega) hL hH
      refine OR_same hO hS.sub (fun t l hl => ?_) fun t l hl => hS.block _ (m.wr.here _ _ _ hl) fun id t' l' hr hid hl' e => ?_
      · rcases hS.new _ t l hl with h3 | ⟨h3, _⟩ | ⟨h3, _⟩
        · exact h3
        · omega
        · omega
      · have := (m.wr.inj _ _ _ _ _ _ hr hl' hl e).1; omega
  · rcases hS.new id t l hl with h3 | ⟨h3, _⟩ | ⟨h3, _⟩
    · rcases m.dom id t l h3 with h | ⟨a, c', g1, g2, g3, g4, g5, g6⟩ | h
      · exact .inl (by omega)
      · exact .inr (.inl ⟨a, c', g1, g2, g3, later a c' g1 g2 g4, .inr g5, g6⟩)
      · exact .inr (.inr h)
    · exact .inl (by omega)
    · exact .inl h3
  · have hnL : ¬ L a := fun h => hL (.inr h)
    have hle : s + 1 ≤ a := by
      rcases Nat.lt_or_ge a s with h | h
      · exact absurd (hbefore a c' h hca ha) hnL
      · exact later a c' hca ha h
    have h2 := big a c' hca hle
    cases hl : ψ (H a).next t with
    | none => rfl
    | some l =>
      rcases hS.new _ t l hl with h3 | ⟨h3, _⟩ | ⟨h3, _⟩
      · rw [m.unm a c' hca ha hw hnL t] at h3; cases h3
      · omega
      · omega

/-- What stands where something is made. -/
def Trk (cl : List COper) (H : Nat → Heap) (W : Nat → Bool) (L : Nat → Prop) (s id : Nat) (o : Obj) : Prop :=
  (H s).tr.get id = some o ∨ ∃ a c, cl[a]? = some c ∧ isAl c.op = true ∧ W a = true ∧ s ≤ a ∧ L a ∧ id = (H a).next ∧ H (a + 1) = addO (H a) o

theorem Mem.trk (m : Mem cl H W M φ0 w0 L s φ w) {id : Nat} {o : Obj} (h : Trk cl H W L s id o) : OR φ w id o := by
  rcases h with h | ⟨a, c, h1, h2, h3, h4, h5, rfl, h6⟩
  · exact m.wr.obj id o h
  · exact m.early a c o h1 h2 h3 h4 h5 h6

theorem DC.trk_one (D : DC P X call ops cl di bef E H V W fr0) (m : Mem cl H W M φ0 w0 L s φ w) {id : Nat} {o o' : Obj} (h : Trk cl H W L s id o) (h' : Trk cl H W L s id o') : o = o' := by
  rcases h with h | ⟨a, c, h1, h2, h3, h4, h5, h6, h7⟩ <;> rcases h' with h' | ⟨b, d, g1, g2, g3, g4, g5, g6, g7⟩
  · rw [h] at h'; cases h'; rfl
  · have := m.wr.scope _ _ h
    have := D.mono g4 (Nat.le_of_lt (List.getElem?_eq_some_iff.1 g1).1); omega
  · have := m.wr.scope _ _ h'
    have := D.mono h4 (Nat.le_of_lt (List.getElem?_eq_some_iff.1 h1).1); omega
  · have e := D.made_inj h1 h2 h3 g1 g2 g3 (h6.symm.trans g6)
    subst e
    have e1 : (addO (H a) o).tr.get (H a).next = (addO (H a) o').tr.get (H a).next := by rw [← h7, ← g7]
    rw [get_add, get_add, if_pos rfl, if_pos rfl] at e1
    exact Option.some.inj e1

noncomputable def trkF (cl : List COper) (H : Nat → Heap) (W : Nat → Bool) (L : Nat → Prop) (s id : Nat) : Option Obj :=
  @dite _ (∃ o, Trk cl H W L s id o) (Classical.propDecidable _) (fun h => some (Classical.choose h)) fun _ => none
theorem trkF_some {id : Nat} {o : Obj} (h : trkF cl H W L s id = some o) : Trk cl H W L s id o := by
  unfold trkF at h
  split at h
  · rename_i hx; cases h; exact Classical.choose_spec hx
  · cases h
theorem trkF_of {id : Nat} {o : Obj} (h : Trk cl H W L s id o) : ∃ o', trkF cl H W L s id = some o' := by
  unfold trkF
  rw [dif_pos ⟨o, h⟩]; exact ⟨_, rfl⟩

/-- The heap as something finds it that is made. -/
noncomputable def before (cl : List COper) (H : Nat → Heap) (W : Nat → Bool) (L : Nat → Prop) (s q : Nat) : Heap := ⟨(H q).next, mkT (trkF cl H W L s) (H q).next⟩
theorem before_get (q id : Nat) : (before cl H W L s q).tr.get id = if id < (H q).next then trkF cl H W L s id else none := get_mkT _ _ _
theorem Mem.before (D : DC P X call ops cl di bef E H V W fr0) (m : Mem cl H W M φ0 w0 L s φ w) (q : Nat) (hq : q ≤ cl.length) : WR φ (before cl H W L s q) w := by
  refine ⟨fun id o ho => ?_, fun id o ho => ?_, m.wr.inj, m.wr.here, Nat.le_trans m.ro0 (D.mono (Nat.zero_le q) hq), fun id o ho hid => ?_⟩
  · rw [before_get] at ho
    split at ho
    · assumption
    · cases ho
  · rw [before_get] at ho
    split at ho
    · exact m.trk (trkF_some ho)
    · cases ho
  · rw [before_get] at ho
    split at ho
    · rcases trkF_some ho with h | ⟨a, c, h1, _, _, _, _, h6, _⟩
      · exact m.wr.roo.2 _ _ h hid
      · have := D.mono (Nat.zero_le a) (Nat.le_of_lt (List.getElem?_eq_some_iff.1 h1).1)
        have := m.ro0
        omega
    · cases ho

/-- Something is made. -/
theorem DC.makes (D : DC P X call ops cl di bef E H V W fr0) (hF0 : Fresh φ0 (H 0).next M) (hMn : (H cl.length).next ≤ M) (m : Mem cl H W M φ0 w0 L s φ w) (hs : Stage cl L s) {q : Nat} {c : COper} (hc : cl[q]? = some c) (ha : isAl c.op = true) (hw : W q = true)
    (hnot : ¬ L q) (hafter : ∀ (x : Nat) (c' : COper), q < x → cl[x]? = some c' → isEf c'.op = true → ¬ L x) {obj : Obj} (hH : H (q + 1) = addO (H q) obj) {ψ : Emb} {w' : World} (hW' : WR ψ (addO (AE.before cl H W L s q) obj) w')
    (hS : Stp φ (H q).next w ψ ((H q).next + 1) w') : Mem cl H W M φ0 w0 (fun i => i = q ∨ L i) s ψ w' := by
  have hlt : q < cl.length := (List.getElem?_eq_some_iff.1 hc).1
  have hn1 := D.made_lt hc ha hw
  have hget : ∀ id, (addO (AE.before cl H W L s q) obj).tr.get id = if id = (H q).next then some obj else (AE.before cl H W L s q).tr.get id := fun id => get_add
  have hnew : OR ψ w' (H q).next obj := hW'.obj _ _ (by rw [hget, if_pos rfl])
  have keep : ∀ id o, id ≠ (H q).next → Trk cl H W L s id o → OR ψ w' id o := fun id o hne ht => by
    rcases Nat.lt_or_ge id (H q).next with h | h
    · obtain ⟨o', ho'⟩ := trkF_of ht
      rw [D.trk_one m ht (trkF_some ho')]
      exact hW'.obj id o' (by rw [hget, if_neg hne, before_get, if_pos h]; exact ho')
    · refine OR_same (m.trk ht) hS.sub (fun t l hl => ?_) fun t l hl => hS.block _ (m.wr.here _ _ _ hl) fun i t' l' hr hi hl' e => ?_
      · rcases hS.new _ t l hl with h3 | ⟨h3, _⟩ | ⟨h3, _⟩
        · exact h3
        · omega
        · omega
      · have := (m.wr.inj _ _ _ _ _ _ hr hl' hl e).1; omega
  have pend : q < s → (H s).tr.get (H q).next = some obj := fun hq =>
    D.grow (q := q + 1) hs.le m.sc (fun x c' h1 h2 hcx => by
      cases hex : isEf c'.op with
      | false => rfl
      | true => exact absurd (hs.past x c' h2 hcx hex) (hafter x c' h1 hcx hex)) s hq (Nat.le_refl _) _ _ (by rw [hH, get_add, if_pos rfl])
  have hsq : q ≠ s := fun e => by
    subst e
    rcases hs.here with h | ⟨c', h1, h2⟩
    · omega
    · rw [hc] at h1; cases h1
      cases hop : c.op with
      | al p => rw [hop] at h2; cases h2
      | _ => rw [hop] at ha; cases ha
  refine ⟨⟨m.wr.scope, fun id o ho => ?_, hW'.inj, hW'.here, m.wr.roo⟩, m.sc, fun a c' o hca haa hwa hsa hL hHa => ?_, fun id t l hl => ?_, fun a c' hca haa hwa hL t => ?_,
    m.stp.comp hS hF0 (D.mono (Nat.zero_le q) (by omega)) (by rw [← hn1]; exact D.mono hlt (Nat.le_refl _)) hMn, m.ro0⟩
  · by_cases e : id = (H q).next
    · subst e
      rcases Nat.lt_or_ge q s with h | h
      · rw [pend h] at ho; cases ho; exact hnew
      · have := m.wr.scope _ _ ho
        have := D.mono h (by omega); omega
    · exact keep id o e (.inl ho)
  · by_cases e : a = q
    · subst e
      have e1 : (addO (H a) o).tr.get (H a).next = (addO (H a) obj).tr.get (H a).next := by rw [← hHa, ← hH]
      rw [get_add, get_add, if_pos rfl, if_pos rfl] at e1
      cases e1; exact hnew
    · have hLa := hL.resolve_left e
      exact keep _ o (fun h => e (D.made_inj hca haa hwa hc ha hw h)) (.inr ⟨a, c', hca, haa, hwa, hsa, hLa, rfl, hHa⟩)
  · have old : ∀ t l, φ id t = some l → id < (H s).next ∨ (∃ a c, cl[a]? = some c ∧ isAl c.op = true ∧ W a = true ∧ s ≤ a ∧ (a = q ∨ L a) ∧ id = (H a).next) ∨ M ≤ id := fun t l h => by
      rcases m.dom id t l h with h | ⟨a, c, h1, h2, h3, h4, h5, h6⟩ | h
      · exact .inl h
      · exact .inr (.inl ⟨a, c, h1, h2, h3, h4, .inr h5, h6⟩)
      · exact .inr (.inr h)
    rcases hS.new id t l hl with h3 | ⟨_, t', l', h3, _⟩ | ⟨h3, _, h4⟩
    · exact old t l h3
    · exact old t' l' h3
    · rcases h4 with h4 | ⟨t', l', h4⟩
      · have e : id = (H q).next := by omega
        rcases Nat.lt_or_ge q s with h | h
        · have h7 := D.mono (i := q + 1) (j := s) h hs.le
          exact .inl (by omega)
        · exact .inr (.inl ⟨q, c, hc, ha, hw, h, .inl rfl, e⟩)
      · exact old t' l' h4
  · have hne : a ≠ q := fun h => hL (.inl h)
    have hnL : ¬ L a := fun h => hL (.inr h)
    have hφ := m.unm a c' hca haa hwa hnL
    cases hl : ψ (H a).next t with
    | none => rfl
    | some l =>
      rcases hS.new _ t l hl with h3 | ⟨_, t', l', h3, _⟩ | ⟨h3, _, h4⟩
      · rw [hφ] at h3; cases h3
      · rw [hφ] at h3; cases h3
      · rcases h4 with h4 | ⟨t', l', h4⟩
        · exact absurd (D.made_inj hca haa hwa hc ha hw (by omega)) hne
        · rw [hφ] at h4; cases h4
end
end Go.AE
