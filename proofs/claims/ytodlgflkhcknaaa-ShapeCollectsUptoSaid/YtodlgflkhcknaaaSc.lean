import Derived.Test.YtodlgflkhcknaaaSb
set_option linter.unusedVariables false
/- Rows of structs that grow; what has been seen. -/
namespace Go.Proofs.Ytodlgflkhcknaaa.gcc
open Go Go.AE
set_option linter.unusedSimpArgs false
set_option maxRecDepth 100000

/-- A row of structs of sz cells that grows: nil, or all of its object. -/
def GN (sz : Nat) (h : Heap) (v : AV) (n : Nat) (l : List AV) : Prop :=
  l.length = n * sz ∧ ((n = 0 ∧ v = .nils) ∨ ∃ id t cells minv segs, 0 < n ∧ v = .sl id t 0 n none sz ∧ h.tr.get id = some (.ve cells (n * sz) t minv segs) ∧ minv ≤ t ∧ ∀ (j : Nat) x, l[j]? = some x → cells.get j = some x)
theorem GN.keep {sz : Nat} {h h1 : Heap} {S : List Nat} {v : AV} {n : Nat} {l : List AV} (g : GN sz h v n l) (a : Kp h h1 S) (hs : Sc h) (hn : ∀ i ∈ rid v, i ∉ S) : GN sz h1 v n l := by
  obtain ⟨g0, g | ⟨id, t, cells, minv, segs, h1, rfl, h3, h4⟩⟩ := g
  · exact ⟨g0, .inl g⟩
  · exact ⟨g0, .inr ⟨id, t, cells, minv, segs, h1, rfl, a.get hs h3 (hn id (by simp [rid])), h4⟩⟩
theorem GN.lt {sz : Nat} {h : Heap} {v : AV} {n : Nat} {l : List AV} (g : GN sz h v n l) (hs : Sc h) : ∀ i ∈ rid v, i < h.next := by
  obtain ⟨_, ⟨_, rfl⟩ | ⟨id, t, cells, minv, segs, h1, rfl, h3, h4⟩⟩ := g
  · intro i hi; simp [rid] at hi
  · intro i hi; simp [rid] at hi; rw [hi]; exact hs _ _ h3
theorem GN.len {sz : Nat} {h : Heap} {v : AV} {n : Nat} {l : List AV} (g : GN sz h v n l) (k : KV) : lenK v k = k (iv (n : Int)) := by
  obtain ⟨_, ⟨rfl, rfl⟩ | ⟨id, t, cells, minv, segs, h1, rfl, h3, h4⟩⟩ := g <;> rfl
theorem GN.cells {sz : Nat} {h : Heap} {v : AV} {n : Nat} {l : List AV} (g : GN sz h v n l) : cellsOf v = [v] ∧ oneC v = true ∧ sameV v v = true := by
  obtain ⟨_, ⟨rfl, rfl⟩ | ⟨id, t, cells, minv, segs, h1, rfl, h3, h4⟩⟩ := g
  · exact ⟨rfl, rfl, rfl⟩
  · exact ⟨rfl, rfl, s_sl _ _ _ _ _⟩
theorem GN.notSt {sz : Nat} {h : Heap} {v : AV} {n : Nat} {l : List AV} (g : GN sz h v n l) {p k : Nat} {c : T AV} (hp : h.tr.get p = some (.st c k)) : p ∉ rid v := by
  obtain ⟨_, ⟨rfl, rfl⟩ | ⟨id, t, cells, minv, segs, h1, rfl, h3, h4⟩⟩ := g
  · simp [rid]
  · intro hi; simp [rid] at hi; rw [← hi, hp] at h3; cases h3
theorem GN.notMp {sz : Nat} {h : Heap} {v : AV} {n : Nat} {l : List AV} (g : GN sz h v n l) {p : Nat} {es : List (AV × AV)} (hp : h.tr.get p = some (.mp es)) : p ∉ rid v := by
  obtain ⟨_, ⟨rfl, rfl⟩ | ⟨id, t, cells, minv, segs, h1, rfl, h3, h4⟩⟩ := g
  · simp [rid]
  · intro hi; simp [rid] at hi; rw [← hi, hp] at h3; cases h3
theorem room_ok' {b n : Nat} (hb : b ≤ 48) (hn : n ≤ 1000000) : room b n = true := Nat.ble_eq_true_of_le (by
  have h1 : (2 * n + 1000) * b ≤ 2001000 * 48 := Nat.mul_le_mul (by omega) hb
  exact Nat.le_trans h1 (Nat.le_of_ble_eq_true rfl))

/-- One more struct. -/
theorem app_n {sz b : Nat} (hsz : 0 < sz) (hb : b ≤ 48) {h : Heap} {v : AV} {n : Nat} {l new : List AV} (g : GN sz h v n l) (hs : Sc h) (hnew : new.length = sz) (ha : allOne new = true) (hn : n < 1000000) :
    ∃ v' h', (∀ k, appK sz b v new 1 h k = k v' h') ∧ GN sz h' v' (n + 1) (l ++ new) ∧ Sc h' ∧ Kp h h' (rid v) ∧ ∀ i ∈ rid v', i ∈ rid v ∨ h.next ≤ i := by
  obtain ⟨g0, ⟨rfl, rfl⟩ | ⟨id, t, cells, minv, segs, h1, rfl, h3, h4, h5⟩⟩ := g
  · have hl : l = [] := List.length_eq_zero_iff.1 (by rw [g0]; simp)
    subst hl
    refine ⟨.sl h.next 0 0 1 none sz, addO h (.ve (T.ofList new 0 .e) (Nat.mul 1 sz) 0 0 []), fun k => ?_, ⟨by simp [hnew], .inr ⟨h.next, 0, T.ofList new 0 .e, 0, [], by omega, rfl, by rw [get_add, if_pos rfl]; rfl, Nat.le_refl _, fun j y hj => ?_⟩⟩, hs.add _, Kp.add _ _ _, fun i hi => ?_⟩
    · show ite' (room b 1) (newVec sz new 1 h k) false = _
      rw [room_ok' hb (by omega)]; rfl
    · have hl := (List.getElem?_eq_some_iff.1 hj).1
      simp at hl hj
      rw [get_ofList, if_pos ⟨Nat.zero_le _, by omega⟩, Nat.sub_zero]; exact hj
    · simp [rid] at hi; exact .inr (by omega)
  · have hid : h.tr.get id = some (.ve cells (n * sz) t minv segs) := h3
    refine ⟨.sl id (t + 1) 0 (n + 1) none sz, updO h id (.ve (T.ofList new (n * sz) cells) (n * sz + Nat.mul 1 sz) (t + 1) minv ((n * sz, t + 1) :: popSegs (n * sz) segs)), fun k => ?_,
      ⟨by simp [g0, hnew, Nat.add_mul], .inr ⟨id, t + 1, T.ofList new (n * sz) cells, minv, (n * sz, t + 1) :: popSegs (n * sz) segs, by omega, rfl, ?_, by omega, fun j y hj => ?_⟩⟩, hs.upd hid _, (Kp.upd h id _).mono fun i hi => by simpa [rid] using hi, fun i hi => .inl (by simpa [rid] using hi)⟩
    · show ite' (Nat.beq sz sz) (ite' (room b (n + 1)) (h.tr.getK id false fun o => appTo o sz id t 0 n none new 1 h k) false) false = _
      rw [room_ok' hb (by omega), AE.beq_self, t_get hid]
      show ite' (ite' (Nat.ble minv t) (ite' (Nat.ble (0 + n * sz) (n * sz)) (ite' (Nat.beq t t) true _) false) false) (ite' (allOne new) (k (.sl id (t + 1) 0 (n + 1) none sz) (updO h id (.ve (T.ofList new (0 + n * sz) cells) (0 + n * sz + Nat.mul 1 sz) (t + 1) minv ((0 + n * sz, t + 1) :: popSegs (0 + n * sz) segs)))) false) false = _
      rw [ha, Nat.ble_eq_true_of_le h4, AE.beq_self, Nat.zero_add, Nat.ble_eq_true_of_le (Nat.le_refl _)]
      rfl
    · rw [get_upd, if_pos rfl, Nat.add_mul]; rfl
    · rw [get_ofList]
      have hl := (List.getElem?_eq_some_iff.1 hj).1
      simp [g0, hnew] at hl
      by_cases e : j < n * sz
      · rw [if_neg (by omega)]
        rw [List.getElem?_append_left (by omega)] at hj
        exact h5 j y hj
      · rw [if_pos ⟨by omega, by omega⟩]
        rw [List.getElem?_append_right (by omega), g0] at hj
        exact hj
/-- A cell is read, is set. -/
theorem GN.elem {sz : Nat} {h : Heap} {v x : AV} {n : Nat} {l : List AV} (g : GN sz h v n l) {j : Nat} (hj : l[j]? = some x) : ∃ id t o, v = .sl id t 0 n none sz ∧ h.tr.get id = some o ∧ ∀ k, rdK o t j k = k x := by
  have hl := (List.getElem?_eq_some_iff.1 hj).1
  obtain ⟨g0, ⟨rfl, rfl⟩ | ⟨id, t, cells, minv, segs, h1, rfl, h3, h4, h5⟩⟩ := g
  · rw [g0] at hl; simp at hl
  · exact ⟨id, t, _, rfl, h3, fun k => by rw [m_ve _ _ _ _ _ _ _ (by omega), t_get (h5 j x hj)]⟩
theorem GN.put {sz : Nat} {h : Heap} {v x : AV} {n : Nat} {l : List AV} (g : GN sz h v n l) (hs : Sc h) (hx : oneC x = true) {j : Nat} (hj : j < n * sz) :
    ∃ id t o o', v = .sl id t 0 n none sz ∧ h.tr.get id = some o ∧ (∀ k, wrK o t j x k = k o') ∧ GN sz (updO h id o') v n (l.set j x) ∧ Sc (updO h id o') ∧ Kp h (updO h id o') (rid v) := by
  obtain ⟨g0, ⟨rfl, rfl⟩ | ⟨id, t, cells, minv, segs, h1, rfl, h3, h4, h5⟩⟩ := g
  · simp at hj
  · refine ⟨id, t, _, .ve (cells.set x j) (n * sz) t t segs, rfl, h3, fun k => w_ve hx hj k, ⟨by simp [g0], .inr ⟨id, t, cells.set x j, t, segs, h1, rfl, by rw [get_upd, if_pos rfl], Nat.le_refl _, fun i y hi => ?_⟩⟩, hs.upd h3 _, (Kp.upd h id _).mono fun i hi => by simpa [rid] using hi⟩
    rw [get_set]
    rcases set_cases hi with ⟨rfl, rfl⟩ | ⟨e, hi⟩
    · rw [if_pos rfl]
    · rw [if_neg e]; exact h5 i y hi

/- A row of one struct, that is appended. -/
noncomputable def bslK3 (z : List AV) (v : AV) (h : Heap) (k : KH) : Bool := ite' (Nat.beq (lenL (cellsOf v) 0) 3) (ite' (Nat.ble (0 + 3) (lenL (repL z 1) 0)) (k (.sl h.next 0 0 1 (some 1) 3) (addO h (.st (T.ofList (putL (repL z 1) (cellsOf v) 0) 0 .e) (Nat.mul 1 3)))) false) false
theorem bsl3 (z : List AV) (x : Opd) (E : Env) (h : Heap) (k : KH) : runA (.bsl z 3 1 [(0, (3, x))]) E h k = ev x E fun v => bslK3 z v h k := rfl
theorem bslK3_of (a b c x y z : AV) (h : Heap) (k : KH) : bslK3 [x, y, z] (.agg [a, b, c]) h k = k (.sl h.next 0 0 1 (some 1) 3) (addO h (.st (T.set c (T.set b (T.set a .e 0) 1) 2) 3)) := rfl
theorem src_new3 (a b c : AV) (H : Heap) (k : List AV → Nat → Bool) : srcK 3 (.sl H.next 0 0 1 (some 1) 3) (addO H (.st (T.set c (T.set b (T.set a .e 0) 1) 2) 3)) k = k [a, b, c] 1 := by
  show ((addO H (.st (T.set c (T.set b (T.set a .e 0) 1) 2) 3)).tr.getK H.next false fun o => rdsK o 0 (1 * 3) 0 fun l => k l 1) = _
  rw [ga_new]
  rfl
noncomputable def bslK2 (z : List AV) (v : AV) (h : Heap) (k : KH) : Bool := ite' (Nat.beq (lenL (cellsOf v) 0) 2) (ite' (Nat.ble (0 + 2) (lenL (repL z 1) 0)) (k (.sl h.next 0 0 1 (some 1) 2) (addO h (.st (T.ofList (putL (repL z 1) (cellsOf v) 0) 0 .e) (Nat.mul 1 2)))) false) false
theorem bsl2 (z : List AV) (x : Opd) (E : Env) (h : Heap) (k : KH) : runA (.bsl z 2 1 [(0, (2, x))]) E h k = ev x E fun v => bslK2 z v h k := rfl
theorem bslK2_of (a b x y : AV) (h : Heap) (k : KH) : bslK2 [x, y] (.agg [a, b]) h k = k (.sl h.next 0 0 1 (some 1) 2) (addO h (.st (T.set b (T.set a .e 0) 1) 2)) := rfl
theorem src_new2 (a b : AV) (H : Heap) (k : List AV → Nat → Bool) : srcK 2 (.sl H.next 0 0 1 (some 1) 2) (addO H (.st (T.set b (T.set a .e 0) 1) 2)) k = k [a, b] 1 := by
  show ((addO H (.st (T.set b (T.set a .e 0) 1) 2)).tr.getK H.next false fun o => rdsK o 0 (1 * 2) 0 fun l => k l 1) = _
  rw [ga_new]
  rfl

/-- What has been seen: the words of the first n blocks. -/
def seenE (β : Nat → Int) (n : Nat) : List (AV × AV) := (List.range n).map fun j => (iv (β j), iv (j : Int))
theorem find_app (a b : List (AV × AV)) (w : AV) (d : Bool) (f : KV) : findK (a ++ b) w d f = findK a w (findK b w d f) f := by
  induction a with
  | nil => rfl
  | cons e a ih =>
    show eqS e.1 w (fun r => @Bool.rec (fun _ => Bool) (findK (a ++ b) w d f) (f e.2) r) = eqS e.1 w (fun r => @Bool.rec (fun _ => Bool) (findK a w (findK b w d f) f) (f e.2) r)
    rw [ih]
theorem find_seen {β : Nat → Int} (w : Int) (d : Bool) (f : KV) : ∀ n, (∀ j, j < n → β j ≠ w) → findK (seenE β n) (iv w) d f = d
  | 0, _ => rfl
  | n + 1, h => by
    unfold seenE
    rw [List.range_succ, List.map_append, find_app]
    have : findK ([n].map fun j => (iv (β j), iv (j : Int))) (iv w) d f = d := by
      show eqS (iv (β n)) (iv w) (fun r => @Bool.rec (fun _ => Bool) d (f (iv n)) r) = d
      rw [eq_iv, decide_eq_false (h n (by omega))]
    rw [this]
    exact find_seen w d f n fun j hj => h j (by omega)
theorem find_known {β : Nat → Int} {B : Nat} (hinj : ∀ i j, i < j → j < B → β i ≠ β j) {i : Nat} (hi : i < B) (d : Bool) (f : KV) : ∀ n, i < n → findK (seenE β n) (iv (β i)) d f = f (iv (i : Int))
  | 0, h => by omega
  | n + 1, h => by
    unfold seenE
    rw [List.range_succ, List.map_append, find_app]
    by_cases e : i = n
    · subst e
      rw [show (List.map (fun j => (iv (β j), iv (j : Int))) (List.range i)) = seenE β i from rfl, find_seen (β i) _ f i fun j hj => hinj j i hj hi]
      show eqS (iv (β i)) (iv (β i)) (fun r => @Bool.rec (fun _ => Bool) d (f (iv i)) r) = _
      rw [eq_iv, decide_eq_true rfl]
    · exact find_known hinj hi _ f n (by omega)
theorem put_seen {β : Nat → Int} {B : Nat} (hinj : ∀ i j, i < j → j < B → β i ≠ β j) {n : Nat} (hn : n < B) (K : List (AV × AV) → Bool) : putM (seenE β n) (iv (β n)) (iv (n : Int)) K = K (seenE β (n + 1)) := by
  have go : ∀ (l : List Nat) (K : List (AV × AV) → Bool), (∀ j ∈ l, β j ≠ β n) → putM (l.map fun j => (iv (β j), iv (j : Int))) (iv (β n)) (iv (n : Int)) K = K ((l.map fun j => (iv (β j), iv (j : Int))) ++ [(iv (β n), iv (n : Int))]) := by
    intro l
    induction l with
    | nil => intro K _; rfl
    | cons a l ih =>
      intro K hl
      show eqS (iv (β a)) (iv (β n)) (fun r => @Bool.rec (fun _ => Bool) (putM (l.map fun j => (iv (β j), iv (j : Int))) (iv (β n)) (iv (n : Int)) fun l' => K ((iv (β a), iv (a : Int)) :: l')) (K _) r) = _
      rw [eq_iv, decide_eq_false (hl a List.mem_cons_self)]
      show putM (l.map fun j => (iv (β j), iv (j : Int))) (iv (β n)) (iv (n : Int)) (fun l' => K ((iv (β a), iv (a : Int)) :: l')) = _
      rw [ih _ fun j hj => hl j (List.mem_cons_of_mem _ hj)]
      rfl
  unfold seenE
  rw [go _ K fun j hj => hinj j n (List.mem_range.1 hj) hn, List.range_succ, List.map_append]; rfl
end Go.Proofs.Ytodlgflkhcknaaa.gcc

/- A value's graph is drawn: numbers, blocks that have been seen. -/
namespace Go.Proofs.Ytodlgflkhcknaaa.gcc
open Go Go.AE
set_option linter.unusedSimpArgs false
set_option maxRecDepth 100000

/-- The word of a value, the blocks being at β. -/
def wB (β : Nat → Int) (r : Rf) : Int := if r.1 = true then 2 * r.2 + 1 else β r.2.toNat
/-- The heap's blocks are the graph's, at β. -/
structure Iso (Ln : List Cl) (bs : List Bl) (β : Nat → Int) : Prop where
  inj : ∀ i j, i < j → j < bs.length → β i ≠ β j
  bl : ∀ (j : Nat) b, bs[j]? = some b → ∃ c, look 0 Ln (β j) = some c ∧ c.tag = b.tag ∧ (b.tag = 1 → c.fl = bytesW b.sn b.sv) ∧ (b.tag ≠ 1 → c.fl = b.kids.map (wB β))
theorem look_even {w : Int} {c : Cl} : ∀ {L : List Cl} {a : Nat}, look a L w = some c → w % 2 = 0
  | [], a, h => by cases h
  | x :: L, a, h => by
    unfold look at h
    split at h
    · omega
    · exact look_even h
theorem Iso.even {Ln : List Cl} {bs : List Bl} {β : Nat → Int} (I : Iso Ln bs β) {j : Nat} (hj : j < bs.length) : β j % 2 = 0 := by
  obtain ⟨c, h, _⟩ := I.bl j _ (List.getElem?_eq_getElem hj)
  exact look_even h

/-- What draws: the heap, what has been seen, the blocks so far. -/
structure DR (h : Heap) (q ms p m : Nat) (Ln : List Cl) (β : Nat → Int) (v : AV) (n : Nat) (l : List AV) : Prop where
  cell : ∃ c, h.tr.get q = some (.st c 4) ∧ c.get 0 = some (.p p 0 0) ∧ c.get 1 = some (.m ms) ∧ c.get 2 = some v ∧ c.get 3 = some (.b false)
  mp : h.tr.get ms = some (.mp (seenE β n))
  gn : GN 3 h v n l
  ds : ∀ z ∈ rid v, z ∉ fpL Ln
  nm : ms ≠ m
def KidsF (h : Heap) (S : List Nat) (b0 : Nat) (v : AV) (ks : List Rf) : Prop :=
  (ks = [] ∧ v = .nils) ∨ ∃ id t off cap o, v = .sl id t off ks.length cap 2 ∧ (id ∉ S ∧ b0 ≤ id) ∧ h.tr.get id = some o ∧ ∀ (j : Nat) (r : Rf), ks[j]? = some r → (∀ k, rdK o t (off + j * 2) k = k (.b r.1)) ∧ ∀ k, rdK o t (off + j * 2 + 1) k = k (iv r.2)
/-- A block is drawn. -/
def Done (h : Heap) (S : List Nat) (b0 : Nat) (l : List AV) (bs : List Bl) (j : Nat) : Prop :=
  ∀ b, bs[j]? = some b → l[j * 3]? = some (iv b.tag) ∧ l[j * 3 + 1]? = some (.s b.sn b.sv) ∧ ∃ kv, l[j * 3 + 1 + 1]? = some kv ∧ KidsF h S b0 kv b.kids

theorem KidsF.keep {h h' : Heap} {S S' T : List Nat} {b0 b1 : Nat} {v : AV} {ks : List Rf} (r : KidsF h S b0 v ks) (a : Kp h h' T) (hs : Sc h) (hT : ∀ i ∈ T, i ∈ S) (hS : ∀ i ∈ S', i ∈ S ∨ h.next ≤ i ∨ i < b0) (hb : b1 ≤ b0) : KidsF h' S' b1 v ks := by
  rcases r with r | ⟨id, t, off, cap, o, rfl, ⟨hi, hi2⟩, ho, hr⟩
  · exact .inl r
  · exact .inr ⟨id, t, off, cap, o, rfl, ⟨fun hm => by
      rcases hS id hm with h1 | h1 | h1
      · exact hi h1
      · have := hs _ _ ho; omega
      · omega, by omega⟩, a.get hs ho (fun hm => hi (hT id hm)), hr⟩
theorem Done.keep {h h' : Heap} {S S' T : List Nat} {b0 b1 : Nat} {l l' : List AV} {bs : List Bl} {j : Nat} (d : Done h S b0 l bs j) (a : Kp h h' T) (hs : Sc h) (hT : ∀ i ∈ T, i ∈ S) (hS : ∀ i ∈ S', i ∈ S ∨ h.next ≤ i ∨ i < b0) (hb : b1 ≤ b0) (hl : ∀ x, x < (j + 1) * 3 → j * 3 ≤ x → l'[x]? = l[x]?) : Done h' S' b1 l' bs j := fun b hb' => by
  obtain ⟨h1, h2, kv, h3, h4⟩ := d b hb'
  exact ⟨by rw [hl _ (by omega) (by omega)]; exact h1, by rw [hl _ (by omega) (by omega)]; exact h2, kv, by rw [hl _ (by omega) (by omega)]; exact h3, h4.keep a hs hT hS hb⟩

section
variable {h : Heap} {q ms p m : Nat} {size : Int} {Ln : List Cl} {β : Nat → Int} {v : AV} {n : Nat} {l : List AV} {bs : List Bl}
theorem DR.keep {h' : Heap} {S : List Nat} (D : DR h q ms p m Ln β v n l) (a : Kp h h' S) (hs : Sc h) (hq : q ∉ S) (hm : ms ∉ S) (hv : ∀ i ∈ rid v, i ∉ S) : DR h' q ms p m Ln β v n l := by
  obtain ⟨c, h1, h2⟩ := D.cell
  exact ⟨⟨c, a.get hs h1 hq, h2⟩, a.get hs D.mp hm, D.gn.keep a hs hv, D.ds, D.nm⟩
theorem DR.lt (D : DR h q ms p m Ln β v n l) (hs : Sc h) : q < h.next ∧ ms < h.next ∧ ∀ i ∈ rid v, i < h.next := by
  obtain ⟨c, h1, _⟩ := D.cell
  exact ⟨hs _ _ h1, hs _ _ D.mp, D.gn.lt hs⟩
theorem DR.heap {h' : Heap} (D : DR h q ms p m Ln β v n l) (r : RH h p m size Ln) (a : Kp h h' (q :: ms :: rid v)) (hs : Sc h) : RH h' p m size Ln := by
  obtain ⟨c, h1, _⟩ := D.cell
  obtain ⟨d, d1, _⟩ := r.hd
  obtain ⟨e1, e2, e3⟩ := r.notSt4 h1
  obtain ⟨e4, e5⟩ := r.notMp D.mp
  refine r.keep a hs (fun hm => ?_) (fun hm => ?_) (fun z hz hm => ?_)
  · simp only [List.mem_cons] at hm
    rcases hm with h2 | h2 | h2
    · exact e1 h2.symm
    · exact e4 h2.symm
    · exact D.gn.notSt d1 h2
  · simp only [List.mem_cons] at hm
    rcases hm with h2 | h2 | h2
    · exact e2 h2.symm
    · exact D.nm h2.symm
    · exact D.gn.notMp r.mp h2
  · simp only [List.mem_cons] at hm
    rcases hm with h2 | h2 | h2
    · exact e3 (h2 ▸ hz)
    · exact e5 (h2 ▸ hz)
    · exact D.ds z h2 hz

theorem dImm (D : DR h q ms p m Ln β v n l) (hs : Sc h) (x : Int) (k0 : Nat) :
    ∃ h', (∀ k : KH, cal (k0 + 2) 46 [.p q 0 0, iv (2 * x + 1)] h k = k (.agg [.b true, iv x]) h') ∧ DR h' q ms p m Ln β v n l ∧ Sc h' ∧ Kp h h' [] := by
  have a1 := fun h k => sIsInt (2 * x + 1) k0 h k
  rw [decide_eq_true (show (2 * x + 1) % 2 = 1 by omega)] at a1
  have a2 := fun h k => sNum (2 * x + 1) k0 h k
  rw [show (2 * x + 1) / 2 = x by omega] at a2
  obtain ⟨H, hH⟩ : ∃ y, y = updO (addO h (.st (T.set (iv 0) (T.set (.b false) .e 0) 1) 2)) h.next (.st (T.set (iv x) (T.set (.b true) (T.set (iv 0) (T.set (.b false) .e 0) 1) 0) 1) 2) := ⟨_, rfl⟩
  have hq : (addO h (.st (T.set (iv 0) (T.set (.b false) .e 0) 1) 2)).tr.get h.next = some (.st (T.set (iv 0) (T.set (.b false) .e 0) 1) 2) := by rw [get_add, if_pos rfl]
  have s2 : Sc H := by rw [hH]; exact (hs.add _).upd hq _
  have k2 : Kp h H [] := by rw [hH]; exact (Kp.add h _ []).trans (Kp.upd _ _ _) (fun z hz hl => by simp at hz; omega)
  refine ⟨H, fun k => ?_, D.keep k2 hs (by simp) (by simp) (fun _ _ => by simp), s2, k2⟩
  rw [hH, run46]; simp only [ofL_cons, ofL_nil, Nat.zero_add, Nat.reduceAdd]
  simp (maxSteps := 1000000) -implicitDefEqProofs only [c46, ↓x_seq, ↓x_reg, ↓o_consS, ↓r_al, ↓m_new, ↓o_nil, ↓nrm_n, ↓ofL_cons, ↓ofL_nil, Nat.zero_add, ↓len_2]
  simp (maxSteps := 1000000) -implicitDefEqProofs only [c46T0, ↓x_seq, ↓x_reg, ↓o_consN, ↓r_pu, ↓p_mv, ↓e_t, ne_eq, Nat.reduceEqDiff, not_false_eq_true, ↓getK_other, ↓getK_same, ↓o_consS, ↓r_ef, ↓m_callf, ↓es_cons, ↓e_l0, ↓es_nil, ↓a1, ↓o_nil, ↓nrm_n]
  simp (maxSteps := 1000000) -implicitDefEqProofs only [c46T1, ↓x_cond, ↓e_t, ↓getK_same, ↓n_b]
  simp (maxSteps := 1000000) -implicitDefEqProofs only [c46T2, ↓x_seq, ↓x_reg, ↓o_consN, ↓r_pu, ↓p_mv, ↓e_t, ne_eq, Nat.reduceEqDiff, not_false_eq_true, ↓getK_other, ↓getK_same, ↓r_ef, ↓m_callf, ↓es_cons, ↓e_l0, ↓es_nil, ↓a2, ↓p_bld, ↓fill_cons, ↓e_c, ↓c_b, ↓fv20, ↓c_i, ↓fv21, ↓fill_nil, ↓m_store, ↓n_p, ↓c_agg, len_2, beq_dec, decide_true, ↓ga_new2, ↓o_nil, ↓nrm_n, ↓x_ret, ↓nrm_r, ↓ret_r, ↓res_cell2, ↓gu_same, ↓rds_2, Nat.zero_add, ↓one1, wrs_2, ↓one_b, Nat.reduceLT, ↓w_st, ↓one_i, ↓m_st0, nx1, i_t]

theorem dOld (I : Iso Ln bs β) (D : DR h q ms p m Ln β v n l) (hs : Sc h) {i : Nat} (hi : i < n) (hib : i < bs.length) (k0 : Nat) :
    ∃ h', (∀ k : KH, cal (k0 + 2) 46 [.p q 0 0, iv (β i)] h k = k (.agg [.b false, iv i]) h') ∧ DR h' q ms p m Ln β v n l ∧ Sc h' ∧ Kp h h' [] := by
  have a1 := fun h k => sIsInt (β i) k0 h k
  rw [decide_eq_false (show ¬ β i % 2 = 1 by have := I.even hib; omega)] at a1
  have a2 := fun d f => find_known I.inj hib d f n hi
  obtain ⟨c, h1, c0, c1, c2, c3⟩ := D.cell
  have hqn : q ≠ h.next := Nat.ne_of_lt (hs _ _ h1)
  have hmn : ms ≠ h.next := Nat.ne_of_lt (hs _ _ D.mp)
  have hmp := D.mp
  obtain ⟨H, hH⟩ : ∃ y, y = updO (addO h (.st (T.set (iv 0) (T.set (.b false) .e 0) 1) 2)) h.next (.st (T.set (iv i) (T.set (.b false) (T.set (iv 0) (T.set (.b false) .e 0) 1) 0) 1) 2) := ⟨_, rfl⟩
  have hq : (addO h (.st (T.set (iv 0) (T.set (.b false) .e 0) 1) 2)).tr.get h.next = some (.st (T.set (iv 0) (T.set (.b false) .e 0) 1) 2) := by rw [get_add, if_pos rfl]
  have s2 : Sc H := by rw [hH]; exact (hs.add _).upd hq _
  have k2 : Kp h H [] := by rw [hH]; exact (Kp.add h _ []).trans (Kp.upd _ _ _) (fun z hz hl => by simp at hz; omega)
  refine ⟨H, fun k => ?_, D.keep k2 hs (by simp) (by simp) (fun _ _ => by simp), s2, k2⟩
  rw [hH, run46]; simp only [ofL_cons, ofL_nil, Nat.zero_add, Nat.reduceAdd]
  simp (maxSteps := 1000000) -implicitDefEqProofs only [c46, ↓x_seq, ↓x_reg, ↓o_consS, ↓r_al, ↓m_new, ↓o_nil, ↓nrm_n, ↓ofL_cons, ↓ofL_nil, Nat.zero_add, ↓len_2]
  simp (maxSteps := 1000000) -implicitDefEqProofs only [c46T0, ↓x_seq, ↓x_reg, ↓o_consN, ↓r_pu, ↓p_mv, ↓e_t, ne_eq, Nat.reduceEqDiff, not_false_eq_true, ↓getK_other, ↓getK_same, ↓o_consS, ↓r_ef, ↓m_callf, ↓es_cons, ↓e_l0, ↓es_nil, ↓a1, ↓o_nil, ↓nrm_n]
  simp (maxSteps := 1000000) -implicitDefEqProofs only [c46T1, ↓x_cond, ↓e_t, ↓getK_same, ↓n_b, ↓x_skip, ↓nrm_n]
  simp (maxSteps := 1000000) -implicitDefEqProofs only [c46T3, ↓x_seq, ↓x_reg, ↓o_consN, ↓r_pu, ↓p_mv, ↓e_t, ne_eq, reduceCtorEq, not_false_eq_true, ↓getK_other, nx1, ↓getK_same, ↓p_nilck, ↓e_l0, ↓n_pf, ↓p_fad, ↓n_p, ↓r_rd, ↓m_ld, hqn, ↓ga_old, ↓t_get h1, Nat.zero_add, Nat.reduceLT, ↓m_st0, ↓t_get c1, Nat.reduceEqDiff, ↓m_lk, ↓e_l1, ↓kd1, ↓n_m, hmn, ↓t_get hmp, ↓n_mp, ↓a2, ↓okT, ↓p_ext, ↓n_tup, ↓nth0, ↓nth1, ↓o_consS, ↓o_nil, ↓nrm_n, i_t]
  simp (maxSteps := 1000000) -implicitDefEqProofs only [c46T4, ↓x_seq, ↓x_reg, ↓o_consN, ↓r_pu, ↓p_mv, ↓e_t, ↓getK_same, ↓o_consS, ↓p_not, ↓e_l0, ↓n_b, ↓o_nil, ↓nrm_n, ↓nn_t]
  simp (maxSteps := 1000000) -implicitDefEqProofs only [c46T5, ↓x_cond, ↓e_t, ↓getK_same, ↓n_b, ↓x_skip, ↓nrm_n]
  simp (maxSteps := 1000000) -implicitDefEqProofs only [c46T10, ↓x_seq, ↓x_reg, ↓o_consN, ↓r_pu, ↓p_mv, ↓e_t, ne_eq, Nat.reduceEqDiff, not_false_eq_true, ↓getK_other, nx1, ↓getK_same, ↓p_bld, ↓fill_cons, ↓e_l0, ↓c_i, ↓fv21, ↓fill_nil, ↓r_ef, ↓m_store, nx2, ↓n_p, ↓c_agg, len_2, beq_dec, decide_true, ↓ga_new2, ↓o_nil, ↓nrm_n, ↓x_ret, ↓ret_r, ↓res_cell2, ↓gu_same, ↓rds_2, Nat.zero_add, ↓one1, wrs_2, ↓one_b, Nat.reduceLT, ↓w_st, ↓one_i, ↓m_st0, i_t]
end
end Go.Proofs.Ytodlgflkhcknaaa.gcc

/- A value's graph is drawn: a block's kids, one by one. -/
namespace Go.Proofs.Ytodlgflkhcknaaa.gcc
open Go Go.AE
set_option linter.unusedSimpArgs false
set_option maxRecDepth 100000

section
variable {q ms p m : Nat} {size : Int} {Ln : List Cl} {β : Nat → Int} {bs : List Bl}
/-- What a call of 'ref' comes to. -/
def DRun (q ms p m : Nat) (size : Int) (Ln : List Cl) (β : Nat → Int) (bs : List Bl) (mf : Nat) (R : Rf → Nat → Nat → Prop) : Prop :=
  ∀ (r : Rf) (n n' : Nat) (h : Heap) (v : AV) (l : List AV), DR h q ms p m Ln β v n l → RH h p m size Ln → Sc h → n ≤ bs.length → R r n n' →
    ∃ h' v' l', (∀ k : KH, cal mf 46 [.p q 0 0, iv (wB β r)] h k = k (.agg [.b r.1, iv r.2]) h') ∧ DR h' q ms p m Ln β v' n' l' ∧ Sc h' ∧ Kp h h' (q :: ms :: rid v) ∧ (∀ i ∈ rid v', i ∈ rid v ∨ h.next ≤ i) ∧
      (∀ x, x < n * 3 → l'[x]? = l[x]?) ∧ (n ≤ n' ∧ n' ≤ bs.length) ∧ ∀ j, n ≤ j → j < n' → Done h' (q :: ms :: rid v') h.next l' bs j

/-- The cells of the first kids. -/
def kcs (ks : List Rf) : List AV := ks.flatMap fun r => [.b r.1, iv r.2]
theorem kcs_len (ks : List Rf) : (kcs ks).length = ks.length * 2 := by
  induction ks with
  | nil => rfl
  | cons r ks ih => show ([AV.b r.1, iv r.2] ++ kcs ks).length = _; rw [List.length_append, ih]; simp; omega
theorem kcs_get {ks : List Rf} : ∀ {j : Nat} {r : Rf}, ks[j]? = some r → (kcs ks)[j * 2]? = some (.b r.1) ∧ (kcs ks)[j * 2 + 1]? = some (iv r.2) := by
  induction ks with
  | nil => intro j r h; simp at h
  | cons a ks ih =>
    intro j r h
    show ([AV.b a.1, iv a.2] ++ kcs ks)[j * 2]? = _ ∧ ([AV.b a.1, iv a.2] ++ kcs ks)[j * 2 + 1]? = _
    cases j with
    | zero => simp at h; subst h; exact ⟨rfl, rfl⟩
    | succ j =>
      have := ih (by simpa using h)
      rw [show (j + 1) * 2 = j * 2 + 1 + 1 from by omega]
      exact this
theorem kcs_snoc (ks : List Rf) (r : Rf) : kcs (ks ++ [r]) = kcs ks ++ [.b r.1, iv r.2] := by simp [kcs]
theorem GN.kids {h : Heap} {S : List Nat} {b0 : Nat} {kv : AV} {ks : List Rf} (g : GN 2 h kv ks.length (kcs ks)) (hS : ∀ z ∈ rid kv, z ∉ S ∧ b0 ≤ z) : KidsF h S b0 kv ks := by
  obtain ⟨g0, ⟨h1, rfl⟩ | ⟨id, t, cells, minv, segs, h1, rfl, h3, h4, h5⟩⟩ := g
  · exact .inl ⟨List.length_eq_zero_iff.1 h1, rfl⟩
  · refine .inr ⟨id, t, 0, none, _, rfl, hS id (by simp [rid]), h3, fun j r hr => ?_⟩
    have hl := (List.getElem?_eq_some_iff.1 hr).1
    obtain ⟨e1, e2⟩ := kcs_get hr
    refine ⟨fun k => ?_, fun k => ?_⟩
    · rw [Nat.zero_add, m_ve _ _ _ _ _ _ _ (by omega), t_get (h5 _ _ e1)]
    · rw [Nat.zero_add, m_ve _ _ _ _ _ _ _ (by omega), t_get (h5 _ _ e2)]

/-- While a block's kids are drawn. -/
structure KD (h : Heap) (q ms p m : Nat) (size : Int) (Ln : List Cl) (β : Nat → Int) (bs : List Bl) (b0 n0 n : Nat) (v : AV) (l : List AV) (kv : AV) (ks : List Rf) : Prop where
  dr : DR h q ms p m Ln β v n l
  rh : RH h p m size Ln
  gn : GN 2 h kv ks.length (kcs ks)
  kd : ∀ z ∈ rid kv, b0 ≤ z ∧ z ∉ q :: ms :: rid v
  bn : b0 ≤ h.next
  kf : ∀ z ∈ rid kv, z ∉ fpL Ln
  dn : ∀ j, n0 ≤ j → j < n → Done h (q :: ms :: (rid v ++ rid kv)) b0 l bs j
  nb : n0 ≤ n ∧ n ≤ bs.length
def F53 (fr : Fr) (q : Nat) (w : Int) (i : Nat) (kv : AV) (K k : Nat) : Prop :=
  fr.get 0 = some (.p q 0 0) ∧ fr.get 1 = some (iv w) ∧ fr.get 2 = some (iv i) ∧ fr.get 9 = some kv ∧ fr.get 25 = some (iv K) ∧ fr.get 26 = some (iv k)

theorem dStep {mf : Nat} {R : Rf → Nat → Nat → Prop} (IH : DRun q ms p m size Ln β bs (mf + 3) R) {h : Heap} {b0 n0 n n' : Nat} {v kv : AV} {l : List AV} {ks : List Rf} {k i : Nat} {w : Int} {r : Rf} (D : KD h q ms p m size Ln β bs b0 n0 n v l kv (ks.take k)) (hs : Sc h) (hr : ks[k]? = some r) (hR : R r n n') (hw : flOf Ln w = ks.map (wB β)) (hk2 : ks.length ≤ 10)
    {fr : Fr} (F : F53 fr q w i kv ks.length k) (f : Nat) :
    ∃ fr' h' v' l' kv', (∀ K, iter (exec (cal (mf + 3)) c53L0) (f + 1) fr h K = iter (exec (cal (mf + 3)) c53L0) f fr' h' K) ∧ F53 fr' q w i kv' ks.length (k + 1) ∧ KD h' q ms p m size Ln β bs b0 n0 n' v' l' kv' (ks.take (k + 1)) ∧ Sc h' ∧ Kp h h' (q :: ms :: (rid v ++ rid kv)) ∧
      (∀ i ∈ rid v', i ∈ rid v ∨ h.next ≤ i) ∧ (∀ i ∈ rid kv', i ∈ rid kv ∨ h.next ≤ i) ∧ (∀ x, x < n * 3 → l'[x]? = l[x]?) := by
  obtain ⟨f0, f1, f2, f9, f25, f26⟩ := F
  have hkl := (List.getElem?_eq_some_iff.1 hr).1
  have tl : (ks.take k).length = k := by rw [List.length_take]; omega
  obtain ⟨c, h1, c0, c1, c2, c3⟩ := D.dr.cell
  obtain ⟨h2, v2, l2, e2, D2, s2, k2, i2, l2', nn, d2⟩ := IH r n n' h v l D.dr D.rh hs D.nb.2 hR
  have kvlt : ∀ z ∈ rid kv, z < h.next := D.gn.lt hs
  have g2 := D.gn.keep k2 hs (fun z hz => (D.kd z hz).2)
  rw [tl] at g2
  obtain ⟨H, hH⟩ : ∃ y, y = addO h2 (.st (T.set (iv r.2) (T.set (.b r.1) .e 0) 1) 2) := ⟨_, rfl⟩
  have s3 : Sc H := by rw [hH]; exact s2.add _
  have k3 : Kp h2 H [] := by rw [hH]; exact Kp.add _ _ _
  have g3 := g2.keep k3 s2 (fun _ _ => by simp)
  obtain ⟨kv', h', e4, g4, s4, k4, i4⟩ := app_n (b := 16) (by omega) (by omega) g3 s3 (new := [.b r.1, iv r.2]) rfl rfl (by omega)
  have kvd : ∀ z ∈ rid kv, z ∉ q :: ms :: rid v2 := fun z hz hm => by
    have := kvlt z hz
    have h5 := (D.kd z hz).2
    simp only [List.mem_cons, not_or] at hm h5
    rcases hm with h6 | h6 | h6
    · exact h5.1 h6
    · exact h5.2.1 h6
    · rcases i2 z h6 with h7 | h7
      · exact h5.2.2 h7
      · omega
  have k24 : Kp h2 h' (rid kv) := (k3.mono (by simp)).trans k4 (fun z hz _ => hz)
  have D4 := D2.keep k24 s2 (fun hm => (kvd _ hm) (by simp)) (fun hm => (kvd _ hm) (by simp)) (fun z hz hm => (kvd _ hm) (by simp [hz]))
  have rh2 := D.dr.heap D.rh k2 hs
  have rh4 := rh2.keep k24 s2 (fun hm => by obtain ⟨d, d1, _⟩ := rh2.hd; exact g2.notSt d1 hm) (fun hm => g2.notMp rh2.mp hm) (fun z hz hm => D.kf z hm hz)
  have kc := g2.cells
  have a1 := fun K => b_lssT (a := (k : Int)) (b := (ks.length : Int)) (by omega) K
  have a2 := fun K => b_add (a := (k : Int)) (b := 1) (by omega) (by omega) K
  have a3 := fun K => rField D.rh w k mf K
  rw [hw, List.getElem?_map, hr] at a3
  simp only [Option.map_some] at a3
  rw [hH] at e4
  have kv'c : cellsOf kv' = [kv'] := g4.cells.1
  have tk : ks.take (k + 1) = ks.take k ++ [r] := by rw [List.take_add_one, hr]; rfl
  have tl1 : (ks.take (k + 1)).length = k + 1 := by rw [List.length_take]; omega
  apply Exists.intro
  refine ⟨h', v2, l2, kv', fun K => ?_, ⟨?_, ?_, ?_, ?_, ?_, ?_⟩, ⟨D4, rh4, ?_, fun z hz => ?_, ?_, fun z hz => ?_, fun j hj1 hj2 => ?_, ?_⟩, s4, ?_, i2, ?_, l2'⟩
  · rw [it_succ]
    simp (maxSteps := 1000000) -implicitDefEqProofs only [c53L0, ↓x_seq, ↓x_reg, ↓o_consS, ↓r_pu, ↓p_bin, ↓e_t, ↓t_get f26, ↓t_get f25, ↓a1, ↓o_nil, ↓nrm_n]
    simp (maxSteps := 1000000) -implicitDefEqProofs only [c53T14, ↓x_seq, ↓x_cond, ↓e_t, ↓getK_same, ↓n_b, ↓x_skip, ↓nrm_n]
    simp (maxSteps := 1000000) -implicitDefEqProofs only [c53T15, ↓x_seq, ↓x_block, ↓x_reg, ↓o_consN, ↓r_pu, ↓p_mv, ↓e_t, ne_eq, nx1, not_false_eq_true, ↓getK_other, ↓t_get f26, ↓o_consS, ↓e_l0, ↓o_nil, ↓nrm_n, ↓p_bin, ↓e_c, ↓nrm_e, beq_dec, ↓nrm_r]
    simp (maxSteps := 1000000) -implicitDefEqProofs only [c53T16, ↓x_seq, ↓x_reg, ↓o_consN, ↓r_pu, ↓p_mv, ↓e_t, ne_eq, reduceCtorEq, not_false_eq_true, ↓getK_other, ↓t_get f0, ↓p_nilck, ↓e_l0, ↓n_pf, ↓p_fad, ↓n_p, ↓r_rd, ↓m_ld, ↓t_get h1, Nat.zero_add, Nat.reduceLT, ↓m_st0, ↓t_get c0, Nat.reduceEqDiff, ↓t_get f1, ↓getK_same, ↓r_ef, ↓m_callf, ↓es_cons, ↓e_l2, ↓e_l1, ↓es_nil, ↓a3, ↓p_ext, ↓n_tup, ↓nth0, ↓nth1, ↓o_consS, ↓o_nil, ↓nrm_n]
    simp (maxSteps := 1000000) -implicitDefEqProofs only [c53T17, ↓x_reg, ↓o_consN, ↓r_pu, ↓p_mv, ↓e_t, ne_eq, nx2, not_false_eq_true, ↓getK_other, nx1, Nat.reduceEqDiff, ↓t_get f9, reduceCtorEq, ↓t_get f0, ↓getK_same, ↓r_ef, ↓m_callf, ↓es_cons, ↓e_l1, ↓e_l0, ↓es_nil, ↓e2, ↓r_al, ↓bsl2, ↓bslK2_of, ↓m_app, ↓e_l4, ↓src_new2, ↓e4, ↓o_consS, ↓o_nil, ↓t_get f26, ↓a2]
    rfl
  · simp only [get_other, get_same, ne_eq, Nat.reduceEqDiff, not_false_eq_true, f0]
  · simp only [get_other, get_same, ne_eq, Nat.reduceEqDiff, not_false_eq_true, f1]
  · simp only [get_other, get_same, ne_eq, Nat.reduceEqDiff, not_false_eq_true, f2]
  · simp only [get_other, get_same, ne_eq, Nat.reduceEqDiff, not_false_eq_true]
  · simp only [get_other, get_same, ne_eq, Nat.reduceEqDiff, not_false_eq_true, f25]
  · simp only [get_other, get_same, ne_eq, Nat.reduceEqDiff, not_false_eq_true]; rfl
  · rw [tl1, tk, kcs_snoc]; exact g4
  · rcases i4 z hz with h5 | h5
    · exact ⟨(D.kd z h5).1, kvd z h5⟩
    · have := k3.1
      have := k2.1
      have := D.bn
      obtain ⟨q1, q2, q3⟩ := D2.lt s2
      refine ⟨by omega, fun hm => ?_⟩
      simp only [List.mem_cons] at hm
      rcases hm with h6 | h6 | h6
      · omega
      · omega
      · have := q3 z h6; omega
  · have := k24.1; have := k2.1; have := D.bn; omega
  · rcases i4 z hz with h5 | h5
    · exact D.kf z h5
    · intro hm
      have := (rh2.lt s2).2.2 z hm
      have := k3.1
      omega
  · have hS : ∀ z ∈ q :: ms :: (rid v2 ++ rid kv'), z ∈ q :: ms :: (rid v2 ++ rid kv) ∨ h2.next ≤ z := fun z hz => by
      simp only [List.mem_cons, List.mem_append] at hz ⊢
      rcases hz with h5 | h5 | h5 | h5
      · exact .inl (.inl h5)
      · exact .inl (.inr (.inl h5))
      · exact .inl (.inr (.inr (.inl h5)))
      · rcases i4 z h5 with h6 | h6
        · exact .inl (.inr (.inr (.inr h6)))
        · have := k3.1; exact .inr (by omega)
    by_cases hjn : j < n
    · have d := D.dn j hj1 hjn
      refine (d.keep (S' := q :: ms :: (rid v2 ++ rid kv)) (b1 := b0) k2 hs (fun z hz => ?_) (fun z hz => ?_) (Nat.le_refl _) (fun x hx _ => l2' x (by omega))).keep (l' := l2) k24 s2 (fun z hz => by simp [hz]) (fun z hz => (hS z hz).elim .inl fun h => .inr (.inl h)) (Nat.le_refl _) (fun _ _ _ => rfl)
      · simp only [List.mem_cons, List.mem_append] at hz ⊢
        rcases hz with h5 | h5 | h5
        · exact .inl h5
        · exact .inr (.inl h5)
        · exact .inr (.inr (.inl h5))
      · simp only [List.mem_cons, List.mem_append] at hz ⊢
        rcases hz with h5 | h5 | h5 | h5
        · exact .inl (.inl h5)
        · exact .inl (.inr (.inl h5))
        · rcases i2 z h5 with h6 | h6
          · exact .inl (.inr (.inr (.inl h6)))
          · exact .inr (.inl h6)
        · exact .inl (.inr (.inr (.inr h5)))
    · have d := d2 j (by omega) hj2
      refine (d.keep (S' := q :: ms :: (rid v2 ++ rid kv)) (b1 := h.next) (Kp.refl h2 []) s2 (fun z hz => by simp at hz) (fun z hz => ?_) (Nat.le_refl _) (fun _ _ _ => rfl)).keep (l' := l2) k24 s2 (fun z hz => by simp [hz]) (fun z hz => (hS z hz).elim .inl fun h => .inr (.inl h)) D.bn (fun _ _ _ => rfl)
      simp only [List.mem_cons, List.mem_append] at hz ⊢
      rcases hz with h5 | h5 | h5 | h5
      · exact .inl (.inl h5)
      · exact .inl (.inr (.inl h5))
      · exact .inl (.inr (.inr h5))
      · exact .inr (.inr (kvlt z h5))
  · have := D.nb; omega
  · refine (k2.mono (fun z hz => ?_)).trans k24 (fun z hz _ => by simp [hz])
    simp only [List.mem_cons, List.mem_append] at hz ⊢
    rcases hz with h5 | h5 | h5
    · exact .inl h5
    · exact .inr (.inl h5)
    · exact .inr (.inr (.inl h5))
  · intro z hz
    rcases i4 z hz with h5 | h5
    · exact .inl h5
    · have := k3.1; have := k2.1; exact .inr (by omega)
end
end Go.Proofs.Ytodlgflkhcknaaa.gcc

/- A value's graph is drawn: a block. -/
namespace Go.Proofs.Ytodlgflkhcknaaa.gcc
open Go Go.AE
set_option linter.unusedSimpArgs false
set_option maxRecDepth 100000

section
variable {q ms p m : Nat} {size : Int} {Ln : List Cl} {β : Nat → Int} {bs : List Bl}
theorem dLoop {mf : Nat} {R : Rf → Nat → Nat → Prop} (IH : DRun q ms p m size Ln β bs (mf + 3) R) {b0 n0 : Nat} {ks : List Rf} {i : Nat} {w : Int} (hw : flOf Ln w = ks.map (wB β)) (hk2 : ks.length ≤ 10) (f : Nat) :
    ∀ (d k n n' : Nat) (h : Heap) (v kv : AV) (l : List AV) (fr : Fr), k + d = ks.length → KD h q ms p m size Ln β bs b0 n0 n v l kv (ks.take k) → Sc h → OKs R (ks.drop k) n n' → F53 fr q w i kv ks.length k →
    ∃ fr' h' v' l' kv', (∀ K, iter (exec (cal (mf + 3)) c53L0) (d + (f + 1)) fr h K = K (.exit 1) fr' h') ∧ F53 fr' q w i kv' ks.length ks.length ∧ KD h' q ms p m size Ln β bs b0 n0 n' v' l' kv' ks ∧ Sc h' ∧ Kp h h' (q :: ms :: (rid v ++ rid kv)) ∧
      (∀ i ∈ rid v', i ∈ rid v ∨ h.next ≤ i) ∧ (∀ x, x < n * 3 → l'[x]? = l[x]?) ∧ n ≤ n'
  | 0, k, n, n', h, v, kv, l, fr, hd, D, hs, ho, F => by
    have hk : k = ks.length := by omega
    subst hk
    rw [List.drop_length] at ho
    have ho : n' = n := ho
    subst ho
    rw [List.take_length] at D
    obtain ⟨f0, f1, f2, f9, f25, f26⟩ := F
    have a1 := fun K => b_lssF (a := (ks.length : Int)) (b := (ks.length : Int)) (by omega) K
    refine ⟨T.set (.b false) fr 27, h, v, l, kv, fun K => ?_, ⟨?_, ?_, ?_, ?_, ?_, ?_⟩, D, hs, Kp.refl _ _, fun z hz => .inl hz, fun _ _ => rfl, Nat.le_refl _⟩
    · rw [Nat.zero_add, it_succ]
      simp (maxSteps := 1000000) -implicitDefEqProofs only [c53L0, ↓x_seq, ↓x_reg, ↓o_consS, ↓r_pu, ↓p_bin, ↓e_t, ↓t_get f26, ↓t_get f25, ↓a1, ↓o_nil, ↓nrm_n]
      simp (maxSteps := 1000000) -implicitDefEqProofs only [c53T14, ↓x_seq, ↓x_cond, ↓e_t, ↓getK_same, ↓n_b, ↓x_exit, ↓nrm_e]
    · rw [get_other _ _ (by decide)]; exact f0
    · rw [get_other _ _ (by decide)]; exact f1
    · rw [get_other _ _ (by decide)]; exact f2
    · rw [get_other _ _ (by decide)]; exact f9
    · rw [get_other _ _ (by decide)]; exact f25
    · rw [get_other _ _ (by decide)]; exact f26
  | d + 1, k, n, n', h, v, kv, l, fr, hd, D, hs, ho, F => by
    have hr : ks[k]? = some ks[k] := List.getElem?_eq_getElem (by omega)
    rw [List.drop_eq_getElem_cons (by omega)] at ho
    obtain ⟨n1, o1, o2⟩ := ho
    obtain ⟨fr1, h1, v1, l1, kv1, e1, F1, D1, s1, k1, i1, i2, x1⟩ := dStep IH D hs hr o1 hw hk2 F (d + (f + 1))
    obtain ⟨fr', h', v', l', kv', e2, F2, D2, s2, k2, i3, x2, n2⟩ := dLoop IH hw hk2 f d (k + 1) n1 n' h1 v1 kv1 l1 fr1 (by omega) D1 s1 o2 F1
    have n01 : n ≤ n1 := by
      obtain ⟨_, _, _, _, _, _, _, _, _, nn, _⟩ := IH _ n n1 h v l D.dr D.rh hs D.nb.2 o1
      exact nn.1
    refine ⟨fr', h', v', l', kv', fun K => ?_, F2, D2, s2, k1.trans k2 (fun z hz hl => ?_), fun z hz => ?_, fun x hx => ?_, by omega⟩
    · rw [show d + 1 + (f + 1) = d + (f + 1) + 1 from by omega, e1, e2]
    · simp only [List.mem_cons, List.mem_append] at hz ⊢
      rcases hz with h5 | h5 | h5 | h5
      · exact .inl h5
      · exact .inr (.inl h5)
      · rcases i1 z h5 with h6 | h6
        · exact .inr (.inr (.inl h6))
        · omega
      · rcases i2 z h5 with h6 | h6
        · exact .inr (.inr (.inr h6))
        · omega
    · rcases i3 z hz with h5 | h5
      · exact i1 z h5
      · have := k1.1; exact .inr (by omega)
    · rw [x2 x (by omega), x1 x hx]

/-- A block of kids. -/
theorem dKids {mf : Nat} {R : Rf → Nat → Nat → Prop} (IH : DRun q ms p m size Ln β bs (mf + 3) R) {h : Heap} {i n' : Nat} {v : AV} {l : List AV} {b : Bl} {c0 : Cl} (D : DR h q ms p m Ln β v (i + 1) l) (r : RH h p m size Ln) (hs : Sc h) (hb : bs[i]? = some b) (ht : 2 ≤ b.tag ∧ b.tag ≤ 5) (hsn : b.sn = 0 ∧ b.sv = 0) (hk2 : b.kids.length ≤ 10)
    (hl : look 0 Ln (β i) = some c0) (hc1 : c0.tag = b.tag) (hc2 : c0.fl = b.kids.map (wB β)) (ho : OKs R b.kids (i + 1) n') (l0 : l[i * 3]? = some (iv b.tag)) (l1 : l[i * 3 + 1]? = some (.s 0 0)) :
    ∃ h' v' l', (∀ k : KH, cal (mf + 4) 53 [.p q 0 0, iv (β i), iv i] h k = k .u h') ∧ DR h' q ms p m Ln β v' n' l' ∧ Sc h' ∧ Kp h h' (q :: ms :: rid v) ∧ (∀ z ∈ rid v', z ∈ rid v ∨ h.next ≤ z) ∧
      (∀ x, x < i * 3 → l'[x]? = l[x]?) ∧ ∀ j, i ≤ j → j < n' → Done h' (q :: ms :: rid v') h.next l' bs j := by
  have hib := (List.getElem?_eq_some_iff.1 hb).1
  have htg : tagOf Ln (β i) = b.tag := by unfold tagOf; rw [hl]; exact hc1
  have hfl : flOf Ln (β i) = b.kids.map (wB β) := by unfold flOf; rw [hl]; exact hc2
  obtain ⟨c, h1, d0, d1, d2, d3⟩ := D.cell
  obtain ⟨fr1, hfr⟩ : ∃ x : Fr, x = T.set (iv 0) (T.set (iv b.kids.length) (T.set .nils (T.set (.b false) (T.set (.b false) (T.set (.b false) (T.set (.b false) (T.set (.b false) (T.set (iv b.tag) (T.set (iv b.tag) (T.set (iv i) (T.set (iv (β i)) (T.set (.p q 0 0) .e 0) 1) 2) 6) 19) 54) 54) 60) 90) 90) 9) 25) 26 := ⟨_, rfl⟩
  have F1 : F53 fr1 q (β i) i .nils b.kids.length 0 := by
    rw [hfr]
    refine ⟨?_, ?_, ?_, ?_, ?_, ?_⟩ <;> simp only [get_other, get_same, ne_eq, Nat.reduceEqDiff, not_false_eq_true]
    rfl
  have K1 : KD h q ms p m size Ln β bs h.next (i + 1) (i + 1) v l .nils (b.kids.take 0) := ⟨D, r, ⟨rfl, .inl ⟨rfl, rfl⟩⟩, fun z hz => by simp [rid] at hz, Nat.le_refl _, fun z hz => by simp [rid] at hz, fun j h1 h2 => by omega, by omega⟩
  obtain ⟨fr2, h2, v2, l2, kv, e2, ⟨g0, g1, g2, g9, g25, g26⟩, K2, s2, k2, i2, x2, n2⟩ := dLoop IH hfl hk2 (1000000 - b.kids.length - 1) b.kids.length 0 (i + 1) n' h v .nils l fr1 (by omega) K1 hs (by rw [List.drop_zero]; exact ho) F1
  rw [show b.kids.length + (1000000 - b.kids.length - 1 + 1) = 1000000 from by omega, hfr] at e2
  have k2' : Kp h h2 (q :: ms :: rid v) := k2.mono (fun z hz => by simpa [rid] using hz)
  have kc := K2.gn.cells
  obtain ⟨c', q1, q2, q3, q4, q5⟩ := K2.dr.cell
  obtain ⟨id, t, o, o', rfl, ho1, ho2, g3, s3, k3⟩ := K2.dr.gn.put s2 kc.2.1 (j := i * 3 + 2) (by omega)
  have n2' := K2.nb
  have hqv : q ∉ rid (.sl id t 0 n' none 3) := K2.dr.gn.notSt q1
  have hmv : ms ∉ rid (.sl id t 0 n' none 3) := K2.dr.gn.notMp K2.dr.mp
  have D3 : DR (updO h2 id o') q ms p m Ln β (.sl id t 0 n' none 3) n' (l2.set (i * 3 + 2) kv) := ⟨⟨c', k3.get s2 q1 hqv, q2, q3, q4, q5⟩, k3.get s2 K2.dr.mp hmv, g3, K2.dr.ds, K2.dr.nm⟩
  have b0 := fun K => b_eqlF (a := b.tag) (b := 0) (by omega) K
  have b8 := fun K => b_eqlF (a := b.tag) (b := 8) (by omega) K
  have b1 := fun K => b_eqlF (a := b.tag) (b := 1) (by omega) K
  have b6 := fun K => b_eqlF (a := b.tag) (b := 6) (by omega) K
  have b7 := fun K => b_eqlF (a := b.tag) (b := 7) (by omega) K
  have a1 := fun K => rTag r (β i) (mf + 1) K
  rw [htg] at a1
  have a2 := fun K => rLen r (β i) (mf + 1) K
  rw [hfl, List.length_map] at a2
  have a3 : decide (i + 1 ≤ n') = true := decide_eq_true (by omega)
  have llen : l2.length = n' * 3 := K2.dr.gn.1
  refine ⟨updO h2 id o', .sl id t 0 n' none 3, l2.set (i * 3 + 2) kv, fun k => ?_, D3, s3, k2'.trans k3 (fun z hz hl => ?_), i2, fun x hx => ?_, fun j hj1 hj2 => ?_⟩
  · rw [run53]; simp only [ofL_cons, ofL_nil, Nat.zero_add, Nat.reduceAdd]
    simp (maxSteps := 1000000) -implicitDefEqProofs only [c53, ↓x_seq, ↓x_reg, ↓o_consN, ↓r_pu, ↓p_mv, ↓e_t, ne_eq, nx2, not_false_eq_true, ↓getK_other, nx1, ↓getK_same, ↓p_nilck, ↓e_l0, ↓n_pf, ↓p_fad, ↓n_p, ↓r_rd, ↓m_ld, ↓t_get h1, Nat.zero_add, Nat.reduceLT, ↓m_st0, ↓t_get d0, ↓r_ef, ↓m_callf, ↓es_cons, ↓e_l1, ↓es_nil, ↓a1, ↓o_consS, ↓o_nil, ↓nrm_n]
    simp (maxSteps := 1000000) -implicitDefEqProofs only [c53T0, ↓x_seq, ↓x_reg, ↓o_consS, ↓r_pu, ↓p_mv, ↓e_t, ↓getK_same, ↓o_nil, ↓nrm_n]
    simp (maxSteps := 1000000) -implicitDefEqProofs only [c53T1, ↓x_block, ↓x_seq, ↓x_reg, ↓o_consN, ↓r_pu, ↓p_bin, ↓e_t, ↓getK_same, ↓e_c, ↓b0, ↓o_consS, ↓p_mv, ↓e_l0, ↓o_nil, ↓nrm_n, ↓x_cond, ↓n_b, ne_eq, Nat.reduceEqDiff, not_false_eq_true, ↓getK_other, ↓b8, ↓ret_nrm, ↓res_none, ↓one_none, beq_dec, ↓ret_r]
    simp (maxSteps := 1000000) -implicitDefEqProofs only [c53T2, ↓x_cond, ↓e_t, ↓getK_same, ↓n_b]
    simp (maxSteps := 1000000) -implicitDefEqProofs only [c53T4, ↓x_seq, ↓x_reg, ↓o_consN, ↓r_pu, ↓p_bin, ↓e_t, ne_eq, Nat.reduceEqDiff, not_false_eq_true, ↓getK_other, ↓getK_same, ↓e_c, ↓b1, ↓o_consS, ↓p_mv, ↓e_l0, ↓o_nil, ↓nrm_n]
    simp (maxSteps := 1000000) -implicitDefEqProofs only [c53T5, ↓x_cond, ↓e_t, ↓getK_same, ↓n_b]
    simp (maxSteps := 1000000) -implicitDefEqProofs only [c53T9, ↓x_seq, ↓x_reg, ↓o_consN, ↓r_pu, ↓p_bin, ↓e_t, ne_eq, Nat.reduceEqDiff, not_false_eq_true, ↓getK_other, ↓getK_same, ↓e_c, ↓b6, ↓o_consS, ↓p_mv, ↓e_l0, ↓o_nil, ↓nrm_n, ↓x_cond, ↓n_b, ↓b7]
    simp (maxSteps := 1000000) -implicitDefEqProofs only [c53T10, ↓x_cond, ↓e_t, ↓getK_same, ↓n_b]
    simp (maxSteps := 1000000) -implicitDefEqProofs only [c53T11, ↓x_seq, ↓x_reg, ↓o_consS, ↓r_pu, ↓p_mv, ↓e_c, ↓o_nil, ↓nrm_n]
    simp (maxSteps := 1000000) -implicitDefEqProofs only [c53T12, c53T13, ↓x_seq, ↓x_reg, ↓o_consN, ↓r_pu, ↓p_mv, ↓e_t, ne_eq, reduceCtorEq, not_false_eq_true, ↓getK_other, nx2, nx1, ↓getK_same, ↓p_nilck, ↓e_l0, ↓n_pf, ↓p_fad, ↓n_p, ↓r_rd, ↓m_ld, ↓t_get h1, Nat.zero_add, Nat.reduceLT, ↓m_st0, ↓t_get d0, Nat.reduceEqDiff, ↓o_consS, ↓r_ef, ↓m_callf, ↓es_cons, ↓e_l1, ↓es_nil, ↓a2, ↓e_c, ↓o_nil, ↓nrm_n, ↓x_block, ↓x_loop, ↓e2, ↓rec_bb]
    simp (maxSteps := 1000000) -implicitDefEqProofs only [c53T18, ↓x_reg, ↓o_consN, ↓r_pu, ↓p_mv, ↓e_t, ↓t_get g0, ↓p_nilck, ↓e_l0, ↓n_pf, ↓p_fad, ↓n_p, ↓r_rd, ↓m_ld, ↓t_get q1, Nat.zero_add, Nat.reduceLT, ↓m_st0, ↓t_get q4, ↓t_get g2, ↓t_get g9, ↓p_iad, ↓e_l2, ↓n_sl, ↓evN_of, ↓e_l1, ↓n_i, ↓int_n, ble_dec, a3, ↓r_ef, ↓m_store, kc.1, len_1, beq_dec, decide_true, ↓t_get ho1, ↓o_nil, ↓wrs1, ↓ho2, i_t]
  · rcases i2 z hz with h5 | h5
    · simp [h5]
    · omega
  · rw [List.getElem?_set_ne (by omega), x2 x (by omega)]
  · by_cases hji : j = i
    · subst hji
      intro b' hb'
      rw [hb] at hb'
      cases hb'
      refine ⟨?_, ?_, kv, ?_, ?_⟩
      · rw [List.getElem?_set_ne (by omega), x2 _ (by omega)]; exact l0
      · rw [List.getElem?_set_ne (by omega), x2 _ (by omega), hsn.1, hsn.2]; exact l1
      · rw [List.getElem?_set_self (by omega)]
      · refine (K2.gn.kids (S := q :: ms :: rid (.sl id t 0 n' none 3)) (b0 := h.next) (fun z hz => ⟨(K2.kd z hz).2, (K2.kd z hz).1⟩)).keep k3 s2 (fun z hz => by simp [hz]) (fun z hz => .inl hz) (Nat.le_refl _)
    · refine (K2.dn j (by omega) hj2).keep k3 s2 (fun z hz => by simp [hz]) (fun z hz => ?_) (Nat.le_refl _) (fun x hx hx2 => ?_)
      · simp only [List.mem_cons, List.mem_append] at hz ⊢
        rcases hz with h5 | h5 | h5
        · exact .inl (.inl h5)
        · exact .inl (.inr (.inl h5))
        · exact .inl (.inr (.inr (.inl h5)))
      · rw [List.getElem?_set_ne (by omega)]

/-- A string. -/
theorem dText {mf : Nat} {h : Heap} {i : Nat} {v : AV} {l : List AV} {b : Bl} {c0 : Cl} (D : DR h q ms p m Ln β v (i + 1) l) (r : RH h p m size Ln) (hs : Sc h) (hb : bs[i]? = some b) (ht : b.tag = 1) (hk : b.kids = []) (hsv : b.sv < 256 ^ b.sn) (hsn : b.sn ≤ 100000)
    (hl : look 0 Ln (β i) = some c0) (hc1 : c0.tag = b.tag) (hc2 : c0.fl = bytesW b.sn b.sv) (l0 : l[i * 3]? = some (iv b.tag)) (l2 : l[i * 3 + 1 + 1]? = some .nils) :
    ∃ h' v' l', (∀ k : KH, cal (mf + 5) 53 [.p q 0 0, iv (β i), iv i] h k = k .u h') ∧ DR h' q ms p m Ln β v' (i + 1) l' ∧ Sc h' ∧ Kp h h' (q :: ms :: rid v) ∧ (∀ z ∈ rid v', z ∈ rid v ∨ h.next ≤ z) ∧
      (∀ x, x < i * 3 → l'[x]? = l[x]?) ∧ ∀ j, i ≤ j → j < i + 1 → Done h' (q :: ms :: rid v') h.next l' bs j := by
  have htg : tagOf Ln (β i) = 1 := by unfold tagOf; rw [hl]; exact hc1.trans ht
  obtain ⟨h1, e1, s1, k1⟩ := sText r hs hl (hc1.trans ht) hc2 hsv hsn mf
  have D1 := D.keep k1 hs (by simp) (by simp) (fun _ _ => by simp)
  obtain ⟨c, q0, d0, d1, d2, d3⟩ := D.cell
  obtain ⟨c1, q1, d4, d5, d6, d7⟩ := D1.cell
  have s2 := s1.upd q1 (.st (c1.set (.b false) 3) 4)
  have k2 := Kp.upd h1 q (.st (c1.set (.b false) 3) 4)
  have hqv : q ∉ rid v := D.gn.notSt q0
  have hqm : q ≠ ms := fun e => by have := D.mp; rw [← e, q0] at this; cases this
  have g2 := D1.gn.keep k2 s1 (fun z hz hm => by simp at hm; exact hqv (hm ▸ hz))
  have q2 : (updO h1 q (.st (c1.set (.b false) 3) 4)).tr.get q = some (.st (c1.set (.b false) 3) 4) := by rw [get_upd, if_pos rfl]
  have m2 := k2.get s1 D1.mp (by simp [Ne.symm hqm])
  obtain ⟨id, t, o, o', rfl, ho1, ho2, g3, s3, k3⟩ := g2.put s2 (x := .s b.sn b.sv) rfl (j := i * 3 + 1) (by omega)
  have hidq : id ≠ q := fun e => hqv (by simp [rid, e])
  have ho1' : h1.tr.get id = some o := by rw [get_upd, if_neg hidq] at ho1; exact ho1
  have D3 : DR (updO (updO h1 q (.st (c1.set (.b false) 3) 4)) id o') q ms p m Ln β (.sl id t 0 (i + 1) none 3) (i + 1) (l.set (i * 3 + 1) (.s b.sn b.sv)) :=
    ⟨⟨_, k3.get s2 q2 hqv, by rw [get_other _ _ (by decide)]; exact d4, by rw [get_other _ _ (by decide)]; exact d5, by rw [get_other _ _ (by decide)]; exact d6, by rw [get_same]⟩, k3.get s2 m2 (D.gn.notMp D.mp), g3, D.ds, D.nm⟩
  have b0 := fun K => b_eqlF (a := 1) (b := 0) (by omega) K
  have b8 := fun K => b_eqlF (a := 1) (b := 8) (by omega) K
  have b1 := fun K => b_eqlT (a := 1) (b := 1) rfl K
  have a1 := fun K => rTag r (β i) (mf + 2) K
  rw [htg] at a1
  have a3 : decide (i + 1 ≤ i + 1) = true := decide_eq_true (Nat.le_refl _)
  have llen : l.length = (i + 1) * 3 := D.gn.1
  refine ⟨_, .sl id t 0 (i + 1) none 3, l.set (i * 3 + 1) (.s b.sn b.sv), fun k => ?_, D3, s3, ?_, fun z hz => .inl hz, fun x hx => ?_, fun j hj1 hj2 => ?_⟩
  · rw [run53]; simp only [ofL_cons, ofL_nil, Nat.zero_add, Nat.reduceAdd]
    simp (maxSteps := 1000000) -implicitDefEqProofs only [c53, ↓x_seq, ↓x_reg, ↓o_consN, ↓r_pu, ↓p_mv, ↓e_t, ne_eq, nx2, not_false_eq_true, ↓getK_other, nx1, ↓getK_same, ↓p_nilck, ↓e_l0, ↓n_pf, ↓p_fad, ↓n_p, ↓r_rd, ↓m_ld, ↓t_get q0, Nat.zero_add, Nat.reduceLT, ↓m_st0, ↓t_get d0, ↓r_ef, ↓m_callf, ↓es_cons, ↓e_l1, ↓es_nil, ↓a1, ↓o_consS, ↓o_nil, ↓nrm_n]
    simp (maxSteps := 1000000) -implicitDefEqProofs only [c53T0, ↓x_seq, ↓x_reg, ↓o_consS, ↓r_pu, ↓p_mv, ↓e_t, ↓getK_same, ↓o_nil, ↓nrm_n]
    simp (maxSteps := 1000000) -implicitDefEqProofs only [c53T1, ↓x_block, ↓x_seq, ↓x_reg, ↓o_consN, ↓r_pu, ↓p_bin, ↓e_t, ↓getK_same, ↓e_c, ↓b0, ↓o_consS, ↓p_mv, ↓e_l0, ↓o_nil, ↓nrm_n, ↓x_cond, ↓n_b, ne_eq, Nat.reduceEqDiff, not_false_eq_true, ↓getK_other, ↓b8, ↓ret_nrm, ↓res_none, ↓one_none, beq_dec, ↓ret_r]
    simp (maxSteps := 1000000) -implicitDefEqProofs only [c53T2, ↓x_cond, ↓e_t, ↓getK_same, ↓n_b]
    simp (maxSteps := 1000000) -implicitDefEqProofs only [c53T4, ↓x_seq, ↓x_reg, ↓o_consN, ↓r_pu, ↓p_bin, ↓e_t, ne_eq, Nat.reduceEqDiff, not_false_eq_true, ↓getK_other, ↓getK_same, ↓e_c, ↓b1, ↓o_consS, ↓p_mv, ↓e_l0, ↓o_nil, ↓nrm_n]
    simp (maxSteps := 1000000) -implicitDefEqProofs only [c53T5, ↓x_cond, ↓e_t, ↓getK_same, ↓n_b]
    simp (maxSteps := 1000000) -implicitDefEqProofs only [c53T6, ↓x_seq, ↓x_reg, ↓o_consN, ↓r_pu, ↓p_mv, ↓e_t, ne_eq, reduceCtorEq, not_false_eq_true, ↓getK_other, nx2, nx1, ↓getK_same, ↓p_nilck, ↓e_l0, ↓n_pf, ↓p_fad, ↓n_p, ↓r_rd, ↓m_ld, ↓t_get q0, Nat.zero_add, Nat.reduceLT, ↓m_st0, ↓t_get d0, Nat.reduceEqDiff, ↓r_ef, ↓m_callf, ↓es_cons, ↓e_l1, ↓es_nil, ↓e1, ↓p_ext, ↓n_tup, ↓nth0, ↓nth1, ↓o_consS, ↓o_nil, ↓nrm_n]
    simp (maxSteps := 1000000) -implicitDefEqProofs only [c53T7, ↓x_seq, ↓x_reg, ↓o_consN, ↓r_pu, ↓p_mv, ↓e_t, ne_eq, reduceCtorEq, not_false_eq_true, ↓getK_other, nx2, nx1, ↓getK_same, ↓p_nilck, ↓e_l0, ↓n_pf, ↓p_fad, ↓n_p, ↓r_rd, ↓m_ld, ↓t_get q1, Nat.zero_add, Nat.reduceLT, ↓m_st0, ↓t_get d7, ↓o_guardN, ↓g_b, ↓e_l1, ↓p_not, ↓n_b, ↓p_pick, ↓e_l2, ↓e_l8, ↓r_ef, ↓m_store, ↓c_b, ↓nn_t, len_1, beq_dec, decide_true, ↓o_nil, ↓nrm_n, ↓wrs1, ↓one_b, ↓w_st, i_t]
    simp (maxSteps := 1000000) -implicitDefEqProofs only [c53T8, ↓x_reg, ↓o_consN, ↓r_pu, ↓p_mv, ↓e_t, ne_eq, reduceCtorEq, not_false_eq_true, ↓getK_other, nx2, nx1, ↓getK_same, ↓p_nilck, ↓e_l0, ↓n_pf, ↓p_fad, ↓n_p, ↓r_rd, ↓m_ld, ↓gu_same, Nat.zero_add, Nat.reduceLT, ↓m_st0, ↓t_get d6, Nat.reduceEqDiff, ↓p_iad, ↓e_l2, ↓n_sl, ↓evN_of, ↓e_l1, ↓n_i, ↓int_n, ble_dec, Nat.le_refl, decide_true, ↓r_ef, ↓m_store, ↓c_s, len_1, beq_dec, hidq, ↓gu_other, ↓t_get ho1', ↓o_nil, ↓wrs1, ↓ho2, i_t]
  · exact ((k1.mono (by simp)).trans k2 (fun z hz _ => by simp at hz; simp [hz])).trans k3 (fun z hz _ => by simp [hz])
  · rw [List.getElem?_set_ne (by omega)]
  · have hji : j = i := by omega
    subst hji
    intro b' hb'
    rw [hb] at hb'
    cases hb'
    refine ⟨?_, ?_, .nils, ?_, .inl ⟨hk, rfl⟩⟩
    · rw [List.getElem?_set_ne (by omega)]; exact l0
    · rw [List.getElem?_set_self (by omega)]
    · rw [List.getElem?_set_ne (by omega)]; exact l2
end
end Go.Proofs.Ytodlgflkhcknaaa.gcc

/- A value's graph is drawn, whole. -/
namespace Go.Proofs.Ytodlgflkhcknaaa.gcc
open Go Go.AE
set_option linter.unusedSimpArgs false
set_option maxRecDepth 100000

section
variable {q ms p m : Nat} {size : Int} {Ln : List Cl} {β : Nat → Int} {bs : List Bl}
theorem dNew {f : Nat} (IH : DRun q ms p m size Ln β bs (2 * f + 4) (OKr bs f)) (I : Iso Ln bs β) (hstr : ∀ b ∈ bs, b.sv < 256 ^ b.sn ∧ b.sn ≤ 100000) (hlen : bs.length ≤ 300000) {h : Heap} {n n' : Nat} {v : AV} {l : List AV} {b : Bl} (D : DR h q ms p m Ln β v n l) (r : RH h p m size Ln) (hs : Sc h) (hb : bs[n]? = some b) (hg : goodB b) (ho : OKs (OKr bs f) b.kids (n + 1) n') :
    ∃ h' v' l', (∀ k : KH, cal (2 * f + 6) 46 [.p q 0 0, iv (β n)] h k = k (.agg [.b false, iv n]) h') ∧ DR h' q ms p m Ln β v' n' l' ∧ Sc h' ∧ Kp h h' (q :: ms :: rid v) ∧ (∀ z ∈ rid v', z ∈ rid v ∨ h.next ≤ z) ∧
      (∀ x, x < n * 3 → l'[x]? = l[x]?) ∧ ∀ j, n ≤ j → j < n' → Done h' (q :: ms :: rid v') h.next l' bs j := by
  have hnb := (List.getElem?_eq_some_iff.1 hb).1
  obtain ⟨c0, hl, hc1, hc2, hc3⟩ := I.bl n b hb
  have htg : tagOf Ln (β n) = b.tag := by unfold tagOf; rw [hl]; exact hc1
  obtain ⟨c, q0, d0, d1, d2, d3⟩ := D.cell
  have hqn : q ≠ h.next := Nat.ne_of_lt (hs _ _ q0)
  have hmn : ms ≠ h.next := Nat.ne_of_lt (hs _ _ D.mp)
  have hqm : q ≠ ms := fun e => by have := D.mp; rw [← e, q0] at this; cases this
  have hqv : q ∉ rid v := D.gn.notSt q0
  have hmv : ms ∉ rid v := D.gn.notMp D.mp
  have hvn := D.gn.lt hs
  -- the result's place; what has been seen
  obtain ⟨H1, hH1⟩ : ∃ y, y = addO h (.st (T.set (iv 0) (T.set (.b false) .e 0) 1) 2) := ⟨_, rfl⟩
  have s1 : Sc H1 := by rw [hH1]; exact hs.add _
  have k1 : Kp h H1 [] := by rw [hH1]; exact Kp.add _ _ _
  have x1 : H1.tr.get h.next = some (.st (T.set (iv 0) (T.set (.b false) .e 0) 1) 2) := by rw [hH1, get_add, if_pos rfl]
  have m1 := k1.get hs D.mp (by simp)
  obtain ⟨H2, hH2⟩ : ∃ y, y = updO H1 ms (.mp (seenE β (n + 1))) := ⟨_, rfl⟩
  have s2 : Sc H2 := by rw [hH2]; exact s1.upd m1 _
  have k2 : Kp H1 H2 [ms] := by rw [hH2]; exact Kp.upd _ _ _
  have k02 : Kp h H2 [ms] := (k1.mono (by simp)).trans k2 (fun z hz _ => hz)
  have q2 := k02.get hs q0 (by simp [hqm])
  have g2 := D.gn.keep k02 hs (fun z hz hm => by simp at hm; exact hmv (hm ▸ hz))
  have rr2 : RH H2 p m size Ln := D.heap r (k02.mono (fun z hz => by simp at hz; simp [hz])) hs
  -- the block
  obtain ⟨H3, hH3⟩ : ∃ y, y = addO H2 (.st (T.set .nils (T.set (.s 0 0) (T.set (iv b.tag) .e 0) 1) 2) 3) := ⟨_, rfl⟩
  have s3 : Sc H3 := by rw [hH3]; exact s2.add _
  have k3 : Kp H2 H3 [] := by rw [hH3]; exact Kp.add _ _ _
  have g3 := g2.keep k3 s2 (fun _ _ => by simp)
  obtain ⟨v', h4, e4, g4, s4, k4, i4⟩ := app_n (b := 48) (by omega) (by omega) g3 s3 (new := [iv b.tag, .s 0 0, .nils]) rfl rfl (by omega)
  have vc := g4.cells
  have k24 : Kp H2 h4 (rid v) := (k3.mono (by simp)).trans k4 (fun z hz _ => hz)
  have q4 := k24.get s2 q2 hqv
  have k5 := Kp.upd h4 q (.st (c.set v' 2) 4)
  obtain ⟨H5, hH5⟩ : ∃ y, y = updO h4 q (.st (c.set v' 2) 4) := ⟨_, rfl⟩
  rw [← hH5] at k5
  have s5 : Sc H5 := by rw [hH5]; exact s4.upd q4 _
  have k05 : Kp h H5 (q :: ms :: rid v) := ((k02.mono (fun z hz => by simp at hz; simp [hz])).trans k24 (fun z hz _ => by simp [hz])).trans k5 (fun z hz _ => by simp at hz; simp [hz])
  have n02 : H2.next = h.next + 1 := by rw [hH2, hH1]; rfl
  have n23 := k3.1
  have iv' : ∀ z ∈ rid v', z ∈ rid v ∨ h.next + 1 ≤ z := fun z hz => by
    rcases i4 z hz with h5 | h5
    · exact .inl h5
    · exact .inr (by omega)
  have m2 : H2.tr.get ms = some (.mp (seenE β (n + 1))) := by rw [hH2, get_upd, if_pos rfl]
  have m5 : H5.tr.get ms = some (.mp (seenE β (n + 1))) := k5.get s4 (k24.get s2 m2 hmv) (by simp [Ne.symm hqm])
  have q5 : H5.tr.get q = some (.st (c.set v' 2) 4) := by rw [hH5, get_upd, if_pos rfl]
  have rr5 := D.heap r k05 hs
  have D5 : DR H5 q ms p m Ln β v' (n + 1) (l ++ [iv b.tag, .s 0 0, .nils]) := by
    refine ⟨⟨c.set v' 2, q5, by rw [get_other _ _ (by decide)]; exact d0, by rw [get_other _ _ (by decide)]; exact d1, by rw [get_same], by rw [get_other _ _ (by decide)]; exact d3⟩, m5, g4.keep k5 s4 (fun z hz hm => by simp at hm; exact g4.notSt q4 (hm ▸ hz)), fun z hz hm => ?_, D.nm⟩
    rcases iv' z hz with h5 | h5
    · exact D.ds z h5 hm
    · have := (r.lt hs).2.2 z hm; omega
  have llen : l.length = n * 3 := D.gn.1
  have l50 : (l ++ [iv b.tag, .s 0 0, .nils])[n * 3]? = some (iv b.tag) := by rw [List.getElem?_append_right (by omega), llen, Nat.sub_self]; rfl
  have l51 : (l ++ [iv b.tag, .s 0 0, .nils])[n * 3 + 1]? = some (.s 0 0) := by rw [List.getElem?_append_right (by omega), llen, Nat.add_sub_cancel_left]; rfl
  have l52 : (l ++ [iv b.tag, .s 0 0, .nils])[n * 3 + 1 + 1]? = some .nils := by rw [List.getElem?_append_right (by omega), llen, show n * 3 + 1 + 1 - n * 3 = 2 from by omega]; rfl
  have lpre : ∀ x, x < n * 3 → (l ++ [iv b.tag, .s 0 0, .nils])[x]? = l[x]? := fun x hx => List.getElem?_append_left (by omega)
  -- what it holds
  have inner : ∃ h' v'' l', (∀ k : KH, cal (2 * f + 5) 53 [.p q 0 0, iv (β n), iv n] H5 k = k .u h') ∧ DR h' q ms p m Ln β v'' n' l' ∧ Sc h' ∧ Kp H5 h' (q :: ms :: rid v') ∧ (∀ z ∈ rid v'', z ∈ rid v' ∨ H5.next ≤ z) ∧
      (∀ x, x < n * 3 → l'[x]? = (l ++ [iv b.tag, .s 0 0, .nils])[x]?) ∧ ∀ j, n ≤ j → j < n' → Done h' (q :: ms :: rid v'') H5.next l' bs j := by
    rcases good_tag hg with ⟨t1, t2⟩ | ⟨t1, t2, t3, t4, t5⟩
    · have hn' : n' = n + 1 := by rw [t2] at ho; exact ho
      subst hn'
      have hst := hstr b (List.mem_of_getElem? hb)
      exact dText (mf := 2 * f) D5 rr5 s5 hb t1 t2 hst.1 hst.2 hl hc1 (hc2 t1) l50 l52
    · have ksz : b.kids.length ≤ 10 := by have := kidsOf_le b.tag; have := hg.1; omega
      exact dKids (mf := 2 * f + 1) IH D5 rr5 s5 hb ⟨t2, t3⟩ ⟨t4, t5⟩ ksz hl hc1 (hc3 t1) ho l50 l51
  obtain ⟨h6, v6, l6, e6, D6, s6, k6, i6, lp6, dn6⟩ := inner
  have n05 : h.next + 1 ≤ H5.next := by rw [hH5, next_updO]; have := k24.1; omega
  have x5 : H5.tr.get h.next = some (.st (T.set (iv 0) (T.set (.b false) .e 0) 1) 2) := by
    refine k5.get s4 (k24.get s2 (k2.get s1 x1 (by simp [Ne.symm hmn])) (fun hm => by have := hvn _ hm; omega)) (by simp [Ne.symm hqn])
  have x6 : h6.tr.get h.next = some (.st (T.set (iv 0) (T.set (.b false) .e 0) 1) 2) := k6.get s5 x5 (fun hm => by
    simp only [List.mem_cons] at hm
    rcases hm with h5 | h5 | h5
    · exact hqn h5.symm
    · exact hmn h5.symm
    · exact D5.gn.notSt x5 h5)
  have k7 := Kp.upd h6 h.next (.st (T.set (iv n) (T.set (.b false) (T.set (iv 0) (T.set (.b false) .e 0) 1) 0) 1) 2)
  have s7 := s6.upd x6 (.st (T.set (iv n) (T.set (.b false) (T.set (iv 0) (T.set (.b false) .e 0) 1) 0) 1) 2)
  have a1 := fun h k => sIsInt (β n) (2 * f + 4) h k
  rw [decide_eq_false (show ¬ β n % 2 = 1 by have := I.even hnb; omega)] at a1
  have a2 := fun d K => find_seen (β := β) (β n) d K n (fun j hj => I.inj j n hj hnb)
  have a3 := fun K => put_seen I.inj hnb K
  have a4 := fun K => D.gn.len K
  have a5 := fun K => rTag rr2 (β n) (2 * f + 3) K
  rw [htg] at a5
  have hmp := D.mp
  have vsm := D.gn.cells.2.2
  refine ⟨_, v6, l6, fun k => ?_, D6.keep k7 s6 (by simp [hqn]) (by simp [hmn]) (fun z hz hm => ?_), s7, ?_, fun z hz => ?_, fun x hx => by rw [lp6 x hx, lpre x hx], fun j hj1 hj2 => ?_⟩
  · rw [hH3, hH2, hH1] at e4
    rw [hH2, hH1] at a5 q2
    rw [run46]; simp only [ofL_cons, ofL_nil, Nat.zero_add, Nat.reduceAdd]
    simp (maxSteps := 1000000) -implicitDefEqProofs only [c46, ↓x_seq, ↓x_reg, ↓o_consS, ↓r_al, ↓m_new, ↓o_nil, ↓nrm_n, ↓ofL_cons, ↓ofL_nil, Nat.zero_add, ↓len_2]
    simp (maxSteps := 1000000) -implicitDefEqProofs only [c46T0, ↓x_seq, ↓x_reg, ↓o_consN, ↓r_pu, ↓p_mv, ↓e_t, ne_eq, Nat.reduceEqDiff, not_false_eq_true, ↓getK_other, ↓getK_same, ↓o_consS, ↓r_ef, ↓m_callf, ↓es_cons, ↓e_l0, ↓es_nil, ↓a1, ↓o_nil, ↓nrm_n]
    simp (maxSteps := 1000000) -implicitDefEqProofs only [c46T1, ↓x_cond, ↓e_t, ↓getK_same, ↓n_b, ↓x_skip, ↓nrm_n]
    simp (maxSteps := 1000000) -implicitDefEqProofs only [c46T3, ↓x_seq, ↓x_reg, ↓o_consN, ↓r_pu, ↓p_mv, ↓e_t, ne_eq, reduceCtorEq, not_false_eq_true, ↓getK_other, nx1, ↓getK_same, ↓p_nilck, ↓e_l0, ↓n_pf, ↓p_fad, ↓n_p, ↓r_rd, ↓m_ld, hqn, ↓ga_old, ↓t_get q0, Nat.zero_add, Nat.reduceLT, ↓m_st0, ↓t_get d1, Nat.reduceEqDiff, ↓m_lk, ↓e_l1, ↓kd1, ↓n_m, hmn, ↓t_get hmp, ↓n_mp, ↓a2, ↓okT, ↓p_ext, ↓n_tup, ↓nth0, ↓nth1, ↓o_consS, ↓o_nil, ↓nrm_n, i_t]
    simp (maxSteps := 1000000) -implicitDefEqProofs only [c46T4, ↓x_seq, ↓x_reg, ↓o_consN, ↓r_pu, ↓p_mv, ↓e_t, ↓getK_same, ↓o_consS, ↓p_not, ↓e_l0, ↓n_b, ↓o_nil, ↓nrm_n, ↓nn_f]
    simp (maxSteps := 1000000) -implicitDefEqProofs only [c46T5, ↓x_cond, ↓e_t, ↓getK_same, ↓n_b]
    simp (maxSteps := 1000000) -implicitDefEqProofs only [c46T6, ↓x_seq, ↓x_reg, ↓o_consN, ↓r_pu, ↓p_mv, ↓e_t, ne_eq, reduceCtorEq, not_false_eq_true, ↓getK_other, nx1, ↓getK_same, ↓p_nilck, ↓e_l0, ↓n_pf, ↓p_fad, ↓n_p, ↓r_rd, ↓m_ld, hqn, ↓ga_old, ↓t_get q0, Nat.zero_add, Nat.reduceLT, ↓m_st0, ↓t_get d2, ↓p_len, ↓a4, ↓o_consS, ↓o_nil, ↓nrm_n]
    simp (maxSteps := 1000000) -implicitDefEqProofs only [c46T7, ↓x_seq, ↓x_reg, ↓o_consN, ↓r_pu, ↓p_mv, ↓e_t, ne_eq, reduceCtorEq, not_false_eq_true, ↓getK_other, nx1, ↓getK_same, ↓p_nilck, ↓e_l0, ↓n_pf, ↓p_fad, ↓n_p, ↓r_rd, ↓m_ld, hqn, ↓ga_old, ↓t_get q0, Nat.zero_add, Nat.reduceLT, ↓m_st0, ↓t_get d1, Nat.reduceEqDiff, ↓r_ef, ↓m_mup, ↓e_l2, ↓n_m, ↓e_l1, ↓kd1, hmn, ↓t_get hmp, ↓n_mp, ↓a3, ↓o_nil, ↓nrm_n, i_t]
    have e6' := fun k => e6 k
    rw [hH5] at e6'
    have hqn1 : q ≠ h.next + 1 := by have := hs _ _ q0; omega
    simp (maxSteps := 1000000) -implicitDefEqProofs only [c46T8, ↓x_seq, ↓x_dreg, ↓d_puN, ↓p_mv, ↓e_t, ne_eq, reduceCtorEq, not_false_eq_true, ↓getK_other, nx1, ↓getK_same, ↓p_nilck, ↓e_l0, ↓n_pf, ↓p_fad, ↓n_p, ↓d_rdN, ↓m_ld, hqm, ↓gu_other, hqn, ↓ga_old, ↓t_get q0, Nat.zero_add, Nat.reduceLT, ↓m_st0, ↓t_get d2, ↓t_get d0, Nat.reduceEqDiff, ↓d_efN, ↓m_callf, ↓es_cons, ↓e_l1, ↓es_nil, ↓a5, ↓p_bld, ↓fill_cons, ↓c_i, ↓fv30, ↓fill_nil, ↓d_alN, ↓bsl3, ↓bslK3_of, ↓m_app, ↓e_l8, ↓src_new3, ↓e4, ↓e_l13, ↓m_store, ↓e_l2, vc.1, len_1, beq_dec, decide_true, ↓t_get q4, ↓d_nil, ↓rev_cons, ↓rev_nil, decide_false, k_cons, ↓ka_cons, ble_dec, Nat.zero_le, i_t, vsm, Nat.reduceLeDiff, next_updO, next_addO, hqn1, Nat.reduceAdd, i_f, ↓gu_same, ↓ka_nil, and_t, ↓k_nil, ↓nrm_n, ↓wrs1, vc.2.1, ↓w_st]
    simp (maxSteps := 1000000) -implicitDefEqProofs only [c46T9, ↓x_reg, ↓o_consN, ↓r_pu, ↓p_mv, ↓e_t, ne_eq, reduceCtorEq, not_false_eq_true, ↓getK_other, nx1, ↓getK_same, Nat.reduceEqDiff, ↓r_ef, ↓m_callf, ↓es_cons, ↓e_l2, ↓e_l1, ↓e_l0, ↓es_nil, ↓e6', ↓o_nil, ↓nrm_n]
    simp (maxSteps := 1000000) -implicitDefEqProofs only [c46T10, ↓x_seq, ↓x_reg, ↓o_consN, ↓r_pu, ↓p_mv, ↓e_t, ↓getK_same, ↓p_bld, ↓fill_cons, ↓e_l0, ↓c_i, ↓fv21, ↓fill_nil, ↓r_ef, ↓m_store, ne_eq, nx1, not_false_eq_true, ↓getK_other, Nat.reduceEqDiff, nx2, ↓n_p, ↓c_agg, len_2, beq_dec, decide_true, ↓t_get x6, ↓o_nil, ↓nrm_n, ↓x_ret, ↓ret_r, ↓res_cell2, ↓gu_same, ↓rds_2, Nat.zero_add, ↓one1, wrs_2, ↓one_b, Nat.reduceLT, ↓w_st, ↓one_i, ↓m_st0, i_t]
  · simp only [List.mem_singleton] at hm
    subst hm
    exact D6.gn.notSt x6 hz
  · refine (k05.trans k6 (fun z hz hl => ?_)).trans k7 (fun z hz hl => by simp at hz; omega)
    simp only [List.mem_cons] at hz ⊢
    rcases hz with h5 | h5 | h5
    · exact .inl h5
    · exact .inr (.inl h5)
    · rcases iv' z h5 with h6 | h6
      · exact .inr (.inr h6)
      · omega
  · rcases i6 z hz with h5 | h5
    · rcases iv' z h5 with h6 | h6
      · exact .inl h6
      · exact .inr (by omega)
    · exact .inr (by omega)
  · have d1 : Done h6 (h.next :: q :: ms :: rid v6) H5.next l6 bs j := (dn6 j hj1 hj2).keep (Kp.refl h6 []) s6 (fun z hz => by simp at hz) (fun z hz => by
      rw [List.mem_cons] at hz
      rcases hz with h5 | h5
      · exact .inr (.inr (by omega))
      · exact .inl h5) (Nat.le_refl _) (fun _ _ _ => rfl)
    exact d1.keep k7 s6 (fun z hz => by simp at hz; simp [hz]) (fun z hz => .inl (List.mem_cons_of_mem _ hz)) (by omega) (fun _ _ _ => rfl)

theorem dRef (I : Iso Ln bs β) (hstr : ∀ b ∈ bs, b.sv < 256 ^ b.sn ∧ b.sn ≤ 100000) (hlen : bs.length ≤ 300000) : ∀ f, DRun q ms p m size Ln β bs (2 * f + 4) (OKr bs f)
  | 0 => fun r n n' h v l D rh hs hn ho => ho.elim
  | f + 1 => fun r n n' h v l D rh hs hn ho => by
    have hall := ho.all hn
    obtain ⟨imm, x⟩ := r
    rcases ho with ⟨h1, h2, h3⟩ | ⟨h1, h2, h3, h4⟩ | ⟨h1, h2, b, h3, h4, h5⟩
    · have h1 : imm = true := h1
      subst h1
      obtain ⟨h', e, D', s', k'⟩ := dImm D hs x (2 * f + 4)
      refine ⟨h', v, l, e, by rw [h3]; exact D', s', k'.mono (by simp), fun z hz => .inl hz, fun _ _ => rfl, ⟨hall.1, hall.2.1⟩, fun j h4 h5 => by omega⟩
    · have h1 : imm = false := h1
      subst h1
      obtain ⟨i, rfl⟩ : ∃ i : Nat, x = i := ⟨x.toNat, by have h2 : 0 ≤ x := h2; omega⟩
      have h3 : (i : Int) < n := h3
      obtain ⟨h', e, D', s', k'⟩ := dOld I D hs (i := i) (by omega) (by omega) (2 * f + 4)
      refine ⟨h', v, l, e, by rw [h4]; exact D', s', k'.mono (by simp), fun z hz => .inl hz, fun _ _ => rfl, ⟨hall.1, hall.2.1⟩, fun j h4 h5 => by omega⟩
    · have h1 : imm = false := h1
      subst h1
      have h2 : x = n := h2
      subst h2
      obtain ⟨h', v', l', e, D', s', k', i', lp, dn⟩ := dNew (dRef I hstr hlen f) I hstr hlen D rh hs h3 h4 h5
      exact ⟨h', v', l', e, D', s', k', i', lp, ⟨hall.1, hall.2.1⟩, dn⟩
end
end Go.Proofs.Ytodlgflkhcknaaa.gcc

/- A value's graph: what Of comes to. -/
namespace Go.Proofs.Ytodlgflkhcknaaa.gcc
open Go Go.AE
set_option linter.unusedSimpArgs false
set_option maxRecDepth 100000

section
variable {q ms p m : Nat} {size : Int} {Ln : List Cl} {β : Nat → Int} {bs : List Bl}
theorem KidsF.row {h : Heap} {S : List Nat} {b0 : Nat} {v : AV} {ks : List Rf} (r : KidsF h S b0 v ks) (hs : Sc h) : KidsR h h.next v ks := by
  rcases r with r | ⟨id, t, off, cap, o, rfl, _, ho, hr⟩
  · exact .inl r
  · exact .inr ⟨id, t, off, cap, o, rfl, hs _ _ ho, ho, hr⟩
theorem DR.blks {h : Heap} {v : AV} {l : List AV} {S : List Nat} {b0 : Nat} (D : DR h q ms p m Ln β v bs.length l) (hs : Sc h) (dn : ∀ j, j < bs.length → Done h S b0 l bs j) : BlksR h h.next v bs := by
  obtain ⟨g0, ⟨h1, rfl⟩ | ⟨id, t, cells, minv, segs, h1, rfl, h3, h4, h5⟩⟩ := D.gn
  · exact .inl ⟨List.length_eq_zero_iff.1 h1, rfl⟩
  · refine .inr ⟨id, t, 0, none, _, rfl, hs _ _ h3, h3, fun j b hb => ?_⟩
    have hj := (List.getElem?_eq_some_iff.1 hb).1
    obtain ⟨e1, e2, kv, e3, e4⟩ := dn j hj b hb
    refine ⟨fun k => ?_, fun k => ?_, kv, fun k => ?_, e4.row hs⟩
    · rw [Nat.zero_add, m_ve _ _ _ _ _ _ _ (by omega), t_get (h5 _ _ e1)]
    · rw [Nat.zero_add, m_ve _ _ _ _ _ _ _ (by omega), t_get (h5 _ _ e2)]
    · rw [Nat.zero_add, m_ve _ _ _ _ _ _ _ (by omega), t_get (h5 _ _ e3)]

theorem sOf {h : Heap} {ri : Bool} {rn : Int} (I : Iso Ln bs β) (hstr : ∀ b ∈ bs, b.sv < 256 ^ b.sn ∧ b.sn ≤ 100000) (hlen : bs.length ≤ 2000) (r : RH h p m size Ln) (hs : Sc h) (f : Nat) (ho : OKr bs f (ri, rn) 0 bs.length) :
    ∃ h' v N, (∀ k : KH, cal (2 * f + 5) 26 [.p p 0 0, iv (wB β (ri, rn))] h k = k (.tup [.agg [.b ri, iv rn, v], iv 0]) h') ∧ Sc h' ∧ Kp h h' [] ∧ BlksR h' N v bs ∧ N ≤ h'.next := by
  have lt := r.lt hs
  obtain ⟨H, hH⟩ : ∃ y, y = addO (addO (addO h (.st (T.set .nils (T.set (iv 0) (T.set (.b false) .e 0) 1) 2) 3)) (.mp [])) (.st (T.set (.b false) (T.set .nils (T.set (.m (h.next + 1)) (T.set (.p p 0 0) .e 0) 1) 2) 3) 4) := ⟨_, rfl⟩
  have s1 : Sc H := by rw [hH]; exact ((hs.add _).add _).add _
  have k1 : Kp h H [] := by rw [hH]; exact ((Kp.add h _ []).trans (Kp.add _ _ []) (fun i hi _ => hi)).trans (Kp.add _ _ []) (fun i hi _ => hi)
  have x1 : H.tr.get h.next = some (.st (T.set .nils (T.set (iv 0) (T.set (.b false) .e 0) 1) 2) 3) := by rw [hH]; simp [get_add, next_addO]; omega
  have m1 : H.tr.get (h.next + 1) = some (.mp []) := by rw [hH]; simp [get_add, next_addO]
  have q1 : H.tr.get (h.next + 1 + 1) = some (.st (T.set (.b false) (T.set .nils (T.set (.m (h.next + 1)) (T.set (.p p 0 0) .e 0) 1) 2) 3) 4) := by rw [hH, get_add]; exact if_pos rfl
  have D1 : DR H (h.next + 1 + 1) (h.next + 1) p m Ln β .nils 0 [] := ⟨⟨_, q1, by simp only [get_other, get_same, ne_eq, Nat.reduceEqDiff, not_false_eq_true], by simp only [get_other, get_same, ne_eq, Nat.reduceEqDiff, not_false_eq_true], by simp only [get_other, get_same, ne_eq, Nat.reduceEqDiff, not_false_eq_true], by simp only [get_same]⟩,
    m1, ⟨rfl, .inl ⟨rfl, rfl⟩⟩, fun z hz => by simp [rid] at hz, by omega⟩
  have r1 := r.keep k1 hs (by simp) (by simp) (fun _ _ => by simp)
  obtain ⟨h2, v, l, e2, D2, s2, k2, i2, _, _, dn⟩ := dRef I hstr (by omega) f (ri, rn) 0 bs.length H .nils [] D1 r1 s1 (Nat.zero_le _) ho
  obtain ⟨c, q2, d0, d1, d2, d3⟩ := D2.cell
  have rb := D2.blks s2 (fun j hj => dn j (Nat.zero_le _) hj)
  have x2 : h2.tr.get h.next = some (.st (T.set .nils (T.set (iv 0) (T.set (.b false) .e 0) 1) 2) 3) := k2.get s1 x1 (by simp [rid]; omega)
  have xn : h.next ≠ h2.next := Nat.ne_of_lt (s2 _ _ x2)
  have qn : h.next + 1 + 1 ≠ h2.next := Nat.ne_of_lt (s2 _ _ q2)
  obtain ⟨H3, hH3⟩ : ∃ y, y = updO (addO h2 (.st (T.set (iv 0) (T.set (.b false) .e 0) 1) 2)) h2.next (.st (T.set (iv rn) (T.set (.b ri) (T.set (iv 0) (T.set (.b false) .e 0) 1) 0) 1) 2) := ⟨_, rfl⟩
  have hq : (addO h2 (.st (T.set (iv 0) (T.set (.b false) .e 0) 1) 2)).tr.get h2.next = some (.st (T.set (iv 0) (T.set (.b false) .e 0) 1) 2) := by rw [get_add, if_pos rfl]
  have s3 : Sc H3 := by rw [hH3]; exact (s2.add _).upd hq _
  have k3 : Kp h2 H3 [] := by rw [hH3]; exact (Kp.add h2 _ []).trans (Kp.upd _ _ _) (fun z hz hl => by simp at hz; omega)
  have x3 := k3.get s2 x2 (by simp)
  have k4 := Kp.upd H3 h.next (.st (T.set v (T.set (iv rn) (T.set (.b ri) (T.set .nils (T.set (iv 0) (T.set (.b false) .e 0) 1) 2) 0) 1) 2) 3)
  have s4 := s3.upd x3 (.st (T.set v (T.set (iv rn) (T.set (.b ri) (T.set .nils (T.set (iv 0) (T.set (.b false) .e 0) 1) 2) 0) 1) 2) 3)
  have xb : h.next < H.next := s1 _ _ x1
  have rb' : BlksR h2 h2.next v bs := rb
  -- the blocks' numbers are not the result's
  have vg := D2.gn.cells
  have a1 := fun k => D2.gn.len k
  have a2 := fun k => b_gtrF (a := (bs.length : Int)) (b := 2000) (by omega) k
  have k24 : Kp h2 (updO H3 h.next (.st (T.set v (T.set (iv rn) (T.set (.b ri) (T.set .nils (T.set (iv 0) (T.set (.b false) .e 0) 1) 2) 0) 1) 2) 3)) [h.next] := (k3.mono (by simp)).trans k4 (fun z hz _ => hz)
  have D4 := D2.keep k24 s2 (by simp; omega) (by simp) (fun z hz hm => by
    simp only [List.mem_singleton] at hm
    subst hm
    exact D2.gn.notSt x2 hz)
  have dn4 : ∀ j, j < bs.length → Done (updO H3 h.next (.st (T.set v (T.set (iv rn) (T.set (.b ri) (T.set .nils (T.set (iv 0) (T.set (.b false) .e 0) 1) 2) 0) 1) 2) 3)) ((h.next + 1 + 1) :: (h.next + 1) :: rid v) H.next l bs j := fun j hj => by
    have d1 : Done h2 (h.next :: (h.next + 1 + 1) :: (h.next + 1) :: rid v) H.next l bs j := (dn j (Nat.zero_le _) hj).keep (Kp.refl h2 []) s2 (fun z hz => by simp at hz) (fun z hz => by
      rw [List.mem_cons] at hz
      rcases hz with h5 | h5
      · exact .inr (.inr (by omega))
      · exact .inl h5) (Nat.le_refl _) (fun _ _ _ => rfl)
    exact d1.keep k24 s2 (fun z hz => by simp at hz; simp [hz]) (fun z hz => .inl (List.mem_cons_of_mem _ hz)) (Nat.le_refl _) (fun _ _ _ => rfl)
  refine ⟨_, v, _, fun k => ?_, s4, (k1.trans k2 (fun z hz hl => ?_)).trans k24 (fun z hz hl => ?_), D4.blks s4 dn4, Nat.le_refl _⟩
  · rw [hH] at e2
    have e2' : ∀ k : KH, cal (2 * f + 4) 46 [.p (h.next + 1 + 1) 0 0, iv (wB β (ri, rn))] _ k = k (.agg [.b ri, iv rn]) h2 := e2
    rw [run26]; simp only [ofL_cons, ofL_nil, Nat.zero_add, Nat.reduceAdd]
    simp (maxSteps := 1000000) -implicitDefEqProofs only [c26, ↓x_seq, ↓x_reg, ↓o_consS, ↓r_al, ↓m_new, ↓r_pu, ↓p_mv, ↓e_c, ↓o_nil, ↓nrm_n, ↓ofL_cons, ↓ofL_nil, Nat.zero_add, Nat.reduceAdd, ↓len_3]
    simp (maxSteps := 1000000) -implicitDefEqProofs only [c26T0, ↓x_seq, ↓x_reg, ↓o_consN, ↓r_pu, ↓p_mv, ↓e_t, ne_eq, reduceCtorEq, not_false_eq_true, ↓getK_other, nx1, ↓getK_same, ↓r_al, ↓m_mkm, ↓p_bld, ↓fill_cons, ↓e_l1, ↓c_p, ↓fv40, ↓e_l0, ↓c_m, next_addO, ↓fv41, ↓fill_nil, ↓m_box, ↓o_consS, ↓o_nil, ↓nrm_n, ↓c_agg, ofL_cons, ↓ofL_nil, Nat.zero_add, Nat.reduceAdd, len_4]
    simp (maxSteps := 1000000) -implicitDefEqProofs only [c26T1, ↓x_seq, ↓x_reg, ↓o_consN, ↓r_pu, ↓p_mv, ↓e_t, ↓getK_same, ne_eq, Nat.reduceEqDiff, not_false_eq_true, ↓getK_other, ↓r_ef, ↓m_callf, ↓es_cons, ↓e_l1, ↓e_l0, ↓es_nil, ↓e2', ↓o_consS, ↓r_al, ↓m_new, ↓m_store, ↓n_p, ↓c_agg, len_2, beq_dec, decide_true, ↓ga_new2, ↓ofL_cons, ↓ofL_nil, Nat.zero_add, ↓o_nil, ↓nrm_n, wrs_2, ↓one_b, Nat.reduceLT, ↓w_st, ↓one_i, i_t]
    simp (maxSteps := 1000000) -implicitDefEqProofs only [c26T2, ↓x_seq, ↓x_block, ↓x_reg, ↓o_consN, ↓r_pu, ↓p_mv, ↓e_t, ne_eq, nx1, not_false_eq_true, ↓getK_other, ↓getK_same, ↓p_nilck, ↓e_l0, ↓n_pf, ↓p_fad, ↓n_p, ↓r_rd, ↓m_ld, qn, ↓gu_other, ↓ga_old, ↓t_get q2, Nat.zero_add, Nat.reduceLT, ↓m_st0, ↓t_get d3, ↓o_consS, ↓o_nil, ↓nrm_n, ↓nrm_e, beq_dec, ↓nrm_r, ↓ret_r, ↓res_cell3, ↓rds_3, ↓one2]
    simp (maxSteps := 1000000) -implicitDefEqProofs only [c26T3, ↓x_cond, ↓e_t, ↓getK_same, ↓n_b]
    simp (maxSteps := 1000000) -implicitDefEqProofs only [c26T5, ↓x_seq, ↓x_reg, ↓o_consN, ↓r_pu, ↓p_mv, ↓e_t, ne_eq, Nat.reduceEqDiff, not_false_eq_true, ↓getK_other, nx1, ↓getK_same, ↓p_nilck, ↓e_l0, ↓n_pf, ↓p_fad, ↓n_p, ↓r_rd, ↓m_ld, qn, ↓gu_other, ↓ga_old, ↓t_get q2, Nat.zero_add, Nat.reduceLT, ↓m_st0, ↓t_get d2, ↓p_len, ↓a1, ↓p_bin, ↓e_c, ↓a2, ↓o_consS, ↓o_nil, ↓nrm_n]
    simp (maxSteps := 1000000) -implicitDefEqProofs only [c26T6, ↓x_cond, ↓e_t, ↓getK_same, ↓n_b, ↓x_skip]
    simp (maxSteps := 1000000) -implicitDefEqProofs only [c26T8, ↓x_seq, ↓x_dreg, ↓d_rdN, ↓m_ldn, ↓e_t, ne_eq, Nat.reduceEqDiff, not_false_eq_true, ↓getK_other, ↓getK_same, ↓n_p, ↓gu_same, ↓rds_2, Nat.reduceLT, ↓m_st0, nx1, Nat.zero_add, ↓d_puN, ↓p_mv, ↓p_nilck, ↓e_l0, ↓n_pf, ↓p_fad, ↓m_ld, qn, ↓gu_other, ↓ga_old, ↓t_get q2, ↓t_get d2, ↓p_bld, ↓fill_agg2, ↓e_l4, ↓c_agg, len_2, beq_dec, decide_true, ↓len_3, ble_dec, Nat.reduceLeDiff, ↓fill_cons, put_23, ↓fill_nil, ↓d_efN, ↓m_store, nx2, xn, ↓t_get x2, ↓d_puS, ↓e_c, ↓d_nil, ↓rev_cons, ↓rev_nil, k_nil, ↓nrm_n, ↓x_ret, ↓ret_r, ↓res_cell3, ↓rds_3, Nat.reduceAdd, ↓one2, and_t, vg.1, ↓fv32, ↓wrs_3, ↓one_b, ↓w_st, ↓one_i, vg.2.1, i_t]
    rw [hH3]
  · simp [rid] at hz; omega
  · simp at hz; omega
end
end Go.Proofs.Ytodlgflkhcknaaa.gcc

/- Two rows of the same blocks are the same. -/
namespace Go.Proofs.Ytodlgflkhcknaaa.gcc
open Go Go.AE
set_option linter.unusedSimpArgs false
set_option maxRecDepth 100000

section
variable {N M : Nat} {va vb : AV} {bs : List Bl}
theorem sSame1 {h : Heap} (hs : Sc h) (a : Bool) (x : Int) (n : Nat) : ∃ h', (∀ k : KH, cal (n + 1) 47 [.agg [.b a, iv x], .agg [.b a, iv x]] h k = k (.b true) h') ∧ Sc h' ∧ Kp h h' [] := by
  have a1 := fun k => b_eqlT (a := x) (b := x) rfl k
  have a2 : (a == a) = true := by cases a <;> rfl
  refine ⟨addO (addO h (.st (T.set (iv x) (T.set (.b a) .e 0) 1) 2)) (.st (T.set (iv x) (T.set (.b a) .e 0) 1) 2), fun k => ?_, (hs.add _).add _, (Kp.add h _ []).trans (Kp.add _ _ []) (fun i hi _ => hi)⟩
  rw [run47]; simp only [ofL_cons, ofL_nil, Nat.zero_add, Nat.reduceAdd]
  simp (maxSteps := 1000000) -implicitDefEqProofs only [c47, ↓x_seq, ↓x_reg, ↓o_consS, ↓r_al, ↓m_box, ↓e_t, ne_eq, nx1, not_false_eq_true, ↓getK_other, ↓getK_same, ↓r_pu, ↓p_mv, ↓e_c, ↓o_nil, ↓nrm_n, ↓o_consN, ↓p_fad, nx2, ↓n_p, ↓r_rd, ↓m_ld, ↓e_l0, ↓c_agg, ofL_cons, ↓ofL_nil, Nat.zero_add, len_2, next_addO, ↓ga_old, ↓ga_new2, Nat.reduceLT, ↓m_st0, ↓p_eqb, ↓e_l2, ↓o_guardTN, ↓g_b, ↓e_l1, ↓e_l3, ↓e_l4, ↓p_pick, ↓e_l5, ↓n_b, ↓x_ret, ↓ret_r, ↓res_t1, ↓one1, ↓p_bin, ↓a1, a2]

def FE (fr : Fr) (ga gb i : Nat) : Prop := fr.get 2 = some (.p ga 0 0) ∧ fr.get 3 = some (.p gb 0 0) ∧ fr.get 5 = some (iv i)
def FK (fr : Fr) (ca cb k : Nat) : Prop := fr.get 6 = some (.p ca 0 0) ∧ fr.get 7 = some (.p cb 0 0) ∧ fr.get 8 = some (iv k)
/-- A kid of each. -/
theorem eStep {h : Heap} {ga gb i ca cb k : Nat} {ta tb : T AV} {ka kb : AV} {ks : List Rf} (hs : Sc h) (ha : h.tr.get ca = some (.st ta 3)) (hb : h.tr.get cb = some (.st tb 3)) (qa : ta.get 2 = some ka) (qb : tb.get 2 = some kb) (ra : KidsR h N ka ks) (rb : KidsR h M kb ks) (hk : k < ks.length) (hk2 : ks.length ≤ 10)
    {fr : Fr} (F : FE fr ga gb i) (G : FK fr ca cb k) (n f : Nat) :
    ∃ fr' h', (∀ K, iter (exec (cal (n + 1)) c27L1) (f + 1) fr h K = iter (exec (cal (n + 1)) c27L1) f fr' h' K) ∧ FE fr' ga gb i ∧ FK fr' ca cb (k + 1) ∧ Sc h' ∧ Kp h h' [] := by
  obtain ⟨f2, f3, f5⟩ := F
  obtain ⟨f6, f7, f8⟩ := G
  have hr : ks[k]? = some ks[k] := List.getElem?_eq_getElem hk
  have la := fun K => ra.len K
  obtain ⟨h1, e1, s1, k1⟩ := sSame1 hs ks[k].1 ks[k].2 n
  have a1 := fun K => b_lssT (a := (k : Int)) (b := (ks.length : Int)) (by omega) K
  have a2 := fun K => b_add (a := (k : Int)) (b := 1) (by omega) (by omega) K
  have a3 : decide (k + 1 ≤ ks.length) = true := decide_eq_true hk
  rcases ra with ⟨h0, _⟩ | ⟨id, t, off, cap, o, rfl, hid, ho, hrd⟩
  · rw [h0] at hk; simp at hk
  rcases rb with ⟨h0, _⟩ | ⟨id2, t2, off2, cap2, o2, rfl, hid2, ho2, hrd2⟩
  · rw [h0] at hk; simp at hk
  obtain ⟨r1, r2⟩ := hrd k _ hr
  obtain ⟨r3, r4⟩ := hrd2 k _ hr
  apply Exists.intro
  refine ⟨h1, fun K => ?_, ⟨?_, ?_, ?_⟩, ⟨?_, ?_, ?_⟩, s1, k1⟩
  · rw [it_succ]
    simp (maxSteps := 1000000) -implicitDefEqProofs only [c27L1, ↓x_seq, ↓x_reg, ↓o_consN, ↓r_pu, ↓p_mv, ↓e_t, ↓t_get f8, ↓p_fad, ↓t_get f6, ↓n_p, ↓r_rd, ↓m_ld, ↓e_l0, ↓t_get ha, Nat.zero_add, Nat.reduceLT, ↓m_st0, ↓t_get qa, ↓p_len, ↓la, ↓o_consS, ↓p_bin, ↓e_l3, ↓a1, ↓o_nil, ↓nrm_n, ↓x_cond, ↓getK_same, ↓n_b, ↓x_skip]
    simp (maxSteps := 1000000) -implicitDefEqProofs only [c27T7, ↓x_seq, ↓x_block, ↓x_dreg, ↓d_puN, ↓p_fad, ↓e_t, ne_eq, Nat.reduceEqDiff, not_false_eq_true, ↓getK_other, ↓t_get f6, ↓n_p, ↓d_rdN, ↓m_ld, ↓e_l0, ↓t_get ha, Nat.zero_add, Nat.reduceLT, ↓m_st0, ↓t_get qa, ↓p_mv, ↓t_get f8, ↓p_iad, ↓e_l1, ↓n_sl, ↓evN_of, ↓n_i, ↓int_n, ble_dec, a3, ↓m_ldn, ↓t_get ho, ↓rds_2, ↓r1, ↓r2, ↓t_get f7, ↓t_get hb, ↓t_get qb, ↓t_get ho2, ↓r3, ↓r4, ↓d_efN, ↓m_callf, ↓es_cons, ↓e_l5, ↓es_nil, ↓e1, ↓d_puS, ↓p_not, ↓n_b, ↓d_nil, ↓rev_cons, ↓rev_nil, beq_dec, decide_true, k_nil, ↓nrm_n, ↓x_cond, ↓getK_same, ↓rec_nt, ↓x_skip, ↓nn_t, and_t, i_t]
    simp (maxSteps := 1000000) -implicitDefEqProofs only [c27T8, ↓x_reg, ↓o_consN, ↓r_pu, ↓p_mv, ↓e_t, ne_eq, Nat.reduceEqDiff, not_false_eq_true, ↓getK_other, ↓t_get f8, ↓p_bin, ↓e_l0, ↓e_c, ↓a2, ↓o_consS, ↓o_nil, ↓nrm_n]
    rfl
  all_goals simp only [get_other, get_same, ne_eq, Nat.reduceEqDiff, not_false_eq_true, f2, f3, f5, f6, f7]
  rfl
theorem eLoop {ga gb i ca cb : Nat} {ta tb : T AV} {ka kb : AV} {ks : List Rf} (qa : ta.get 2 = some ka) (qb : tb.get 2 = some kb) (hk2 : ks.length ≤ 10) (n f : Nat) : ∀ (d k : Nat) (h : Heap) (fr : Fr), k + d = ks.length → Sc h → N ≤ h.next → M ≤ h.next → h.tr.get ca = some (.st ta 3) → h.tr.get cb = some (.st tb 3) → KidsR h N ka ks → KidsR h M kb ks → FE fr ga gb i → FK fr ca cb k →
    ∃ fr' h', (∀ K, iter (exec (cal (n + 1)) c27L1) (d + (f + 1)) fr h K = K (.exit 2) fr' h') ∧ FE fr' ga gb i ∧ Sc h' ∧ Kp h h' []
  | 0, k, h, fr, hd, hs, hN, hM, ha, hb, ra, rb, F, G => by
    have hk : k = ks.length := by omega
    subst hk
    obtain ⟨f2, f3, f5⟩ := F
    obtain ⟨f6, f7, f8⟩ := G
    have la := fun K => ra.len K
    have a1 := fun K => b_lssF (a := (ks.length : Int)) (b := (ks.length : Int)) (by omega) K
    refine ⟨T.set (.b false) fr 66, h, fun K => ?_, ⟨?_, ?_, ?_⟩, hs, Kp.refl _ _⟩
    · rw [Nat.zero_add, it_succ]
      simp (maxSteps := 1000000) -implicitDefEqProofs only [c27L1, ↓x_seq, ↓x_reg, ↓o_consN, ↓r_pu, ↓p_mv, ↓e_t, ↓t_get f8, ↓p_fad, ↓t_get f6, ↓n_p, ↓r_rd, ↓m_ld, ↓e_l0, ↓t_get ha, Nat.zero_add, Nat.reduceLT, ↓m_st0, ↓t_get qa, ↓p_len, ↓la, ↓o_consS, ↓p_bin, ↓e_l3, ↓a1, ↓o_nil, ↓nrm_n, ↓x_cond, ↓getK_same, ↓n_b, ↓x_exit, ↓nrm_e]
    · rw [get_other _ _ (by decide)]; exact f2
    · rw [get_other _ _ (by decide)]; exact f3
    · rw [get_other _ _ (by decide)]; exact f5
  | d + 1, k, h, fr, hd, hs, hN, hM, ha, hb, ra, rb, F, G => by
    obtain ⟨fr1, h1, e1, F1, G1, s1, k1⟩ := eStep hs ha hb qa qb ra rb (by omega) hk2 F G n (d + (f + 1))
    have lo := Lo.of k1 hN (fun i hi => by simp at hi)
    have lo2 := Lo.of k1 hM (fun i hi => by simp at hi)
    obtain ⟨fr', h', e2, F2, s2, k2⟩ := eLoop qa qb hk2 n f d (k + 1) h1 fr1 (by omega) s1 (Nat.le_trans hN k1.1) (Nat.le_trans hM k1.1) (k1.get hs ha (by simp)) (k1.get hs hb (by simp)) (ra.keep lo) (rb.keep lo2) F1 G1
    refine ⟨fr', h', fun K => ?_, F2, s2, k1.trans k2 (fun i hi _ => hi)⟩
    rw [show d + 1 + (f + 1) = d + (f + 1) + 1 from by omega, e1, e2]

theorem s_agg3 {a b c : AV} (ha : sameV a a = true) (hb : sameV b b = true) (hc : sameV c c = true) : sameV (.agg [a, b, c]) (.agg [a, b, c]) = true := by
  show ite' (sameV a a) (ite' (sameV b b) (ite' (sameV c c) true false) false) false = true
  rw [ha, hb, hc]; rfl
/-- A block of each. -/
theorem bStep {h : Heap} {ga gb i : Nat} {ta tb : T AV} (hs : Sc h) (hN : N ≤ h.next) (hM : M ≤ h.next) (ha : h.tr.get ga = some (.st ta 3)) (hb : h.tr.get gb = some (.st tb 3)) (qa : ta.get 2 = some va) (qb : tb.get 2 = some vb) (ra : BlksR h N va bs) (rb : BlksR h M vb bs) (hi : i < bs.length) (hlen : bs.length ≤ 300000) (hk2 : bs[i].kids.length ≤ 10)
    {fr : Fr} (F : FE fr ga gb i) (n f : Nat) :
    ∃ fr' h', (∀ K, iter (exec (cal (n + 1)) c27L0) (f + 1) fr h K = iter (exec (cal (n + 1)) c27L0) f fr' h' K) ∧ FE fr' ga gb (i + 1) ∧ Sc h' ∧ Kp h h' [] := by
  obtain ⟨f2, f3, f5⟩ := F
  have hr : bs[i]? = some bs[i] := List.getElem?_eq_getElem hi
  have la := fun K => ra.len K
  have gan : ga ≠ h.next := Nat.ne_of_lt (hs _ _ ha)
  have gbn : gb ≠ h.next := Nat.ne_of_lt (hs _ _ hb)
  have gan1 : ga ≠ h.next + 1 := by have := hs _ _ ha; omega
  have gbn1 : gb ≠ h.next + 1 := by have := hs _ _ hb; omega
  rcases ra with ⟨h0, _⟩ | ⟨id, t, off, cap, o, rfl, hid, ho, hrd⟩
  · rw [h0] at hi; simp at hi
  rcases rb with ⟨h0, _⟩ | ⟨id2, t2, off2, cap2, o2, rfl, hid2, ho2, hrd2⟩
  · rw [h0] at hi; simp at hi
  obtain ⟨r1, r2, ka, r3, rka⟩ := hrd i _ hr
  obtain ⟨r4, r5, kb, r6, rkb⟩ := hrd2 i _ hr
  obtain ⟨kc, ko, ksm⟩ := rka.cells
  obtain ⟨kc2, ko2, ksm2⟩ := rkb.cells
  have hidn : id ≠ h.next := by omega
  have hidn1 : id ≠ h.next + 1 := by omega
  have hidn2 : id2 ≠ h.next := by omega
  have hidn3 : id2 ≠ h.next + 1 := by omega
  have lka := fun K => rka.len K
  have lkb := fun K => rkb.len K
  obtain ⟨z, hz⟩ : ∃ z : T AV, z = T.set .nils (T.set (.s 0 0) (T.set (iv 0) .e 0) 1) 2 := ⟨_, rfl⟩
  obtain ⟨H, hH⟩ : ∃ y, y = updO (updO (addO (addO h (.st z 3)) (.st z 3)) h.next (.st (cpB bs[i] ka) 3)) (h.next + 1) (.st (cpB bs[i] kb) 3) := ⟨_, rfl⟩
  have z1 : (addO (addO h (.st z 3)) (.st z 3)).tr.get h.next = some (.st z 3) := by simp [get_add, next_addO]
  have z2 : (updO (addO (addO h (.st z 3)) (.st z 3)) h.next (.st (cpB bs[i] ka) 3)).tr.get (h.next + 1) = some (.st z 3) := by simp [get_add, get_upd, next_addO]
  have s2 : Sc H := by rw [hH]; exact (((hs.add _).add _).upd z1 _).upd z2 _
  have k2 : Kp h H [] := by
    rw [hH]
    exact (((Kp.add h _ []).trans (Kp.add _ _ []) (fun i hi _ => hi)).trans (Kp.upd _ _ _) (fun z hz hl => by simp at hz; omega)).trans (Kp.upd _ _ _) (fun z hz hl => by simp at hz; omega)
  have ca : H.tr.get h.next = some (.st (cpB bs[i] ka) 3) := by rw [hH, get_upd, if_neg (by omega), get_upd, if_pos rfl]
  have cb : H.tr.get (h.next + 1) = some (.st (cpB bs[i] kb) 3) := by rw [hH, get_upd, if_pos rfl]
  have lo := Lo.of k2 hN (fun i hi => by simp at hi)
  have lo2 := Lo.of k2 hM (fun i hi => by simp at hi)
  obtain ⟨fr1, hfr⟩ : ∃ x : Fr, x = T.set (iv 0) (T.set (.b false) (T.set (.p (h.next + 1) 0 0) (T.set (.p h.next 0 0) (T.set (.b true) fr 28) 6) 7) 61) 8 := ⟨_, rfl⟩
  have F1 : FE fr1 ga gb i := by
    rw [hfr]
    refine ⟨?_, ?_, ?_⟩ <;> simp only [get_other, get_same, ne_eq, Nat.reduceEqDiff, not_false_eq_true, f2, f3, f5]
  have G1 : FK fr1 h.next (h.next + 1) 0 := by
    rw [hfr]
    refine ⟨?_, ?_, ?_⟩ <;> simp only [get_other, get_same, ne_eq, Nat.reduceEqDiff, not_false_eq_true]
    rfl
  obtain ⟨fr2, h', e, ⟨g2, g3, g5⟩, s', k'⟩ := eLoop (cpB2 _ _) (cpB2 _ _) hk2 n (1000000 - bs[i].kids.length - 1) bs[i].kids.length 0 H fr1 (by omega) s2 (Nat.le_trans hN k2.1) (Nat.le_trans hM k2.1) ca cb (rka.keep lo) (rkb.keep lo2) F1 G1
  rw [show bs[i].kids.length + (1000000 - bs[i].kids.length - 1 + 1) = 1000000 from by omega, hH, hfr, hz] at e
  unfold cpB at e
  have a1 := fun K => b_lssT (a := (i : Int)) (b := (bs.length : Int)) (by omega) K
  have a2 := fun K => b_add (a := (i : Int)) (b := 1) (by omega) (by omega) K
  have a3 : decide (i + 1 ≤ bs.length) = true := decide_eq_true hi
  have a4 := fun K => b_neqF (a := bs[i].tag) (b := bs[i].tag) rfl K
  have a5 : ∀ K, kBin .neq (.s bs[i].sn bs[i].sv) (.s bs[i].sn bs[i].sv) K = K (.b false) := fun K => by rw [b_neqs]; simp
  have a6 := fun K => b_neqF (a := (bs[i].kids.length : Int)) (b := (bs[i].kids.length : Int)) rfl K
  have a7 := s_agg3 (s_i .i64 bs[i].tag) (s_s bs[i].sn bs[i].sv) ksm2
  apply Exists.intro
  refine ⟨h', fun K => ?_, ⟨?_, ?_, ?_⟩, s', k2.trans k' (fun i hi _ => hi)⟩
  · rw [it_succ]
    simp (maxSteps := 1000000) -implicitDefEqProofs only [c27L0, ↓x_seq, ↓x_reg, ↓o_consN, ↓r_pu, ↓p_mv, ↓e_t, ↓t_get f5, ↓p_fad, ↓t_get f2, ↓n_p, ↓r_rd, ↓m_ld, ↓e_l0, ↓t_get ha, Nat.zero_add, Nat.reduceLT, ↓m_st0, ↓t_get qa, ↓p_len, ↓la, ↓o_consS, ↓p_bin, ↓e_l3, ↓a1, ↓o_nil, ↓nrm_n, ↓x_cond, ↓getK_same, ↓n_b, ↓x_skip]
    simp (maxSteps := 1000000) -implicitDefEqProofs only [c27T3, ↓x_seq, ↓x_block, ↓x_dreg, ↓d_puN, ↓p_fad, ↓e_t, ne_eq, Nat.reduceEqDiff, not_false_eq_true, ↓getK_other, ↓t_get f2, ↓n_p, ↓d_rdN, ↓m_ld, ↓e_l0, ↓t_get ha, Nat.zero_add, Nat.reduceLT, ↓m_st0, ↓t_get qa, ↓p_mv, ↓t_get f5, ↓p_iad, ↓e_l1, ↓n_sl, ↓evN_of, ↓n_i, ↓int_n, ble_dec, a3, ↓m_ldn, ↓t_get ho, ↓rds_3, ↓r1, ↓r2, ↓r3, ↓t_get f3, ↓t_get hb, ↓t_get qb, ↓t_get ho2, ↓r4, ↓r5, ↓r6, ↓d_alS, ↓m_new, ↓d_efN, ↓m_store, ↓e_l7, ↓c_agg, len_3, beq_dec, decide_true, ↓ofL_cons, ↓ofL_nil, Nat.reduceAdd, next_addO, nx1, ↓ga_old, ↓ga_new2, ↓e_l3, nx1', ↓gu_other, ↓d_nil, ↓rev_cons, ↓rev_nil, decide_false, k_cons, ↓ka_cons, Nat.zero_le, i_t, hidn3, hidn2, a7, Nat.reduceLeDiff, i_f, ↓ka_nil, and_t, gbn1, gbn, s_slc, ↓k_nil, ↓nrm_n, ↓nrm_e, ↓nrm_r, wrs_3, ↓one_i, ↓w_st, ↓one_s, ko2, ko]
    simp (maxSteps := 1000000) -implicitDefEqProofs only [c27T4, ↓x_seq, ↓x_reg, ↓o_consN, ↓r_pu, ↓p_fad, ↓e_t, ne_eq, nx1, not_false_eq_true, ↓getK_other, ↓getK_same, ↓n_p, ↓r_rd, ↓m_ld, ↓e_l0, ↓gu_other, ↓gu_same, Nat.zero_add, Nat.reduceLT, ↓m_st0, nx2, ↓p_bin, ↓e_l2, ↓a4, ↓p_mv, ↓o_guardN, ↓g_b, ↓e_l1, ↓e_l3, ↓e_l4, ↓a5, ↓p_pick, ↓e_l5, ↓n_b, ↓p_len, ↓lka, ↓lkb, ↓e_l6, ↓a6, ↓o_consS, ↓e_l7, ↓o_nil, ↓nrm_n, ↓x_cond, ↓x_skip]
    simp (maxSteps := 1000000) -implicitDefEqProofs only [c27T5, ↓x_seq, ↓x_reg, ↓o_consS, ↓r_pu, ↓p_mv, ↓e_c, ↓o_nil, ↓nrm_n]
    simp (maxSteps := 1000000) -implicitDefEqProofs only [c27T6, ↓x_block, ↓x_loop, ↓e, ↓rec_bb]
    simp (maxSteps := 1000000) -implicitDefEqProofs only [c27T9, ↓x_reg, ↓o_consN, ↓r_pu, ↓p_mv, ↓e_t, ↓t_get g5, ↓p_bin, ↓e_l0, ↓e_c, ↓a2, ↓o_consS, ↓o_nil, ↓nrm_n]
    rfl
  · simp only [get_other, get_same, ne_eq, Nat.reduceEqDiff, not_false_eq_true, g2]
  · simp only [get_other, get_same, ne_eq, Nat.reduceEqDiff, not_false_eq_true, g3]
  · simp only [get_other, get_same, ne_eq, Nat.reduceEqDiff, not_false_eq_true]; rfl
theorem bLoop {ga gb : Nat} {ta tb : T AV} (qa : ta.get 2 = some va) (qb : tb.get 2 = some vb) (hlen : bs.length ≤ 300000) (hk2 : ∀ b ∈ bs, b.kids.length ≤ 10) (n f : Nat) : ∀ (d i : Nat) (h : Heap) (fr : Fr), i + d = bs.length → Sc h → N ≤ h.next → M ≤ h.next → h.tr.get ga = some (.st ta 3) → h.tr.get gb = some (.st tb 3) → BlksR h N va bs → BlksR h M vb bs → FE fr ga gb i →
    ∃ fr' h', (∀ K, iter (exec (cal (n + 1)) c27L0) (d + (f + 1)) fr h K = K (.exit 0) fr' h') ∧ Sc h' ∧ Kp h h' []
  | 0, i, h, fr, hd, hs, hN, hM, ha, hb, ra, rb, F => by
    have hi : i = bs.length := by omega
    subst hi
    obtain ⟨f2, f3, f5⟩ := F
    have la := fun K => ra.len K
    have a1 := fun K => b_lssF (a := (bs.length : Int)) (b := (bs.length : Int)) (by omega) K
    refine ⟨T.set (.b false) fr 28, h, fun K => ?_, hs, Kp.refl _ _⟩
    rw [Nat.zero_add, it_succ]
    simp (maxSteps := 1000000) -implicitDefEqProofs only [c27L0, ↓x_seq, ↓x_reg, ↓o_consN, ↓r_pu, ↓p_mv, ↓e_t, ↓t_get f5, ↓p_fad, ↓t_get f2, ↓n_p, ↓r_rd, ↓m_ld, ↓e_l0, ↓t_get ha, Nat.zero_add, Nat.reduceLT, ↓m_st0, ↓t_get qa, ↓p_len, ↓la, ↓o_consS, ↓p_bin, ↓e_l3, ↓a1, ↓o_nil, ↓nrm_n, ↓x_cond, ↓getK_same, ↓n_b, ↓x_exit, ↓nrm_e]
  | d + 1, i, h, fr, hd, hs, hN, hM, ha, hb, ra, rb, F => by
    obtain ⟨fr1, h1, e1, F1, s1, k1⟩ := bStep hs hN hM ha hb qa qb ra rb (by omega) hlen (hk2 _ (List.getElem_mem (by omega))) F n (d + (f + 1))
    have lo := Lo.of k1 hN (fun i hi => by simp at hi)
    have lo2 := Lo.of k1 hM (fun i hi => by simp at hi)
    obtain ⟨fr', h', e2, s2, k2⟩ := bLoop qa qb hlen hk2 n f d (i + 1) h1 fr1 (by omega) s1 (Nat.le_trans hN k1.1) (Nat.le_trans hM k1.1) (k1.get hs ha (by simp)) (k1.get hs hb (by simp)) (ra.keep lo) (rb.keep lo2) F1
    refine ⟨fr', h', fun K => ?_, s2, k1.trans k2 (fun i hi _ => hi)⟩
    rw [show d + 1 + (f + 1) = d + (f + 1) + 1 from by omega, e1, e2]

/-- Two rows of the same blocks, and the same root: they are one graph. -/
theorem sSame {h : Heap} {ri : Bool} {rn : Int} (hs : Sc h) (hN : N ≤ h.next) (hM : M ≤ h.next) (ra : BlksR h N va bs) (rb : BlksR h M vb bs) (hlen : bs.length ≤ 300000) (hk2 : ∀ b ∈ bs, b.kids.length ≤ 10) (n : Nat) :
    ∃ h', (∀ k : KH, cal (n + 2) 27 [.agg [.b ri, iv rn, va], .agg [.b ri, iv rn, vb]] h k = k (.b true) h') ∧ Sc h' ∧ Kp h h' [] := by
  obtain ⟨kc, ko, ksm⟩ := ra.cells
  obtain ⟨kc2, ko2, ksm2⟩ := rb.cells
  obtain ⟨H, hH⟩ : ∃ y, y = addO (addO h (.st (T.set va (T.set (iv rn) (T.set (.b ri) .e 0) 1) 2) 3)) (.st (T.set vb (T.set (iv rn) (T.set (.b ri) .e 0) 1) 2) 3) := ⟨_, rfl⟩
  have s1 : Sc H := by rw [hH]; exact (hs.add _).add _
  have k1 : Kp h H [] := by rw [hH]; exact (Kp.add h _ []).trans (Kp.add _ _ []) (fun i hi _ => hi)
  have x1 : H.tr.get h.next = some (.st (T.set va (T.set (iv rn) (T.set (.b ri) .e 0) 1) 2) 3) := by rw [hH]; simp [get_add, next_addO]
  have y1 : H.tr.get (h.next + 1) = some (.st (T.set vb (T.set (iv rn) (T.set (.b ri) .e 0) 1) 2) 3) := by rw [hH]; simp [get_add, next_addO]
  obtain ⟨h2, e2, s2, k2⟩ := sSame1 s1 ri rn n
  have k02 : Kp h h2 [] := k1.trans k2 (fun i hi _ => hi)
  have lo := Lo.of k02 hN (fun i hi => by simp at hi)
  have lo2 := Lo.of k02 hM (fun i hi => by simp at hi)
  have x2 := k2.get s1 x1 (by simp)
  have y2 := k2.get s1 y1 (by simp)
  obtain ⟨fr, hfr⟩ : ∃ x : Fr, x = T.set (iv 0) (T.set (.b false) (T.set (.b false) (T.set (.p (h.next + 1) 0 0) (T.set (.p h.next 0 0) (T.set (.agg [.b ri, iv rn, vb]) (T.set (.agg [.b ri, iv rn, va]) .e 0) 1) 2) 3) 4) 23) 5 := ⟨_, rfl⟩
  have F : FE fr h.next (h.next + 1) 0 := by
    rw [hfr]
    refine ⟨?_, ?_, ?_⟩ <;> simp only [get_other, get_same, ne_eq, Nat.reduceEqDiff, not_false_eq_true]
    rfl
  obtain ⟨fr', h', e, s', k'⟩ := bLoop (get_same _ _ _) (get_same _ _ _) hlen hk2 n (1000000 - bs.length - 1) bs.length 0 h2 fr (by omega) s2 (Nat.le_trans hN k02.1) (Nat.le_trans hM k02.1) x2 y2 (ra.keep lo) (rb.keep lo2) F
  rw [show bs.length + (1000000 - bs.length - 1 + 1) = 1000000 from by omega, hfr] at e
  have la := fun K => ra.len K
  have lb := fun K => rb.len K
  have a1 := fun K => b_neqF (a := (bs.length : Int)) (b := (bs.length : Int)) rfl K
  rw [hH] at e2
  refine ⟨h', fun k => ?_, s', k02.trans k' (fun i hi _ => hi)⟩
  rw [run27]; simp only [ofL_cons, ofL_nil, Nat.zero_add, Nat.reduceAdd]
  simp (maxSteps := 1000000) -implicitDefEqProofs only [c27, ↓x_seq, ↓x_reg, ↓o_consS, ↓r_al, ↓m_box, ↓e_t, ne_eq, nx1, not_false_eq_true, ↓getK_other, ↓getK_same, ↓r_pu, ↓p_mv, ↓e_c, ↓o_nil, ↓nrm_n, ↓c_agg, ofL_cons, ↓ofL_nil, Nat.zero_add, Nat.reduceAdd, len_3, next_addO]
  simp (maxSteps := 1000000) -implicitDefEqProofs only [c27T0, ↓x_seq, ↓x_reg, ↓o_consN, ↓r_pu, ↓p_fad, ↓e_t, ne_eq, nx2, not_false_eq_true, ↓getK_other, nx1, ↓getK_same, ↓n_p, ↓r_rd, ↓m_ldn, ↓e_l0, next_addO, ↓ga_old, ↓ga_new2, ↓rds_2, Nat.zero_add, Nat.reduceLT, ↓m_st0, ↓r_ef, ↓m_callf, ↓es_cons, ↓e_l2, ↓es_nil, ↓e2, ↓p_not, ↓n_b, ↓p_mv, ↓o_guardN, ↓g_b, ↓rec_nt, ↓e_l1, ↓m_ld, ↓t_get x2, ↓p_len, ↓la, ↓e_l3, ↓e_l4, ↓t_get y2, ↓e_l5, ↓lb, ↓e_l6, ↓p_bin, ↓a1, ↓o_consS, ↓p_pick, ↓e_l7, ↓o_nil, ↓nrm_n, ↓x_cond, ↓x_skip]
  simp (maxSteps := 1000000) -implicitDefEqProofs only [c27T1, ↓x_seq, ↓x_reg, ↓o_consS, ↓r_pu, ↓p_mv, ↓e_c, ↓o_nil, ↓nrm_n, ↓x_ret, ↓ret_r, ↓res_t1, ↓getK_same, ↓one1]
  simp (maxSteps := 1000000) -implicitDefEqProofs only [c27T2, ↓x_block, ↓x_loop, ↓e, ↓rec_bb, ↓nrm_n]
end
end Go.Proofs.Ytodlgflkhcknaaa.gcc
