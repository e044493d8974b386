import Derived.Test.YtodlgflkhcknaaaCode
set_option linter.unusedVariables false
/- Rows that grow, rows that are owned, in the evaluator's memory. -/
namespace Go.Proofs.Ytodlgflkhcknaaa.gcc
open Go Go.AE
set_option linter.unusedSimpArgs false

theorem next_addO (h : Heap) (o : Go.AE.Obj) : (addO h o).next = h.next + 1 := rfl
theorem next_updO (h : Heap) (i : Nat) (o : Go.AE.Obj) : (updO h i o).next = h.next := rfl

theorem ga_old {H : Heap} {o : Go.AE.Obj} {id : Nat} (h : id ≠ H.next) (d : Bool) (f : Go.AE.Obj → Bool) : (addO H o).tr.getK id d f = H.tr.getK id d f := getK_other o H.tr h d f
theorem ga_new {H : Heap} {o : Go.AE.Obj} (d : Bool) (f : Go.AE.Obj → Bool) : (addO H o).tr.getK H.next d f = f o := getK_same o H.tr H.next d f
theorem gu_same {H : Heap} {o : Go.AE.Obj} {i : Nat} (d : Bool) (f : Go.AE.Obj → Bool) : (updO H i o).tr.getK i d f = f o := getK_same o H.tr i d f
theorem gu_other {H : Heap} {o : Go.AE.Obj} {i j : Nat} (h : j ≠ i) (d : Bool) (f : Go.AE.Obj → Bool) : (updO H i o).tr.getK j d f = H.tr.getK j d f := getK_other o H.tr h d f

/-- All that is there has a number below the next. -/
def Sc (h : Heap) : Prop := ∀ id o, h.tr.get id = some o → id < h.next
theorem Sc.add {h : Heap} (hs : Sc h) (o : Go.AE.Obj) : Sc (addO h o) := fun id o' hi => by
  rw [get_add] at hi
  rw [next_addO]
  split at hi
  · omega
  · have := hs id o' hi; omega
theorem Sc.upd {h : Heap} (hs : Sc h) {i : Nat} {o1 : Go.AE.Obj} (hi : h.tr.get i = some o1) (o : Go.AE.Obj) : Sc (updO h i o) := fun id o' h' => by
  rw [get_upd] at h'
  rw [next_updO]
  split at h'
  · rename_i e; rw [e]; exact hs _ _ hi
  · exact hs _ _ h'

/-- But for some numbers nothing that was there has turned. -/
def Kp (h h' : Heap) (S : List Nat) : Prop := h.next ≤ h'.next ∧ ∀ id, id < h.next → id ∉ S → h'.tr.get id = h.tr.get id
theorem Kp.refl (h : Heap) (S : List Nat) : Kp h h S := ⟨Nat.le_refl _, fun _ _ _ => rfl⟩
theorem Kp.add (h : Heap) (o : Go.AE.Obj) (S : List Nat) : Kp h (addO h o) S := ⟨Nat.le_succ _, fun id hi _ => by rw [get_add, if_neg (by omega)]⟩
theorem Kp.upd (h : Heap) (i : Nat) (o : Go.AE.Obj) : Kp h (updO h i o) [i] := ⟨Nat.le_refl _, fun id _ hn => by rw [get_upd, if_neg (fun e => hn (by rw [e]; simp))]⟩
theorem Kp.trans {h h1 h2 : Heap} {S T : List Nat} (a : Kp h h1 S) (b : Kp h1 h2 T) (hT : ∀ i ∈ T, i < h.next → i ∈ S) : Kp h h2 S :=
  ⟨Nat.le_trans a.1 b.1, fun id hi hn => by rw [b.2 id (Nat.lt_of_lt_of_le hi a.1) (fun ht => hn (hT id ht hi)), a.2 id hi hn]⟩
theorem Kp.mono {h h1 : Heap} {S T : List Nat} (a : Kp h h1 S) (hT : ∀ i ∈ S, i ∈ T) : Kp h h1 T := ⟨a.1, fun id hi hn => a.2 id hi fun hs => hn (hT id hs)⟩
theorem Kp.get {h h1 : Heap} {S : List Nat} (a : Kp h h1 S) (hs : Sc h) {id : Nat} {o : Go.AE.Obj} (hi : h.tr.get id = some o) (hn : id ∉ S) : h1.tr.get id = some o := by rw [a.2 id (hs _ _ hi) hn]; exact hi

/-- A row's number. -/
def rid : AV → List Nat
  | .sl id _ _ _ _ _ => [id]
  | _ => []

/-- A row that grows: nil, or all of its object. -/
def GR (h : Heap) (v : AV) (l : List AV) : Prop :=
  (l = [] ∧ v = .nils) ∨ ∃ id t cells minv segs, l ≠ [] ∧ v = .sl id t 0 l.length none 1 ∧ h.tr.get id = some (.ve cells l.length t minv segs) ∧ minv ≤ t ∧ ∀ (j : Nat) x, l[j]? = some x → cells.get j = some x
theorem GR.keep {h h1 : Heap} {S : List Nat} {v : AV} {l : List AV} (g : GR h v l) (a : Kp h h1 S) (hs : Sc h) (hn : ∀ i ∈ rid v, i ∉ S) : GR h1 v l := by
  rcases g with g | ⟨id, t, cells, minv, segs, h1, rfl, h3, h4⟩
  · exact .inl g
  · exact .inr ⟨id, t, cells, minv, segs, h1, rfl, a.get hs h3 (hn id (by simp [rid])), h4⟩
theorem GR.lt {h : Heap} {v : AV} {l : List AV} (g : GR h v l) (hs : Sc h) : ∀ i ∈ rid v, i < h.next := by
  rcases g with ⟨_, rfl⟩ | ⟨id, t, cells, minv, segs, h1, rfl, h3, h4⟩
  · intro i hi; simp [rid] at hi
  · intro i hi; simp [rid] at hi; rw [hi]; exact hs _ _ h3
theorem GR.len {h : Heap} {v : AV} {l : List AV} (g : GR h v l) (k : KV) : lenK v k = k (.i .i64 (l.length : Int)) := by
  rcases g with ⟨rfl, rfl⟩ | ⟨id, t, cells, minv, segs, h1, rfl, h3, h4⟩ <;> rfl
/-- An element is read. -/
theorem GR.read {h : Heap} {v x : AV} {l : List AV} (g : GR h v l) {j : Nat} (hj : l[j]? = some x) : ∃ id t o, v = .sl id t 0 l.length none 1 ∧ h.tr.get id = some o ∧ ∀ k, rdK o t j k = k x := by
  have hl : j < l.length := (List.getElem?_eq_some_iff.1 hj).1
  rcases g with ⟨rfl, rfl⟩ | ⟨id, t, cells, minv, segs, h1, rfl, h3, h4, h5⟩
  · simp at hl
  · exact ⟨id, t, _, rfl, h3, fun k => by rw [m_ve _ _ _ _ _ _ _ hl, t_get (h5 j x hj)]⟩

theorem room_le {b n : Nat} (hb : b ≤ 24) (hn : 2 * n + 1000 ≤ 2001000) : Nat.mul (Nat.add (Nat.mul 2 n) 1000) b ≤ 281474976710656 :=
  have h1 : (2 * n + 1000) * b ≤ 2001000 * 24 := Nat.mul_le_mul hn hb
  Nat.le_trans h1 (Nat.le_of_ble_eq_true rfl)
theorem room_ok {b n : Nat} (hb : b ≤ 24) (hn : n ≤ 1000000) : room b n = true := Nat.ble_eq_true_of_le (room_le hb (by omega))

/-- One more element. -/
theorem app_one {b : Nat} (hb : b ≤ 24) {h : Heap} {v x : AV} {l : List AV} (g : GR h v l) (hs : Sc h) (hx : oneC x = true) (hl : l.length < 1000000) :
    ∃ v' h', (∀ k, appK 1 b v [x] 1 h k = k v' h') ∧ GR h' v' (l ++ [x]) ∧ Sc h' ∧ Kp h h' (rid v) ∧ ∀ i ∈ rid v', i ∈ rid v ∨ h.next ≤ i := by
  rcases g with ⟨rfl, rfl⟩ | ⟨id, t, cells, minv, segs, h1, rfl, h3, h4, h5⟩
  · refine ⟨.sl h.next 0 0 1 none 1, addO h (.ve (T.ofList [x] 0 .e) 1 0 0 []), fun k => ?_, .inr ⟨h.next, 0, T.ofList [x] 0 .e, 0, [], by simp, rfl, by rw [get_add, if_pos rfl]; rfl, Nat.le_refl _, fun j y hj => ?_⟩, hs.add _, Kp.add _ _ _, fun i hi => ?_⟩
    · show ite' (room b 1) (newVec 1 [x] 1 h k) false = _
      rw [room_ok hb (by omega)]; rfl
    · cases j with
      | zero => simp at hj; subst hj; rw [ofL_cons, ofL_nil]; exact get_same _ _ _
      | succ j => simp at hj
    · simp [rid] at hi; exact .inr (by omega)
  · have hid : h.tr.get id = some (.ve cells l.length t minv segs) := h3
    refine ⟨.sl id (t + 1) 0 (l.length + 1) none 1, updO h id (.ve (T.ofList [x] l.length cells) (l.length + 1) (t + 1) minv ((l.length, t + 1) :: popSegs l.length segs)), fun k => ?_,
      .inr ⟨id, t + 1, T.ofList [x] l.length cells, minv, (l.length, t + 1) :: popSegs l.length segs, by simp, by simp, by rw [get_upd, if_pos rfl]; simp, by omega, fun j y hj => ?_⟩, hs.upd hid _, ?_, fun i hi => .inl (by simpa [rid] using hi)⟩
    · show ite' true (ite' (room b (l.length + 1)) (h.tr.getK id false fun o => appTo o 1 id t 0 l.length none [x] 1 h k) false) false = _
      rw [room_ok hb (by omega), t_get hid]
      show ite' (ite' (Nat.ble minv t) (ite' (Nat.ble (0 + l.length * 1) l.length) (ite' (Nat.beq t t) true _) false) false) (ite' (ite' (oneC x) true false) (k (.sl id (t + 1) 0 (l.length + 1) none 1) (updO h id (.ve (T.ofList [x] (0 + l.length * 1) cells) (0 + l.length * 1 + 1 * 1) (t + 1) minv ((0 + l.length * 1, t + 1) :: popSegs (0 + l.length * 1) segs)))) false) false = _
      rw [hx, Nat.ble_eq_true_of_le h4, beq_self, Nat.zero_add, Nat.mul_one, Nat.ble_eq_true_of_le (Nat.le_refl _)]
      rfl
    · rw [ofL_cons, ofL_nil, get_set]
      by_cases e : j = l.length
      · subst e; simp at hj; rw [if_pos rfl, hj]
      · rw [if_neg e]
        have : j < (l ++ [x]).length := (List.getElem?_eq_some_iff.1 hj).1
        simp at this
        rw [List.getElem?_append_left (by omega)] at hj
        exact h5 j y hj
    · exact (Kp.upd h id _).mono fun i hi => by simpa [rid] using hi
end Go.Proofs.Ytodlgflkhcknaaa.gcc

/- Rows of numbers: read, copied. -/
namespace Go.Proofs.Ytodlgflkhcknaaa.gcc
open Go Go.AE
set_option linter.unusedSimpArgs false

/-- A number as an abstract value. -/
abbrev iv (n : Int) : AV := .i .i64 n

/-- A row of numbers that can be read. -/
def RowR (h : Heap) (v : AV) (fl : List Int) : Prop :=
  (fl = [] ∧ v = .nils) ∨ ∃ id t off cap o, v = .sl id t off fl.length cap 1 ∧ h.tr.get id = some o ∧ ∀ (j : Nat) x, fl[j]? = some x → ∀ k, rdK o t (off + j) k = k (iv x)
/-- A row of numbers that nothing else has. -/
def RowO (h : Heap) (v : AV) (fl : List Int) : Prop :=
  (fl = [] ∧ (v = .nils ∨ ∃ id, v = .sl id 0 0 0 (some 0) 1 ∧ h.tr.get id = some (.st .e 0))) ∨
  ∃ id cells, fl ≠ [] ∧ v = .sl id 0 0 fl.length none 1 ∧ h.tr.get id = some (.ve cells fl.length 0 0 []) ∧ ∀ (j : Nat) x, fl[j]? = some x → cells.get j = some (iv x)

theorem RowO.read {h : Heap} {v : AV} {fl : List Int} (r : RowO h v fl) : RowR h v fl := by
  rcases r with ⟨rfl, rfl | ⟨id, rfl, ho⟩⟩ | ⟨id, cells, hne, rfl, ho, hc⟩
  · exact .inl ⟨rfl, rfl⟩
  · exact .inr ⟨id, 0, 0, some 0, _, rfl, ho, fun j x hj => by simp at hj⟩
  · exact .inr ⟨id, 0, 0, none, _, rfl, ho, fun j x hj k => by
      rw [Nat.zero_add, m_ve _ _ _ _ _ _ _ (List.getElem?_eq_some_iff.1 hj).1, t_get (hc j x hj)]⟩
theorem RowO.notSt {h : Heap} {v : AV} {fl : List Int} (r : RowO h v fl) {p n : Nat} {c : T AV} (hp : h.tr.get p = some (.st c (n + 1))) : p ∉ rid v := by
  rcases r with ⟨rfl, rfl | ⟨id, rfl, ho⟩⟩ | ⟨id, cells, hne, rfl, ho, hc⟩
  · simp [rid]
  · intro hi; simp [rid] at hi; rw [← hi, hp] at ho; cases ho
  · intro hi; simp [rid] at hi; rw [← hi, hp] at ho; cases ho
theorem RowO.notMp {h : Heap} {v : AV} {fl : List Int} (r : RowO h v fl) {p : Nat} {es : List (AV × AV)} (hp : h.tr.get p = some (.mp es)) : p ∉ rid v := by
  rcases r with ⟨rfl, rfl | ⟨id, rfl, ho⟩⟩ | ⟨id, cells, hne, rfl, ho, hc⟩
  · simp [rid]
  · intro hi; simp [rid] at hi; rw [← hi, hp] at ho; cases ho
  · intro hi; simp [rid] at hi; rw [← hi, hp] at ho; cases ho
theorem RowR.keep {h h1 : Heap} {S : List Nat} {v : AV} {fl : List Int} (r : RowR h v fl) (a : Kp h h1 S) (hs : Sc h) (hn : ∀ i ∈ rid v, i ∉ S) : RowR h1 v fl := by
  rcases r with r | ⟨id, t, off, cap, o, rfl, ho, hr⟩
  · exact .inl r
  · exact .inr ⟨id, t, off, cap, o, rfl, a.get hs ho (hn id (by simp [rid])), hr⟩
theorem RowO.keep {h h1 : Heap} {S : List Nat} {v : AV} {fl : List Int} (r : RowO h v fl) (a : Kp h h1 S) (hs : Sc h) (hn : ∀ i ∈ rid v, i ∉ S) : RowO h1 v fl := by
  rcases r with ⟨rfl, rfl | ⟨id, rfl, ho⟩⟩ | ⟨id, cells, hne, rfl, ho, hc⟩
  · exact .inl ⟨rfl, .inl rfl⟩
  · exact .inl ⟨rfl, .inr ⟨id, rfl, a.get hs ho (hn id (by simp [rid]))⟩⟩
  · exact .inr ⟨id, cells, hne, rfl, a.get hs ho (hn id (by simp [rid])), hc⟩
theorem RowR.lt {h : Heap} {v : AV} {fl : List Int} (r : RowR h v fl) (hs : Sc h) : ∀ i ∈ rid v, i < h.next := by
  rcases r with ⟨_, rfl⟩ | ⟨id, t, off, cap, o, rfl, ho, hr⟩
  · intro i hi; simp [rid] at hi
  · intro i hi; simp [rid] at hi; rw [hi]; exact hs _ _ ho
theorem RowR.len {h : Heap} {v : AV} {fl : List Int} (g : RowR h v fl) (k : KV) : lenK v k = k (.i .i64 (fl.length : Int)) := by
  rcases g with ⟨rfl, rfl⟩ | ⟨id, t, off, cap, o, rfl, ho, hr⟩ <;> rfl

theorem rds_all {o : Go.AE.Obj} {t : Nat} : ∀ {fl : List Int} {off : Nat}, (∀ (j : Nat) x, fl[j]? = some x → ∀ k, rdK o t (off + j) k = k (iv x)) → ∀ k, rdsK o t fl.length off k = k (fl.map iv)
  | [], off, _, k => rfl
  | x :: fl, off, h, k => by
    show rdK o t off (fun v => rdsK o t fl.length (off + 1) fun vs => k (v :: vs)) = _
    have h0 := h 0 x rfl
    rw [Nat.add_zero] at h0
    rw [h0]
    exact rds_all (fl := fl) (off := off + 1) (fun j y hj => by rw [Nat.add_assoc, Nat.add_comm 1 j]; exact h (j + 1) y hj) (fun vs => k (iv x :: vs))
theorem RowR.src {h : Heap} {v : AV} {fl : List Int} (r : RowR h v fl) (k : List AV → Nat → Bool) : srcK 1 v h k = k (fl.map iv) fl.length := by
  rcases r with ⟨rfl, rfl⟩ | ⟨id, t, off, cap, o, rfl, ho, hr⟩
  · rfl
  · show (h.tr.getK id false fun o => rdsK o t (fl.length * 1) off fun l => k l fl.length) = _
    rw [t_get ho, Nat.mul_one, rds_all hr]

theorem bsl_none (z : List AV) (E : Env) (h : Heap) (k : KH) : runA (.bsl z 1 0 []) E h k = k (.sl h.next 0 0 0 (some 0) 1) (addO h (.st .e 0)) := rfl
noncomputable def bslK (z v : AV) (h : Heap) (k : KH) : Bool := ite' (Nat.beq (lenL (cellsOf v) 0) 1) (k (.sl h.next 0 0 1 (some 1) 1) (addO h (.st (T.ofList (putL [z] (cellsOf v) 0) 0 .e) 1))) false
theorem bsl1 (z : AV) (x : Opd) (E : Env) (h : Heap) (k : KH) : runA (.bsl [z] 1 1 [(0, (1, x))]) E h k = ev x E fun v => bslK z v h k := rfl
theorem bslK_of {z v : AV} (hc : cellsOf v = [v]) (h : Heap) (k : KH) : bslK z v h k = k (.sl h.next 0 0 1 (some 1) 1) (addO h (.st (T.set v .e 0) 1)) := by unfold bslK; rw [hc]; rfl
theorem src_new (x : AV) (H : Heap) (k : List AV → Nat → Bool) : srcK 1 (.sl H.next 0 0 1 (some 1) 1) (addO H (.st (T.set x .e 0) 1)) k = k [x] 1 := by
  show ((addO H (.st (T.set x .e 0) 1)).tr.getK H.next false fun o => rdsK o 0 (1 * 1) 0 fun l => k l 1) = _
  rw [ga_new]
  rfl
theorem bsl_one (z : AV) (x : Opd) (E : Env) (h : Heap) (k : KH) : runA (.bsl [z] 1 1 [(0, (1, x))]) E h k = ev x E fun v => ite' (Nat.beq (lenL (cellsOf v) 0) 1) (k (.sl h.next 0 0 1 (some 1) 1) (addO h (.st (T.ofList (putL [z] (cellsOf v) 0) 0 .e) 1))) false := rfl

theorem app_sl (sz b id t o n : Nat) (c : Option Nat) (es : Nat) (new : List AV) (m : Nat) (h : Heap) (k : KH) : appK sz b (.sl id t o n c es) new m h k =
    ite' (Nat.beq m 0) (k (.sl id t o n c es) h) (ite' (Nat.beq es sz) (ite' (room b (n + m)) (h.tr.getK id false fun ob => appTo ob sz id t o n c new m h k) false) false) := rfl
theorem appTo_st (cells : T AV) (nn sz id t o n c : Nat) (new : List AV) (m : Nat) (h : Heap) (k : KH) (hb : Nat.ble (n + m) c = false) : appTo (.st cells nn) sz id t o n (some c) new m h k =
    rdsK (.st cells nn) t (n * sz) o fun old => newVec sz (appL old new) (n + m) h k := by
  show @Bool.rec (fun _ => Bool) (growK (.st cells nn) sz t o n new m h k) _ (Nat.ble (n + m) c) = _
  rw [hb]; rfl
/-- A copy behind a row of none. -/
theorem app_fresh {h : Heap} {q : Nat} (hq : h.tr.get q = some (.st .e 0)) (new : List AV) (hn : new.length ≤ 1000000) (k : KH) : appK 1 8 (.sl q 0 0 0 (some 0) 1) new new.length h k =
    if new = [] then k (.sl q 0 0 0 (some 0) 1) h else k (.sl h.next 0 0 new.length none 1) (addO h (.ve (T.ofList new 0 .e) new.length 0 0 [])) := by
  cases new with
  | nil => rw [if_pos rfl]; rfl
  | cons x l =>
    rw [if_neg (by simp)]
    have h1 : Nat.beq (x :: l).length 0 = false := by simp [Nat.beq]
    have hb : Nat.ble (0 + (x :: l).length) 0 = false := by rw [Nat.zero_add]; simp [Nat.ble]
    have hroom : room 8 (0 + (x :: l).length) = true := room_ok (by omega) (by rw [Nat.zero_add]; exact hn)
    rw [app_sl, h1, i_f, beq_self, i_t, hroom, i_t, t_get hq, appTo_st _ _ _ _ _ _ _ _ _ _ _ _ hb, Nat.zero_mul, Nat.zero_add]
    show newVec 1 (appL [] (x :: l)) (x :: l).length h k = _
    unfold newVec
    rw [show Nat.mul (x :: l).length 1 = (x :: l).length from Nat.mul_one _]
    rfl

theorem ofL_get {fl : List Int} {j : Nat} {x : Int} (hj : fl[j]? = some x) : (T.ofList (fl.map iv) 0 .e).get j = some (iv x) := by
  have hl := (List.getElem?_eq_some_iff.1 hj).1
  rw [get_ofList, if_pos ⟨Nat.zero_le _, by simp; exact hl⟩, Nat.sub_zero, List.getElem?_map, hj]; rfl

/-- A row is copied. -/
theorem clone_row {h : Heap} {v : AV} {fl : List Int} (r : RowR h v fl) (hs : Sc h) (hl : fl.length ≤ 1000000) (n : Nat) :
    ∃ v' h', (∀ k : KH, cal (n + 1) 39 [v] h k = k v' h') ∧ RowO h' v' fl ∧ Sc h' ∧ Kp h h' [] ∧ (∀ i ∈ rid v', h.next ≤ i) ∧ cellsOf v' = [v'] := by
  have r' := r
  rcases r with ⟨rfl, rfl⟩ | ⟨id, t, off, cap, o, rfl, ho, hr⟩
  · refine ⟨.nils, h, fun k => ?_, .inl ⟨rfl, .inl rfl⟩, hs, Kp.refl _ _, fun i hi => by simp [rid] at hi, rfl⟩
    rw [run39]; simp only [ofL_cons, ofL_nil, Nat.zero_add, Nat.reduceAdd]
    simp -implicitDefEqProofs only [c39, ↓x_seq, ↓x_reg, ↓o_consS, ↓r_pu, ↓p_mv, ↓e_c, ↓o_nil, ↓nrm_n, ↓o_consN, ↓e_t, ne_eq, reduceCtorEq, not_false_eq_true, ↓getK_other, ↓getK_same, ↓p_isnil, ↓e_l0, ↓nil_ss, ↓neg_f, ↓x_cond, ↓n_b, ↓x_ret, ↓nrm_r, ↓ret_r, ↓res_t1, ↓one1]
  · have hq : (addO h (.st .e 0)).tr.get h.next = some (.st .e 0) := by rw [get_add, if_pos rfl]
    have hk := Kp.add h (.st .e 0) []
    have r2 : RowR (addO h (.st .e 0)) (.sl id t off fl.length cap 1) fl := r'.keep hk hs (fun _ _ => by simp)
    have hrun : ∀ k : KH, cal (n + 1) 39 [.sl id t off fl.length cap 1] h k = appK 1 8 (.sl h.next 0 0 0 (some 0) 1) (fl.map iv) fl.length (addO h (.st .e 0)) k := fun k => by
      rw [run39]; simp only [ofL_cons, ofL_nil, Nat.zero_add, Nat.reduceAdd]
      simp -implicitDefEqProofs only [c39, ↓x_seq, ↓x_reg, ↓o_consS, ↓r_pu, ↓p_mv, ↓e_c, ↓o_nil, ↓nrm_n, ↓o_consN, ↓e_t, ne_eq, reduceCtorEq, not_false_eq_true, ↓getK_other, ↓getK_same, ↓p_isnil, ↓e_l0, ↓nil_s, ↓neg_f, ↓x_cond, ↓n_b, ↓x_skip, ↓r_al, ↓bsl_none, ↓r_ef, ↓m_app, ↓e_l1, ↓r2.src, ↓x_ret, ↓ret_r, ↓res_t1, ↓one1]
    have hf := fun k : KH => app_fresh hq (fl.map iv) (by simpa using hl) k
    rw [List.length_map] at hf
    by_cases he : fl = []
    · subst he
      refine ⟨.sl h.next 0 0 0 (some 0) 1, addO h (.st .e 0), fun k => by rw [hrun]; exact hf k, .inl ⟨rfl, .inr ⟨h.next, rfl, hq⟩⟩, hs.add _, hk, fun i hi => by simp [rid] at hi; omega, rfl⟩
    · refine ⟨.sl (h.next + 1) 0 0 fl.length none 1, addO (addO h (.st .e 0)) (.ve (T.ofList (fl.map iv) 0 .e) fl.length 0 0 []), fun k => by rw [hrun, hf, if_neg (by simpa using he)]; rfl,
        .inr ⟨h.next + 1, T.ofList (fl.map iv) 0 .e, he, rfl, by rw [get_add]; exact if_pos rfl, fun j x hj => ofL_get hj⟩, (hs.add _).add _, hk.trans (Kp.add _ _ []) (fun i hi => by simp at hi), fun i hi => by simp [rid] at hi; omega, rfl⟩
end Go.Proofs.Ytodlgflkhcknaaa.gcc

/- The heap's small functions: what they answer. -/
namespace Go.Proofs.Ytodlgflkhcknaaa.gcc
open Go Go.AE
set_option linter.unusedSimpArgs false

theorem used_run {h : Heap} {p : Nat} {c : T AV} {u : AV} (hp : h.tr.get p = some (.st c 3)) (hu : c.get 1 = some u) (n : Nat) (k : KH) : cal (n + 1) 9 [.p p 0 0] h k = k u h := by
  rw [run9]; simp only [ofL_cons, ofL_nil, Nat.zero_add, Nat.reduceAdd]
  simp -implicitDefEqProofs only [c9, ↓x_seq, ↓x_reg, ↓o_consS, ↓r_pu, ↓p_mv, ↓e_c, ↓o_nil, ↓nrm_n, ↓o_consN, ↓e_t, ne_eq, reduceCtorEq, not_false_eq_true, ↓getK_other, ↓getK_same, ↓p_isnil, ↓e_l0, ↓nil_p, ↓neg_f, ↓x_cond, ↓n_b, ↓x_skip, ↓p_nilck, ↓n_pf, ↓p_fad, ↓n_p, ↓r_rd, ↓m_ld, ↓t_get hp, Nat.zero_add, Nat.reduceLT, ↓m_st0, ↓t_get hu, ↓x_ret, ↓ret_r, ↓res_t1, ↓one1]
theorem size_run {h : Heap} {p : Nat} {c : T AV} {u : AV} (hp : h.tr.get p = some (.st c 3)) (hu : c.get 0 = some u) (n : Nat) (k : KH) : cal (n + 1) 11 [.p p 0 0] h k = k u h := by
  rw [run11]; simp only [ofL_cons, ofL_nil, Nat.zero_add, Nat.reduceAdd]
  simp -implicitDefEqProofs only [c11, ↓x_seq, ↓x_reg, ↓o_consS, ↓r_pu, ↓p_mv, ↓e_c, ↓o_nil, ↓nrm_n, ↓o_consN, ↓e_t, ne_eq, reduceCtorEq, not_false_eq_true, ↓getK_other, ↓getK_same, ↓p_isnil, ↓e_l0, ↓nil_p, ↓neg_f, ↓x_cond, ↓n_b, ↓x_skip, ↓p_nilck, ↓n_pf, ↓p_fad, ↓n_p, ↓r_rd, ↓m_ld, ↓t_get hp, Nat.zero_add, Nat.reduceLT, ↓m_st0, ↓t_get hu, ↓x_ret, ↓ret_r, ↓res_t1, ↓one1]
theorem at_run {h : Heap} {p m : Nat} {c : T AV} {es : List (AV × AV)} {w : Int} (hp : h.tr.get p = some (.st c 3)) (hc : c.get 2 = some (.m m)) (hm : h.tr.get m = some (.mp es)) (n : Nat) (k : KH) :
    cal (n + 1) 35 [.p p 0 0, .i .i64 w] h k = findK es (.i .i64 w) (k .nilp h) fun v => k v h := by
  rw [run35]; simp only [ofL_cons, ofL_nil, Nat.zero_add, Nat.reduceAdd]
  simp -implicitDefEqProofs only [c35, ↓x_seq, ↓x_reg, ↓o_consS, ↓r_pu, ↓p_mv, ↓e_c, ↓o_nil, ↓nrm_n, ↓o_consN, ↓e_t, ne_eq, reduceCtorEq, not_false_eq_true, ↓getK_other, ↓getK_same, ↓p_isnil, ↓e_l0, ↓nil_p, ↓neg_f, ↓x_cond, ↓n_b, ↓x_skip, ↓p_nilck, ↓n_pf, ↓p_fad, ↓n_p, ↓r_rd, ↓m_ld, ↓t_get hp, Nat.zero_add, Nat.reduceLT, ↓m_st0, ↓t_get hc, Nat.reduceEqDiff, ↓m_lk, ↓e_l1, ↓kd1, ↓n_m, ↓t_get hm, ↓n_mp, ↓okF, ↓x_ret, ↓ret_r, ↓res_t1, ↓one1, i_t]
end Go.Proofs.Ytodlgflkhcknaaa.gcc

/- The heap (package heap): what it stands for; its blocks are asked. -/
namespace Go.Proofs.Ytodlgflkhcknaaa.gcc
open Go Go.AE
set_option linter.unusedSimpArgs false

/-- A block: its tag, its fields; where it lies in the evaluator's memory. -/
structure Cl where
  tag : Int
  fl : List Int
  id : Nat
  row : AV
/-- The words that blocks use. -/
def used : List Cl → Nat
  | [] => 0
  | c :: L => 1 + c.fl.length + used L
theorem used_app (L M : List Cl) : used (L ++ M) = used L + used M := by
  induction L with
  | nil => simp [used]
  | cons c L ih => simp only [List.cons_append, used, ih]; omega
/-- The map's entries. -/
def ens : Nat → List Cl → List (AV × AV)
  | _, [] => []
  | a, c :: L => (iv (2 * a), .p c.id 0 0) :: ens (a + (1 + c.fl.length)) L
/-- The block at a word. -/
def look : Nat → List Cl → Int → Option Cl
  | _, [], _ => none
  | a, c :: L, w => if 2 * (a : Int) = w then some c else look (a + (1 + c.fl.length)) L w

theorem eq_iv (a w : Int) (k : Bool → Bool) : eqS (iv a) (iv w) k = k (decide (a = w)) := by
  show ite' (beqK .i64 .i64) (k (beqI a w)) false = _
  rw [beqI_eq]
  show k (a == w) = _
  congr 1
theorem find_ens (w : Int) (d : Bool) (f : KV) : ∀ (L : List Cl) (a : Nat), findK (ens a L) (iv w) d f = match look a L w with
    | none => d
    | some c => f (.p c.id 0 0)
  | [], a => rfl
  | c :: L, a => by
    show eqS (iv (2 * a)) (iv w) (fun r => @Bool.rec (fun _ => Bool) (findK (ens (a + (1 + c.fl.length)) L) (iv w) d f) (f (.p c.id 0 0)) r) = _
    rw [eq_iv]
    unfold look
    by_cases h : 2 * (a : Int) = w
    · rw [if_pos h, decide_eq_true h]
    · rw [if_neg h, decide_eq_false h]
      exact find_ens w d f L _

/-- The numbers that a block has. -/
def fpC (c : Cl) : List Nat := c.id :: rid c.row
def fpL (L : List Cl) : List Nat := L.flatMap fpC
theorem fpL_app (L M : List Cl) : fpL (L ++ M) = fpL L ++ fpL M := by simp [fpL]

/-- A heap: a struct of three cells, a map, its blocks. -/
structure RH (h : Heap) (p m : Nat) (size : Int) (L : List Cl) : Prop where
  hd : ∃ c, h.tr.get p = some (.st c 3) ∧ c.get 0 = some (iv size) ∧ c.get 1 = some (iv (used L)) ∧ c.get 2 = some (.m m)
  mp : h.tr.get m = some (.mp (ens 0 L))
  bl : ∀ c ∈ L, (∃ s, h.tr.get c.id = some (.st s 2) ∧ s.get 0 = some (iv c.tag) ∧ s.get 1 = some c.row) ∧ RowO h c.row c.fl
  ne : ∀ c ∈ L, 1 ≤ c.tag ∧ c.tag ≤ 8
  sp : ∀ (i j : Nat) c d, L[i]? = some c → L[j]? = some d → i ≠ j → ∀ x ∈ rid c.row, x ∉ rid d.row

theorem RH.pm {h : Heap} {p m : Nat} {size : Int} {L : List Cl} (r : RH h p m size L) : p ≠ m := fun e => by
  obtain ⟨c, h1, _⟩ := r.hd
  have h2 := r.mp
  rw [← e, h1] at h2; cases h2
theorem RH.keep {h h1 : Heap} {S : List Nat} {p m : Nat} {size : Int} {L : List Cl} (r : RH h p m size L) (a : Kp h h1 S) (hs : Sc h) (hp : p ∉ S) (hm : m ∉ S) (hL : ∀ i ∈ fpL L, i ∉ S) : RH h1 p m size L := by
  obtain ⟨c, g1, g2⟩ := r.hd
  refine ⟨⟨c, a.get hs g1 hp, g2⟩, a.get hs r.mp hm, fun x hx => ?_, r.ne, r.sp⟩
  obtain ⟨⟨s, s1, s2⟩, s3⟩ := r.bl x hx
  have hin : ∀ i ∈ fpC x, i ∉ S := fun i hi => hL i (List.mem_flatMap.2 ⟨x, hx, hi⟩)
  exact ⟨⟨s, a.get hs s1 (hin _ (by simp [fpC])), s2⟩, s3.keep a hs fun i hi => hin i (by simp [fpC, hi])⟩
theorem RH.lt {h : Heap} {p m : Nat} {size : Int} {L : List Cl} (r : RH h p m size L) (hs : Sc h) : p < h.next ∧ m < h.next ∧ ∀ i ∈ fpL L, i < h.next := by
  obtain ⟨c, g1, _⟩ := r.hd
  refine ⟨hs _ _ g1, hs _ _ r.mp, fun i hi => ?_⟩
  obtain ⟨x, hx, hi⟩ := List.mem_flatMap.1 hi
  obtain ⟨⟨s, s1, s2⟩, s3⟩ := r.bl x hx
  simp only [fpC, List.mem_cons] at hi
  rcases hi with rfl | hi
  · exact hs _ _ s1
  · exact s3.read.lt hs i hi

theorem look_mem {w : Int} {c : Cl} : ∀ {L : List Cl} {a : Nat}, look a L w = some c → c ∈ L
  | [], a, h => by cases h
  | x :: L, a, h => by
    unfold look at h
    split at h
    · cases h; exact List.mem_cons_self
    · exact List.mem_cons_of_mem _ (look_mem h)

/-- What a word's block is asked. -/
def tagOf (L : List Cl) (w : Int) : Int := match look 0 L w with
  | none => 0
  | some c => c.tag
def flOf (L : List Cl) (w : Int) : List Int := match look 0 L w with
  | none => []
  | some c => c.fl

section
variable {h : Heap} {p m : Nat} {size : Int} {L : List Cl}
theorem rUsed (r : RH h p m size L) (n : Nat) (k : KH) : cal (n + 1) 9 [.p p 0 0] h k = k (iv (used L)) h := by
  obtain ⟨c, g1, g2, g3, g4⟩ := r.hd
  exact used_run g1 g3 n k
theorem rSize (r : RH h p m size L) (n : Nat) (k : KH) : cal (n + 1) 11 [.p p 0 0] h k = k (iv size) h := by
  obtain ⟨c, g1, g2, g3, g4⟩ := r.hd
  exact size_run g1 g2 n k
theorem rAt (r : RH h p m size L) (w : Int) (n : Nat) (k : KH) : cal (n + 1) 35 [.p p 0 0, iv w] h k = match look 0 L w with
    | none => k .nilp h
    | some c => k (.p c.id 0 0) h := by
  obtain ⟨c, g1, g2, g3, g4⟩ := r.hd
  rw [at_run g1 g4 r.mp, find_ens]
theorem rTag (r : RH h p m size L) (w : Int) (n : Nat) (k : KH) : cal (n + 2) 13 [.p p 0 0, iv w] h k = k (iv (tagOf L w)) h := by
  rw [run13]; simp only [ofL_cons, ofL_nil, Nat.zero_add, Nat.reduceAdd]
  unfold tagOf
  cases hl : look 0 L w with
  | none => simp -implicitDefEqProofs only [c13, ↓x_seq, ↓x_reg, ↓o_consS, ↓r_pu, ↓p_mv, ↓e_c, ↓o_nil, ↓nrm_n, ↓o_consN, ↓e_t, ne_eq, reduceCtorEq, not_false_eq_true, ↓getK_other, ↓getK_same, Nat.reduceEqDiff, ↓r_ef, ↓m_callf, ↓es_cons, ↓e_l1, ↓e_l0, ↓es_nil, ↓rAt r, ↓hl, ↓p_isnil, ↓nil_pp, ↓neg_tt, ↓x_cond, ↓n_b, ↓x_skip, ↓x_ret, ↓ret_r, ↓res_t1, ↓one1]
  | some c =>
    obtain ⟨⟨s, s1, s2, s3⟩, _⟩ := r.bl c (look_mem hl)
    simp -implicitDefEqProofs only [c13, ↓x_seq, ↓x_reg, ↓o_consS, ↓r_pu, ↓p_mv, ↓e_c, ↓o_nil, ↓nrm_n, ↓o_consN, ↓e_t, ne_eq, reduceCtorEq, not_false_eq_true, ↓getK_other, ↓getK_same, Nat.reduceEqDiff, ↓r_ef, ↓m_callf, ↓es_cons, ↓e_l1, ↓e_l0, ↓es_nil, ↓rAt r, ↓hl, ↓p_isnil, ↓nil_p, ↓neg_tf, ↓x_cond, ↓n_b, ↓p_nilck, ↓n_pf, ↓p_fad, ↓n_p, ↓r_rd, ↓m_ld, ↓t_get s1, Nat.zero_add, Nat.reduceLT, ↓m_st0, ↓t_get s2, ↓x_ret, ↓nrm_r, ↓ret_r, ↓res_t1, ↓one1]
theorem rLen (r : RH h p m size L) (w : Int) (n : Nat) (k : KH) : cal (n + 2) 15 [.p p 0 0, iv w] h k = k (iv (flOf L w).length) h := by
  rw [run15]; simp only [ofL_cons, ofL_nil, Nat.zero_add, Nat.reduceAdd]
  unfold flOf
  cases hl : look 0 L w with
  | none => simp -implicitDefEqProofs only [c15, ↓x_seq, ↓x_reg, ↓o_consS, ↓r_pu, ↓p_mv, ↓e_c, ↓o_nil, ↓nrm_n, ↓o_consN, ↓e_t, ne_eq, reduceCtorEq, not_false_eq_true, ↓getK_other, ↓getK_same, Nat.reduceEqDiff, ↓r_ef, ↓m_callf, ↓es_cons, ↓e_l1, ↓e_l0, ↓es_nil, ↓rAt r, ↓hl, ↓p_isnil, ↓nil_pp, ↓neg_tt, ↓x_cond, ↓n_b, ↓x_skip, ↓x_ret, ↓ret_r, ↓res_t1, ↓one1]; rfl
  | some c =>
    obtain ⟨⟨s, s1, s2, s3⟩, s4⟩ := r.bl c (look_mem hl)
    have hlen := s4.read.len
    simp -implicitDefEqProofs only [c15, ↓x_seq, ↓x_reg, ↓o_consS, ↓r_pu, ↓p_mv, ↓e_c, ↓o_nil, ↓nrm_n, ↓o_consN, ↓e_t, ne_eq, reduceCtorEq, not_false_eq_true, ↓getK_other, ↓getK_same, Nat.reduceEqDiff, ↓r_ef, ↓m_callf, ↓es_cons, ↓e_l1, ↓e_l0, ↓es_nil, ↓rAt r, ↓hl, ↓p_isnil, ↓nil_p, ↓neg_tf, ↓x_cond, ↓n_b, ↓p_nilck, ↓n_pf, ↓p_fad, ↓n_p, ↓r_rd, ↓m_ld, ↓t_get s1, Nat.zero_add, Nat.reduceLT, ↓m_st0, ↓t_get s3, ↓p_len, ↓hlen, ↓x_ret, ↓nrm_r, ↓ret_r, ↓res_t1, ↓one1]
end
end Go.Proofs.Ytodlgflkhcknaaa.gcc

/- The heap (package heap): made, a block's field read, a block made. -/
namespace Go.Proofs.Ytodlgflkhcknaaa.gcc
open Go Go.AE
set_option linter.unusedSimpArgs false

section
variable {h : Heap} {p m : Nat} {size : Int} {L : List Cl}

/-- A heap is made. -/
theorem rNew (hs : Sc h) {s : Int} (h0 : 0 ≤ s) (h1 : s ≤ 20000) (n : Nat) : ∃ h', (∀ k : KH, cal (n + 1) 22 [iv s] h k = k (.p (h.next + 1) 0 0) h') ∧ RH h' (h.next + 1) h.next s [] ∧ Sc h' ∧ Kp h h' [] ∧ h'.next = h.next + 2 := by
  have hk := Kp.add h (.mp []) []
  refine ⟨addO (addO h (.mp [])) (.st (T.ofList [iv s, iv 0, .m h.next] 0 .e) 3), fun k => ?_, ⟨⟨T.ofList [iv s, iv 0, .m h.next] 0 .e, ?_, rfl, rfl, rfl⟩, ?_, fun c hc => by simp at hc, fun c hc => by simp at hc, fun i j c d hi => by simp at hi⟩,
    (hs.add _).add _, hk.trans (Kp.add _ _ []) (fun i hi => by simp at hi), rfl⟩
  · rw [run22]; simp only [ofL_cons, ofL_nil, Nat.zero_add, Nat.reduceAdd]
    have a1 := fun k => b_lssF (a := s) (b := 0) (by omega) k
    have a2 := fun k => b_gtrF (a := s) (b := 20000) (by omega) k
    simp -implicitDefEqProofs only [c22, ↓x_seq, ↓x_reg, ↓o_consS, ↓r_pu, ↓p_mv, ↓e_c, ↓o_nil, ↓nrm_n, ↓o_consN, ↓e_t, ne_eq, reduceCtorEq, not_false_eq_true, ↓getK_other, ↓getK_same, ↓p_bin, ↓e_l0, ↓a1, ↓o_guardN, ↓g_b, ↓e_l1, ↓a2, ↓p_pick, ↓e_l2, ↓n_b, ↓x_cond, ↓x_skip, ↓r_al, ↓m_mkm, ↓p_bld, ↓fill_cons, ↓c_i, ↓fv30, ↓c_m, ↓fv32, ↓fill_nil, ↓m_box, ↓x_ret, ↓ret_r, ↓res_t1, ↓one1, ↓c_agg, ofL_cons, ↓ofL_nil, Nat.zero_add, Nat.reduceAdd, len_3]
    rfl
  · rw [get_add]; exact if_pos rfl
  · rw [get_add, if_neg (by rw [next_addO]; omega), get_add]; exact if_pos rfl

/-- A block's field. -/
theorem rField (r : RH h p m size L) (w : Int) (i : Nat) (n : Nat) (k : KH) : cal (n + 3) 17 [.p p 0 0, iv w, iv i] h k = match (flOf L w)[i]? with
    | none => k (.tup [iv 0, .b false]) h
    | some x => k (.tup [iv x, .b true]) h := by
  rw [run17]; simp only [ofL_cons, ofL_nil, Nat.zero_add, Nat.reduceAdd]
  have a0 := fun k => b_lssF (a := (i : Int)) (b := 0) (by omega) k
  cases hl : (flOf L w)[i]? with
  | none =>
    have hlen : (flOf L w).length ≤ i := List.getElem?_eq_none_iff.1 hl
    have a1 := fun k => b_geqT (a := (i : Int)) (b := ((flOf L w).length : Int)) (by omega) k
    simp -implicitDefEqProofs only [c17, ↓x_seq, ↓x_reg, ↓o_consS, ↓r_pu, ↓p_mv, ↓e_c, ↓o_nil, ↓nrm_n, ↓o_consN, ↓e_t, ne_eq, Nat.reduceEqDiff, not_false_eq_true, ↓getK_other, ↓getK_same, ↓p_bin, ↓e_l0, ↓a0, ↓o_guardN, ↓g_b, ↓e_l1, reduceCtorEq, ↓e_l2, ↓e_l3, ↓r_ef, ↓m_callf, ↓es_cons, ↓es_nil, ↓rLen r, ↓e_l4, ↓a1, ↓p_pick, ↓e_l5, ↓n_b, ↓x_cond, ↓x_ret, ↓nrm_r, ↓ret_r, ↓res_t2, ↓one2]
  | some x =>
    have hlen : i < (flOf L w).length := (List.getElem?_eq_some_iff.1 hl).1
    have a1 := fun k => b_geqF (a := (i : Int)) (b := ((flOf L w).length : Int)) (by omega) k
    unfold flOf at hl hlen
    cases hk : look 0 L w with
    | none => rw [hk] at hl; simp at hl
    | some c =>
      rw [hk] at hl hlen
      have hl : c.fl[i]? = some x := hl
      have hlen : i < c.fl.length := hlen
      obtain ⟨⟨s, s1, s2, s3⟩, s4⟩ := r.bl c (look_mem hk)
      rcases s4 with ⟨he, _⟩ | ⟨id, cells, hne, hrow, ho, hc⟩
      · rw [he] at hl; simp at hl
      · have b1 : decide (i + 1 ≤ c.fl.length) = true := decide_eq_true hlen
        have b2 : ∀ k, rdK (.ve cells c.fl.length 0 0 []) 0 (i * 1) k = k (iv x) := fun k => by
          rw [Nat.mul_one, m_ve _ _ _ _ _ _ _ hlen, t_get (hc i x hl)]
        rw [hrow] at s3
        simp -implicitDefEqProofs only [c17, ↓x_seq, ↓x_reg, ↓o_consS, ↓r_pu, ↓p_mv, ↓e_c, ↓o_nil, ↓nrm_n, ↓o_consN, ↓e_t, ne_eq, Nat.reduceEqDiff, not_false_eq_true, ↓getK_other, ↓getK_same, ↓p_bin, ↓e_l0, ↓a0, ↓o_guardN, ↓g_b, ↓e_l1, reduceCtorEq, ↓e_l2, ↓e_l3, ↓r_ef, ↓m_callf, ↓es_cons, ↓es_nil, ↓rLen r, ↓e_l4, ↓a1, ↓p_pick, ↓e_l5, ↓n_b, ↓x_cond, ↓x_skip, ↓rAt r, ↓hk, ↓p_nilck, ↓n_pf, ↓p_fad, ↓n_p, ↓r_rd, ↓m_ld, ↓t_get s1, Nat.zero_add, Nat.reduceLT, ↓m_st0, ↓t_get s3, ↓p_iad, ↓n_sl, ↓evN_of, ↓n_i, ↓int_n, ble_dec, b1, ↓t_get ho, ↓x_ret, ↓ret_r, ↓res_t2, ↓one2, ↓b2, i_t]
end
end Go.Proofs.Ytodlgflkhcknaaa.gcc

/- The heap (package heap): a block is made. -/
namespace Go.Proofs.Ytodlgflkhcknaaa.gcc
open Go Go.AE
set_option linter.unusedSimpArgs false

theorem look_none {w : Int} : ∀ {L : List Cl} {a : Nat}, 2 * ((a + used L : Nat) : Int) ≤ w → look a L w = none
  | [], a, _ => rfl
  | c :: L, a, h => by
    unfold look
    simp only [used] at h
    rw [if_neg (by omega)]
    exact look_none (by omega)
theorem put_ens (w : Int) (v : AV) (K : List (AV × AV) → Bool) : ∀ (L : List Cl) (a : Nat), look a L w = none → putM (ens a L) (iv w) v K = K (ens a L ++ [(iv w, v)])
  | [], a, _ => rfl
  | c :: L, a, h => by
    unfold look at h
    split at h
    · cases h
    · rename_i hne
      show eqS (iv (2 * a)) (iv w) (fun r => @Bool.rec (fun _ => Bool) (putM (ens (a + (1 + c.fl.length)) L) (iv w) v fun l => K ((iv (2 * a), .p c.id 0 0) :: l)) (K ((iv (2 * a), v) :: ens (a + (1 + c.fl.length)) L)) r) = _
      rw [eq_iv, decide_eq_false hne]
      exact put_ens w v (fun l => K ((iv (2 * a), .p c.id 0 0) :: l)) L _ h
theorem ens_app (c : Cl) : ∀ (L : List Cl) (a : Nat), ens a (L ++ [c]) = ens a L ++ [(iv (2 * ((a + used L : Nat) : Int)), .p c.id 0 0)]
  | [], a => by simp [ens, used]
  | x :: L, a => by
    simp only [List.cons_append, ens, ens_app c L, used]
    rw [show a + (1 + x.fl.length) + used L = a + (1 + x.fl.length + used L) from by omega]

theorem used_len {L : List Cl} : L.length ≤ used L := by
  induction L with
  | nil => simp [used]
  | cons c L ih => simp only [List.length_cons, used]; omega

section
variable {h : Heap} {p m : Nat} {size : Int} {L : List Cl}
theorem rAlloc (r : RH h p m size L) (hs : Sc h) {tag : Int} (t1 : 1 ≤ tag) (t8 : tag ≤ 8) {v : AV} {fl : List Int} (rv : RowR h v fl) (hfit : (used L + (1 + fl.length) : Int) ≤ size) (hsz : size ≤ 20000) (n : Nat) :
    ∃ h' c, (∀ k : KH, cal (n + 3) 23 [.p p 0 0, iv tag, v] h k = k (.tup [iv (2 * used L), .b true]) h') ∧ c.tag = tag ∧ c.fl = fl ∧ RH h' p m size (L ++ [c]) ∧ Sc h' ∧ Kp h h' [p, m] ∧ ∀ i ∈ fpC c, h.next ≤ i := by
  obtain ⟨v', h1, hcl, ho, hs1, hk1, hr1, hc1⟩ := clone_row rv hs (by omega) (n + 1)
  have r1 := r.keep hk1 hs (by simp) (by simp) (fun _ _ => by simp)
  obtain ⟨c, g1, g2, g3, g4⟩ := r.hd
  have g1' := hk1.get hs g1 (by simp)
  have hpm := r.pm
  have lt := r.lt hs
  have a1 := fun k => b_lssF (a := tag) (b := 1) (by omega) k
  have a2 := fun k => b_gtrF (a := tag) (b := 8) (by omega) k
  have a3 := fun k => b_lssF (a := size - (used L : Int)) (b := 1 + (fl.length : Int)) (by omega) k
  have b1 := fun k => b_sub (a := size) (b := (used L : Int)) (by omega) (by omega) k
  have b2 := fun k => b_add (a := 1) (b := (fl.length : Int)) (by omega) (by omega) k
  have b3 := fun k => b_mul (a := 2) (b := (used L : Int)) (by omega) (by omega) k
  have b4 := fun k => b_add (a := (used L : Int)) (b := 1 + (fl.length : Int)) (by omega) (by omega) k
  have hpn : p ≠ h1.next := by have := hk1.1; omega
  have hmn : m ≠ h1.next := by have := hk1.1; omega
  have hlook : look 0 L (2 * (used L : Int)) = none := look_none (by omega)
  let h2 := addO h1 (.st (T.set v' (T.set (iv tag) .e 0) 1) 2)
  let h3 := updO h2 m (.mp (ens 0 L ++ [(iv (2 * (used L : Int)), .p h1.next 0 0)]))
  let h4 := updO h3 p (.st (T.set (iv ((used L : Int) + (1 + (fl.length : Int)))) c 1) 3)
  have get4 : ∀ id, id ≠ p → id ≠ m → h4.tr.get id = h2.tr.get id := fun id e1 e2 => by
    show (updO h3 p _).tr.get id = _
    rw [get_upd, if_neg e1]
    show (updO h2 m _).tr.get id = _
    rw [get_upd, if_neg e2]
  have hm2 : h2.tr.get m = some (.mp (ens 0 L)) := by
    show (addO h1 _).tr.get m = _
    rw [get_add, if_neg hmn]; exact r1.mp
  have hp3 : h3.tr.get p = some (.st c 3) := by
    show (updO h2 m _).tr.get p = _
    rw [get_upd, if_neg hpm]
    show (addO h1 _).tr.get p = _
    rw [get_add, if_neg hpn]; exact g1'
  have hs2 : Sc h2 := hs1.add _
  have hs3 : Sc h3 := hs2.upd hm2 _
  have hs4 : Sc h4 := hs3.upd hp3 _
  have k24 : Kp h2 h4 [p, m] := ⟨Nat.le_refl _, fun id _ hn => get4 id (fun e => hn (by simp [e])) (fun e => hn (by simp [e]))⟩
  have k14 : Kp h1 h4 [p, m] := (Kp.add h1 _ _).trans k24 (fun i hi _ => hi)
  have k04 : Kp h h4 [p, m] := (hk1.mono (fun i hi => by simp at hi)).trans k14 (fun i hi _ => hi)
  refine ⟨h4, ⟨tag, fl, h1.next, v'⟩, fun k => ?_, rfl, rfl, ⟨⟨T.set (iv ((used L : Int) + (1 + (fl.length : Int)))) c 1, ?_, ?_, ?_, ?_⟩, ?_, fun x hx => ?_, fun x hx => ?_, fun i j x y hi hj hij z hz => ?_⟩, hs4, k04, fun i hi => ?_⟩
  · rw [run23]; simp only [ofL_cons, ofL_nil, Nat.zero_add, Nat.reduceAdd]
    simp -implicitDefEqProofs only [c23, ↓x_seq, ↓x_reg, ↓o_consS, ↓r_pu, ↓p_mv, ↓e_c, ↓o_nil, ↓nrm_n, ↓x_dreg, ↓d_puN, ↓e_t, ne_eq, reduceCtorEq, not_false_eq_true, ↓getK_other, ↓getK_same, ↓p_isnil, ↓e_l0, ↓nil_p, ↓neg_f, ↓d_gpuN, ↓g_b, Nat.reduceEqDiff, ↓e_l1, ↓p_bin, ↓a1, ↓p_pick, ↓e_l2, ↓n_b, ↓a2, ↓p_nilck, ↓n_pf, ↓p_fad, ↓n_p, ↓d_grdN, ↓e_l3, ↓m_ld, ↓t_get g1, Nat.zero_add, Nat.reduceLT, ↓m_st0, ↓t_get g2, ↓e_l4, ↓e_l5, ↓e_l6, ↓e_l7, ↓t_get g3, ↓e_l8, ↓b1, ↓e_l9, ↓e_l10, ↓p_len, ↓rv.len, ↓e_l11, ↓b2, ↓e_l12, ↓a3, ↓d_puS, ↓e_l13, ↓d_nil, ↓rev_nil, beq_dec, decide_true, k_nil, ↓x_cond, ↓x_skip, ↓o_consN, ↓r_rd, ↓b3, ↓d_rdN, ↓t_get g4, ↓d_efN, ↓m_callf, ↓es_cons, ↓es_nil, ↓hcl, ↓p_bld, ↓fill_cons, ↓c_i, ↓fv20, hc1, ↓fv21, ↓fill_nil, ↓d_alN, ↓m_box, ↓m_mup, ↓n_m, ↓kd1, hmn, ↓ga_old, ↓t_get r1.mp, ↓n_mp, ↓put_ens _ _ _ _ _ hlook, ↓rev_cons, ↓c_agg, ofL_cons, ↓ofL_nil, len_2, decide_false, k_cons, ↓ka_cons, ble_dec, Nat.zero_le, i_t, ↓s_m, Nat.reduceLeDiff, hpn, ↓t_get g1', Nat.reduceAdd, hpm, ↓gu_other, i_f, ↓ka_nil, and_t, ↓b4, ↓r_ef, ↓m_store, len_1, ↓x_ret, ↓ret_r, ↓res_t2, ↓one2, ↓wrs1]
    rfl
  · show (updO h3 p _).tr.get p = _
    rw [get_upd]; exact if_pos rfl
  · rw [get_other _ _ (by omega)]; exact g2
  · rw [get_same]; simp only [used_app, used]; congr 2
  · rw [get_other _ _ (by omega)]; exact g4
  · show (updO h3 p _).tr.get m = _
    rw [get_upd, if_neg hpm.symm]
    show (updO h2 m _).tr.get m = _
    rw [get_upd, if_pos rfl, ens_app]
    simp
  · have hx' : x ∈ L ∨ x = ⟨tag, fl, h1.next, v'⟩ := by simpa using hx
    rcases hx' with hx | rfl
    · obtain ⟨⟨s, s1, s2⟩, s3⟩ := r1.bl x hx
      have e1 : x.id ≠ p := fun e => by rw [e, g1'] at s1; cases s1
      have e2 : x.id ≠ m := fun e => by rw [e, r1.mp] at s1; cases s1
      refine ⟨⟨s, k14.get hs1 s1 (by simp [e1, e2]), s2⟩, s3.keep k14 hs1 fun i hi hn => ?_⟩
      simp at hn
      rcases hn with rfl | rfl
      · exact s3.notSt g1' hi
      · exact s3.notMp r1.mp hi
    · refine ⟨⟨T.set v' (T.set (iv tag) .e 0) 1, ?_, by rw [get_other _ _ (by omega), get_same], get_same _ _ _⟩, ho.keep k14 hs1 fun i hi hn => ?_⟩
      · rw [get4 _ hpn.symm hmn.symm]
        show (addO h1 _).tr.get h1.next = _
        rw [get_add]; exact if_pos rfl
      · have := hr1 i hi
        simp at hn
        omega
  · have hx' : x ∈ L ∨ x = ⟨tag, fl, h1.next, v'⟩ := by simpa using hx
    rcases hx' with hx | rfl
    · exact r.ne x hx
    · exact ⟨t1, t8⟩
  · have part : ∀ (i : Nat) (x : Cl), (L ++ [⟨tag, fl, h1.next, v'⟩])[i]? = some x → L[i]? = some x ∨ (i = L.length ∧ x = ⟨tag, fl, h1.next, v'⟩) := fun i x hi => by
      rw [List.getElem?_append] at hi
      split at hi
      · exact .inl hi
      · rename_i hlt
        cases hd : i - L.length with
        | zero => rw [hd] at hi; simp at hi; exact .inr ⟨by omega, hi.symm⟩
        | succ q => rw [hd] at hi; simp at hi
    have old : ∀ (i : Nat) (x : Cl), L[i]? = some x → ∀ z ∈ rid x.row, z < h.next := fun i x hi z hz => lt.2.2 z (List.mem_flatMap.2 ⟨x, List.mem_of_getElem? hi, by simp [fpC, hz]⟩)
    intro hz2
    rcases part i x hi with h5 | ⟨rfl, rfl⟩ <;> rcases part j y hj with h6 | ⟨rfl, rfl⟩
    · exact r.sp i j x y h5 h6 hij z hz hz2
    · have := old i x h5 z hz
      have := hr1 z hz2
      omega
    · have := old j y h6 z hz2
      have := hr1 z hz
      omega
    · exact hij rfl
  · simp only [fpC, List.mem_cons] at hi
    rcases hi with rfl | hi
    · exact hk1.1
    · exact hr1 i hi
theorem rAllocNo (r : RH h p m size L) (hs0 : 0 ≤ size) {tag : Int} {v : AV} {fl : List Int} (rv : RowR h v fl) (hl : fl.length ≤ 1000000) (hsz : size ≤ 20000) (hu : (used L : Int) ≤ size) (hno : tag < 1 ∨ 8 < tag ∨ size < (used L + (1 + fl.length) : Int)) (n : Nat) (k : KH) :
    cal (n + 3) 23 [.p p 0 0, iv tag, v] h k = k (.tup [iv 0, .b false]) h := by
  obtain ⟨c, g1, g2, g3, g4⟩ := r.hd
  rw [run23]; simp only [ofL_cons, ofL_nil, Nat.zero_add, Nat.reduceAdd]
  by_cases h1 : tag < 1
  · have a1 := fun k => b_lssT (a := tag) (b := 1) h1 k
    simp -implicitDefEqProofs only [c23, ↓x_seq, ↓x_reg, ↓o_consS, ↓r_pu, ↓p_mv, ↓e_c, ↓o_nil, ↓nrm_n, ↓x_dreg, ↓d_puN, ↓e_t, ne_eq, reduceCtorEq, not_false_eq_true, ↓getK_other, ↓getK_same, ↓p_isnil, ↓e_l0, ↓nil_p, ↓neg_f, ↓d_gpuN, ↓g_b, Nat.reduceEqDiff, ↓e_l1, ↓p_bin, ↓a1, ↓p_pick, ↓e_l2, ↓n_b, ↓d_grdN, ↓e_l3, ↓e_l4, ↓e_l5, ↓e_l6, ↓e_l7, ↓e_l8, ↓e_l9, ↓e_l10, ↓e_l11, ↓e_l12, ↓d_puS, ↓e_l13, ↓d_nil, ↓k_nil, ↓x_cond, ↓x_ret, ↓nrm_r, ↓ret_r, ↓res_t2, ↓one2, and_t]
  · have a1 := fun k => b_lssF (a := tag) (b := 1) h1 k
    by_cases h2 : 8 < tag
    · have a2 := fun k => b_gtrT (a := tag) (b := 8) h2 k
      simp -implicitDefEqProofs only [c23, ↓x_seq, ↓x_reg, ↓o_consS, ↓r_pu, ↓p_mv, ↓e_c, ↓o_nil, ↓nrm_n, ↓x_dreg, ↓d_puN, ↓e_t, ne_eq, reduceCtorEq, not_false_eq_true, ↓getK_other, ↓getK_same, ↓p_isnil, ↓e_l0, ↓nil_p, ↓neg_f, ↓d_gpuN, ↓g_b, Nat.reduceEqDiff, ↓e_l1, ↓p_bin, ↓a1, ↓p_pick, ↓e_l2, ↓n_b, ↓a2, ↓d_grdN, ↓e_l3, ↓e_l4, ↓e_l5, ↓e_l6, ↓e_l7, ↓e_l8, ↓e_l9, ↓e_l10, ↓e_l11, ↓e_l12, ↓d_puS, ↓e_l13, ↓d_nil, ↓k_nil, ↓x_cond, ↓x_ret, ↓nrm_r, ↓ret_r, ↓res_t2, ↓one2, and_t]
    · have a2 := fun k => b_gtrF (a := tag) (b := 8) h2 k
      have b1 := fun k => b_sub (a := size) (b := (used L : Int)) (by omega) (by omega) k
      have b2 := fun k => b_add (a := 1) (b := (fl.length : Int)) (by omega) (by omega) k
      have a3 := fun k => b_lssT (a := size - (used L : Int)) (b := 1 + (fl.length : Int)) (by omega) k
      simp -implicitDefEqProofs only [c23, ↓x_seq, ↓x_reg, ↓o_consS, ↓r_pu, ↓p_mv, ↓e_c, ↓o_nil, ↓nrm_n, ↓x_dreg, ↓d_puN, ↓e_t, ne_eq, reduceCtorEq, not_false_eq_true, ↓getK_other, ↓getK_same, ↓p_isnil, ↓e_l0, ↓nil_p, ↓neg_f, ↓d_gpuN, ↓g_b, Nat.reduceEqDiff, ↓e_l1, ↓p_bin, ↓a1, ↓p_pick, ↓e_l2, ↓n_b, ↓a2, ↓p_nilck, ↓n_pf, ↓p_fad, ↓n_p, ↓d_grdN, ↓e_l3, ↓m_ld, ↓t_get g1, Nat.zero_add, Nat.reduceLT, ↓m_st0, ↓t_get g2, ↓e_l4, ↓e_l5, ↓e_l6, ↓e_l7, ↓t_get g3, ↓e_l8, ↓b1, ↓e_l9, ↓e_l10, ↓p_len, ↓rv.len, ↓e_l11, ↓b2, ↓e_l12, ↓a3, ↓d_puS, ↓e_l13, ↓d_nil, ↓rev_nil, beq_dec, decide_true, k_nil, ↓x_cond, ↓x_ret, ↓nrm_r, ↓ret_r, ↓res_t2, ↓one2, and_t]
end
end Go.Proofs.Ytodlgflkhcknaaa.gcc

/- A block's fields as a row; a block's field is set. -/
namespace Go.Proofs.Ytodlgflkhcknaaa.gcc
open Go Go.AE
set_option linter.unusedSimpArgs false

section
variable {h : Heap} {p m : Nat} {size : Int} {L : List Cl}

/-- What the frame of 'fields' holds. -/
def F32 (fr : Fr) (p q N : Nat) (w : Int) (i : Nat) : Prop :=
  fr.get 0 = some (.p p 0 0) ∧ fr.get 1 = some (iv w) ∧ fr.get 5 = some (.sl q 0 0 N (some N) 1) ∧ fr.get 12 = some (iv N) ∧ fr.get 13 = some (iv i)

theorem step32 (r : RH h p m size L) {q : Nat} {w : Int} {i : Nat} {x : Int} (hx : (flOf L w)[i]? = some x) {cells : T AV} (hq : h.tr.get q = some (.st cells (flOf L w).length)) {fr : Fr} (F : F32 fr p q (flOf L w).length w i) (hi : i ≤ 1000000) (N f : Nat) :
    ∃ fr', (∀ k, iter (exec (cal (N + 3)) c32L0) (f + 1) fr h k = iter (exec (cal (N + 3)) c32L0) f fr' (updO h q (.st (cells.set (iv x) i) (flOf L w).length)) k) ∧ F32 fr' p q (flOf L w).length w (i + 1) := by
  obtain ⟨f0, f1, f5, f12, f13⟩ := F
  have hlt : i < (flOf L w).length := (List.getElem?_eq_some_iff.1 hx).1
  have a1 := fun k => b_lssT (a := (i : Int)) (b := ((flOf L w).length : Int)) (by omega) k
  have a2 := fun k => b_add (a := (i : Int)) (b := 1) (by omega) (by omega) k
  have a3 : decide (i + 1 ≤ (flOf L w).length) = true := decide_eq_true hlt
  have a4 := fun k => rField r w i N k
  rw [hx] at a4
  have a5 : ∀ k, wrK (.st cells (flOf L w).length) 0 (i * 1) (iv x) k = k (.st (cells.set (iv x) i) (flOf L w).length) := fun k => by
    rw [Nat.mul_one]; exact w_st rfl hlt k
  apply Exists.intro
  apply And.intro
  · intro k
    rw [it_succ]
    simp -implicitDefEqProofs only [c32L0, ↓x_seq, ↓x_reg, ↓o_consS, ↓r_pu, ↓p_bin, ↓e_t, ↓t_get f13, ↓t_get f12, ↓a1, ↓o_nil, ↓nrm_n, ↓x_cond, ↓getK_same, ↓n_b, ↓x_skip, ↓x_block, ↓o_consN, ↓p_mv, ne_eq, Nat.reduceEqDiff, not_false_eq_true, ↓getK_other, ↓e_l0, ↓t_get f5, reduceCtorEq, ↓t_get f0, ↓t_get f1, ↓r_ef, ↓m_callf, ↓es_cons, ↓e_l2, ↓e_l1, ↓es_nil, ↓a4, ↓p_ext, ↓n_tup, ↓nth0, ↓nth1, ↓p_iad, ↓e_l8, ↓n_sl, ↓evN_of, ↓e_l7, ↓n_i, ↓int_n, ble_dec, a3, ↓m_store, ↓n_p, ↓c_i, len_1, beq_dec, decide_true, ↓t_get hq, Nat.zero_add, ↓e_c, ↓a2, ↓wrs1, ↓a5, i_t]
    rfl
  · refine ⟨?_, ?_, ?_, ?_, ?_⟩ <;> simp only [get_same, get_other, ne_eq, Nat.reduceEqDiff, not_false_eq_true, f0, f1, f5, f12, f13]
    rfl
theorem last32 {q : Nat} {w : Int} {N : Nat} {fr : Fr} (F : F32 fr p q N w N) (n f : Nat) (h : Heap) : ∃ fr', (∀ k, iter (exec (cal (n + 3)) c32L0) (f + 1) fr h k = k (.exit 0) fr' h) ∧ fr'.get 5 = some (.sl q 0 0 N (some N) 1) := by
  obtain ⟨f0, f1, f5, f12, f13⟩ := F
  have a1 := fun k => b_lssF (a := (N : Int)) (b := (N : Int)) (by omega) k
  apply Exists.intro
  apply And.intro
  · intro k
    rw [it_succ]
    simp -implicitDefEqProofs only [c32L0, ↓x_seq, ↓x_reg, ↓o_consS, ↓r_pu, ↓p_bin, ↓e_t, ↓t_get f13, ↓t_get f12, ↓a1, ↓o_nil, ↓nrm_n, ↓x_cond, ↓getK_same, ↓n_b, ↓x_exit, ↓nrm_e]
    rfl
  · simp only [get_other, ne_eq, Nat.reduceEqDiff, not_false_eq_true, f5]

theorem loop32 {q : Nat} {w : Int} (hqp : q ≠ p) (hqm : q ≠ m) (hqL : q ∉ fpL L) (hbig : (flOf L w).length ≤ 1000000) (n : Nat) : ∀ (d i : Nat) (h : Heap) (fr : Fr) (cells : T AV), i + d = (flOf L w).length → RH h p m size L → Sc h → h.tr.get q = some (.st cells (flOf L w).length) →
    F32 fr p q (flOf L w).length w i → (∀ (j : Nat) x, j < i → (flOf L w)[j]? = some x → cells.get j = some (iv x)) → ∀ f, ∃ fr' h' cells', (∀ k, iter (exec (cal (n + 3)) c32L0) (d + (f + 1)) fr h k = k (.exit 0) fr' h') ∧ fr'.get 5 = some (.sl q 0 0 (flOf L w).length (some (flOf L w).length) 1) ∧
      h'.tr.get q = some (.st cells' (flOf L w).length) ∧ (∀ (j : Nat) x, (flOf L w)[j]? = some x → cells'.get j = some (iv x)) ∧ Kp h h' [q] ∧ Sc h' ∧ h'.next = h.next
  | 0, i, h, fr, cells, hid, r, hs, hq, F, hc, f => by
    have hi : i = (flOf L w).length := by omega
    subst hi
    obtain ⟨fr', h1, h2⟩ := last32 F n f h
    refine ⟨fr', h, cells, fun k => ?_, h2, hq, fun j x hj => hc j x (List.getElem?_eq_some_iff.1 hj).1 hj, Kp.refl _ _, hs, rfl⟩
    rw [Nat.zero_add]; exact h1 k
  | d + 1, i, h, fr, cells, hid, r, hs, hq, F, hc, f => by
    obtain ⟨x, hx⟩ : ∃ x, (flOf L w)[i]? = some x := ⟨_, List.getElem?_eq_getElem (by omega)⟩
    obtain ⟨fr1, h1, F1⟩ := step32 r hx hq F (by omega) n (d + (f + 1))
    have hk := Kp.upd h q (.st (cells.set (iv x) i) (flOf L w).length)
    have hs1 := hs.upd hq (.st (cells.set (iv x) i) (flOf L w).length)
    obtain ⟨fr', h', cells', e1, e2, e3, e4, e5, e6, e7⟩ := loop32 hqp hqm hqL hbig n d (i + 1) _ fr1 (cells.set (iv x) i) (by omega) (r.keep hk hs (by simp [Ne.symm hqp]) (by simp [Ne.symm hqm]) (fun z hz hn => by simp at hn; exact hqL (hn ▸ hz))) hs1
      (by rw [get_upd]; exact if_pos rfl) F1 (fun j y hj hy => by
        rw [get_set]
        split
        · rename_i e; subst e; rw [hx] at hy; cases hy; rfl
        · exact hc j y (by omega) hy) f
    refine ⟨fr', h', cells', fun k => ?_, e2, e3, e4, hk.trans e5 (fun z hz _ => hz), e6, e7⟩
    rw [show d + 1 + (f + 1) = d + (f + 1) + 1 from by omega, h1, e1]

/-- A block's fields, as a row. -/
theorem rFields (r : RH h p m size L) (hs : Sc h) (w : Int) (hbig : (flOf L w).length ≤ 20000) (n : Nat) : ∃ v h', (∀ k : KH, cal (n + 4) 32 [.p p 0 0, iv w] h k = k v h') ∧ RowR h' v (flOf L w) ∧ Sc h' ∧ Kp h h' [] ∧ (∀ i ∈ rid v, h.next ≤ i) := by
  have lt := r.lt hs
  have hk1 := Kp.add h (.st (T.ofList (repL [iv 0] (flOf L w).length) 0 .e) (Nat.mul (flOf L w).length 1)) []
  have hs1 := hs.add (.st (T.ofList (repL [iv 0] (flOf L w).length) 0 .e) (Nat.mul (flOf L w).length 1))
  have r1 := r.keep hk1 hs (by simp) (by simp) (fun _ _ => by simp)
  obtain ⟨fr', h', cells', e1, e2, e3, e4, e5, e6, e7⟩ := loop32 (p := p) (m := m) (size := size) (L := L) (q := h.next) (w := w) (by omega) (by omega) (fun hi => by have := lt.2.2 _ hi; omega) (by omega) n (flOf L w).length 0 _
    (T.set (iv 0) (T.set (iv (flOf L w).length) (T.set (.sl h.next 0 0 (flOf L w).length (some (flOf L w).length) 1) (T.set .nils (T.set (iv w) (T.set (.p p 0 0) .e 0) 1) 4) 5) 12) 13)
    (T.ofList (repL [iv 0] (flOf L w).length) 0 .e) (by omega) r1 hs1 (by rw [get_add, if_pos rfl]; rw [show Nat.mul (flOf L w).length 1 = (flOf L w).length from Nat.mul_one _])
    ⟨by simp only [get_same, get_other, ne_eq, Nat.reduceEqDiff, not_false_eq_true], by simp only [get_same, get_other, ne_eq, Nat.reduceEqDiff, not_false_eq_true], by simp only [get_same, get_other, ne_eq, Nat.reduceEqDiff, not_false_eq_true],
      by simp only [get_same, get_other, ne_eq, Nat.reduceEqDiff, not_false_eq_true], by simp only [get_same]; rfl⟩ (fun j x hj => by omega) (1000000 - (flOf L w).length - 1)
  have hfuel : (flOf L w).length + (1000000 - (flOf L w).length - 1 + 1) = 1000000 := by omega
  rw [hfuel] at e1
  refine ⟨.sl h.next 0 0 (flOf L w).length (some (flOf L w).length) 1, h', fun k => ?_, .inr ⟨h.next, 0, 0, _, _, rfl, e3, fun j x hj k => ?_⟩, e6, hk1.trans (e5.mono (fun i hi => hi)) (fun i hi hlt => by simp at hi; omega), fun i hi => by simp [rid] at hi; omega⟩
  · rw [run32]; simp only [ofL_cons, ofL_nil, Nat.zero_add, Nat.reduceAdd]
    have a1 := fun k => rLen r w (n + 1) k
    have a2 : decide ((flOf L w).length ≤ 16777216) = true := decide_eq_true (by omega)
    have a3 : decide (Nat.mul 8 (flOf L w).length ≤ 16777216) = true := decide_eq_true (by show 8 * (flOf L w).length ≤ 16777216; omega)
    have a4 : ∀ k, lenK (.sl h.next 0 0 (flOf L w).length (some (flOf L w).length) 1) k = k (iv (flOf L w).length) := fun k => rfl
    simp -implicitDefEqProofs only [c32, ↓x_seq, ↓x_reg, ↓o_consS, ↓r_pu, ↓p_mv, ↓e_c, ↓o_nil, ↓nrm_n, ↓o_consN, ↓e_t, ne_eq, reduceCtorEq, not_false_eq_true, ↓getK_other, ↓getK_same, Nat.reduceEqDiff, ↓r_ef, ↓m_callf, ↓es_cons, ↓e_l1, ↓e_l0, ↓es_nil, ↓a1, ↓r_al, ↓m_mks, ↓evN_of, ↓n_i, ↓int_n, ble_dec, Nat.le_refl, decide_true, a2, a3, ↓p_len, ↓a4, ↓x_block, ↓x_loop, ↓e1, ↓rec_bb, ↓t_get e2, ↓x_ret, ↓ret_r, ↓res_t1, ↓one1, i_t]
  · rw [Nat.zero_add, m_st0 _ _ _ _ (List.getElem?_eq_some_iff.1 hj).1, t_get (e4 j x hj)]
end
end Go.Proofs.Ytodlgflkhcknaaa.gcc

/- A block's field is set. -/
namespace Go.Proofs.Ytodlgflkhcknaaa.gcc
open Go Go.AE
set_option linter.unusedSimpArgs false

theorem ens_set {c c' : Cl} (h1 : c'.id = c.id) (h2 : c'.fl.length = c.fl.length) : ∀ (L : List Cl) (a j : Nat), L[j]? = some c → ens a (L.set j c') = ens a L
  | [], a, j, h => by simp at h
  | x :: L, a, 0, h => by simp at h; subst h; simp only [List.set_cons_zero, ens, h1, h2]
  | x :: L, a, j + 1, h => by simp only [List.set_cons_succ, ens]; rw [ens_set h1 h2 L _ j (by simpa using h)]
theorem used_set {c c' : Cl} (h2 : c'.fl.length = c.fl.length) : ∀ (L : List Cl) (j : Nat), L[j]? = some c → used (L.set j c') = used L
  | [], j, h => by simp at h
  | x :: L, 0, h => by simp at h; subst h; simp only [List.set_cons_zero, used, h2]
  | x :: L, j + 1, h => by simp only [List.set_cons_succ, used]; rw [used_set h2 L j (by simpa using h)]

/-- A block with another field. -/
def Cl.put (c : Cl) (i : Nat) (x : Int) : Cl := ⟨c.tag, c.fl.set i x, c.id, c.row⟩
theorem put_len (c : Cl) (i : Nat) (x : Int) : (c.put i x).fl.length = c.fl.length := by simp [Cl.put]

section
variable {h : Heap} {p m : Nat} {size : Int} {L : List Cl}
theorem rSet (r : RH h p m size L) (hs : Sc h) {j : Nat} {c : Cl} (hj : L[j]? = some c) {w : Int} (hl : look 0 L w = some c) {i : Nat} (hi : i < c.fl.length) (x : Int) (n : Nat) :
    ∃ h', (∀ k : KH, cal (n + 3) 33 [.p p 0 0, iv w, iv i, iv x] h k = k (.b true) h') ∧ RH h' p m size (L.set j (c.put i x)) ∧ Sc h' ∧ Kp h h' (rid c.row) ∧ h'.next = h.next := by
  have hmem := List.mem_of_getElem? hj
  obtain ⟨⟨s, s1, s2, s3⟩, s4⟩ := r.bl c hmem
  obtain ⟨ch, g1, g2⟩ := r.hd
  have hfl : flOf L w = c.fl := by unfold flOf; rw [hl]
  have hnp := s4.notSt g1
  have hnm := s4.notMp r.mp
  have s4' := s4
  rcases s4 with ⟨he, _⟩ | ⟨id, cells, hne, hrow, ho, hc⟩
  · rw [he] at hi; simp at hi
  rw [hrow] at hnp hnm s3
  simp only [rid, List.mem_singleton] at hnp hnm
  have hk : Kp h (updO h id (.ve (cells.set (iv x) i) c.fl.length 0 0 [])) (rid c.row) := by rw [hrow]; exact Kp.upd h id _
  have nid : ∀ {y : Nat} {cy : T AV} {ny : Nat}, h.tr.get y = some (.st cy ny) → y ≠ id := fun hy e => by rw [e, ho] at hy; cases hy
  have hkget : ∀ {y : Nat} {o : Go.AE.Obj}, h.tr.get y = some o → y ≠ id → (updO h id (.ve (cells.set (iv x) i) c.fl.length 0 0 [])).tr.get y = some o := fun hy hne => by rw [get_upd, if_neg hne]; exact hy
  refine ⟨updO h id (.ve (cells.set (iv x) i) c.fl.length 0 0 []), fun k => ?_, ⟨?_, ?_, fun d hd => ?_, fun d hd => ?_, fun a b d e ha hb hab z hz => ?_⟩, hs.upd ho _, hk, rfl⟩
  · rw [run33]; simp only [ofL_cons, ofL_nil, Nat.zero_add, Nat.reduceAdd]
    have a0 := fun k => b_lssF (a := (i : Int)) (b := 0) (by omega) k
    have a1 := fun k => rLen r w n k
    rw [hfl] at a1
    have a2 := fun k => b_geqF (a := (i : Int)) (b := (c.fl.length : Int)) (by omega) k
    have a3 : decide (i + 1 ≤ c.fl.length) = true := decide_eq_true hi
    have a5 : ∀ k, wrK (.ve cells c.fl.length 0 0 []) 0 (i * 1) (iv x) k = k (.ve (cells.set (iv x) i) c.fl.length 0 0 []) := fun k => by
      rw [Nat.mul_one]; exact w_ve rfl hi k
    simp -implicitDefEqProofs only [c33, ↓x_seq, ↓x_reg, ↓o_consS, ↓r_pu, ↓p_mv, ↓e_c, ↓o_nil, ↓nrm_n, ↓o_consN, ↓e_t, ne_eq, Nat.reduceEqDiff, not_false_eq_true, ↓getK_other, ↓getK_same, ↓p_bin, ↓e_l0, ↓a0, ↓o_guardN, ↓g_b, ↓e_l1, reduceCtorEq, ↓e_l2, ↓e_l3, ↓r_ef, ↓m_callf, ↓es_cons, ↓es_nil, ↓a1, ↓e_l4, ↓a2, ↓p_pick, ↓e_l5, ↓n_b, ↓x_cond, ↓x_skip, ↓rAt r, ↓hl, ↓p_nilck, ↓n_pf, ↓p_fad, ↓n_p, ↓r_rd, ↓m_ld, ↓t_get s1, Nat.zero_add, Nat.reduceLT, ↓m_st0, ↓t_get s3, ↓p_iad, ↓n_sl, ↓evN_of, ↓n_i, ↓int_n, ble_dec, a3, ↓m_store, ↓c_i, len_1, beq_dec, decide_true, ↓t_get ho, ↓x_ret, ↓ret_r, ↓res_t1, ↓one1, ↓wrs1, ↓a5, i_t]
  · exact ⟨ch, hkget g1 (hnp), by rw [used_set (put_len c i x) L j hj]; exact g2⟩
  · rw [ens_set (c := c) (c' := c.put i x) rfl (put_len c i x) L 0 j hj]; exact hkget r.mp (hnm)
  · obtain ⟨a, ha⟩ := List.mem_iff_getElem?.1 hd
    rw [List.getElem?_set] at ha
    split at ha
    · split at ha
      · cases ha
        refine ⟨⟨s, hkget s1 (nid s1), s2, by rw [← hrow] at s3; exact s3⟩, .inr ⟨id, cells.set (iv x) i, fun e => hne ?_, hrow.trans (by rw [put_len]), by rw [get_upd, put_len]; exact if_pos rfl, fun b y hb => ?_⟩⟩
        · have := put_len c i x; rw [e] at this; exact List.length_eq_zero_iff.1 this.symm
        · rw [get_set]
          have hb : (c.fl.set i x)[b]? = some y := hb
          rw [List.getElem?_set] at hb
          by_cases e : b = i
          · subst e; rw [if_pos rfl] at hb ⊢; rw [if_pos hi] at hb; cases hb; rfl
          · rw [if_neg (fun e' => e e'.symm)] at hb; rw [if_neg e]; exact hc b y hb
      · cases ha
    · rename_i hja
      obtain ⟨⟨t, t1, t2⟩, t3⟩ := r.bl d (List.mem_of_getElem? ha)
      refine ⟨⟨t, hkget t1 (nid t1), t2⟩, t3.keep hk hs fun z hz hn => ?_⟩
      exact r.sp j a c d hj ha hja z hn hz
  · obtain ⟨a, ha⟩ := List.mem_iff_getElem?.1 hd
    rw [List.getElem?_set] at ha
    split at ha
    · split at ha
      · cases ha; exact r.ne c hmem
      · cases ha
    · exact r.ne d (List.mem_of_getElem? ha)
  · have back : ∀ (a : Nat) (d : Cl), (L.set j (c.put i x))[a]? = some d → ∃ d', L[a]? = some d' ∧ d'.row = d.row := fun a d ha => by
      rw [List.getElem?_set] at ha
      split at ha
      · rename_i e; subst e
        split at ha
        · cases ha; exact ⟨c, hj, rfl⟩
        · cases ha
      · exact ⟨d, ha, rfl⟩
    obtain ⟨d', hd1, hd2⟩ := back a d ha
    obtain ⟨e', he1, he2⟩ := back b e hb
    rw [← he2]
    exact r.sp a b d' e' hd1 he1 hab z (by rw [hd2]; exact hz)
end
end Go.Proofs.Ytodlgflkhcknaaa.gcc
