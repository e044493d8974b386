/- Memory: a string's bytes; what is made anew, together; stores. -/
import Derived.Test.YtodlgflkhcknaaaAFMem3
namespace Go.AE
set_option linter.unusedVariables false
variable {oq : Unit} [Opq oq]
open Go

theorem sbytes_eq : ∀ l : List UInt8, sbytes l.length (natOfBytes l) = l.map fun b => AV.i .u8 (Int.ofNat b.toNat)
  | [] => rfl
  | b :: l => by
    have hb := b.toNat_lt
    have h2 : 2 ^ 8 = 256 := rfl
    show AV.i .u8 (.ofNat (natOfBytes (b :: l) % 256)) :: sbytes l.length (natOfBytes (b :: l) / 256) = _
    have e1 : natOfBytes (b :: l) % 256 = b.toNat := by rw [nob_cons]; omega
    have e2 : natOfBytes (b :: l) / 256 = natOfBytes l := by rw [nob_cons]; omega
    rw [e1, e2, sbytes_eq l]; rfl

theorem sbytes_VRL {φ : Emb} (l : List UInt8) : VRL φ (sbytes l.length (natOfBytes l)) (l.map fun b => Value.int .u8 b.toNat) := by
  rw [sbytes_eq]
  induction l with
  | nil => rfl
  | cons b l ih => exact ⟨_, _, rfl, VR_i.2 rfl, ih⟩

theorem modify_push {α : Type} (xs : Array α) (x : α) (f : α → α) : (xs.push x).modify xs.size f = xs.push (f x) := by
  apply Array.ext_getElem?
  intro i
  rw [Array.getElem?_modify, Array.getElem?_push, Array.getElem?_push]
  by_cases h : i = xs.size
  · subst h; simp
  · rw [if_neg (fun e => h e.symm), if_neg h, if_neg h]

section
variable {P : Program} {X : CX} {φ : Emb} {e : Env} {a : Act} {h : Heap} {w : World} {M : Nat}

theorem s_s2b (hY : X.ty = tysOf P) (hW : WR φ h w) (hF : Fresh φ h.next M) {s d el : TypeId} {x : Operand} {k : KH} (hE : ER X φ e a) (h1 : undT X.ty s = some .string) (h2 : undT X.ty d = some (.slice el)) (hb : isByte X.ty el = true)
    (hk : aS2b (cOpd X x) e h k = true) (hM : ∀ v h', k v h' = true → h'.next ≤ M) : EOut P φ h w k (do pure (.value (← convert s d (a.eval x)))) := by
  rw [hY] at h1 h2 hb
  have hel := isByte_und hb
  obtain ⟨v, hv, h3⟩ := ev_sound hE hk
  obtain ⟨n, m, rfl, hk'⟩ := onS_true h3
  obtain ⟨str, hx, rfl, rfl⟩ := VR_s.1 hv
  have hsz : str.data.toList.length = str.size := Array.length_toList
  let t := w.tape w.drawn (.appendCap str.size 0 el)
  let cap := str.size + t % (2 ^ 63 - str.size)
  let cs : Array Value := (str.data.map fun b => Value.int .u8 b.toNat) ++ Array.replicate (cap - str.size) (.int .u8 0)
  have hcs : cs.size = cap := by
    show (_ ++ _ : Array Value).size = _
    simp only [Array.size_append, Array.size_map, Array.size_replicate]
    show str.size + (cap - str.size) = cap
    have : str.size ≤ cap := Nat.le_add_right ..
    omega
  let w' : World := { w with heap := w.heap.push (.cells cs el (cap, cap + 1)), drawn := w.drawn + 1 }
  obtain ⟨ψ, g1, g2, g3⟩ := alloc_step (w' := w') hW hF (hM _ _ hk') (L := ⟨w.heap.size, 0, 0, cs.size⟩) rfl rfl rfl rfl rfl
    (o := .ve (T.ofList (sbytes str.data.toList.length (natOfBytes str.data.toList)) 0 .e) str.data.toList.length 0 0 [])
    fun ψ hs ht => OR_new_ve (cs := cs) (rest := List.replicate (cap - str.size) (.int .u8 0)) (lo := cap) (hi := cap + 1) (.inr (by omega)) (by rw [sbytes_eq]; simp) hs _ (sbytes_VRL (φ := φ) str.data.toList)
      (by show (_ ++ _ : Array Value).toList = _; simp) (push_new rfl) ht
  refine ⟨_, _, ψ, .slice (some ⟨w.heap.size, 0, none⟩) str.size cap, w', hk', VR_sl.2 ⟨_, _, cap, g1, Nat.le_refl _, by rw [hsz]; rfl, by rw [hsz]; exact Nat.le_add_right .., fun _ h => (by cases h), fun _ => rfl, ?_⟩, .inl ?_, g2, g3⟩
  · show 0 + (0 - 0) + cap * 1 ≤ cs.size
    rw [hcs]; omega
  · have hchoose : (choose (.appendCap str.size 0 el)).run P w = .ok cap w.drew := rfl
    let wA : World := { w with heap := w.heap.push (.cells cs el), drawn := w.drawn + 1 }
    have hshape : wA.shape? w.heap.size = some (el, cap) := by
      show (match (w.heap.push (.cells cs el))[w.heap.size]? with | some (.cells c elem _) => some (elem, c.size) | _ => none) = _
      rw [Array.getElem?_push, if_pos rfl]
      simp [hcs]
    have hfreeze : wA.freeze { block := w.heap.size, off := cap } 1 = w' := by
      unfold World.freeze
      rw [if_neg (by omega)]
      show ({ w with heap := (w.heap.push (.cells cs el)).modify w.heap.size _, drawn := w.drawn + 1 } : World) = w'
      rw [modify_push]
      rfl
    have hms : (markStringish ⟨w.heap.size, 0, none⟩).run P wA = .ok () w' := by
      unfold markStringish
      simp only [Sem.run_bind, run_shape, Result.andThen_ok, hshape, run_freeze, hfreeze]
    have hs2b : (Conv.stringToBytes el str).run P w = .ok (.slice (some ⟨w.heap.size, 0, none⟩) str.size cap) w' := by
      unfold Conv.stringToBytes
      simp only [Sem.run_bind, hchoose, Result.andThen_ok, newRow, run_newObj, Sem.run_pure]
      show ((markStringish ⟨w.heap.size, 0, none⟩).run P wA).andThen _ = _
      rw [hms]; rfl
    rw [hx]
    simp only [convert, Sem.run_bind, run_und h1, run_und h2, Result.andThen_ok, run_underlying hel, hs2b, Sem.run_pure]

theorem al_inj {p q : AOp} (h : al p = some (.al q)) : p = q := by unfold al at h; cases h; rfl
theorem pu_al {p : POp} {q : AOp} : pu p ≠ some (.al q) := by unfold pu; intro h; cases h
theorem rd_al {p : ROp} {q : AOp} : rd p ≠ some (.al q) := by unfold rd; intro h; cases h
theorem ef_al {p : EOp} {q : AOp} : ef p ≠ some (.al q) := by unfold ef; intro h; cases h
theorem cNil_al {neg : Bool} {c : Nat} {x y : Operand} {q : AOp} : cNil X neg c x y ≠ some (.al q) := by unfold cNil; intro h; split at h <;> first | exact pu_al h | cases h
theorem cEq_al {neg : Bool} {t : TypeId} {d : TypeDesc} {x y : Operand} {q : AOp} : cEq X neg t d x y ≠ some (.al q) := by
  unfold cEq; intro h
  split at h
  · exact pu_al h
  · split at h <;> first | exact pu_al h | cases h
  · split at h <;> first | exact cNil_al h | cases h
  all_goals first | exact cNil_al h | cases h
theorem cBin_al {op : BinOp} {t : TypeId} {x y : Operand} {q : AOp} : cBin X op t x y ≠ some (.al q) := by
  unfold cBin; intro h
  split at h
  · exact pu_al h
  · exact pu_al h
  · split at h <;> first | exact cEq_al h | cases h
  · cases h
theorem cCall_al {c : Call} {t : TypeId} {q : AOp} : cCall X c t ≠ some (.al q) := by
  unfold cCall cLen cApp cCopy; intro h
  repeat' split at h
  all_goals first
    | exact pu_al h
    | exact rd_al h
    | exact ef_al h
    | cases h
theorem cBuild_al {t : TypeId} {l : List (Nat × Operand)} {q : AOp} : cBuild X t l ≠ some (.al q) := by
  unfold cBuild; intro h
  repeat' split at h
  all_goals first
    | exact pu_al h
    | cases h

theorem alloc_sound (hY : X.ty = tysOf P) (hW : WR φ h w) (hF : Fresh φ h.next M) {o : Oper} {k : KH} {p : AOp} (hE : ER X φ e a) (hc : cOp X o.op o.type = some (.al p)) (hr : runA p e h k = true)
    (hM : ∀ v h', k v h' = true → h'.next ≤ M) : EOut P φ h w k (execOp a.eval o) := by
  obtain ⟨dst, op, ty, pos, after, guard⟩ := o
  simp only at hc
  cases op with
  | alloc t =>
    simp only [cOp] at hc
    split at hc
    · rename_i z hz; cases al_inj hc; exact s_new (e := e) hY hW hF hz hr hM
    · cases hc
  | box t x => cases al_inj hc; exact s_box hW hF hE hr hM
  | buildSlice t n parts =>
    simp only [cOp] at hc
    split at hc
    · rename_i el hd
      split at hc
      · rename_i z s hz
        split at hc
        · rename_i hb; cases al_inj hc; exact s_bsl hY hW hF hE hd hz (ble_le hb) hr hM
        · cases hc
      · cases hc
    · cases hc
  | makeMap t r =>
    simp only [cOp] at hc
    split at hc
    · rename_i kt el hd
      split at hc
      · cases al_inj hc; exact s_mkm (e := e) (r := none) hY hW hF hd (.inl rfl) hr hM
      · rename_i q n; cases al_inj hc; exact s_mkm (e := e) (r := some (.const (.int q n))) hY hW hF hd (.inr ⟨q, n, rfl⟩) hr hM
      · cases hc
    · cases hc
  | makeSlice t l c =>
    simp only [cOp] at hc
    split at hc
    · rename_i el hd
      split at hc
      · rename_i z s b hz hb; cases al_inj hc; exact s_mks hY hW hF hE hd hz hb hr hM
      · cases hc
    · cases hc
  | convert s d x =>
    simp only [cOp, cConv] at hc
    split at hc
    · exact absurd hc pu_al
    · exact absurd hc pu_al
    · rename_i el h1 h2
      split at hc
      · cases al_inj hc; exact s_s2b hY hW hF hE h1 h2 ‹_› hr hM
      · cases hc
    · split at hc <;> first | exact absurd hc rd_al | cases hc
    · cases hc
  | binOp op t x y u => exact absurd hc cBin_al
  | call c => exact absurd hc cCall_al
  | build t parts => exact absurd hc cBuild_al
  | _ =>
    simp only [cOp] at hc
    repeat' split at hc
    all_goals first
      | exact absurd hc pu_al
      | exact absurd hc rd_al
      | exact absurd hc ef_al
      | cases hc
end

/- Stores. -/
theorem WR_congr {φ : Emb} {h h' : Heap} {w : World} (hW : WR φ h w) (hn : h.next = h'.next) (hg : ∀ id, h'.tr.get id = h.tr.get id) : WR φ h' w :=
  ⟨fun id o ho => by rw [← hn]; exact hW.scope id o (by rw [← hg]; exact ho), fun id o ho => hW.obj id o (by rw [← hg]; exact ho), hW.inj, hW.here, by rw [← hn]; exact hW.roo.1, fun id o ho hid => hW.roo.2 id o (by rw [← hg]; exact ho) hid⟩

theorem setCell_block {w : World} {p : Addr} {u : Value} {i : Nat} (h : i ≠ p.block) : (w.setCell p u).heap[i]? = w.heap[i]? := by
  simp only [World.setCell, Array.getElem?_modify]
  rw [if_neg (fun e => h e.symm)]

/-- A change of one object's block. -/
theorem change_step {φ : Emb} {h : Heap} {w w' : World} {id tag : Nat} {o o' : Obj} {l : Loc} (hW : WR φ h w) (ho : h.tr.get id = some o) (hro : o.isRo = false) (hl : φ id tag = some l) (hos : w'.os = w.os) (htape : w'.tape = w.tape) (hout : w'.output = w.output)
    (hsz : w'.heap.size = w.heap.size) (hb : ∀ i, i ≠ l.block → w'.heap[i]? = w.heap[i]?) (hO : OR φ w' id o') : WR φ (updO h id o') w' ∧ Stp φ h.next w φ h.next w' := by
  have hid := hW.scope _ _ ho
  have hge : Opq.ro ≤ id := Nat.le_of_not_lt fun hlt => by rw [hW.roo.2 _ _ ho hlt] at hro; cases hro
  refine ⟨⟨fun j x hx => ?_, fun j x hx => ?_, hW.inj, fun j t L hL => by rw [hsz]; exact hW.here j t L hL, hW.roo.1, fun j x hx hj => ?_⟩,
    ⟨Sub.refl _, Nat.le_refl _, fun _ _ _ h => .inl h, hos, htape, hout, by omega, fun B hB hno => hb B fun e => hno id tag l hge hid hl e.symm⟩⟩
  · rw [get_upd] at hx
    show j < h.next
    split at hx
    · rename_i e; rw [e]; exact hid
    · exact hW.scope _ _ hx
  · rw [get_upd] at hx
    split at hx
    · rename_i e; cases hx; rw [e]; exact hO
    · rename_i hne
      refine OR_same (hW.obj _ _ hx) (Sub.refl _) (fun _ _ h => h) fun t L hL => hb _ fun e => hne ?_
      exact (hW.inj _ _ _ _ _ _ hge hl hL e.symm).1.symm
  · rw [get_upd] at hx
    split at hx
    · omega
    · exact hW.roo.2 _ _ hx hj

theorem cell_set {w : World} {p q : Addr} {u x : Value} (hx : w.cell? q = some x) (hp : ∃ y, w.cell? p = some y) : (w.setCell p u).cell? q = some (if p = q then u else x) := by
  by_cases e : p = q
  · subst e; rw [if_pos rfl]; obtain ⟨y, hy⟩ := hp; exact World.cell?_setCell_same w p u hy
  · rw [if_neg e, World.cell?_setCell_other w p q u e]; exact hx

theorem Blk_set {w : World} {p : Addr} {u : Value} {l : Loc} (h : Blk w l) : Blk (w.setCell p u) l := by
  obtain ⟨cs, el, lo, hi, hb, hs, hf⟩ := h
  by_cases e : p.block = l.block
  · refine ⟨if p.spot.isSome then cs else cs.setIfInBounds p.off u, el, lo, hi, ?_, by split <;> simp [hs], hf⟩
    simp only [World.setCell, Array.getElem?_modify, e, if_true, hb, Option.map_some]
  · exact ⟨cs, el, lo, hi, (setCell_block (fun e' => e e'.symm)).trans hb, hs, hf⟩

theorem at_inj {l : Loc} {i j : Nat} (hi : l.start ≤ i) (hj : l.start ≤ j) (h : l.at i = l.at j) : i = j := by
  have : l.base + (i - l.start) = l.base + (j - l.start) := congrArg Addr.off h
  omega

section
variable {P : Program} {φ : Emb} {h : Heap} {w : World}

theorem wrK_true {id tag off : Nat} {o : Obj} {l : Loc} {v : AV} {u : Value} {k : Obj → Bool} (hW : WR φ h w) (ho : h.tr.get id = some o) (hl : φ id tag = some l) (hle : l.start ≤ off) (hv : VR φ v u)
    (hk : wrK o tag off v k = true) : ∃ o', k o' = true ∧ (store (l.at off) u).run P w = .ok () (w.setCell (l.at off) u) ∧ WR φ (updO h id o') (w.setCell (l.at off) u) ∧ Stp φ h.next w φ h.next (w.setCell (l.at off) u) := by
  obtain ⟨h1c, hk1⟩ := ite'_and hk
  have hone := oneC_cell hv h1c
  have hOR := hW.obj _ _ ho
  have fin : ∀ {o' : Obj}, o.isRo = false → k o' = true → (∃ y, w.cell? (l.at off) = some y) → w.frozen? (l.at off) = false → OR φ (w.setCell (l.at off) u) id o' →
      ∃ o', k o' = true ∧ (store (l.at off) u).run P w = .ok () (w.setCell (l.at off) u) ∧ WR φ (updO h id o') (w.setCell (l.at off) u) ∧ Stp φ h.next w φ h.next (w.setCell (l.at off) u) := by
    rintro o' hro hk' ⟨y, hy⟩ hfr hO'
    obtain ⟨g1, g2⟩ := change_step (w' := w.setCell (l.at off) u) hW ho hro hl rfl rfl rfl (by simp) (fun i hi => setCell_block hi) hO'
    exact ⟨o', hk', by rw [run_store P w _ _ _ hone, hy]; simp [hfr], g1, g2⟩
  cases o with
  | st cells n =>
    obtain ⟨h0, h1⟩ := ite'_and (show ite' (Nat.beq tag 0) (ite' (Nat.ble (Nat.succ off) n) (k (.st (cells.set v off) n)) false) false = true from hk1)
    obtain ⟨hb, h2⟩ := ite'_and h1
    have hlt : off < n := ble_le hb
    obtain ⟨_, l1, l2, l3, hblk, hc⟩ := hOR tag l hl
    have hcell : ∃ y, w.cell? (l.at off) = some y := by
      have := hblk.cell (i := off) (by omega)
      simpa [Loc.at, l1, l2] using this
    have hfree : w.frozen? (l.at off) = false := by
      have := hblk.free (i := off) (by omega)
      simpa [Loc.at, l1, l2] using this
    refine fin rfl h2 hcell hfree fun t L hL => ?_
    obtain ⟨q0, q1, q2, q3, q4, q5⟩ := hOR t L hL
    refine ⟨q0, q1, q2, q3, Blk_set q4, fun j hj x hx => ?_⟩
    obtain rfl : L = l := by
      have e0 := (hOR tag l hl).1
      rw [q0] at hL; rw [e0] at hl
      exact Option.some.inj (hL.symm.trans hl)
    rw [get_set] at hx
    split at hx
    · rename_i e; cases hx; subst e; exact ⟨u, World.cell?_setCell_same w _ u hcell.choose_spec, hv⟩
    · rename_i hne
      obtain ⟨y, hy, hr⟩ := q5 j hj x hx
      refine ⟨y, ?_, hr⟩
      rw [cell_set hy hcell, if_neg (fun e => hne (at_inj hle (by omega) e).symm)]
  | ve cells ext ver minv segs =>
    obtain ⟨h0, h1⟩ := ite'_and (show ite' (Nat.beq tag ver) (ite' (Nat.ble (Nat.succ off) ext) (k (.ve (cells.set v off) ext ver ver segs)) false) false = true from hk1)
    obtain ⟨hb, h2⟩ := ite'_and h1
    have hlt : off < ext := ble_le hb
    have htag := beq_eq h0
    obtain ⟨k1, k2, k3, k4, k5⟩ := hOR
    obtain ⟨_, hblk, hc⟩ := k5 tag l hl
    obtain ⟨y0, hy0⟩ := k2 off hlt
    obtain ⟨y, hy, _⟩ := hc (by omega) off hle hlt (k4 _ _ (by omega)) y0 hy0
    have hin : l.base + (off - l.start) < l.size := by
      obtain ⟨cs, el, lo, hi, g1, g2, _⟩ := hblk
      simp only [World.cell?, Loc.at, g1] at hy
      simp at hy
      have := (Array.getElem?_eq_some_iff.1 hy).1
      omega
    refine fin rfl h2 ⟨y, hy⟩ (hblk.free hin) ⟨Nat.le_refl _, fun j hj => ?_, k3, k4, fun t L hL => ?_⟩
    · rw [get_set]; split
      · exact ⟨v, rfl⟩
      · exact k2 j hj
    · obtain ⟨q0, q4, q5⟩ := k5 t L hL
      refine ⟨q0, Blk_set q4, fun hm j hj hje hst x hx => ?_⟩
      obtain rfl : t = ver := by omega
      subst htag
      obtain rfl : L = l := Option.some.inj (hL.symm.trans hl)
      rw [get_set] at hx
      split at hx
      · rename_i e; cases hx; subst e; exact ⟨u, World.cell?_setCell_same w _ u hy, hv⟩
      · rename_i hne
        obtain ⟨z, hz, hr⟩ := q5 (by omega) j hj hje hst x hx
        refine ⟨z, ?_, hr⟩
        rw [cell_set hz ⟨y, hy⟩, if_neg (fun e => hne (at_inj hle hj e).symm)]
  | mp es => cases hk1
  | ro cells => cases hk1

theorem storeCells_run {a : Addr} {v : Value} {vs : List Value} {i : Nat} {w1 : World} (h : (store (a.add i) v).run P w = .ok () w1) : (storeCells a (v :: vs) i).run P w = (storeCells a vs (i + 1)).run P w1 := by
  rw [storeCells, Sem.run_bind, h]; rfl

theorem wrsK_true {id tag : Nat} {l : Loc} (hl : φ id tag = some l) {off0 : Nat} (hle : l.start ≤ off0) : ∀ (vs : List AV) (us : List Value) (i : Nat) (h : Heap) (w : World) (o : Obj) (k : Obj → Bool), WR φ h w → h.tr.get id = some o →
    VRL φ vs us → wrsK vs o tag (off0 + i) k = true →
    ∃ o' w', k o' = true ∧ (storeCells (l.at off0) us i).run P w = .ok () w' ∧ WR φ (updO h id o') w' ∧ Stp φ h.next w φ h.next w'
  | [], us, i, h, w, o, k, hW, ho, hv, hk => by
    cases (hv : us = [])
    refine ⟨o, w, hk, rfl, WR_congr hW rfl fun j => ?_, Stp.refl _ _ _⟩
    rw [get_upd]; split
    · rename_i e; rw [e, ho]
    · rfl
  | v :: vs, us, i, h, w, o, k, hW, ho, ⟨u, us', e, hv, hvs⟩, hk => by
    subst e
    obtain ⟨o1, hk1, hrun, hW1, hS1⟩ := wrK_true (P := P) hW ho hl (Nat.le_trans hle (Nat.le_add_right ..)) hv (show wrK o tag (off0 + i) v (fun o => wrsK vs o tag (off0 + i + 1) k) = true from hk)
    obtain ⟨o2, w2, hk2, hrun2, hW2, hS2⟩ := wrsK_true hl hle vs us' (i + 1) (updO h id o1) _ o1 k hW1 (by rw [get_upd, if_pos rfl]) hvs hk1
    refine ⟨o2, w2, hk2, ?_, WR_congr hW2 rfl fun j => ?_, Stp.trans (M := h.next) hS1 hS2 (fun a b c hc => ?_) (Nat.le_refl _)⟩
    · rw [storeCells_run (w1 := w.setCell (l.at (off0 + i)) u) (by rw [l.at_add hle]; exact hrun)]
      exact hrun2
    · rw [get_upd, get_upd, get_upd]; split <;> rfl
    · omega
end
end Go.AE
