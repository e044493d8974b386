/- Memory: what is made anew. -/
import Derived.Test.YtodlgflkhcknaaaAFMem2
namespace Go.AE
set_option linter.unusedVariables false
variable {oq : Unit} [Opq oq]
open Go

theorem cell_same {w w' : World} {p : Addr} (h : w'.heap[p.block]? = w.heap[p.block]?) : w'.cell? p = w.cell? p := by simp [World.cell?, h]

theorem OR_same {φ ψ : Emb} {w w' : World} {id : Nat} {o : Obj} (hO : OR φ w id o) (hs : Sub φ ψ) (ht : ∀ t l, ψ id t = some l → φ id t = some l) (hb : ∀ t l, φ id t = some l → w'.heap[l.block]? = w.heap[l.block]?) :
    OR ψ w' id o := by
  cases o with
  | st cells n =>
    intro tag l hl
    have hl' := ht _ _ hl
    obtain ⟨h0, h1, h2, h3, h4, h5⟩ := hO tag l hl'
    have hbl := hb _ _ hl'
    refine ⟨h0, h1, h2, h3, ?_, fun j hj v hv => ?_⟩
    · obtain ⟨cs, el, lo, hi, g1, g2⟩ := h4; exact ⟨cs, el, lo, hi, hbl.trans g1, g2⟩
    · obtain ⟨u, hu, hr⟩ := h5 j hj v hv; exact ⟨u, (cell_same hbl).trans hu, VR_mono hs _ _ hr⟩
  | ve cells ext ver minv segs =>
    obtain ⟨k1, k2, k3, k4, k5⟩ := hO
    refine ⟨k1, k2, k3, k4, fun tag l hl => ?_⟩
    have hl' := ht _ _ hl
    have hbl := hb _ _ hl'
    obtain ⟨h0, h4, h5⟩ := k5 tag l hl'
    refine ⟨h0, ?_, fun hm j hj hje hst v hv => ?_⟩
    · obtain ⟨cs, el, lo, hi, g1, g2⟩ := h4; exact ⟨cs, el, lo, hi, hbl.trans g1, g2⟩
    · obtain ⟨u, hu, hr⟩ := h5 hm j hj hje hst v hv; exact ⟨u, (cell_same hbl).trans hu, VR_mono hs _ _ hr⟩
  | mp es =>
    intro tag l hl
    have hl' := ht _ _ hl
    obtain ⟨h0, entries, clock, h1, h2⟩ := hO tag l hl'
    exact ⟨h0, entries, clock, (hb _ _ hl').trans h1, MR_mono hs h2⟩
  | ro cells =>
    intro tag l hl j v hj hv
    have hl' := ht _ _ hl
    obtain ⟨u, hu, hr⟩ := hO tag l hl' j v hj hv
    exact ⟨u, (cell_same (hb _ _ hl')).trans hu, VR_mono hs _ _ hr⟩

theorem get_add {h : Heap} {o : Obj} {id : Nat} : (addO h o).tr.get id = if id = h.next then some o else h.tr.get id := get_set _ _ _ _
theorem get_upd {h : Heap} {o : Obj} {id j : Nat} : (updO h id o).tr.get j = if j = id then some o else h.tr.get j := get_set _ _ _ _

theorem push_old {w w' : World} {B : _root_.Go.Obj} (hw : w'.heap = w.heap.push B) {i : Nat} (h : i < w.heap.size) : w'.heap[i]? = w.heap[i]? := by
  rw [hw, Array.getElem?_push, if_neg (by omega)]
theorem push_new {w w' : World} {B : _root_.Go.Obj} (hw : w'.heap = w.heap.push B) : w'.heap[w.heap.size]? = some B := by rw [hw, Array.getElem?_push, if_pos rfl]

/-- Something new. -/
theorem alloc_step {φ : Emb} {h : Heap} {w w' : World} {M : Nat} (hW : WR φ h w) (hF : Fresh φ h.next M) (hM : h.next < M) {B : _root_.Go.Obj} {o : Obj} {L : Loc} (hL : L.block = w.heap.size)
    (hw : w'.heap = w.heap.push B) (hos : w'.os = w.os) (htape : w'.tape = w.tape) (hout : w'.output = w.output)
    (hO : ∀ ψ, Sub φ ψ → (∀ t l, ψ h.next t = some l → t = 0 ∧ l = L) → OR ψ w' h.next o) :
    ∃ ψ, ψ h.next 0 = some L ∧ WR ψ (addO h o) w' ∧ Stp φ h.next w ψ (h.next + 1) w' := by
  have hno : ∀ t l, φ h.next t ≠ some l := fun t l hl => by rcases hF _ _ _ hl with h1 | h1 <;> omega
  have hsz : w'.heap.size = w.heap.size + 1 := by rw [hw]; simp
  let ψ : Emb := fun id t => if id = h.next ∧ t = 0 then some L else φ id t
  have hsub : Sub φ ψ := fun id t l hl => by
    show (if id = h.next ∧ t = 0 then some L else φ id t) = some l
    rw [if_neg (fun (hc : id = h.next ∧ t = 0) => hno t l (hc.1 ▸ hl))]; exact hl
  have hinv : ∀ id t l, ψ id t = some l → (id = h.next ∧ t = 0 ∧ l = L) ∨ φ id t = some l := fun id t l hl => by
    have hl' : (if id = h.next ∧ t = 0 then some L else φ id t) = some l := hl
    split at hl'
    · rename_i hc; exact .inl ⟨hc.1, hc.2, (Option.some.inj hl').symm⟩
    · exact .inr hl'
  refine ⟨ψ, if_pos ⟨rfl, rfl⟩, ⟨fun id o' ho => ?_, fun id o' ho => ?_, fun id t id' t' l l' hr hl hl' hb => ?_, fun id t l hl => ?_, ⟨Nat.le_succ_of_le hW.roo.1, fun id o' ho hid => ?_⟩⟩, ⟨hsub, Nat.le_succ _, fun id t l hl => ?_, hos, htape, hout, by omega, fun B hB _ => push_old hw hB⟩⟩
  · rw [get_add] at ho
    show id < h.next + 1
    split at ho
    · omega
    · have := hW.scope _ _ ho; omega
  · rw [get_add] at ho
    split at ho
    · rename_i e
      cases ho
      subst e
      exact hO ψ hsub fun t l hl => by
        rcases hinv _ _ _ hl with ⟨_, h1, h2⟩ | h1
        · exact ⟨h1, h2⟩
        · exact absurd h1 (hno t l)
    · have := hW.scope _ _ ho
      refine OR_same (hW.obj _ _ ho) hsub (fun t l hl => ?_) (fun t l hl => push_old hw (hW.here _ _ _ hl))
      rcases hinv _ _ _ hl with ⟨h1, _⟩ | h1
      · omega
      · exact h1
  · rcases hinv _ _ _ hl with ⟨rfl, rfl, rfl⟩ | h1 <;> rcases hinv _ _ _ hl' with ⟨rfl, rfl, rfl⟩ | h2
    · exact ⟨rfl, rfl, rfl⟩
    · have := hW.here _ _ _ h2; omega
    · have := hW.here _ _ _ h1; omega
    · exact hW.inj _ _ _ _ _ _ hr h1 h2 hb
  · rcases hinv _ _ _ hl with ⟨_, _, rfl⟩ | h1
    · omega
    · have := hW.here _ _ _ h1; omega
  · rw [get_add] at ho
    have := hW.roo.1
    split at ho
    · omega
    · exact hW.roo.2 _ _ ho hid
  · rcases hinv _ _ _ hl with ⟨rfl, _, rfl⟩ | h1
    · exact .inr (.inr ⟨by omega, by omega, .inl (Nat.le_refl _)⟩)
    · exact .inl h1

/-- A new row of cells. -/
theorem OR_new_st {φ ψ : Emb} {w' : World} {id B : Nat} {l : List AV} {cs : Array Value} {elem : TypeId} {n : Nat} (hn : n = cs.size) (hs : Sub φ ψ) (hv : VRL φ l cs.toList) (hb : w'.heap[B]? = some (.cells cs elem (0, 0)))
    (ht : ∀ t L, ψ id t = some L → t = 0 ∧ L = ⟨B, 0, 0, n⟩) : OR ψ w' id (.st (T.ofList l 0 .e) n) := by
  intro t L hL
  obtain ⟨rfl, rfl⟩ := ht t L hL
  refine ⟨rfl, rfl, rfl, rfl, ⟨cs, elem, 0, 0, hb, hn.symm, .inl rfl⟩, fun j hj v hg => ?_⟩
  rw [get_ofList] at hg
  split at hg
  · obtain ⟨u, hu, hr⟩ := VRL_get hv _ _ hg
    refine ⟨u, ?_, VR_mono hs _ _ hr⟩
    rw [Array.getElem?_toList] at hu
    simp only [World.cell?, Loc.at, hb]
    simpa using hu
  · cases hg

theorem OR_new_ve {φ ψ : Emb} {w' : World} {id B : Nat} {l : List AV} {cs : Array Value} {rest : List Value} {elem : TypeId} {n : Nat} {lo hi : Nat} (hf : lo = hi ∨ cs.size ≤ lo) (hn : n = l.length) (hs : Sub φ ψ) (us : List Value) (hv : VRL φ l us) (hcs : cs.toList = us ++ rest) (hb : w'.heap[B]? = some (.cells cs elem (lo, hi)))
    (ht : ∀ t L, ψ id t = some L → t = 0 ∧ L = ⟨B, 0, 0, cs.size⟩) : OR ψ w' id (.ve (T.ofList l 0 .e) n 0 0 []) := by
  refine ⟨Nat.le_refl _, fun j hj => ?_, fun _ _ _ _ _ => rfl, fun _ _ _ => rfl, fun t L hL => ?_⟩
  · rw [get_ofList, if_pos (by omega)]
    exact ⟨l[j - 0]'(by omega), List.getElem?_eq_getElem (by omega)⟩
  · obtain ⟨rfl, rfl⟩ := ht t L hL
    refine ⟨Nat.le_refl _, ⟨cs, elem, lo, hi, hb, rfl, hf⟩, fun _ j _ hj _ v hg => ?_⟩
    rw [get_ofList] at hg
    split at hg
    · obtain ⟨u, hu, hr⟩ := VRL_get hv _ _ hg
      refine ⟨u, ?_, VR_mono hs _ _ hr⟩
      have hcu : cs[j]? = some u := by
        rw [← Array.getElem?_toList, hcs, List.getElem?_append_left (by have := (List.getElem?_eq_some_iff.1 hu).1; simpa using this)]
        simpa using hu
      simp only [World.cell?, Loc.at, hb]
      simpa using hcu
    · cases hg

/-- An operation that makes or changes. -/
def EOut (P : Program) (φ : Emb) (h : Heap) (w : World) (k : KH) (s : Sem Next) : Prop :=
  ∃ v h' ψ u w', k v h' = true ∧ VR ψ v u ∧ (s.run P w = .ok (.value u) w' ∨ (u = undef ∧ s.run P w = .ok .skip w')) ∧ WR ψ h' w' ∧ Stp φ h.next w ψ h'.next w'

/-- The list of a slice's zero values. -/
theorem repL_len (z : List AV) : ∀ n, (repL z n).length = n * z.length
  | 0 => by rw [Nat.zero_mul]; rfl
  | n + 1 => by
    show (appL z (repL z n)).length = _
    rw [appL_eq, List.length_append, repL_len z n, Nat.add_mul]; omega

theorem repL_get (z : List AV) : ∀ (n i : Nat), i < n * z.length → (repL z n)[i]? = z[i % z.length]?
  | 0, i, h => by simp at h
  | n + 1, i, h => by
    show (appL z (repL z n))[i]? = _
    rw [appL_eq]
    by_cases hc : i < z.length
    · rw [List.getElem?_append_left hc, Nat.mod_eq_of_lt hc]
    · rw [List.getElem?_append_right (by omega), repL_get z n _ (by rw [Nat.add_mul] at h; omega)]
      congr 1
      rw [← Nat.mod_eq_sub_mod (by omega)]

theorem rep_VRL {φ : Emb} {z : List AV} {zs : Array Value} (hz : VRL φ z zs.toList) {n s : Nat} (hs : z.length = s) :
    VRL φ (repL z n) ((Array.range (n * s)).map (zs[· % zs.size]!)).toList := by
  have hl := VRL_len hz
  simp only [Array.length_toList] at hl
  refine VRL_of_get (by rw [repL_len]; simp [hs]) fun i x y hx hy => ?_
  have hi : i < n * z.length := by have := (List.getElem?_eq_some_iff.1 hx).1; rw [repL_len] at this; exact this
  rw [repL_get z n i hi] at hx
  obtain ⟨u, hu, hr⟩ := VRL_get hz _ _ hx
  rw [Array.getElem?_toList] at hu
  simp only [Array.toList_map, List.getElem?_map, Array.toList_range, Option.map_eq_some_iff] at hy
  obtain ⟨j, hj, rfl⟩ := hy
  rw [List.getElem?_range (by rw [← hs]; exact hi)] at hj
  cases hj
  rw [← hl, getElem!_def, hu]
  exact hr

section
variable {P : Program} {X : CX} {φ : Emb} {e : Env} {a : Act} {h : Heap} {w : World} {M : Nat}

theorem s_new (hY : X.ty = tysOf P) (hW : WR φ h w) (hF : Fresh φ h.next M) {t : TypeId} {z : AV} {k : KH} (hz : zeroT X.ty t = some z) (hk : aNew (cellsOf z) e h k = true) (hM : ∀ v h', k v h' = true → h'.next ≤ M) :
    EOut P φ h w k (do pure (.value (← Instr.alloc t true (.tuple #[])))) := by
  rw [hY] at hz
  obtain ⟨u, hzu, hzr⟩ := run_zero hz φ
  have hk' : k (.p h.next 0 0) (addO h (.st (T.ofList (cellsOf z) 0 .e) (lenL (cellsOf z) 0))) = true := hk
  have hlt : h.next < M := hM _ _ hk'
  have hc := cells_VR hzr
  have hl := VRL_len hc
  simp only [Array.length_toList] at hl
  rw [lenL_eq] at hk'
  obtain ⟨ψ, h1, h2, h3⟩ := alloc_step (w' := w.alloc (.cells u.cells t (0, 0))) hW hF hlt (L := ⟨w.heap.size, 0, 0, (cellsOf z).length⟩) rfl rfl rfl rfl rfl (o := .st (T.ofList (cellsOf z) 0 .e) ((cellsOf z).length + 0))
    fun ψ hs ht => OR_new_st (by omega) hs hc (push_new rfl) ht
  refine ⟨_, _, ψ, .pointer (some ⟨w.heap.size, 0, none⟩), _, hk', VR_p.2 ⟨_, h1, Nat.le_refl _, rfl⟩, .inl ?_, h2, h3⟩
  simp [Instr.alloc, hzu, newVar, newRow]

theorem s_box (hW : WR φ h w) (hF : Fresh φ h.next M) {t : TypeId} {x : Operand} {k : KH} (hE : ER X φ e a) (hk : aBox (cOpd X x) e h k = true) (hM : ∀ v h', k v h' = true → h'.next ≤ M) :
    EOut P φ h w k (do pure (.value (← Instr.box t (a.eval x)))) := by
  obtain ⟨v, hv, hk'⟩ := ev_sound hE (show ev (cOpd X x) e (fun v => k (.p h.next 0 0) (addO h (.st (T.ofList (cellsOf v) 0 .e) (lenL (cellsOf v) 0)))) = true from hk)
  have hlt : h.next < M := hM _ _ hk'
  have hc := cells_VR hv
  have hl := VRL_len hc
  simp only [Array.length_toList] at hl
  rw [lenL_eq] at hk'
  obtain ⟨ψ, h1, h2, h3⟩ := alloc_step (w' := w.alloc (.cells (a.eval x).cells t (0, 0))) hW hF hlt (L := ⟨w.heap.size, 0, 0, (cellsOf v).length⟩) rfl rfl rfl rfl rfl (o := .st (T.ofList (cellsOf v) 0 .e) ((cellsOf v).length + 0))
    fun ψ hs ht => OR_new_st (by omega) hs hc (push_new rfl) ht
  refine ⟨_, _, ψ, .pointer (some ⟨w.heap.size, 0, none⟩), _, hk', VR_p.2 ⟨_, h1, Nat.le_refl _, rfl⟩, .inl ?_, h2, h3⟩
  simp [Instr.box, newVar, newRow]

theorem s_bsl (hY : X.ty = tysOf P) (hW : WR φ h w) (hF : Fresh φ h.next M) {t el : TypeId} {n s : Nat} {z : List AV} {parts : Array (Nat × Operand)} {k : KH} (hE : ER X φ e a) (hu : undT X.ty t = some (.slice el))
    (hz : zeroS X.ty el = some (z, s + 1)) (hsz : n * (s + 1) ≤ 16777216) (hk : aBsl z (s + 1) n (placesA X (s + 1) parts.toList) e h k = true) (hM : ∀ v h', k v h' = true → h'.next ≤ M) :
    EOut P φ h w k (do pure (.value (← Instr.buildSlice t n (parts.map fun (i, x) => (i, a.eval x))))) := by
  rw [hY] at hu hz
  obtain ⟨zv, hz1, rfl, hz2, hz3⟩ := zeroS_get hz
  obtain ⟨u, hzu, hzr⟩ := run_zero hz1 φ
  have hcz := cells_VR hzr
  obtain ⟨q1, q2⟩ := placesA_spec (X := X) (size := s + 1) (parts := parts.toList)
  let cells0 : Array Value := (Array.range (n * (s + 1))).map (u.cells[· % u.cells.size]!)
  obtain ⟨l, out, hf, hl, hlen, hk'⟩ := fill_sound (a := a) hE (fun i => some (i * (s + 1), s + 1)) parts.toList _ (repL (cellsOf zv) n) cells0
    (fun l => k (.sl h.next 0 0 n (some n) (s + 1)) (addO h (.st (T.ofList l 0 .e) (n * (s + 1))))) q1
    (fun i p q hp hq => by obtain ⟨w1, w2, w3⟩ := q2 i p q hp hq; exact ⟨by rw [w1, w2], w3⟩) (rep_VRL hcz hz3) hk
  have hlt : h.next < M := hM _ _ hk'
  have hll := VRL_len hl
  simp only [Array.length_toList] at hll
  rw [repL_len, hz3] at hlen
  obtain ⟨ψ, h1, h2, h3⟩ := alloc_step (w' := w.alloc (.cells out el (0, 0))) hW hF hlt (L := ⟨w.heap.size, 0, 0, n * (s + 1)⟩) rfl rfl rfl rfl rfl (o := .st (T.ofList l 0 .e) (n * (s + 1)))
    fun ψ hs ht => OR_new_st (by omega) hs hl (push_new rfl) ht
  refine ⟨_, _, ψ, .slice (some ⟨w.heap.size, 0, none⟩) n n, _, hk', VR_sl.2 ⟨_, _, n, h1, Nat.le_refl _, rfl, Nat.le_refl _, fun x hx => Option.some.inj hx, fun _ => rfl, by simp⟩, .inl ?_, h2, h3⟩
  have hmap : (parts.map fun (i, x) => (i, a.eval x)).toList = parts.toList.map fun p => (p.1, a.eval p.2) := by simp
  by_cases h0 : n * (s + 1) = 0
  · have hc0 : (Array.range (n * (s + 1))).map ((#[] : Array Value)[· % (#[] : Array Value).size]!) = cells0 := by simp only [cells0, h0]; simp
    simp only [Instr.buildSlice, Sem.run_bind, run_und hu, Result.andThen_ok, run_size hz2]
    rw [if_neg (show ¬ n * (s + 1) > 2 ^ 24 from by omega), if_pos h0]
    simp only [Sem.run_pure, Result.andThen_ok, Sem.run_bind]
    rw [hmap, hc0, hf]
    simp [newRow]
  · simp only [Instr.buildSlice, Sem.run_bind, run_und hu, Result.andThen_ok, run_size hz2]
    rw [if_neg (show ¬ n * (s + 1) > 2 ^ 24 from by omega), if_neg h0]
    simp only [Sem.run_pure, Result.andThen_ok, Sem.run_bind, hzu]
    have hc0 : (Array.range (n * (s + 1))).map (u.cells[· % u.cells.size]!) = cells0 := rfl
    rw [hmap, hc0, hf]
    simp [newRow]

theorem s_mkm (hY : X.ty = tysOf P) (hW : WR φ h w) (hF : Fresh φ h.next M) {t kt el : TypeId} {r : Option Operand} {k : KH} (hu : undT X.ty t = some (.map kt el)) (hr : r = none ∨ ∃ q n, r = some (.const (.int q n)))
    (hk : aMkm e h k = true) (hM : ∀ v h', k v h' = true → h'.next ≤ M) : EOut P φ h w k (do pure (.value (← Instr.makeMap t (r.map a.eval)))) := by
  rw [hY] at hu
  have hk' : k (.m h.next) (addO h (.mp [])) = true := hk
  obtain ⟨ψ, h1, h2, h3⟩ := alloc_step (w' := w.alloc (.map #[] 0)) hW hF (hM _ _ hk') (L := ⟨w.heap.size, 0, 0, 0⟩) rfl rfl rfl rfl rfl (o := .mp [])
    fun ψ hs ht t l hl => by
      obtain ⟨rfl, rfl⟩ := ht t l hl
      exact ⟨rfl, #[], 0, push_new rfl, rfl⟩
  refine ⟨_, _, ψ, .map (some w.heap.size), _, hk', VR_m.2 ⟨_, h1, rfl⟩, .inl ?_, h2, h3⟩
  rcases hr with rfl | ⟨q, n, rfl⟩
  · simp [Instr.makeMap]
  · simp [Instr.makeMap, run_und hu, Act.eval, asInt, asIntOf]

theorem s_mks (hY : X.ty = tysOf P) (hW : WR φ h w) (hF : Fresh φ h.next M) {t el : TypeId} {b s : Nat} {z : List AV} {x y : Operand} {k : KH} (hE : ER X φ e a) (hu : undT X.ty t = some (.slice el))
    (hz : zeroS X.ty el = some (z, s + 1)) (hb : bytesT X.ty el = some b) (hk : aMks z (s + 1) b (cOpd X x) (cOpd X y) e h k = true) (hM : ∀ v h', k v h' = true → h'.next ≤ M) :
    EOut P φ h w k (do pure (.value (← Instr.makeSlice t (a.eval x) (a.eval y)))) := by
  rw [hY] at hu hz hb
  obtain ⟨zv, hz1, rfl, hz2, hz3⟩ := zeroS_get hz
  obtain ⟨u, hzu, hzr⟩ := run_zero hz1 φ
  obtain ⟨i, hi, rfl⟩ := run_bytes hb w
  have hcz := cells_VR hzr
  obtain ⟨kd, l, hx, h4⟩ := evN_sound hE hk
  obtain ⟨kd', c, hy, h5⟩ := evN_sound hE h4
  obtain ⟨hlc, h6⟩ := ite'_and h5
  obtain ⟨hc1, h7⟩ := ite'_and h6
  obtain ⟨hc2, hk'⟩ := ite'_and h7
  have hlc' := ble_le hlc
  have hc1' := ble_le hc1
  have hc2' : i.bytes * c ≤ 16777216 := ble_le hc2
  have hrl := rep_VRL (n := c) hcz hz3
  have hll := VRL_len hrl
  simp only [Array.length_toList] at hll
  rw [repL_len, hz3] at hll
  obtain ⟨ψ, h1, h2, h3⟩ := alloc_step (w' := w.alloc (.cells ((Array.range (c * (s + 1))).map (u.cells[· % u.cells.size]!)) el (0, 0))) hW hF (hM _ _ hk') (L := ⟨w.heap.size, 0, 0, c * (s + 1)⟩) rfl rfl rfl rfl rfl
    (o := .st (T.ofList (repL (cellsOf zv) c) 0 .e) (c * (s + 1))) fun ψ hs ht => OR_new_st (by omega) hs hrl (push_new rfl) ht
  refine ⟨_, _, ψ, .slice (some ⟨w.heap.size, 0, none⟩) l c, _, hk', VR_sl.2 ⟨_, _, c, h1, Nat.le_refl _, rfl, hlc', fun x hx => Option.some.inj hx, fun _ => rfl, by simp⟩, .inl ?_, h2, h3⟩
  have wl : IntKind.i64.wrap (Int.ofNat l) = Int.ofNat l := by
    rw [← wrapF_eq]
    show (@Bool.rec (fun _ => Int) (IntKind.wrap .i64 (.ofNat l)) (.ofNat l) (Nat.ble l 9223372036854775807)) = _
    rw [Nat.ble_eq_true_of_le (by omega : l ≤ 9223372036854775807)]
  have wc : IntKind.i64.wrap (Int.ofNat c) = Int.ofNat c := by
    rw [← wrapF_eq]
    show (@Bool.rec (fun _ => Int) (IntKind.wrap .i64 (.ofNat c)) (.ofNat c) (Nat.ble c 9223372036854775807)) = _
    rw [Nat.ble_eq_true_of_le (by omega : c ≤ 9223372036854775807)]
  have hcond : ¬ ((decide ((Int.ofNat c) < 0) || decide ((i.bytes : Int) * (Int.ofNat c) > 2 ^ 48) || decide ((Int.ofNat l) < 0) || decide ((Int.ofNat l) > (Int.ofNat c))) = true) := by
    have e1 : (i.bytes : Int) * (Int.ofNat c) = ((i.bytes * c : Nat) : Int) := by simp
    rw [e1]
    simp
    omega
  simp only [Instr.makeSlice, Sem.run_bind, run_und hu, Result.andThen_ok, asInt, hx, hy, asIntOf, Sem.run_pure, hi, wl, wc]
  rw [if_neg hcond]
  simp only [Result.andThen_ok, Sem.run_bind, run_askRoom, run_size hz2]
  simp only [show (Int.ofNat c).toNat = c from rfl, show (Int.ofNat l).toNat = l from rfl]
  by_cases h0 : c * (s + 1) = 0
  · rw [if_pos h0]
    have hc0 : (Array.range (c * (s + 1))).map ((#[] : Array Value)[· % (#[] : Array Value).size]!) = (Array.range (c * (s + 1))).map (u.cells[· % u.cells.size]!) := by simp only [h0]; simp
    simp only [Sem.run_pure, Result.andThen_ok, Sem.run_bind]
    rw [hc0]
    simp [newRow]
  · rw [if_neg h0]
    simp only [Sem.run_pure, Result.andThen_ok, Sem.run_bind, hzu]
    simp [newRow]
end
end Go.AE
