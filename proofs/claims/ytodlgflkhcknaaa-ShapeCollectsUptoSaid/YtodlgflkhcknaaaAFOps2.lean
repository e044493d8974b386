/- Operations that look at no memory: what the evaluator says is what the model does. -/
import Derived.Test.YtodlgflkhcknaaaAFOps1
namespace Go.AE
set_option linter.unusedVariables false
variable {oq : Unit} [Opq oq]
open Go

/-- An operation that gives a value and leaves the world. -/
def POut (P : Program) (φ : Emb) (k : KV) (s : Sem Next) : Prop := ∃ v u, VR φ v u ∧ k v = true ∧ ∀ w, s.run P w = .ok (.value u) w

theorem POut.of {P : Program} {φ : Emb} {k : KV} {s : Sem Value} {v : AV} {u : Value} (hv : VR φ v u) (hk : k v = true) (h : ∀ w, s.run P w = .ok u w) :
    POut P φ k (do pure (.value (← s))) := ⟨v, u, hv, hk, fun w => by rw [Sem.run_bind, h w]; rfl⟩

/- Lists of cells. -/
theorem putL_len (z : List AV) : ∀ (vs : List AV) (off : Nat), (putL z vs off).length = z.length := by
  induction z with
  | nil => intro vs off; rfl
  | cons x l ih =>
    intro vs off
    cases off with
    | zero => cases vs with
      | nil => rfl
      | cons v vs => show (v :: putL l vs 0).length = _; simp [ih]
    | succ o => show (x :: putL l vs o).length = _; simp [ih]

theorem putL_get (z : List AV) : ∀ (vs : List AV) (off i : Nat), off + vs.length ≤ z.length → (putL z vs off)[i]? = if off ≤ i ∧ i < off + vs.length then vs[i - off]? else z[i]? := by
  induction z with
  | nil => intro vs off i h; simp only [List.length_nil] at h; rw [if_neg (by omega)]; rfl
  | cons x l ih =>
    intro vs off i h
    cases off with
    | zero => cases vs with
      | nil => rw [if_neg (by simp)]; rfl
      | cons v vs =>
        show (v :: putL l vs 0)[i]? = _
        cases i with
        | zero => simp
        | succ i =>
          rw [List.getElem?_cons_succ, ih vs 0 i (by simp only [List.length_cons] at h; omega)]
          by_cases hc : 0 ≤ i ∧ i < 0 + vs.length
          · rw [if_pos hc, if_pos (by simp only [List.length_cons]; omega)]; simp
          · rw [if_neg hc, if_neg (by simp only [List.length_cons]; omega)]; simp
    | succ o =>
      show (x :: putL l vs o)[i]? = _
      cases i with
      | zero => rw [if_neg (by omega)]; rfl
      | succ i =>
        rw [List.getElem?_cons_succ, ih vs o i (by simp at h; omega)]
        by_cases hc : o ≤ i ∧ i < o + vs.length
        · rw [if_pos hc, if_pos (by omega)]; congr 1; omega
        · rw [if_neg hc, if_neg (by omega)]; simp

theorem takeL_eq (l : List AV) : ∀ n, takeL l n = l.take n := by
  induction l with
  | nil => intro n; cases n <;> rfl
  | cons x l ih => intro n; cases n with
    | zero => rfl
    | succ n => show x :: takeL l n = _; rw [ih]; rfl

theorem dropL_eq (l : List AV) : ∀ n, dropL l n = l.drop n := by
  induction l with
  | nil => intro n; cases n <;> rfl
  | cons x l ih => intro n; cases n with
    | zero => rfl
    | succ n => show dropL l n = _; rw [ih]; rfl

/-- The model's fold that lays cells at a place. -/
theorem layCells (vs : List Value) : ∀ (cs : Array Value) (off j : Nat),
    (((vs.zipIdx j).foldl (fun (cs : Array Value) (x : Value × Nat) => cs.setIfInBounds (off + x.2) x.1) cs).size = cs.size) ∧
    ∀ i, ((vs.zipIdx j).foldl (fun (cs : Array Value) (x : Value × Nat) => cs.setIfInBounds (off + x.2) x.1) cs)[i]? =
      if off + j ≤ i ∧ i < off + j + vs.length ∧ i < cs.size then vs[i - (off + j)]? else cs[i]? := by
  induction vs with
  | nil => intro cs off j; exact ⟨rfl, fun i => by rw [if_neg (by simp; omega)]; rfl⟩
  | cons v vs ih =>
    intro cs off j
    rw [List.zipIdx_cons, List.foldl_cons]
    obtain ⟨h1, h2⟩ := ih (cs.setIfInBounds (off + j) v) off (j + 1)
    refine ⟨by rw [h1]; simp, fun i => ?_⟩
    rw [h2]
    simp only [Array.size_setIfInBounds, List.length_cons]
    by_cases hc : off + (j + 1) ≤ i ∧ i < off + (j + 1) + vs.length ∧ i < cs.size
    · rw [if_pos hc, if_pos (by omega)]
      obtain ⟨m, rfl⟩ : ∃ m, i = off + j + 1 + m := ⟨i - (off + j + 1), by omega⟩
      rw [show off + j + 1 + m - (off + (j + 1)) = m from by omega, show off + j + 1 + m - (off + j) = m + 1 from by omega, List.getElem?_cons_succ]
    · rw [if_neg hc]
      by_cases e : i = off + j
      · subst e
        by_cases hs : off + j < cs.size
        · rw [if_pos (by omega), Array.getElem?_setIfInBounds_self_of_lt hs]; simp
        · rw [if_neg (by omega)]
          rw [Array.getElem?_eq_none (by simp; omega), Array.getElem?_eq_none (by omega)]
      · rw [if_neg (by omega), Array.getElem?_setIfInBounds_ne (by omega)]

theorem fill_step {φ : Emb} {z vs : List AV} {cells : Array Value} {ws : List Value} {off : Nat} (hz : VRL φ z cells.toList) (hv : VRL φ vs ws) (hle : off + vs.length ≤ z.length) :
    VRL φ (putL z vs off) ((ws.zipIdx).foldl (fun (cs : Array Value) (x : Value × Nat) => cs.setIfInBounds (off + x.2) x.1) cells).toList := by
  obtain ⟨h1, h2⟩ := layCells ws cells off 0
  have l1 := VRL_len hz
  have l2 := VRL_len hv
  simp at l1
  refine VRL_of_get ?_ fun i a v ha hv' => ?_
  · rw [putL_len, l1]; simpa using h1.symm
  · rw [putL_get _ _ _ _ hle] at ha
    rw [Array.getElem?_toList, h2] at hv'
    by_cases hc : off ≤ i ∧ i < off + vs.length
    · rw [if_pos hc] at ha
      rw [if_pos (by omega)] at hv'
      obtain ⟨u, hu, hr⟩ := VRL_get hv _ _ ha
      rw [show i - (off + 0) = i - off from rfl, hu] at hv'
      cases hv'; exact hr
    · rw [if_neg hc] at ha
      rw [if_neg (by omega)] at hv'
      obtain ⟨u, hu, hr⟩ := VRL_get hz _ _ ha
      rw [Array.getElem?_toList, hv'] at hu
      cases hu; exact hr

section
variable {P : Program} {X : CX} {φ : Emb} {e : Env} {a : Act}

theorem fill_sound (hE : ER X φ e a) (place : Nat → Option (Nat × Nat)) :
    ∀ (parts : List (Nat × Operand)) (ps : List (Nat × Nat × Opd)) (z : List AV) (cells : Array Value) (k : List AV → Bool),
      ps.length = parts.length → (∀ (i : Nat) (p : Nat × Operand) (q : Nat × Nat × Opd), parts[i]? = some p → ps[i]? = some q → place p.1 = some (q.1, q.2.1) ∧ q.2.2 = cOpd X p.2) →
      VRL φ z cells.toList → fillK ps e z k = true →
      ∃ l out, Instr.fill place cells (parts.map fun p => (p.1, a.eval p.2)) = some out ∧ VRL φ l out.toList ∧ l.length = z.length ∧ k l = true
  | [], [], z, cells, k, _, _, hz, h => ⟨z, cells, rfl, hz, rfl, h⟩
  | [], _ :: _, _, _, _, hl, _, _, _ => by simp at hl
  | _ :: _, [], _, _, _, hl, _, _, _ => by simp at hl
  | (i, x) :: parts, (off, sz, o) :: ps, z, cells, k, hl, hp, hz, h => by
    obtain ⟨hpl, ho⟩ := hp 0 _ _ rfl rfl
    simp only at hpl ho
    subst ho
    obtain ⟨v, hv, h1⟩ := ev_sound hE (show ev (cOpd X x) e (fun v => ite' (Nat.beq (lenL (cellsOf v) 0) sz) (ite' (Nat.ble (Nat.add off sz) (lenL z 0)) (fillK ps e (putL z (cellsOf v) off) k) false) false) = true from h)
    obtain ⟨hs, h2⟩ := ite'_and h1
    obtain ⟨hb, h3⟩ := ite'_and h2
    have hs' := beq_eq hs
    have hb' : off + sz ≤ lenL z 0 := ble_le hb
    rw [lenL_eq] at hs' hb'
    have hcv := cells_VR hv
    have hlen := VRL_len hcv
    have hlz := VRL_len hz
    simp only [Array.length_toList] at hlen hlz
    obtain ⟨l, out, hf, hr, hlen', hk⟩ := fill_sound hE place parts ps (putL z (cellsOf v) off) _ k (by simpa using hl)
      (fun j p q hj hq => hp (j + 1) p q (by simpa using hj) (by simpa using hq)) (fill_step hz hcv (by omega)) h3
    refine ⟨l, out, ?_, hr, by rw [hlen', putL_len], hk⟩
    simp only [List.map_cons, Instr.fill, hpl]
    rw [if_neg (by simp; omega)]
    rw [← hf]
    simp only [← Array.foldl_toList, Array.toList_zipIdx]

theorem part_sound {cs : List AV} {arr : Array Value} (hc : VRL φ cs arr.toList) {t off sz : Nat} {g : Bool} {k : KV} (hs : sizeT (tysOf P) t = some sz) (hg : aggT (tysOf P) t = some g)
    (h : partK cs off sz g k = true) : ∃ v u, VR φ v u ∧ k v = true ∧ ∀ w, (part t arr off).run P w = .ok u w := by
  have hlen := VRL_len hc
  simp only [Array.length_toList] at hlen
  cases g with
  | false =>
    obtain ⟨v, hv, hk⟩ := nthK_true (show nthK cs off k = true from h)
    obtain ⟨u, hu, hr⟩ := VRL_get hc _ _ hv
    rw [Array.getElem?_toList] at hu
    refine ⟨v, u, hr, hk, fun w => ?_⟩
    unfold part
    simp [run_agg hg, hu]
  | true =>
    obtain ⟨hb, hk⟩ := ite'_and (show ite' (Nat.ble (Nat.add off sz) (lenL cs 0)) (k (.agg (takeL (dropL cs off) sz))) false = true from h)
    have hb' : off + sz ≤ lenL cs 0 := ble_le hb
    rw [lenL_eq] at hb'
    refine ⟨_, .agg (arr.extract off (off + sz)), VR_agg.2 ⟨_, rfl, ?_⟩, hk, fun w => ?_⟩
    · rw [takeL_eq, dropL_eq]
      refine VRL_of_get (by simp; omega) fun i x y hx hy => ?_
      rw [Array.getElem?_toList, Array.getElem?_extract] at hy
      rw [List.getElem?_take, List.getElem?_drop] at hx
      split at hx
      · split at hy
        · obtain ⟨u, hu, hr⟩ := VRL_get hc _ _ hx
          rw [Array.getElem?_toList, hy] at hu
          cases hu; exact hr
        · cases hy
      · cases hx
    · unfold part
      simp [run_agg hg, run_size hs]

theorem places_spec {fields : Array Field} : ∀ {parts : List (Nat × Operand)} {ps : List (Nat × Nat × Opd)}, places X fields parts = some ps → ps.length = parts.length ∧
    ∀ (i : Nat) (p : Nat × Operand) (q : Nat × Nat × Opd), parts[i]? = some p → ps[i]? = some q → (∃ f, fields[p.1]? = some f ∧ f.offset = q.1 ∧ sizeT X.ty f.type = some q.2.1) ∧ q.2.2 = cOpd X p.2
  | [], ps, h => by cases h; exact ⟨rfl, fun i p q hp => by simp at hp⟩
  | (j, x) :: parts, ps, h => by
    unfold places at h
    split at h
    · rename_i f r hf hr
      split at h
      · rename_i s hs
        cases h
        obtain ⟨h1, h2⟩ := places_spec hr
        refine ⟨by simp [h1], fun i p q hp hq => ?_⟩
        cases i with
        | zero => simp at hp hq; subst hp; subst hq; exact ⟨⟨f, hf, rfl, hs⟩, rfl⟩
        | succ i => exact h2 i p q (by simpa using hp) (by simpa using hq)
      · cases h
    · cases h

theorem placesA_spec {size : Nat} : ∀ {parts : List (Nat × Operand)}, (placesA X size parts).length = parts.length ∧
    ∀ (i : Nat) (p : Nat × Operand) (q : Nat × Nat × Opd), parts[i]? = some p → (placesA X size parts)[i]? = some q → q.1 = p.1 * size ∧ q.2.1 = size ∧ q.2.2 = cOpd X p.2
  | [] => ⟨rfl, fun i p q hp => by simp at hp⟩
  | (j, x) :: parts => by
    obtain ⟨h1, h2⟩ := placesA_spec (size := size) (parts := parts)
    refine ⟨by simp [placesA, h1], fun i p q hp hq => ?_⟩
    cases i with
    | zero => simp [placesA] at hp hq; subst hp; subst hq; exact ⟨rfl, rfl, rfl⟩
    | succ i => exact h2 i p q (by simpa using hp) (by simpa [placesA] using hq)

theorem fieldsKnown_size : ∀ {l : List Field}, fieldsKnown (tysOf P) l = true → ∀ f ∈ l, ∃ s, sizeT (tysOf P) f.type = some s
  | [], _, f, hf => by simp at hf
  | g :: l, h, f, hf => by
    unfold fieldsKnown at h
    split at h
    · rename_i s hs
      rcases List.mem_cons.1 hf with rfl | hf
      · exact ⟨s, hs⟩
      · exact fieldsKnown_size h f hf
    · cases h

theorem mapM_places {fs : List Field} (h : ∀ f ∈ fs, ∃ s, sizeT (tysOf P) f.type = some s) (w : World) :
    (fs.mapM fun f => (do pure (f.offset, ← sizeOf f.type) : Sem (Nat × Nat))).run P w = .ok (fs.map fun f => (f.offset, (sizeT (tysOf P) f.type).getD 0)) w := by
  induction fs with
  | nil => rfl
  | cons f fs ih =>
    obtain ⟨s, hs⟩ := h f (List.mem_cons_self ..)
    rw [List.mapM_cons]
    simp only [Sem.run_bind, run_size hs, Result.andThen_ok, Sem.run_pure, ih fun g hg => h g (List.mem_cons_of_mem _ hg), List.map_cons, hs, Option.getD_some]

theorem build_sound (hY : X.ty = tysOf P) (hE : ER X φ e a) {t : TypeId} {parts : Array (Nat × Operand)} {p : POp} {k : KV} (h : cBuild X t parts.toList = some (.pu p)) (hr : runP p e k = true) :
    POut P φ k (do pure (.value (← Instr.build t (parts.map fun (i, x) => (i, a.eval x))))) := by
  unfold cBuild at h
  have hmap : (parts.map fun (i, x) => (i, a.eval x)).toList = parts.toList.map fun p => (p.1, a.eval p.2) := by simp
  split at h
  · rename_i fs z hu hz
    rw [hY] at hu hz
    split at h
    · rename_i ps hk hp
      cases h
      rw [hY] at hk
      obtain ⟨u, hzu, hzr⟩ := run_zero hz φ
      obtain ⟨h1, h2⟩ := places_spec hp
      have hkn := fieldsKnown_size hk
      obtain ⟨l, out, hf, hl, _, hkk⟩ := fill_sound (a := a) hE (fun i => (fs.toList.map fun f => (f.offset, (sizeT (tysOf P) f.type).getD 0))[i]?) parts.toList ps (cellsOf z) u.cells (fun l => k (.agg l)) h1
        (fun i p q hp hq => by
          obtain ⟨⟨f, hf, ho, hs⟩, hc⟩ := h2 i p q hp hq
          rw [hY] at hs
          refine ⟨?_, hc⟩
          simp only [List.getElem?_map, Array.getElem?_toList, hf, Option.map_some, hs, Option.getD_some, ho])
        (cells_VR hzr) hr
      refine POut.of (v := .agg l) (u := .agg out) (VR_agg.2 ⟨_, rfl, hl⟩) hkk fun w => ?_
      unfold Instr.build
      have hm : (fs.mapM fun f => (do pure (f.offset, ← sizeOf f.type) : Sem (Nat × Nat))).run P w = .ok (fs.map fun f => (f.offset, (sizeT (tysOf P) f.type).getD 0)) w := by
        rw [Array.mapM_eq_mapM_toList, Sem.run_map, mapM_places hkn, Result.andThen_ok]; congr 1; apply Array.ext'; simp
      have hpl : ∀ i : Nat, (fs.map fun f => (f.offset, (sizeT (tysOf P) f.type).getD 0))[i]? = (fs.toList.map fun f => (f.offset, (sizeT (tysOf P) f.type).getD 0))[i]? := fun i => by simp
      simp only [Sem.run_bind, hzu, Result.andThen_ok, run_und hu, hm, hmap, hpl, hf, Sem.run_pure]
    · cases h
  · rename_i n el z hu hz
    rw [hY] at hu hz
    split at h
    · rename_i s hs
      cases h
      rw [hY] at hs
      obtain ⟨u, hzu, hzr⟩ := run_zero hz φ
      obtain ⟨h1, h2⟩ := placesA_spec (X := X) (size := s) (parts := parts.toList)
      obtain ⟨l, out, hf, hl, _, hkk⟩ := fill_sound (a := a) hE (fun i => some (i * s, s)) parts.toList _ (cellsOf z) u.cells (fun l => k (.agg l)) h1
        (fun i p q hp hq => by obtain ⟨q1, q2, q3⟩ := h2 i p q hp hq; exact ⟨by rw [q1, q2], q3⟩) (cells_VR hzr) hr
      refine POut.of (v := .agg l) (u := .agg out) (VR_agg.2 ⟨_, rfl, hl⟩) hkk fun w => ?_
      unfold Instr.build
      simp only [Sem.run_bind, hzu, Result.andThen_ok, run_und hu, run_size hs, hmap, hf, Sem.run_pure]
    · cases h
  · cases h
end

end Go.AE
