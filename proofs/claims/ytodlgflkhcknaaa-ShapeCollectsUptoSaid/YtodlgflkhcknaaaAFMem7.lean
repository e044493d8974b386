/- Memory: appends, what they come to. -/
import Derived.Test.YtodlgflkhcknaaaAFMem6
namespace Go.AE
set_option linter.unusedVariables false
variable {oq : Unit} [Opq oq]
open Go

theorem allOne_true {φ : Emb} : ∀ {l : List AV} {us : List Value}, VRL φ l us → allOne l = true → ∀ x ∈ us, x.oneCell' = true
  | [], us, h, _, x, hx => by cases (h : us = []); simp at hx
  | y :: l, us, ⟨v, vs, e, hv, hl⟩, h1, x, hx => by
    subst e
    obtain ⟨h2, h3⟩ := ite'_and (show ite' (oneC y) (allOne l) false = true from h1)
    rcases List.mem_cons.1 hx with rfl | hx
    · exact oneC_cell hv h2
    · exact allOne_true hl h3 x hx

theorem stamp_cons (tag j k v : Nat) (l : List (Nat × Nat)) : stampOK tag j ((k, v) :: l) = if k ≤ j then decide (v ≤ tag) else stampOK tag j l := by
  show ite' (Nat.ble k j) (Nat.ble v tag) (stampOK tag j l) = _
  unfold ite'
  cases hb : Nat.ble k j
  · have := ble_not hb; rw [if_neg (by omega)]
  · have := ble_le hb; rw [if_pos this]
    show Nat.ble v tag = _
    rw [Bool.eq_iff_iff, Nat.ble_eq]; simp

theorem stamp_pop (tag j st : Nat) (h : j < st) : ∀ l : List (Nat × Nat), stampOK tag j (popSegs st l) = stampOK tag j l
  | [] => rfl
  | (k, v) :: l => by
    show stampOK tag j (@Bool.rec (fun _ => List (Nat × Nat)) ((k, v) :: l) (popSegs st l) (Nat.ble st k)) = _
    cases hb : Nat.ble st k
    · rfl
    · have := ble_le hb
      rw [stamp_cons, if_neg (by omega)]
      exact stamp_pop tag j st h l

section
variable {φ : Emb} {w : World}

theorem readVe {l : Loc} {cells : T AV} : ∀ (n off : Nat), (∀ j, off ≤ j → j < off + n → ∃ v, cells.get j = some v ∧ CellR φ w l j v) →
    ∃ us : List Value, us.length = n ∧ ∀ (i : Nat) (u : Value), us[i]? = some u → w.cell? (l.at (off + i)) = some u ∧ ∃ v, cells.get (off + i) = some v ∧ VR φ v u
  | 0, off, _ => ⟨[], rfl, fun i u h => by simp at h⟩
  | n + 1, off, h => by
    obtain ⟨v, hv, u, hu, hr⟩ := h off (Nat.le_refl _) (by omega)
    obtain ⟨us, hl, hus⟩ := readVe n (off + 1) fun j h1 h2 => h j (by omega) (by omega)
    refine ⟨u :: us, by simp [hl], fun i x hx => ?_⟩
    cases i with
    | zero => simp at hx; subst hx; exact ⟨hu, v, hv, hr⟩
    | succ i => rw [show off + (i + 1) = off + 1 + i from by omega]; exact hus i x (by simpa using hx)
end

section
variable {φ : Emb} {h : Heap} {w : World} {M : Nat}

/-- A new row that grows out of another one, or out of nothing. -/
theorem newVec_step (hW : WR φ h w) (hF : Fresh φ h.next M) {sz n newCap : Nat} {l : List AV} {us : List Value} {rest : Array Value} {el : TypeId} {k : KH} (hv : VRL φ l us) (hlen : l.length = n * sz) (hle : n ≤ newCap) (hrest : rest.size = (newCap - n) * sz)
    (hk : newVec sz l n h k = true) (hM : ∀ v h', k v h' = true → h'.next ≤ M) :
    ∃ v h' ψ, k v h' = true ∧ VR ψ v (.slice (some ⟨w.heap.size, 0, none⟩) n newCap) ∧
      WR ψ h' { w with heap := w.heap.push (.cells (us.toArray ++ rest) el), drawn := w.drawn + 1 } ∧ Stp φ h.next w ψ h'.next { w with heap := w.heap.push (.cells (us.toArray ++ rest) el), drawn := w.drawn + 1 } := by
  have hk' : k (.sl h.next 0 0 n none sz) (addO h (.ve (T.ofList l 0 .e) (n * sz) 0 0 [])) = true := hk
  have hul := VRL_len hv
  have hsize : (us.toArray ++ rest).size = newCap * sz := by
    rw [Array.size_append, hrest]
    simp only [List.size_toArray]
    rw [← hul, hlen, ← Nat.add_mul]; congr 1; omega
  obtain ⟨ψ, g1, g2, g3⟩ := alloc_step (w' := { w with heap := w.heap.push (.cells (us.toArray ++ rest) el), drawn := w.drawn + 1 }) hW hF (hM _ _ hk') (L := ⟨w.heap.size, 0, 0, (us.toArray ++ rest).size⟩) rfl rfl rfl rfl rfl
    (o := .ve (T.ofList l 0 .e) (n * sz) 0 0 []) fun ψ hs ht => OR_new_ve (rest := rest.toList) (lo := 0) (hi := 0) (.inl rfl) hlen.symm hs us hv (by simp) (push_new rfl) ht
  exact ⟨_, _, ψ, hk', VR_sl.2 ⟨_, _, newCap, g1, Nat.le_refl _, rfl, hle, fun _ h => (by cases h), fun _ => rfl, by rw [hsize]; simp⟩, g2, g3⟩

/-- The new state of a row: which cells it may ask for. -/
theorem ve_next {ψ : Emb} {w' : World} {id ver minv ext st n sz : Nat} {cells : T AV} {segs : List (Nat × Nat)} {new : List AV} {l' : Loc}
    (hO : OR φ w id (.ve cells ext ver minv segs)) (hsub : Sub φ ψ) (hst : st ≤ ext)
    (hlen : new.length = n * sz) (hψ : ∀ t L, ψ id t = some L → (t = ver + 1 ∧ L = l') ∨ φ id t = some L) (hblk : ∀ t L, φ id t = some L → Blk w' L) (hblk' : Blk w' l')
    (hold : ∀ t L j u, φ id t = some L → L.start ≤ j → j < st → w.cell? (L.at j) = some u → w'.cell? (L.at j) = some u)
    (hnew1 : ∀ j, l'.start ≤ j → j < st → ∀ v, cells.get j = some v → CellR ψ w' l' j v)
    (hnew2 : ∀ i v, new[i]? = some v → CellR ψ w' l' (st + i) v) :
    OR ψ w' id (.ve (T.ofList new st cells) (st + n * sz) (ver + 1) minv ((st, ver + 1) :: popSegs st segs)) := by
  obtain ⟨k1, k2, k3, k4, k5⟩ := hO
  have hstp : ∀ t j, stampOK t j ((st, ver + 1) :: popSegs st segs) = if st ≤ j then decide (ver + 1 ≤ t) else stampOK t j segs := fun t j => by
    rw [stamp_cons]
    by_cases hc : st ≤ j
    · rw [if_pos hc, if_pos hc]
    · rw [if_neg hc, if_neg hc, stamp_pop _ _ _ (by omega)]
  refine ⟨by omega, fun j hj => ?_, fun t j j' hjj hs => ?_, fun t j ht => ?_, fun t L hL => ?_⟩
  · rw [get_ofList]
    split
    · exact ⟨new[j - st]'(by omega), List.getElem?_eq_getElem (by omega)⟩
    · exact k2 j (by omega)
  · rw [hstp] at hs ⊢
    by_cases hc : st ≤ j
    · rw [if_pos hc] at hs
      have hs' : ver + 1 ≤ t := by simpa using hs
      by_cases hc' : st ≤ j'
      · rw [if_pos hc']; exact hs
      · rw [if_neg hc']; exact k4 _ _ (by omega)
    · rw [if_neg hc] at hs
      rw [if_neg (by omega)]; exact k3 _ _ _ hjj hs
  · rw [hstp]
    split
    · simpa using ht
    · exact k4 _ _ (by omega)
  · rcases hψ t L hL with ⟨rfl, rfl⟩ | hL'
    · refine ⟨Nat.le_refl _, hblk', fun _ j hj hje _ v hv => ?_⟩
      rw [get_ofList] at hv
      split at hv
      · have := hnew2 (j - st) v hv
        rw [show st + (j - st) = j from by omega] at this
        exact this
      · exact hnew1 j hj (by omega) v hv
    · obtain ⟨h0, _, h5⟩ := k5 t L hL'
      refine ⟨by omega, hblk t L hL', fun hm j hj hje hs v hv => ?_⟩
      rw [hstp] at hs
      by_cases hc : st ≤ j
      · rw [if_pos hc] at hs
        have : ver + 1 ≤ t := by simpa using hs
        omega
      · rw [if_neg hc] at hs
        rw [get_ofList, if_neg (by omega)] at hv
        obtain ⟨u, hu, hr⟩ := h5 hm j hj (by omega) hs v hv
        exact ⟨u, hold t L j u hL' hj (by omega) hu, VR_mono hsub _ _ hr⟩

end
end Go.AE
