/- What a law is given, opened: slices as rows that are but read. -/
import Derived.Test.YtodlgflkhcknaaaAFRos
import Derived.ChangeSlices
import Derived.WideKeyArgs
import Derived.ChangeOld
namespace Go.AE
set_option linter.unusedVariables false
open Go

theorem list_of {α : Type} {p : Nat → α → Prop} : ∀ (n : Nat), (∀ i, i < n → ∃ a, p i a) → ∃ l : List α, l.length = n ∧ ∀ (i : Nat) a, l[i]? = some a → p i a
  | 0, _ => ⟨[], rfl, fun i a h => by simp at h⟩
  | n + 1, h => by
    obtain ⟨l, hl, hp⟩ := list_of n fun i hi => h i (by omega)
    obtain ⟨a, ha⟩ := h n (by omega)
    refine ⟨l ++ [a], by simp [hl], fun i b hb => ?_⟩
    by_cases e : i < l.length
    · rw [List.getElem?_append_left e] at hb; exact hp i b hb
    · rw [List.getElem?_append_right (by omega)] at hb
      have : i - l.length = 0 := by
        have := (List.getElem?_eq_some_iff.1 hb).1
        simp at this; omega
      rw [this] at hb
      simp at hb
      subst hb
      rw [show i = n from by omega]; exact ha

/-- A slice as an abstract value: nil, or all of the row of that number. -/
def rowAV (id : Nat) (ol : Option Loc) (n esz : Nat) : AV := match ol with
  | none => .nils
  | some _ => .sl id 0 0 n none esz
/-- Where a slice lies. -/
def RowAt (w : World) (v : Value) (ol : Option Loc) (n esz : Nat) : Prop :=
  (ol = none ∧ v = .slice none 0 0 ∧ n = 0) ∨
  ∃ l p c, ol = some l ∧ l.start = 0 ∧ l.block < w.heap.size ∧ v = .slice (some p) n c ∧ n ≤ c ∧ (c ≠ 0 → p = l.at 0) ∧ l.base + c * esz ≤ l.size

theorem RowAt.here {w : World} {v : Value} {l : Loc} {n esz : Nat} (r : RowAt w v (some l) n esz) : l.start = 0 ∧ l.block < w.heap.size := by
  rcases r with ⟨h, _⟩ | ⟨l', p, c, h, h1, h2, _⟩
  · cases h
  · cases h; exact ⟨h1, h2⟩
theorem RowAt.nil {w : World} {v : Value} {n esz : Nat} (r : RowAt w v none n esz) : n = 0 := by
  rcases r with ⟨_, _, h⟩ | ⟨l', p, c, h, _⟩
  · exact h
  · cases h

variable {oq : Unit} [Opq oq]
theorem RowAt.VR {w : World} {v : Value} {ol : Option Loc} {n esz id : Nat} {es : List (List AV × Option Loc)} {cs : List AV} (r : RowAt w v ol n esz) (h : es[id]? = some (cs, ol)) : VR (roEmb es) (rowAV id ol n esz) v := by
  rcases r with ⟨rfl, rfl, rfl⟩ | ⟨l, p, c, rfl, hs, _, rfl, hc, hp, hz⟩
  · exact VR_nils.2 rfl
  · exact VR_sl.2 ⟨l, p, c, roEmb_of h, by rw [hs]; exact Nat.le_refl _, rfl, hc, fun x hx => (by cases hx), hp, by rw [hs]; simpa using hz⟩

section
variable {H : Type} {enc : TypeId × Value → H} {P : Program} {w : World}
/-- The elements that a reading has. -/
def elemsOf : DataW H → List (DataW H)
  | .slice l _ => l
  | _ => []

theorem cells_get {a : Addr} {n : Nat} {cs : List Value} (h : w.cells? 0 a n = some cs) : cs.length = n ∧ ∀ j, j < n → ∃ u, cs[j]? = some u ∧ w.cell? (a.add j) = some u := by
  unfold World.cells? at h
  rw [if_pos (Nat.zero_le _)] at h
  refine ⟨by simpa using mapM_some_length h, fun j hj => ?_⟩
  have := mapM_some_get h j j (by simp [hj])
  have hl : j < cs.length := by have := mapM_some_length h; simp at this; omega
  exact ⟨cs[j], List.getElem?_eq_getElem hl, by rw [this]; exact List.getElem?_eq_getElem hl⟩
theorem cell_lies {a : Addr} {u : Value} (h : w.cell? a = some u) : a.spot = none ∧ a.block < w.heap.size := by
  unfold World.cell? at h
  split at h
  · rename_i c x y hb
    refine ⟨?_, (Array.getElem?_eq_some_iff.1 hb).1⟩
    cases hs : a.spot with
    | none => rfl
    | some s => rw [hs] at h; simp at h
  · cases h
theorem add_at {a : Addr} (hs : a.spot = none) (j : Nat) : a.add j = ⟨a.block, a.off + j, none⟩ := by
  obtain ⟨b, o, s⟩ := a
  have hs : s = none := hs
  subst hs
  unfold Addr.add
  split
  · rename_i h; subst h; rfl
  · rfl

/-- A slice is opened. -/
theorem open_slice {t e : TypeId} {m fuel : Nat} {cs : List Value} {x : DataW H × List MemPlace} (ht : P.underlying t = some (.slice e)) (hm : P.cellsOf e = m) (hm0 : 0 < m) (hsz : ∀ a l c, cs = [.slice (some a) l c] → 0 < w.heap.size)
    (h : DataW.trod enc P w 0 (fun _ => true) true fuel t cs = some x) :
    ∃ v ol n, cs = [v] ∧ RowAt w v ol n m ∧ n ≤ maxLen ∧ (elemsOf x.1).length = n ∧ (∀ l, ol = some l → ∃ rest, x.1 = .slice (elemsOf x.1) rest) ∧ (ol = none → x.1 = .nil) ∧
      ∀ i, i < n → ∃ l cs f y, ol = some l ∧ cs.length = m ∧ (∀ j, j < m → ∃ u, cs[j]? = some u ∧ w.cell? (l.at (i * m + j)) = some u) ∧ (elemsOf x.1)[i]? = some y.1 ∧
        DataW.trod enc P w 0 (fun _ => true) true f e cs = some y := by
  subst hm
  rcases DataW.trod_slice ht h with ⟨rfl, rfl⟩ | ⟨a, len, cap, elems, rest, f, _, rfl, rfl, _, hl, hx, hlen, hel, hsp, _⟩
  · exact ⟨_, none, 0, rfl, .inl ⟨rfl, rfl, rfl⟩, Nat.zero_le _, rfl, fun l h => (by cases h), fun _ => rfl, fun i hi => (by omega)⟩
  · obtain ⟨hrl, hr⟩ := hsp rfl
    have each : ∀ i, i < cap → ∃ y cs, w.cells? 0 (a.add (i * P.cellsOf e)) (P.cellsOf e) = some cs ∧ (i < len → elems[i]? = some y) ∧ DataW.trod enc P w 0 (fun _ => true) true f e cs = some y := fun i hi => by
      have : ∃ y, (w.cells? 0 (a.add (i * P.cellsOf e)) (P.cellsOf e)).bind (DataW.trod enc P w 0 (fun _ => true) true f e) = some y ∧ (i < len → elems[i]? = some y) := by
        by_cases h1 : i < len
        · have : i < elems.length := by omega
          exact ⟨elems[i], by rw [hel i h1]; exact List.getElem?_eq_getElem this, fun _ => List.getElem?_eq_getElem this⟩
        · have h2 : i - len < rest.length := by omega
          refine ⟨rest[i - len], ?_, fun h => absurd h h1⟩
          have := hr (i - len) (by omega)
          rw [show len + (i - len) = i from by omega] at this
          rw [this]; exact List.getElem?_eq_getElem h2
      obtain ⟨y, h1, h2⟩ := this
      obtain ⟨cs, h3, h4⟩ := Option.bind_eq_some_iff.1 h1
      exact ⟨y, cs, h3, h2, h4⟩
    have spot : cap ≠ 0 → a.spot = none ∧ a.block < w.heap.size := fun hc => by
      obtain ⟨y, cs, h1, _⟩ := each 0 (by omega)
      obtain ⟨_, h2⟩ := cells_get h1
      obtain ⟨u, _, h3⟩ := h2 0 hm0
      rw [Nat.zero_mul] at h3
      have e0 : ∀ b : Addr, (b.add 0).add 0 = b := fun b => by simp [Addr.add]
      rw [e0] at h3
      exact cell_lies h3
    refine ⟨_, some (if cap = 0 then ⟨0, 0, 0, 0⟩ else ⟨a.block, 0, a.off, a.off + cap * P.cellsOf e⟩), len, rfl, .inr ⟨_, a, cap, rfl, ?_, ?_, rfl, hl, fun hc => ?_, ?_⟩, by omega, by simp [elemsOf, hlen], fun l _ => ⟨_, rfl⟩, fun h => (by cases h), fun i hi => ?_⟩
    · split <;> rfl
    · split
      · exact hsz _ _ _ rfl
      · rename_i hc; exact (spot hc).2
    · rw [if_neg hc]
      obtain ⟨b, o, s⟩ := a
      have := (spot hc).1
      have : s = none := this
      subst this
      rfl
    · split
      · rename_i hc; subst hc; simp
      · exact Nat.le_refl _
    · have hc : cap ≠ 0 := by omega
      obtain ⟨y, cs, h1, h2, h3⟩ := each i (by omega)
      obtain ⟨h4, h5⟩ := cells_get h1
      refine ⟨_, cs, f, y, rfl, h4, fun j hj => ?_, by simp [elemsOf, h2 hi], h3⟩
      obtain ⟨u, h6, h7⟩ := h5 j hj
      refine ⟨u, h6, ?_⟩
      rw [if_neg hc]
      show w.cell? ⟨a.block, a.off + (i * P.cellsOf e + j - 0), none⟩ = some u
      rw [add_at (spot hc).1] at h7
      rw [add_at (by rfl)] at h7
      rw [← h7, Nat.sub_zero, Nat.add_assoc]

/-- A slice of words is opened. -/
theorem open_words {t e : TypeId} {fuel : Nat} {cs : List Value} {x : DataW H × List MemPlace} (ht : P.underlying t = some (.slice e)) (he : P.underlying e = some (.int .i64)) (hm : P.cellsOf e = 1) (hsz : ∀ a l c, cs = [.slice (some a) l c] → 0 < w.heap.size)
    (h : DataW.trod enc P w 0 (fun _ => true) true fuel t cs = some x) :
    ∃ (v : Value) (ol : Option Loc) (zs : List Int), cs = [v] ∧ RowAt w v ol zs.length 1 ∧ zs.length ≤ maxLen ∧ (elemsOf x.1).length = zs.length ∧ ∀ (j : Nat) z, zs[j]? = some z → (Lit.int .i64 z).wf = true ∧ ∀ l, ol = some l → w.cell? (l.at j) = some (.int .i64 z) := by
  obtain ⟨v, ol, n, rfl, hr, hn, hx, _, _, hel⟩ := open_slice ht hm (by omega) hsz h
  obtain ⟨zs, hz, hp⟩ := list_of (p := fun i z => (Lit.int .i64 z).wf = true ∧ ∀ l, ol = some l → w.cell? (l.at i) = some (.int .i64 z)) n fun i hi => by
    obtain ⟨l, cs, f, y, rfl, hl, hc, _, hy⟩ := hel i hi
    obtain ⟨z, rfl, _, hw⟩ := DataW.trod_int he hy
    obtain ⟨u, hu, hcell⟩ := hc 0 (by omega)
    simp at hu
    subst hu
    refine ⟨z, hw, fun l' hl' => ?_⟩
    cases hl'
    rw [← hcell]; simp
  exact ⟨v, ol, zs, rfl, by rw [hz]; exact hr, by omega, by rw [hx, hz], hp⟩
theorem Still.sameAt {w w' : World} (h : Still w w') {p : MemPlace} (hp : p.block < w.heap.size) : w.sameAt w' p := by
  cases p with
  | cell b off =>
    show w'.cell? ⟨b, off, none⟩ = w.cell? ⟨b, off, none⟩
    unfold World.cell?
    rw [show w'.heap[b]? = w.heap[b]? from h.block b hp]
  | map b => exact h.block b hp

/-- What is given reads behind the call as it did. -/
theorem all_stay {H : Type} {enc : TypeId × Value → H} {P : Program} (hl : laidOutB P = true) {W W' : World} (hk : Still W W') : ∀ {ts : List TypeId} {vs : List Value} {ds : List (DataW H)} {ps : List MemPlace},
    (∀ t ∈ ts, P.readableRec t = true ∧ t < P.types.size) → DataW.TrodAll enc P W 0 (fun _ => true) true ts vs ds ps → DataW.TrodAll enc P W' 0 (fun b => decide (b < W.heap.size)) true ts vs ds ps
  | [], [], [], _, _, h => h
  | t :: ts, _ :: _, _ :: _, _, hT, hA => by
    have hlt := DataW.TrodAll.lt hA
    obtain ⟨p, q, h1, h2, e⟩ := hA
    obtain ⟨hr, hrow⟩ := hT t List.mem_cons_self
    have hp : ∀ x ∈ p, x.block < W.heap.size := fun x hx => hlt x (by rw [e]; exact List.mem_append_left _ hx)
    exact ⟨p, q, WideElems.Trod_stays hl hr hrow h1 (fun x hx => hk.sameAt (hp x hx)) (fun x hx => decide_eq_true (hp x hx)),
      all_stay hl hk (fun t ht => hT t (List.mem_cons_of_mem _ ht)) h2, e⟩

theorem okWide_lies {r : Reach} {b0 : Nat} {t e : TypeId} {v : Value} (ht : P.underlying t = some (.slice e)) (hv : Value.okWide P w r b0 t v) : ∀ a l c, [v] = [.slice (some a) l c] → 0 < w.heap.size := by
  intro a l c h
  cases h
  simp only [Value.okWide, ht, Cell.okWide, Cell.ok, World.has] at hv
  obtain ⟨_, _, _, hs, row, cells, hsh, _⟩ := hv
  unfold World.shape? at hsh
  split at hsh
  · rename_i h1; have := (Array.getElem?_eq_some_iff.1 h1).1; omega
  · cases hsh
end
end Go.AE
