/- A graph that is given, opened: its rows are but read. -/
import Derived.Test.YtodlgflkhcknaaaRows
import Derived.Test.YtodlgflkhcknaaaSd
import Derived.Test.YtodlgflkhcknaaaAFGiven
import Derived.ChangeArms
set_option linter.unusedVariables false
namespace Go.Proofs.Ytodlgflkhcknaaa.gcc
open Go Go.AE
set_option linter.unusedVariables false

/- Rows of rows of the same length. -/
theorem flat_get {α β : Type} {f : α → List β} {sz : Nat} (hf : ∀ a, (f a).length = sz) : ∀ {l : List α} {i : Nat} {a : α} {c : Nat} {v : β}, l[i]? = some a → (f a)[c]? = some v → (l.flatMap f)[i * sz + c]? = some v
  | [], i, a, c, v, h, _ => by simp at h
  | x :: l, 0, a, c, v, h, hc => by
    simp at h
    subst h
    rw [List.flatMap_cons, Nat.zero_mul, Nat.zero_add, List.getElem?_append_left (List.getElem?_eq_some_iff.1 hc).1]; exact hc
  | x :: l, i + 1, a, c, v, h, hc => by
    rw [List.flatMap_cons, List.getElem?_append_right (by rw [hf, Nat.add_mul]; omega), hf, Nat.add_mul, show i * sz + 1 * sz + c - sz = i * sz + c from by omega]
    exact flat_get hf (by simpa using h) hc
theorem flat_inv {α β : Type} {f : α → List β} {sz : Nat} (hf : ∀ a, (f a).length = sz) : ∀ {l : List α} {x : Nat} {v : β}, (l.flatMap f)[x]? = some v → ∃ i a c, x = i * sz + c ∧ c < sz ∧ l[i]? = some a ∧ (f a)[c]? = some v
  | [], x, v, h => by simp at h
  | a :: l, x, v, h => by
    rw [List.flatMap_cons] at h
    by_cases e : x < sz
    · rw [List.getElem?_append_left (by rw [hf]; exact e)] at h
      exact ⟨0, a, x, by omega, e, rfl, h⟩
    · rw [List.getElem?_append_right (by rw [hf]; omega), hf] at h
      obtain ⟨i, b, c, h1, h2, h3, h4⟩ := flat_inv hf h
      exact ⟨i + 1, b, c, by rw [Nat.add_mul]; omega, h2, by simpa using h3, h4⟩

theorem nat_lt : ∀ l : List UInt8, natOfBytes l < 256 ^ l.length
  | [] => by decide
  | b :: l => by
    have h1 : natOfBytes (b :: l) = b.toNat + 256 * natOfBytes l := rfl
    have h2 := nat_lt l
    have h3 : b.toNat < 256 := UInt8.toNat_lt b
    rw [h1, List.length_cons, Nat.pow_succ]
    omega

/- The bulk. -/
theorem bulk_one {H : Type} (d : DataW H) : 1 ≤ Rows.uptoBulk d := by
  cases d with
  | lit l => cases l <;> simp [Rows.uptoBulk]
  | nil => simp [Rows.uptoBulk]
  | ptr d => simp [Rows.uptoBulk]
  | slice elems spare => simp [Rows.uptoBulk]
  | agg parts => simp [Rows.uptoBulk]
  | iface t d => simp [Rows.uptoBulk]
  | map entries => simp [Rows.uptoBulk]
  | held h => simp [Rows.uptoBulk]
theorem bulk_len {H : Type} (l : List (DataW H)) : l.length ≤ Rows.uptoBulkAll l := by
  induction l with
  | nil => simp [Rows.uptoBulkAll]
  | cons x r ih => have := bulk_one x; simp only [Rows.uptoBulkAll, List.length_cons]; omega
theorem bulk_elems {H : Type} (d : DataW H) : Rows.uptoBulkAll (elemsOf d) + 1 ≤ Rows.uptoBulk d := by
  cases d with
  | slice elems spare => simp only [elemsOf, Rows.uptoBulk]; omega
  | lit l => cases l <;> simp [elemsOf, Rows.uptoBulk, Rows.uptoBulkAll]
  | nil => simp [elemsOf, Rows.uptoBulk, Rows.uptoBulkAll]
  | ptr d => simp [elemsOf, Rows.uptoBulk, Rows.uptoBulkAll]
  | agg parts => simp [elemsOf, Rows.uptoBulk, Rows.uptoBulkAll]
  | iface t d => simp [elemsOf, Rows.uptoBulk, Rows.uptoBulkAll]
  | map entries => simp [elemsOf, Rows.uptoBulk, Rows.uptoBulkAll]
  | held h => simp [elemsOf, Rows.uptoBulk, Rows.uptoBulkAll]
theorem bulk_words {H : Type} : ∀ {l : List Bl} {ds : List (DataW H)}, l.length = ds.length → (∀ (i : Nat) b d, l[i]? = some b → ds[i]? = some d → 1 + b.sn + b.kids.length ≤ Rows.uptoBulk d ∧ 4 ≤ Rows.uptoBulk d) → wordsB l ≤ Rows.uptoBulkAll ds ∧ 4 * l.length ≤ Rows.uptoBulkAll ds
  | [], [], _, _ => by simp [wordsB]
  | b :: l, d :: ds, hl, h => by
    obtain ⟨h1, h2⟩ := bulk_words (l := l) (ds := ds) (by simpa using hl) fun i b d hb hd => h (i + 1) b d (by simpa using hb) (by simpa using hd)
    obtain ⟨h3, h4⟩ := h 0 b d rfl rfl
    simp only [wordsB, Rows.uptoBulkAll, List.length_cons]
    omega
  | [], d :: ds, hl, _ => by simp at hl
  | b :: l, [], hl, _ => by simp at hl

section
variable {H : Type} {enc : TypeId × Value → H} {W : World}
theorem three {cs : List Value} (h : cs.length = 3) : ∃ a b c, cs = [a, b, c] := by
  match cs, h with
  | [a, b, c], _ => exact ⟨a, b, c, rfl⟩
theorem two {cs : List Value} (h : cs.length = 2) : ∃ a b, cs = [a, b] := by
  match cs, h with
  | [a, b], _ => exact ⟨a, b, rfl⟩

/-- A value of a graph. -/
theorem open_ref {f : Nat} {cs : List Value} {x : DataW H × List MemPlace} (hl : cs.length = 2) (h : DataW.trod enc Try.prog W 0 (fun _ => true) true f 44 cs = some x) : ∃ (b : Bool) (n : Int), cs = [.bool b, .int .i64 n] ∧ (Lit.int .i64 n).wf = true := by
  obtain ⟨u, v, rfl⟩ := two hl
  obtain ⟨y0, y1, n, _, _, h1, h2⟩ := ChangeShapes.trod_struct2 Try.underlying44 h
  have e4 : Try.prog.cellsOf 4 = 1 := by kernel_rfl
  have e2 : Try.prog.cellsOf 2 = 1 := by kernel_rfl
  simp [e4, e2] at h1 h2
  obtain ⟨b, hb, _⟩ := DataW.trod_bool Try.underlying4 h1
  obtain ⟨n, hn, _, hw⟩ := DataW.trod_int Try.underlying2 h2
  cases hb
  cases hn
  exact ⟨b, n, rfl, hw⟩
/-- A row of values. -/
theorem open_kids {f : Nat} {cs : List Value} {x : DataW H × List MemPlace} (hsz : ∀ a l c, cs = [.slice (some a) l c] → 0 < W.heap.size) (h : DataW.trod enc Try.prog W 0 (fun _ => true) true f 86 cs = some x) :
    ∃ (v : Value) (ol : Option AE.Loc) (ks : List Rf), cs = [v] ∧ RowAt W v ol ks.length 2 ∧ ks.length + 1 ≤ Rows.uptoBulk x.1 ∧ ∀ (j : Nat) r, ks[j]? = some r → ∀ l, ol = some l → W.cell? (l.at (j * 2)) = some (.bool r.1) ∧ W.cell? (l.at (j * 2 + 1)) = some (.int .i64 r.2) := by
  obtain ⟨v, ol, n, rfl, hr, hn, hx, _, _, hel⟩ := open_slice (m := 2) Try.underlying86 (by kernel_rfl) (by omega) hsz h
  obtain ⟨ks, hk, hp⟩ := list_of (p := fun i (r : Rf) => ∀ l, ol = some l → W.cell? (l.at (i * 2)) = some (.bool r.1) ∧ W.cell? (l.at (i * 2 + 1)) = some (.int .i64 r.2)) n fun i hi => by
    obtain ⟨l, cs, f, y, rfl, hl, hc, _, hy⟩ := hel i hi
    obtain ⟨b, n, rfl, _⟩ := open_ref hl hy
    obtain ⟨u0, h0, c0⟩ := hc 0 (by omega)
    obtain ⟨u1, h1, c1⟩ := hc 1 (by omega)
    simp at h0 h1
    subst h0
    subst h1
    refine ⟨(b, n), fun l' hl' => ?_⟩
    cases hl'
    exact ⟨by simpa using c0, c1⟩
  refine ⟨v, ol, ks, rfl, by rw [hk]; exact hr, ?_, hp⟩
  have h1 := bulk_len (elemsOf x.1)
  have h2 := bulk_elems x.1
  omega

/-- What is given of a block: its data, where its kids lie, their row. -/
abbrev Gb := Bl × Option AE.Loc × AV
def gcells (a : Gb) : List AV := [iv a.1.tag, .s a.1.sn a.1.sv, a.2.2]
def GbOK (W : World) (olb : Option AE.Loc) (i : Nat) (a : Gb) : Prop :=
  a.2.2 = rowAV (1 + i) a.2.1 a.1.kids.length 2 ∧ a.1.sv < 256 ^ a.1.sn ∧ ∃ (kv : Value) (s : ByteArray), RowAt W kv a.2.1 a.1.kids.length 2 ∧ a.1.sn = s.data.toList.length ∧ a.1.sv = natOfBytes s.data.toList ∧
    (∀ l, olb = some l → W.cell? (l.at (i * 3)) = some (.int .i64 a.1.tag) ∧ W.cell? (l.at (i * 3 + 1)) = some (.string s) ∧ W.cell? (l.at (i * 3 + 2)) = some kv) ∧
    ∀ (j : Nat) r, a.1.kids[j]? = some r → ∀ l, a.2.1 = some l → W.cell? (l.at (j * 2)) = some (.bool r.1) ∧ W.cell? (l.at (j * 2 + 1)) = some (.int .i64 r.2)

theorem open_block {f i : Nat} {cs : List Value} {x : DataW H × List MemPlace} (hl : cs.length = 3) (h : DataW.trod enc Try.prog W 0 (fun _ => true) true f 88 cs = some x) (hsz : 0 < W.heap.size) {olb : Option AE.Loc}
    (hc : ∀ l, olb = some l → ∀ j, j < 3 → ∃ u, cs[j]? = some u ∧ W.cell? (l.at (i * 3 + j)) = some u) : ∃ a : Gb, GbOK W olb i a ∧ 1 + a.1.sn + a.1.kids.length ≤ Rows.uptoBulk x.1 ∧ 4 ≤ Rows.uptoBulk x.1 := by
  obtain ⟨u, v, w, rfl⟩ := three hl
  obtain ⟨xs, n, _, hx, _, hlen, hf⟩ := DataW.trod_struct Try.underlying88 h
  have e3 : Try.prog.cellsOf 3 = 1 := by kernel_rfl
  have e9 : Try.prog.cellsOf 9 = 1 := by kernel_rfl
  have e86 : Try.prog.cellsOf 86 = 1 := by kernel_rfl
  match xs, hlen with
  | [y0, y1, y2], _ =>
    have h0 := hf 0 _ rfl
    have h1 := hf 1 _ rfl
    have h2 := hf 2 _ rfl
    simp [e3, e9, e86] at h0 h1 h2
    obtain ⟨tag, ht, ht2, _⟩ := DataW.trod_int Try.underlying3 h0
    obtain ⟨s, hs, hs2⟩ := DataW.trod_string Try.underlying9 h1
    obtain ⟨kv, ol, ks, hk, hr, hb, hkc⟩ := open_kids (fun _ _ _ _ => hsz) h2
    cases ht
    cases hs
    cases hk
    have hbulk : Rows.uptoBulk x.1 = 1 + (s.data.toList.length + 1) + Rows.uptoBulk y2.1 + 1 := by
      rw [hx]
      have e0 : y0.1 = .lit (.int .i64 tag) := by rw [ht2]
      have e1 : y1.1 = .lit (.string s.data.toList) := by first | rw [hs2] | rw [hs2.1]
      simp only [List.map_cons, List.map_nil, Rows.uptoBulk, Rows.uptoBulkAll, e0, e1]
      omega
    refine ⟨(⟨tag, s.data.toList.length, natOfBytes s.data.toList, ks⟩, ol, rowAV (1 + i) ol ks.length 2), ⟨rfl, nat_lt _, w, s, hr, rfl, rfl, fun l hl => ?_, hkc⟩, ?_, ?_⟩
    · obtain ⟨a0, b0, c0⟩ := hc l hl 0 (by omega)
      obtain ⟨a1, b1, c1⟩ := hc l hl 1 (by omega)
      obtain ⟨a2, b2, c2⟩ := hc l hl 2 (by omega)
      simp at b0 b1 b2
      subst b0
      subst b1
      subst b2
      exact ⟨by simpa using c0, c1, c2⟩
    · simp only; omega
    · have := bulk_one y2.1; omega

/-- A graph. -/
theorem open_graph {f : Nat} {v0 : Value} {x : DataW H × List MemPlace} (hsz : ∀ vs, v0.cells.toList.drop 2 = [vs] → ∀ a l c, [vs] = [.slice (some a) l c] → 0 < W.heap.size) (h : DataW.trod enc Try.prog W 0 (fun _ => true) true f 47 v0.cells.toList = some x) :
    ∃ (ri : Bool) (rn : Int) (vs : Value) (olb : Option AE.Loc) (gs : List Gb), v0 = .agg #[.bool ri, .int .i64 rn, vs] ∧ RowAt W vs olb gs.length 3 ∧ (∀ (i : Nat) a, gs[i]? = some a → GbOK W olb i a) ∧
      wordsB (gs.map (·.1)) ≤ Rows.uptoBulk x.1 ∧ 4 * gs.length ≤ Rows.uptoBulk x.1 := by
  obtain ⟨y0, y1, n, hx, hl, h1, h2⟩ := ChangeShapes.trod_struct2 Try.underlying47 h
  have e44 : Try.prog.cellsOf 44 = 2 := by kernel_rfl
  have e45 : Try.prog.cellsOf 45 = 1 := by kernel_rfl
  have e47 : Try.prog.cellsOf 47 = 3 := by kernel_rfl
  rw [e47] at hl
  obtain ⟨a, b, c, hcs⟩ := three hl
  rw [hcs] at h1 h2
  simp [e44, e45] at h1 h2
  obtain ⟨ri, rn, hab, _⟩ := open_ref rfl h1
  simp at hab
  obtain ⟨rfl, rfl⟩ := hab
  obtain ⟨vs, olb, n', hv, hr, hn, hxl, _, _, hel⟩ := open_slice (m := 3) Try.underlying45 (by kernel_rfl) (by omega) (hsz c (by rw [hcs]; rfl)) h2
  cases hv
  obtain ⟨gs, hg, hp⟩ := list_of (p := fun i (a : Gb) => GbOK W olb i a ∧ ∃ d, (elemsOf y1.1)[i]? = some d ∧ 1 + a.1.sn + a.1.kids.length ≤ Rows.uptoBulk d ∧ 4 ≤ Rows.uptoBulk d) n' fun i hi => by
    obtain ⟨l, cs, f, y, rfl, hl, hc, hd, hy⟩ := hel i hi
    obtain ⟨u, _, hu⟩ := hc 0 (by omega)
    have hz : 0 < W.heap.size := by have := (cell_lies hu).2; omega
    obtain ⟨a, h1, h2, h3⟩ := open_block (i := i) hl hy hz (olb := some l) (fun l' hl' => by cases hl'; exact hc)
    exact ⟨a, h1, _, hd, h2, h3⟩
  have hw := bulk_words (l := gs.map (·.1)) (ds := elemsOf y1.1) (by simp [hxl, hg]) fun i b d hb hd => by
    rw [List.getElem?_map] at hb
    obtain ⟨a, ha, rfl⟩ := Option.map_eq_some_iff.1 hb
    obtain ⟨_, d', hd', h3, h4⟩ := hp i a ha
    rw [hd] at hd'
    cases hd'
    exact ⟨h3, h4⟩
  have hb := bulk_elems y1.1
  have hx1 : Rows.uptoBulk y1.1 ≤ Rows.uptoBulk x.1 := by
    rw [hx]
    simp only [Rows.uptoBulk, Rows.uptoBulkAll]
    omega
  refine ⟨ri, rn, c, olb, gs, ?_, by rw [hg]; exact hr, fun i a ha => (hp i a ha).1, by omega, by have := hw.2; rw [List.length_map] at this; omega⟩
  cases v0 with
  | agg xs =>
    obtain ⟨l⟩ := xs
    have hcs : l = [.bool ri, .int .i64 rn, c] := hcs
    rw [hcs]
  | _ => cases hcs
end
end Go.Proofs.Ytodlgflkhcknaaa.gcc
