/-
  The law VmGives answers true for every depth, every row of words and every place, and leaves what it was given: the given statement VmGivesSaid.
  Conditions: none beside the statement's own.
  Its frame was written after the kit's program (proof-skeleton.mjs); the walk is reckoned by an evaluator, proved sound in the texts AF..., its words left open.
-/
import Derived.Test.YtgenmjjkhggfjaaGreatRows
import Derived.WalkKit
import Derived.ProofKit
import Derived.OpenShut
import Derived.ChangeSlices
import Derived.Test.YtgenmjjkhggfjaaGreatGAll
namespace Go.Proofs.YtgenmjjkhggfjaaGreat.vmGives
open Go.ChangeShapes Go.WideShapes Go.ChangeAt Go.RowKit
set_option linter.unusedVariables false

theorem own : ownKnob Tryz.prog.godebug = none := by kernel_rfl

open Go.AE in
/-- The walk for the row that is nil. -/
theorem walk_nil (d g : Int) (w : World) : Calls Tryz.prog 6 #[.int .i64 d, .slice none 0 0, .int .i64 g] w fun e w' => e = .returned (.bool true) ∧ w.keptBut w' (fun _ => False) := by
  letI : Opq () := gives.opq [] (fun n h => (by cases h)) 1
  exact law_walkO (cs := []) (φ := noEmb) rfl (callM_sound Tryz.checked.mixed gives.eqs_ok (names_of gives.names) gives.ents_ok 400) (lin_callM _ _ 400)
      (fun id t l h => (by cases h)) (none_start rfl w) (show VRL _ [.i .i64 d, .nils, .i .i64 g] [.int .i64 d, .slice none 0 0, .int .i64 g] from ⟨_, _, rfl, rfl, _, _, rfl, rfl, _, _, rfl, rfl, rfl⟩) (gives.nil d g)

open Go.AE in
/-- The walk for a row that is there. -/
theorem walk_row (d g : Int) (b off len cap : Nat) (zs : List Int) (hz : ∀ n ∈ zs, (Lit.int .i64 n).wf = true) (hl : len ≤ cap) (hlen : zs.length = cap) (w : World) (hb : b < w.heap.size)
    (hcell : ∀ i, i < zs.length → w.cell? ⟨b, off + i, none⟩ = some (.int .i64 (zs.getD i 0))) :
    Calls Tryz.prog 6 #[.int .i64 d, .slice (some ⟨b, off, none⟩) len cap, .int .i64 g] w fun e w' => e = .returned (.bool true) ∧ w.keptBut w' (fun _ => False) := by
  letI : Opq () := gives.opq zs hz 1
  have words : ∀ (n j : Nat) (v : AV), (gives.wordsOf n)[j]? = some v → v = .o j ∧ j < n ∧ j < 9 := fun n j v h => by
    match n with
    | 0 | 1 | 2 | 3 | 4 | 5 | 6 | 7 | 8 =>
      simp only [gives.wordsOf] at h
      match j with
      | 0 | 1 | 2 | 3 | 4 | 5 | 6 | 7 => simp at h <;> exact ⟨h.symm, by omega, by omega⟩
      | j + 8 => simp at h
    | n + 9 => simp [gives.wordsOf] at h
  refine law_walkO (cs := gives.wordsOf len) (φ := rowEmb ⟨b, 0, off, off + cap⟩) rfl (callM_sound Tryz.checked.mixed gives.eqs_ok (names_of gives.names) gives.ents_ok 400) (lin_callM _ _ 400)
      (fun id t l h => (rowEmb_inv h).1) (row_start rfl rfl hb fun j v h => ?_) (show VRL _ [.i .i64 d, .sl 0 0 0 len none 1, .i .i64 g] [.int .i64 d, .slice (some ⟨b, off, none⟩) len cap, .int .i64 g] from ⟨_, _, rfl, rfl, _, _, rfl, ?_, _, _, rfl, rfl, rfl⟩) (gives.every len d g)
  · obtain ⟨rfl, hj, hj9⟩ := words len j v h
    refine ⟨.int .i64 (zs.getD j 0), ?_, fun φ => ?_⟩
    · show w.cell? ⟨b, off + (j - 0), none⟩ = _
      rw [Nat.sub_zero]; exact hcell j (by omega)
    · show _ = Value.int .i64 (gives.val zs j)
      unfold gives.val; rw [if_pos (by omega)]
  · exact VR_sl.2 ⟨⟨b, 0, off, off + cap⟩, ⟨b, off, none⟩, cap, rfl, Nat.le_refl _, rfl, hl, fun x hx => (by cases hx), fun _ => rfl, by show off + (0 - 0) + cap * 1 ≤ off + cap; omega⟩

set_option maxRecDepth 100000 in
theorem lifted (os : Os) (started : os.Started) (H : Type) (enc : TypeId × Value → H) :
    ReturnsInHanded {} Tryz.checked os 6 .any (Rows.vmGivesSpec.pre6 enc Tryz.prog Tryz.f6 Rows.vmGivesRow.domain false) (Rows.vmGivesSpec.post enc Tryz.prog Tryz.f6 false true false false) := by
  refine returnsInHanded_of_change (C := Tryz.checked) own started (by kernel_rfl) Tryz.func6
    (ChangeSpec.witness6 (enc := enc) (C := Tryz.checked) false ⟨#[], #[.int .i64 0, .slice none 0 0, .int .i64 0], []⟩ 8 (by kernel_rfl) (by kernel_rfl) (by kernel_rfl) (by kernel_rfl)) ?_
  intro W base args ds gs before hval0 hW hcnd _
  have hval : ∀ (j : Nat) t v, Tryz.f6.params[j]? = some t → args[j]? = some v → Value.okWide Tryz.prog W .any base t v := hval0
  have hW' := hW
  obtain ⟨p, q, hA0, hV, rfl, hfz, hnd⟩ := hW
  have hA : DataW.TrodAll enc Tryz.prog W 0 (fun _ => true) true Tryz.f6.params.toList args.toList ds p := hA0
  rw [Tryz.params6] at hA hval
  obtain ⟨v0, vs0, d0, ds0, p0, q0, hargs, rfl, rfl, h0, r0⟩ := trodAll_cons hA
  obtain ⟨v1, vs1, d1, ds1, p1, q1, rfl, rfl, rfl, h1, r1⟩ := trodAll_cons r0
  obtain ⟨v2, vs2, d2, ds2, p2, q2, rfl, rfl, rfl, h2, r2⟩ := trodAll_cons r1
  obtain ⟨rfl, rfl, rfl⟩ := trodAll_nil r2
  obtain rfl : args = #[v0, v1, v2] := by cases args; simp_all
  obtain ⟨rfl, rfl⟩ := trodVars_none hV
  obtain ⟨a0, rfl, rfl, rfl, w0⟩ := open_int Tryz.underlying3 (hval 0 3 v0 rfl rfl) h0
  obtain ⟨a2, rfl, rfl, rfl, w2⟩ := open_int Tryz.underlying3 (hval 2 3 v2 rfl rfl) h2
  have hv1 := hval 1 52 v1 rfl rfl
  obtain ⟨ad, len, cap, rfl⟩ := okWide_slice Tryz.underlying52 hv1
  obtain ⟨fuel, hf⟩ := h1
  clear hA0 hval0
  simp only [List.append_nil] at hW'
  rcases open_ints Tryz.underlying52 Tryz.underlying53 (by kernel_rfl) hf with ⟨hx1, hx⟩ | ⟨a, len', cap', zs, hcs, _, hl, hm, hzl, hx, hcell, hwz⟩
  · simp only [Prod.mk.injEq] at hx
    obtain ⟨rfl, rfl⟩ := hx
    simp [Value.cells] at hx1
    obtain ⟨rfl, rfl, rfl⟩ := hx1
    refine (walk_nil a0 a2 W).mono fun e W' ⟨he, hg⟩ => ?_
    subst he
    exact ⟨_, rfl, _, _, _, [], [], [], hW', (trodAll_cons_mk (shut_bool Tryz.underlying4 _) trodAll_mk0), (trodAll_cons_mk (shut_int Tryz.underlying3 w0) (trodAll_cons_mk (shut_slice_nil Tryz.underlying52) (trodAll_cons_mk (shut_int Tryz.underlying3 w2) trodAll_mk0))), rfl, World.keptBut_mono (fun _ f => f.elim) hg, fun h => (by cases h)⟩
  · simp [Value.cells] at hcs
    obtain ⟨rfl, rfl, rfl⟩ := hcs
    simp only [Prod.mk.injEq] at hx
    obtain ⟨rfl, rfl⟩ := hx
    simp only [if_true] at hzl
    have hhas : a.spot = none ∧ a.block < W.heap.size := by
      simp only [Value.okWide, Tryz.underlying52, Cell.okWide, Cell.ok, World.has] at hv1
      obtain ⟨_, _, _, hs, row, cells, hsh, _⟩ := hv1
      refine ⟨hs, ?_⟩
      unfold World.shape? at hsh
      split at hsh
      · rename_i h1; exact (Array.getElem?_eq_some_iff.1 h1).1
      · cases hsh
    obtain ⟨b, off, spot⟩ := a
    obtain ⟨hspot, hb⟩ := hhas
    have hspot : spot = none := hspot
    subst hspot
    have hcell' : ∀ j, j < zs.length → W.cell? ⟨b, off + j, none⟩ = some (.int .i64 (zs.getD j 0)) := fun j hj => by rw [← add_plain]; exact hcell j hj
    refine (walk_row a0 a2 b off len cap zs hwz hl hzl W hb hcell').mono fun e W' ⟨he, hg⟩ => ?_
    subst he
    have hcellA : ∀ j, j < zs.length → W'.cell? ⟨b, off + j, none⟩ = some (.int .i64 (zs.getD j 0)) := fun j hj => (World.keptBut.cell hg hb (fun f => f)).trans (hcell' j hj)
    have t1 := shut_ints' (enc := enc) (P := Tryz.prog) (w := W') (base := 0) (spare := fun b => decide (b < W.heap.size)) (held := true) (len := len) (cap := cap) (zs := zs) (b := b) (off := off) 0 Tryz.underlying52 Tryz.underlying53 (by kernel_rfl)
      (Nat.zero_le b) hl hm (by simp [hb, hzl]) hcellA hwz
    have t2 := trodAll_cons_mk (shut_int Tryz.underlying3 w0) (trodAll_cons_mk (⟨2, by simpa [Value.cells] using t1⟩ : DataW.Trod enc Tryz.prog W' 0 (fun b => decide (b < W.heap.size)) true 52 (.slice (some ⟨b, off, none⟩) len cap) _ _) (trodAll_cons_mk (shut_int Tryz.underlying3 w2) trodAll_mk0))
    simp only [List.nil_append, List.append_nil] at t2
    exact ⟨_, rfl, _, _, _, [], MemPlace.row ⟨b, off, none⟩ zs.length, [], hW', (trodAll_cons_mk (shut_bool Tryz.underlying4 _) trodAll_mk0),
      t2,
      rfl, World.keptBut_mono (fun _ f => f.elim) hg, fun h => (by cases h)⟩

theorem over : Rows.vmGivesRow.holds Tryz.pinned (OpenSpec.ofChange Rows.vmGivesSpec) :=
  OpenClaim.holds_of_wide 6 Tryz.f6 rfl rfl rfl rfl rfl rfl rfl ⟨rfl, rfl, rfl, rfl, rfl⟩ rfl rfl rfl rfl rfl (by kernel_rfl) Tryz.func6 (by kernel_rfl)
    (of_decide_eq_true (by kernel_rfl)) (by unfold Func.isWrapper; first | (rw [if_pos (by decide +kernel)]; kernel_rfl) | (rw [if_neg (by decide +kernel)]; exact ⟨rfl, rfl⟩))
    (fun os started H enc _ => lifted os started H enc)

/-- ████ THE STATEMENT ████ -/
theorem proved : Rows.VmGivesSaid :=
  over
#print axioms proved
end Go.Proofs.YtgenmjjkhggfjaaGreat.vmGives
