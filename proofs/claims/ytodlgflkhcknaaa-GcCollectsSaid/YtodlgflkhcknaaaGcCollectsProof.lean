/-
  The law GcCollects answers true for every heap that is asked for, all blocks and all roots, and leaves what it was given: the given statement GcCollectsSaid.
  Conditions: none beside the statement's own.
  Its frame was written after the kit's worked proofs; the walk is reckoned by an evaluator over open data, proved sound in the texts AF...
-/
import Derived.Test.YtodlgflkhcknaaaRows
import Derived.Test.YtodlgflkhcknaaaGz
import Derived.Test.YtodlgflkhcknaaaAFGiven
import Derived.WalkKit
import Derived.ProofKit
import Derived.OpenShut
namespace Go.Proofs.Ytodlgflkhcknaaa.gcCollects
open Go.ChangeShapes Go.WideShapes Go.ChangeAt Go.RowKit
set_option linter.unusedVariables false

theorem own : ownKnob Try.prog.godebug = none := by kernel_rfl
theorem names : (Try.prog.funcs.toList.all fun fn => fn.body.isNone || !(fn.name == "runtime.NumGoroutine")) = true := by kernel_rfl
theorem laidOut : laidOutB Try.prog = true := by kernel_rfl
theorem knows : Go.AE.callF (Go.AE.tabOf (Go.AE.tysOf Try.prog) [] (Go.AE.funsOf Try.prog)) 20 19 [] Go.AE.noHeap (fun v _ => Go.AE.onB v fun b => b) = true := by kernel_rfl
theorem eqs_ok : ∀ t ∈ ([] : List Nat), Go.AE.EqOK Try.prog t := fun t h => by cases h

open Go.AE gcc in
theorem ents_ok {oq : Unit} [Opq oq] : ∀ e ∈ es, EntOK Try.prog e := fun e he => by
  have he : e ∈ [(⟨19, [], .b true, [], 0⟩ : Ent)] := he
  obtain rfl := List.mem_singleton.1 he
  obtain ⟨h1, h2⟩ := quiet_call Try.checked.mixed eqs_ok (names_of names) knows
  exact quiet_ent h1 h2

open Go.AE gcc in
theorem in_of {z : Int} (h : (Lit.int .i64 z).wf = true) : gcc.In z := by
  have h2 : (decide (IntKind.min .i64 ≤ z) && decide (z ≤ IntKind.max .i64)) = true := h
  have e1 : IntKind.min .i64 = -9223372036854775808 := by decide
  have e2 : IntKind.max .i64 = 9223372036854775807 := by decide
  rw [e1, e2] at h2
  simp at h2
  exact h2

open Go.AE gcc in
theorem row_of {E : List (List AV × Option AE.Loc)} {id : Nat} {ol : Option AE.Loc} {fl : List Int} {w : World} {v : Value} (h : E[id]? = some (fl.map iv, ol)) (r : RowAt w v ol fl.length 1) : RowR (roHeap E) (rowAV id ol fl.length 1) fl := by
  cases ol with
  | none => exact .inl ⟨List.length_eq_zero_iff.1 r.nil, rfl⟩
  | some l => exact .inr ⟨id, 0, 0, none, _, rfl, roHeap_at h, fun j x hj k => by rw [Nat.zero_add]; exact ro_read (by rw [List.getElem?_map, hj]; rfl) 0 k⟩

open Go.AE gcc in
/-- The walk. -/
theorem walk {H : Type} {enc : TypeId × Value → H} {a0 : Int} {v1 v2 v3 : Value} {W : World} {x1 x2 x3 : DataW H × List MemPlace} {f1 f2 f3 : Nat}
    (h1 : DataW.trod enc Try.prog W 0 (fun _ => true) true f1 22 [v1] = some x1) (h2 : DataW.trod enc Try.prog W 0 (fun _ => true) true f2 23 [v2] = some x2) (h3 : DataW.trod enc Try.prog W 0 (fun _ => true) true f3 24 [v3] = some x3)
    (s1 : ∀ a l c, [v1] = [.slice (some a) l c] → 0 < W.heap.size) (s2 : ∀ a l c, [v2] = [.slice (some a) l c] → 0 < W.heap.size) (s3 : ∀ a l c, [v3] = [.slice (some a) l c] → 0 < W.heap.size) :
    Calls Try.prog 3 #[.int .i64 a0, v1, v2, v3] W fun e w' => e = .returned (.bool true) ∧ Still W w' := by
  obtain ⟨_, olt, zt, e1, rt, _, _, ht⟩ := open_words Try.underlying22 Try.underlying3 (by kernel_rfl) s1 h1
  obtain ⟨_, olr, zr, e3, rr, _, _, hr⟩ := open_words Try.underlying24 Try.underlying36 (by kernel_rfl) s3 h3
  obtain ⟨_, olf, n, e2, rf, _, _, _, _, hf⟩ := open_slice (m := 1) Try.underlying23 (by kernel_rfl) (by omega) s2 h2
  cases e1; cases e2; cases e3
  obtain ⟨inn, hn, hi⟩ := list_of (p := fun i (a : AV × Option AE.Loc × List Int) => a.1 = rowAV (3 + i) a.2.1 a.2.2.length 1 ∧ ∃ v, RowAt W v a.2.1 a.2.2.length 1 ∧ (∀ l, olf = some l → W.cell? (l.at i) = some v) ∧
      ∀ (j : Nat) z, a.2.2[j]? = some z → (Lit.int .i64 z).wf = true ∧ ∀ l, a.2.1 = some l → W.cell? (l.at j) = some (.int .i64 z)) n fun i hi => by
    obtain ⟨l, cs, f, y, rfl, hl, hc, _, hy⟩ := hf i hi
    obtain ⟨u, hu, hcell⟩ := hc 0 (by omega)
    have hsz : 0 < W.heap.size := by have := (cell_lies hcell).2; omega
    obtain ⟨v, ol, zs, rfl, r, _, _, hz⟩ := open_words Try.underlying24 Try.underlying36 (by kernel_rfl) (fun _ _ _ _ => hsz) hy
    simp at hu
    subst hu
    refine ⟨(rowAV (3 + i) ol zs.length 1, ol, zs), rfl, v, r, fun l' hl' => ?_, hz⟩
    cases hl'
    rw [← hcell]; simp
  subst hn
  let rows : List AV := inn.map (·.1)
  let E : List (List AV × Option AE.Loc) := [(zt.map iv, olt), (zr.map iv, olr), (rows, olf)] ++ inn.map fun a => (a.2.2.map iv, a.2.1)
  have E0 : E[0]? = some (zt.map iv, olt) := rfl
  have E1 : E[1]? = some (zr.map iv, olr) := rfl
  have E2 : E[2]? = some (rows, olf) := rfl
  have E3 : ∀ (i : Nat) a, inn[i]? = some a → E[3 + i]? = some (a.2.2.map iv, a.2.1) := fun i a ha => by
    show ([(zt.map iv, olt), (zr.map iv, olr), (rows, olf)] ++ inn.map fun a => (a.2.2.map iv, a.2.1))[3 + i]? = _
    rw [List.getElem?_append_right (by simp), show 3 + i - [(zt.map iv, olt), (zr.map iv, olr), (rows, olf)].length = i from by simp, List.getElem?_map, ha]; rfl
  letI : Opq () := ⟨fun _ => 0, fun _ => by decide, E.length⟩
  have words : ∀ {zs : List Int} {ol : Option AE.Loc} {l : AE.Loc}, ol = some l → (∀ (j : Nat) z, zs[j]? = some z → (Lit.int .i64 z).wf = true ∧ ∀ l, ol = some l → W.cell? (l.at j) = some (.int .i64 z)) →
      ∀ (j : Nat) v, (zs.map iv)[j]? = some v → ∃ u, W.cell? (l.at j) = some u ∧ VR (roEmb E) v u := fun hl h j v hj => by
    rw [List.getElem?_map] at hj
    obtain ⟨z, hz, rfl⟩ := Option.map_eq_some_iff.1 hj
    exact ⟨_, (h j z hz).2 _ hl, VR_i.2 rfl⟩
  have hW : WR (roEmb E) (roHeap E) W := by
    refine ro_start rfl fun id cs l he => ?_
    match id, he with
    | 0, he => rw [E0] at he; cases he; exact ⟨rt.here.1, rt.here.2, words rfl ht⟩
    | 1, he => rw [E1] at he; cases he; exact ⟨rr.here.1, rr.here.2, words rfl hr⟩
    | 2, he =>
      rw [E2] at he; cases he
      refine ⟨rf.here.1, rf.here.2, fun j v hj => ?_⟩
      have hj : (inn.map (·.1))[j]? = some v := hj
      rw [List.getElem?_map] at hj
      obtain ⟨a, ha, rfl⟩ := Option.map_eq_some_iff.1 hj
      obtain ⟨g1, u, g2, g3, _⟩ := hi j a ha
      refine ⟨u, g3 _ rfl, ?_⟩
      rw [g1]
      exact g2.VR (E3 j a ha)
    | id + 3, he =>
      have hlt : id < inn.length := by
        have := (List.getElem?_eq_some_iff.1 he).1
        have e : E.length = 3 + inn.length := by simp [E]; omega
        omega
      have ha := List.getElem?_eq_getElem hlt
      have he' := E3 id _ ha
      rw [Nat.add_comm 3 id, he] at he'
      obtain ⟨g1, u, g2, g3, g4⟩ := hi id _ ha
      simp only [Option.some.injEq, Prod.mk.injEq] at he'
      obtain ⟨rfl, hl⟩ := he'
      rw [← hl] at g2
      exact ⟨g2.here.1, g2.here.2, words hl.symm g4⟩
  have Rt : RowR (roHeap E) (rowAV 0 olt zt.length 1) zt := row_of E0 rt
  have Rr : RowR (roHeap E) (rowAV 1 olr zr.length 1) zr := row_of E1 rr
  have Rf : RowsR (roHeap E) (rowAV 2 olf inn.length 1) rows (inn.map (·.2.2)) := by
    refine ⟨by simp [rows], fun j y fl hy hfl => ?_, ?_⟩
    · have hy : (inn.map (·.1))[j]? = some y := hy
      rw [List.getElem?_map] at hy hfl
      obtain ⟨a, ha, rfl⟩ := Option.map_eq_some_iff.1 hy
      rw [ha] at hfl
      cases hfl
      obtain ⟨g1, u, g2, _⟩ := hi j a ha
      rw [g1]
      exact row_of (E3 j a ha) g2
    · cases olf with
      | none =>
        have h0 := rf.nil
        have : inn = [] := List.length_eq_zero_iff.1 h0
        exact .inl ⟨by simp [rows, this], rfl⟩
      | some l =>
        refine .inr ⟨2, 0, 0, none, _, ?_, roHeap_at E2, fun j y hj k => ?_⟩
        · show AV.sl 2 0 0 inn.length none 1 = _
          simp [rows]
        · rw [Nat.zero_add, Nat.mul_one]; exact ro_read hj 0 k
  have hs : Sc (roHeap E) := fun id o h => (roHeap_get h).1
  obtain ⟨h', hlaw⟩ := law (words := a0) hs Rt Rf Rr
    (fun fl hfl y hy => by
      obtain ⟨a, ha, rfl⟩ := List.mem_map.1 hfl
      obtain ⟨i, hai⟩ := List.getElem?_of_mem ha
      obtain ⟨j, hj⟩ := List.getElem?_of_mem hy
      obtain ⟨_, _, _, _, g4⟩ := hi i a hai
      exact in_of (g4 j y hj).1)
    (fun y hy => by
      obtain ⟨j, hj⟩ := List.getElem?_of_mem hy
      exact in_of (hr j y hj).1) 20
  exact law_walkR (φ := roEmb E) (h := roHeap E) (callM_sound Try.checked.mixed eqs_ok (names_of names) ents_ok (20 + 9)) (fun id t l hl => by
      obtain ⟨_, cs, he⟩ := roEmb_inv hl
      exact (List.getElem?_eq_some_iff.1 he).1) hW
    (show VRL (roEmb E) [iv a0, rowAV 0 olt zt.length 1, rowAV 2 olf inn.length 1, rowAV 1 olr zr.length 1] [.int .i64 a0, v1, v2, v3] from
      ⟨_, _, rfl, VR_i.2 rfl, _, _, rfl, rt.VR E0, _, _, rfl, rf.VR E2, _, _, rfl, rr.VR E1, rfl⟩) ⟨h', hlaw⟩

set_option maxRecDepth 100000 in
theorem lifted (os : Os) (started : os.Started) (H : Type) (enc : TypeId × Value → H) :
    ReturnsInHanded {} Try.checked os 3 .any (Rows.gcCollectsSpec.pre6 enc Try.prog Try.f3 Rows.gcCollectsRow.domain false) (Rows.gcCollectsSpec.post enc Try.prog Try.f3 false true false false) := by
  refine returnsInHanded_of_change (C := Try.checked) own started (by kernel_rfl) Try.func3
    (ChangeSpec.witness6 (enc := enc) (C := Try.checked) false ⟨#[], #[.int .i64 0, .slice none 0 0, .slice none 0 0, .slice none 0 0], []⟩ 8 (by kernel_rfl) (by kernel_rfl) (by kernel_rfl) (by kernel_rfl)) ?_
  intro W base args ds gs before hval0 hW hcnd _
  have hval : ∀ (j : Nat) t v, Try.f3.params[j]? = some t → args[j]? = some v → Value.okWide Try.prog W .any base t v := hval0
  have hW' := hW
  obtain ⟨p, q, hA0, hV, rfl, hfz, hnd⟩ := hW
  have hA : DataW.TrodAll enc Try.prog W 0 (fun _ => true) true Try.f3.params.toList args.toList ds p := hA0
  rw [Try.params3] at hA hval
  have hA' := hA
  obtain ⟨v0, vs0, d0, ds0, p0, q0, hargs, rfl, rfl, h0, r0⟩ := trodAll_cons hA
  obtain ⟨v1, vs1, d1, ds1, p1, q1, rfl, rfl, rfl, h1, r1⟩ := trodAll_cons r0
  obtain ⟨v2, vs2, d2, ds2, p2, q2, rfl, rfl, rfl, h2, r2⟩ := trodAll_cons r1
  obtain ⟨v3, vs3, d3, ds3, p3, q3, rfl, rfl, rfl, h3, r3⟩ := trodAll_cons r2
  obtain ⟨rfl, rfl, rfl⟩ := trodAll_nil r3
  obtain rfl : args = #[v0, v1, v2, v3] := by cases args; simp_all
  obtain ⟨rfl, rfl⟩ := trodVars_none hV
  obtain ⟨a0, rfl, rfl, rfl, w0⟩ := open_int Try.underlying3 (hval 0 3 v0 rfl rfl) h0
  have hv1 := hval 1 22 v1 rfl rfl
  have hv2 := hval 2 23 v2 rfl rfl
  have hv3 := hval 3 24 v3 rfl rfl
  obtain ⟨f1, k1⟩ := h1
  obtain ⟨f2, k2⟩ := h2
  obtain ⟨f3, k3⟩ := h3
  have one : ∀ {t e : TypeId} {v : Value}, Try.prog.underlying t = some (.slice e) → Value.okWide Try.prog W .any base t v → v.cells.toList = [v] := fun ht hv => by
    obtain ⟨ad, len, cap, rfl⟩ := okWide_slice ht hv
    rfl
  rw [one Try.underlying22 hv1] at k1
  rw [one Try.underlying23 hv2] at k2
  rw [one Try.underlying24 hv3] at k3
  refine (walk (a0 := a0) k1 k2 k3 (Go.AE.okWide_lies Try.underlying22 hv1) (Go.AE.okWide_lies Try.underlying23 hv2) (Go.AE.okWide_lies Try.underlying24 hv3)).mono fun e W' ⟨he, hg⟩ => ?_
  subst he
  have stay := Go.AE.all_stay laidOut hg (fun t ht => by
    simp at ht
    rcases ht with rfl | rfl | rfl | rfl <;> exact ⟨by kernel_rfl, of_decide_eq_true (by kernel_rfl)⟩) hA'
  exact ⟨_, rfl, _, _, _, [], _, [], hW', (trodAll_cons_mk (shut_bool Try.underlying4 _) trodAll_mk0), stay, rfl, World.keptBut_mono (fun _ f => f.elim) hg.kept, fun h => (by cases h)⟩

theorem over : Rows.gcCollectsRow.holds Try.pinned (OpenSpec.ofChange Rows.gcCollectsSpec) :=
  OpenClaim.holds_of_wide 3 Try.f3 rfl rfl rfl rfl rfl rfl rfl ⟨rfl, rfl, rfl, rfl, rfl⟩ rfl rfl rfl rfl rfl (by kernel_rfl) Try.func3 (by kernel_rfl)
    (of_decide_eq_true (by kernel_rfl)) (by unfold Func.isWrapper; first | (rw [if_pos (by decide +kernel)]; kernel_rfl) | (rw [if_neg (by decide +kernel)]; exact ⟨rfl, rfl⟩))
    (fun os started H enc _ => lifted os started H enc)

/-- ████ THE STATEMENT ████ -/
theorem proved : Rows.GcCollectsSaid :=
  over
#print axioms proved
end Go.Proofs.Ytodlgflkhcknaaa.gcCollects
