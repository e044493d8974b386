/-
  The law ShapeCollects answers true for every graph and every number of blocks that nobody holds, where what is given is of bulk at most 1048576, and leaves what it was given: the given statement ShapeCollectsUptoSaid.
  Conditions: the statement's own bound of the bulk, and none beside.
  Its frame was written after the kit's worked proofs; the walk is reckoned by an evaluator over open data, proved sound in the texts AF...
-/
import Derived.Test.YtodlgflkhcknaaaRows
import Derived.Test.YtodlgflkhcknaaaShapeGiven
import Derived.WalkKit
import Derived.ProofKit
import Derived.OpenShut
import Derived.JoinedCond
set_option linter.unusedVariables false
namespace Go.Proofs.Ytodlgflkhcknaaa.shapeCollects
open Go.ChangeShapes Go.WideShapes Go.ChangeAt Go.RowKit
set_option linter.unusedVariables false

theorem own : ownKnob Try.prog.godebug = none := by kernel_rfl
theorem names : (Try.prog.funcs.toList.all fun fn => fn.body.isNone || !(fn.name == "runtime.NumGoroutine")) = true := by kernel_rfl
theorem laidOut : laidOutB Try.prog = true := by kernel_rfl
theorem eqs_no : ∀ t ∈ ([] : List Nat), Go.AE.EqOK Try.prog t := fun t h => by cases h
theorem eqs_ok : ∀ t ∈ [44], Go.AE.EqOK Try.prog t := by
  intro t ht
  have ht : t = 44 := by simpa using ht
  subst ht
  refine ⟨Try.stoodInHeld44, Try.eqGuardType44, fun fs h f hf => ?_⟩
  rw [Try.underlying44] at h
  cases h
  simp at hf
  rcases hf with rfl | rfl <;> decide
theorem knows17 : Go.AE.callF (Go.AE.tabOf (Go.AE.tysOf Try.prog) [44] (Go.AE.funsOf Try.prog)) 20 19 [] Go.AE.noHeap (fun v _ => Go.AE.onB v fun b => b) = true := by kernel_rfl
theorem knows18 : Go.AE.callF (Go.AE.tabOf (Go.AE.tysOf Try.prog) [44] (Go.AE.funsOf Try.prog)) 20 28 [] Go.AE.noHeap (fun v _ => Go.AE.onB v fun b => b) = true := by kernel_rfl

open Go.AE gcc in
theorem ents_ok {oq : Unit} [Opq oq] : ∀ e ∈ es, EntOK Try.prog e := fun e he => by
  have he : e ∈ [(⟨19, [], .b true, [], 0⟩ : Ent), ⟨28, [], .b true, [], 0⟩] := he
  simp only [List.mem_cons, List.not_mem_nil, or_false] at he
  rcases he with rfl | rfl
  · obtain ⟨h1, h2⟩ := quiet_call Try.checked.mixed eqs_ok (names_of names) knows17
    exact quiet_ent h1 h2
  · obtain ⟨h1, h2⟩ := quiet_call Try.checked.mixed eqs_ok (names_of names) knows18
    exact quiet_ent h1 h2

open Go.AE gcc in
/-- The walk. -/
theorem walk {H : Type} {enc : TypeId × Value → H} {v0 : Value} {J : Int} {W : World} {x : DataW H × List MemPlace} {f : Nat} (hsz : ∀ vs, v0.cells.toList.drop 2 = [vs] → ∀ a l c, [vs] = [.slice (some a) l c] → 0 < W.heap.size)
    (h : DataW.trod enc Try.prog W 0 (fun _ => true) true f 47 v0.cells.toList = some x) (hb : Rows.uptoBulk x.1 ≤ 1048576) :
    Calls Try.prog 4 #[v0, .int .i64 J] W fun e w' => e = .returned (.bool true) ∧ Still W w' := by
  obtain ⟨ri, rn, vs, olb, gs, rfl, hr, hg, hw, hl⟩ := open_graph hsz h
  let E : List (List AV × Option AE.Loc) := (gs.flatMap gcells, olb) :: gs.map fun a => (kcs a.1.kids, a.2.1)
  have E0 : E[0]? = some (gs.flatMap gcells, olb) := rfl
  have E1 : ∀ (i : Nat) a, gs[i]? = some a → E[1 + i]? = some (kcs a.1.kids, a.2.1) := fun i a ha => by
    rw [Nat.add_comm]
    show (gs.map fun a => (kcs a.1.kids, a.2.1))[i]? = _
    rw [List.getElem?_map, ha]; rfl
  letI : Opq () := ⟨fun _ => 0, fun _ => by decide, E.length⟩
  have glen : ∀ a : Gb, (gcells a).length = 3 := fun a => rfl
  have klen : ∀ r : Rf, ([AV.b r.1, iv r.2] : List AV).length = 2 := fun r => rfl
  have hW : WR (roEmb E) (roHeap E) W := by
    refine ro_start rfl fun id cs l he => ?_
    match id, he with
    | 0, he =>
      rw [E0] at he; cases he
      refine ⟨hr.here.1, hr.here.2, fun j v hj => ?_⟩
      obtain ⟨i, a, c, rfl, hc, ha, hv⟩ := flat_inv glen hj
      obtain ⟨p1, p2, kv, s, p3, p4, p5, p6, p7⟩ := hg i a ha
      obtain ⟨q0, q1, q2⟩ := p6 _ rfl
      match c, hc with
      | 0, _ => cases hv; exact ⟨_, q0, VR_i.2 rfl⟩
      | 1, _ => cases hv; exact ⟨_, q1, VR_s.2 ⟨s, rfl, p4, p5⟩⟩
      | 2, _ =>
        have hv : some a.2.2 = some v := hv
        cases hv
        refine ⟨_, q2, ?_⟩
        rw [p1]
        exact p3.VR (E1 i a ha)
    | id + 1, he =>
      have he' : (gs.map fun a => (kcs a.1.kids, a.2.1))[id]? = some (cs, some l) := he
      rw [List.getElem?_map] at he'
      obtain ⟨a, ha, hae⟩ := Option.map_eq_some_iff.1 he'
      simp only [Prod.mk.injEq] at hae
      obtain ⟨rfl, hl⟩ := hae
      obtain ⟨p1, p2, kv, s, p3, p4, p5, p6, p7⟩ := hg id a ha
      rw [hl] at p3
      refine ⟨p3.here.1, p3.here.2, fun j v hj => ?_⟩
      obtain ⟨i, r, c, rfl, hc, hrr, hv⟩ := flat_inv klen hj
      obtain ⟨q0, q1⟩ := p7 i r hrr l hl
      match c, hc with
      | 0, _ => cases hv; exact ⟨_, q0, VR_b.2 rfl⟩
      | 1, _ => cases hv; exact ⟨_, q1, VR_i.2 rfl⟩
  have hs : Sc (roHeap E) := fun id o h => (roHeap_get h).1
  have elen : E.length = 1 + gs.length := by simp [E]; omega
  have kids : ∀ (i : Nat) a, gs[i]? = some a → KidsR (roHeap E) E.length a.2.2 a.1.kids := fun i a ha => by
    obtain ⟨p1, p2, kv, s, p3, _⟩ := hg i a ha
    have hi := (List.getElem?_eq_some_iff.1 ha).1
    rw [p1]
    obtain ⟨ol, hol⟩ : ∃ ol, ol = a.2.1 := ⟨_, rfl⟩
    rw [← hol] at p3 ⊢
    have e1 := E1 i a ha
    rw [← hol] at e1
    cases ol with
    | none => exact .inl ⟨List.length_eq_zero_iff.1 p3.nil, rfl⟩
    | some l =>
      refine .inr ⟨1 + i, 0, 0, none, _, rfl, by omega, roHeap_at e1, fun j r hr => ?_⟩
      obtain ⟨k1, k2⟩ := kcs_get hr
      exact ⟨fun k => by rw [Nat.zero_add]; exact ro_read k1 0 k, fun k => by rw [Nat.zero_add]; exact ro_read k2 0 k⟩
  have blks : BlksR (roHeap E) (roHeap E).next (rowAV 0 olb gs.length 3) (gs.map (·.1)) := by
    cases olb with
    | none =>
      have := hr.nil
      have hg0 : gs = [] := List.length_eq_zero_iff.1 this
      exact .inl ⟨by rw [hg0]; rfl, rfl⟩
    | some l =>
      refine .inr ⟨0, 0, 0, none, _, by rw [List.length_map]; rfl, by show 0 < E.length; omega, roHeap_at E0, fun j b hb => ?_⟩
      rw [List.getElem?_map] at hb
      obtain ⟨a, ha, rfl⟩ := Option.map_eq_some_iff.1 hb
      refine ⟨fun k => ?_, fun k => ?_, a.2.2, fun k => ?_, kids j a ha⟩
      · rw [Nat.zero_add]; exact ro_read (flat_get glen ha (c := 0) rfl) 0 k
      · rw [Nat.zero_add]; exact ro_read (flat_get glen ha (c := 1) rfl) 0 k
      · rw [Nat.zero_add]; exact ro_read (flat_get glen ha (c := 2) rfl) 0 k
  obtain ⟨h', hlaw⟩ := lawS (ri := ri) (rn := rn) (J := J) blks hs (fun b hb => by
    obtain ⟨a, ha, rfl⟩ := List.mem_map.1 hb
    obtain ⟨i, hi⟩ := List.getElem?_of_mem ha
    exact (hg i a hi).2.1) (by rw [List.length_map]; omega) (by omega)
  refine law_walkR (φ := roEmb E) (h := roHeap E) (callM_sound Try.checked.mixed eqs_no (names_of names) ents_ok _) (fun id t l hl => by
      obtain ⟨_, cs, he⟩ := roEmb_inv hl
      exact (List.getElem?_eq_some_iff.1 he).1) hW
    (show VRL (roEmb E) [.agg [.b ri, iv rn, rowAV 0 olb gs.length 3], iv J] [.agg #[.bool ri, .int .i64 rn, vs], .int .i64 J] from
      ⟨_, _, rfl, VR_agg.2 ⟨_, rfl, ⟨_, _, rfl, VR_b.2 rfl, _, _, rfl, VR_i.2 rfl, _, _, rfl, hr.VR E0, rfl⟩⟩, _, _, rfl, VR_i.2 rfl, rfl⟩) ⟨h', hlaw⟩

set_option maxRecDepth 100000 in
theorem lifted (os : Os) (started : os.Started) (H : Type) (enc : TypeId × Value → H) (F : Stop.Interp) :
    ReturnsInHanded {} Try.checked os 4 .any ((Rows.OpenSpec.upto Rows.shapeCollectsSpec).pre6 enc Try.prog Try.f4 Rows.shapeCollectsUptoRow.domain false) (((Rows.OpenSpec.upto Rows.shapeCollectsSpec).at F).post enc Try.prog Try.f4 false true false false) := by
  refine returnsInHanded_of_cond (C := Try.checked) (s := Rows.OpenSpec.upto Rows.shapeCollectsSpec) (k := Rows.uptoSmall) rfl own started (by kernel_rfl) Try.func4
    (OpenSpec.witness (enc := enc) (C := Try.checked) (s := Rows.OpenSpec.upto Rows.shapeCollectsSpec) (k := Rows.uptoSmall) rfl false ⟨#[], #[.agg #[.bool false, .int .i64 0, .slice none 0 0], .int .i64 0], []⟩ 8 (by kernel_rfl) (by kernel_rfl) (by kernel_rfl)
      (x := ([.agg [.agg [.lit (.bool false), .lit (.int .i64 0)], .nil], .lit (.int .i64 0)], [], [])) (by kernel_rfl) rfl (by kernel_rfl)) ?_
  intro W base args ds gs before hval0 hW _ hk _
  have hval : ∀ (j : Nat) t v, Try.f4.params[j]? = some t → args[j]? = some v → Value.okWide Try.prog W .any base t v := hval0
  have hW' := hW
  obtain ⟨p, q, hA0, hV, rfl, hfz, hnd⟩ := hW
  have hA : DataW.TrodAll enc Try.prog W 0 (fun _ => true) true Try.f4.params.toList args.toList ds p := hA0
  rw [Try.params4] at hA hval
  have hA' := hA
  obtain ⟨v0, vs0, d0, ds0, p0, q0, hargs, rfl, rfl, h0, r0⟩ := trodAll_cons hA
  obtain ⟨v1, vs1, d1, ds1, p1, q1, rfl, rfl, rfl, h1, r1⟩ := trodAll_cons r0
  obtain ⟨rfl, rfl, rfl⟩ := trodAll_nil r1
  obtain rfl : args = #[v0, v1] := by cases args; simp_all
  obtain ⟨rfl, rfl⟩ := trodVars_none hV
  obtain ⟨a1, rfl, rfl, rfl, w1⟩ := open_int Try.underlying3 (hval 1 3 v1 rfl rfl) h1
  have hv0 := hval 0 47 v0 rfl rfl
  obtain ⟨f0, k0⟩ := h0
  have hbulk : Rows.uptoBulk d0 ≤ 1048576 := by
    have hk2 : Rows.uptoBulkAll ([d0, DataW.lit (.int .i64 a1)] ++ []) ≤ 1048576 := of_decide_eq_true hk
    simp only [List.append_nil, Rows.uptoBulkAll] at hk2
    omega
  refine (walk (J := a1) (x := (d0, p0)) (fun vs hvs a l c hsl => ?_) k0 hbulk).mono fun e W' ⟨he, hg⟩ => ?_
  · have hv := hv0
    simp only [Value.okWide, Try.underlying47] at hv
    obtain ⟨cs, rfl, hsz, ts, hts, _, hrow⟩ := hv
    have ets : Try.prog.cellTypes Try.prog.depth 47 = some [4, 2, 45] := by kernel_rfl
    rw [ets] at hts
    cases hts
    have h3 : cs[2]? = some vs := by
      have h1 : cs.toList.drop 2 = [vs] := hvs
      have h2 : (cs.toList.drop 2)[0]? = some vs := by rw [h1]; rfl
      rw [List.getElem?_drop] at h2
      rw [← Array.getElem?_toList]
      exact h2
    obtain ⟨u, hu, hcell⟩ := hrow 2 vs h3
    have hu : some 45 = some u := hu
    cases hu
    have hv45 : Value.okWide Try.prog W .any base 45 vs := by
      unfold Value.okWide
      rw [Try.underlying45]
      exact hcell
    exact Go.AE.okWide_lies Try.underlying45 hv45 a l c hsl
  · subst he
    have stay := Go.AE.all_stay laidOut hg (fun t ht => by
      simp at ht
      rcases ht with rfl | rfl <;> exact ⟨by kernel_rfl, of_decide_eq_true (by kernel_rfl)⟩) hA'
    exact ⟨_, rfl, _, _, _, [], _, [], hW', (trodAll_cons_mk (shut_bool Try.underlying4 _) trodAll_mk0), stay, rfl, World.keptBut_mono (fun _ f => f.elim) hg.kept, fun h => (by cases h)⟩

theorem over : Rows.shapeCollectsUptoRow.holds Try.pinned (Rows.OpenSpec.upto Rows.shapeCollectsSpec) :=
  OpenClaim.holds_of_cond 4 Try.f4 rfl rfl rfl rfl rfl rfl rfl ⟨rfl, rfl, rfl, rfl, rfl⟩ rfl rfl rfl rfl rfl (by kernel_rfl) Try.func4 (by kernel_rfl)
    (of_decide_eq_true (by kernel_rfl)) (by unfold Func.isWrapper; first | (rw [if_pos (by decide +kernel)]; kernel_rfl) | (rw [if_neg (by decide +kernel)]; exact ⟨rfl, rfl⟩))
    (fun os started H enc _ F => lifted os started H enc F)

/-- ████ THE STATEMENT ████ -/
theorem proved : Rows.ShapeCollectsUptoSaid :=
  over
#print axioms proved
end Go.Proofs.Ytodlgflkhcknaaa.shapeCollects
