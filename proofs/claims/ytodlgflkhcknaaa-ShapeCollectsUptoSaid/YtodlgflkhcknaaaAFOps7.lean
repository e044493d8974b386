/- Slices of slices and of strings; all operations that look at no memory, together. -/
import Derived.Test.YtodlgflkhcknaaaAFOps6
namespace Go.AE
set_option linter.unusedVariables false
variable {oq : Unit} [Opq oq]
open Go

section
variable {P : Program} {X : CX} {φ : Emb} {e : Env} {a : Act}

theorem sliceBound_run {v : Value} {kd : IntKind} {n y : Nat} {c : BoundsCode} (hv : v = .int kd (Int.ofNat n)) (h : n ≤ y) (w : World) : (Instr.sliceBound v y c).run P w = .ok n w := by
  subst hv
  have hc : (0 : Int) ≤ (Int.ofNat n) ∧ (Int.ofNat n) ≤ (y : Int) := ⟨by simp, by simpa using h⟩
  simp only [Instr.sliceBound, asIntOf, Sem.run_bind, Sem.run_pure, Result.andThen_ok, if_pos hc]
  rfl

/-- What bounds say: none, or a number. -/
def BndIs (a : Act) (o : Option Operand) (d n : Nat) : Prop := (o = none ∧ n = d) ∨ ∃ x kd, o = some x ∧ a.eval x = .int kd (Int.ofNat n)

theorem sliceBounds_run {b : Bool} {len cap l h : Nat} {lo hi : Option Operand} (hl : BndIs a lo 0 l) (hh : BndIs a hi len h) (h1 : l ≤ h) (h2 : h ≤ cap) (w : World) :
    (Instr.sliceBounds b len cap (lo.map a.eval) (hi.map a.eval) none).run P w = .ok (l, h, cap) w := by
  unfold Instr.sliceBounds
  rcases hl with ⟨rfl, rfl⟩ | ⟨x, kd, rfl, hx⟩ <;> rcases hh with ⟨rfl, rfl⟩ | ⟨y, kd', rfl, hy⟩
  · simp
  · simp [sliceBound_run hy h2]
  · simp [sliceBound_run hx h1]
  · simp [sliceBound_run hy h2, sliceBound_run hx h1]

theorem sliceBounds_max {b : Bool} {len cap l h m : Nat} {lo : Option Operand} {y z : Operand} {kd kd' : IntKind} (hl : BndIs a lo 0 l) (hy : a.eval y = .int kd (Int.ofNat h)) (hz : a.eval z = .int kd' (Int.ofNat m)) (h1 : l ≤ h) (h2 : h ≤ m) (h3 : m ≤ cap) (w : World) :
    (Instr.sliceBounds b len cap (lo.map a.eval) (some (a.eval y)) (some (a.eval z))).run P w = .ok (l, h, m) w := by
  unfold Instr.sliceBounds
  rcases hl with ⟨rfl, rfl⟩ | ⟨x, kd, rfl, hx⟩
  · simp [sliceBound_run hy h2, sliceBound_run hz h3]
  · simp [sliceBound_run hy h2, sliceBound_run hz h3, sliceBound_run hx h1]

theorem bnd_is (hE : ER X φ e a) {o : Option Operand} {d : Nat} {k : Nat → Bool} (h : bnd (o.map (cOpd X)) d e k = true) : ∃ n, k n = true ∧ BndIs a o d n := bnd_sound hE h

theorem slice_VR {id tag off c l h m esz sz : Nat} {L : Loc} {p : Addr} (hL : φ id tag = some L) (hle : L.start ≤ off) (hp : c ≠ 0 → p = L.at off) (hr : L.base + (off - L.start) + c * esz ≤ L.size) (he : esz = sz)
    (h1 : l ≤ h) (h2 : h ≤ m) (h3 : m ≤ c) {cp : Option Nat} (hcp : ∀ x, cp = some x → m - l = x) :
    VR φ (.sl id tag (off + l * sz) (h - l) cp sz) (.slice (if m = l then some p else (some p).map (·.add (l * sz))) (h - l) (m - l)) := by
  subst he
  refine VR_sl.2 ⟨L, if m = l then p else p.add (l * esz), m - l, hL, Nat.le_trans hle (Nat.le_add_right ..), ?_, by omega, hcp, fun hne => ?_, ?_⟩
  · split <;> rfl
  · rw [if_neg (by omega), hp (by omega), L.at_add hle]
  · have e1 : l * esz + (m - l) * esz = m * esz := by rw [← Nat.add_mul]; congr 1; omega
    have e2 : m * esz ≤ c * esz := Nat.mul_le_mul_right _ h3
    omega

theorem s_slc (hY : X.ty = tysOf P) {t el : TypeId} {x : Operand} {lo hi mx : Option Operand} {s : Nat} {k : KV} (hE : ER X φ e a) (hu : undT X.ty t = some (.slice el)) (hs : sizeT X.ty el = some s)
    (hhi : mx ≠ none → hi ≠ none) (h : pSlc s (cOpd X x) (lo.map (cOpd X)) (hi.map (cOpd X)) (mx.map (cOpd X)) e k = true) :
    POut P φ k (do pure (.value (← Instr.sliceAt t (a.eval x) (lo.map a.eval) (hi.map a.eval) (mx.map a.eval)))) := by
  rw [hY] at hu hs
  have hat : ∀ w, (Instr.sliceAt t (a.eval x) (lo.map a.eval) (hi.map a.eval) (mx.map a.eval)).run P w = (Instr.slice t (a.eval x) (lo.map a.eval) (hi.map a.eval) (mx.map a.eval)).run P w := fun w => by
    simp only [Instr.sliceAt, Sem.run_bind, run_und hu, Result.andThen_ok]
  obtain ⟨v, hv, h1⟩ := ev_sound hE h
  rcases onSl_true h1 with ⟨rfl, h2⟩ | ⟨id, tag, off, len, cap, esz, rfl, h2⟩
  · have hx := VR_nils.1 hv
    obtain ⟨l, h3, hl⟩ := bnd_is hE h2
    obtain ⟨hh, h4, hhh⟩ := bnd_is hE h3
    obtain ⟨m, h5, hm⟩ := bnd_is hE h4
    obtain ⟨hz, hk⟩ := ite'_and h5
    have hz' : l + (hh + m) = 0 := beq_eq hz
    obtain rfl : l = 0 := by omega
    obtain rfl : hh = 0 := by omega
    obtain rfl : m = 0 := by omega
    refine POut.of (v := .nils) (u := .slice none 0 0) (VR_nils.2 rfl) hk fun w => ?_
    rw [hat, hx]
    rcases hm with ⟨rfl, _⟩ | ⟨z, kd, rfl, hz⟩
    · simp only [Instr.slice, Sem.run_bind, run_und hu, Result.andThen_ok, Option.map_none, sliceBounds_run hl hhh (Nat.le_refl 0) (Nat.le_refl 0), run_size hs, Sem.run_pure]
      rfl
    · rcases hhh with ⟨rfl, _⟩ | ⟨y, kd', rfl, hy⟩
      · exact absurd rfl (hhi (by simp))
      · simp only [Instr.slice, Sem.run_bind, run_und hu, Result.andThen_ok, Option.map_some, sliceBounds_max hl hy hz (Nat.le_refl 0) (Nat.le_refl 0) (Nat.le_refl 0), run_size hs, Sem.run_pure]
        rfl
  · obtain ⟨L, p, c, hL, hle, hx, hlc, hcap, hp, hr⟩ := VR_sl.1 hv
    obtain ⟨l, h3, hl⟩ := bnd_is hE h2
    obtain ⟨hh, h4, hhh⟩ := bnd_is hE h3
    obtain ⟨he, h5⟩ := ite'_and h4
    obtain ⟨hlh, h6⟩ := ite'_and h5
    have he' := beq_eq he
    have hlh' := ble_le hlh
    cases mx with
    | none =>
      have h7 : slcCap s id tag off l hh len cap k = true := h6
      obtain ⟨hhc, cp, hcp, hk⟩ : hh ≤ c ∧ ∃ cp, (∀ x, cp = some x → c - l = x) ∧ k (.sl id tag (off + l * s) (hh - l) cp s) = true := by
        cases cap with
        | none =>
          obtain ⟨hb, hk⟩ := ite'_and (show ite' (Nat.ble hh len) (k (.sl id tag (off + l * s) (hh - l) none s)) false = true from h7)
          exact ⟨Nat.le_trans (ble_le hb) hlc, none, (fun _ h => by cases h), hk⟩
        | some c0 =>
          obtain ⟨hb, hk⟩ := ite'_and (show ite' (Nat.ble hh c0) (k (.sl id tag (off + l * s) (hh - l) (some (c0 - l)) s)) false = true from h7)
          have := hcap c0 rfl; subst this
          exact ⟨ble_le hb, some (c - l), (fun _ h => Option.some.inj h), hk⟩
      refine POut.of (slice_VR hL hle hp hr he' hlh' hhc (Nat.le_refl c) hcp) hk fun w => ?_
      rw [hat, hx]
      simp only [Instr.slice, Sem.run_bind, run_und hu, Result.andThen_ok, Option.map_none, sliceBounds_run hl hhh hlh' hhc, run_size hs, Sem.run_pure]
    | some z =>
      obtain ⟨kd, m, hz, h7⟩ := evN_sound hE (show evN (cOpd X z) e (slcMax s id tag off l hh (@Option.rec Nat (fun _ => Nat) len (fun c => c) cap) k) = true from h6)
      obtain ⟨hb1, h8⟩ := ite'_and (show ite' (Nat.ble hh m) (ite' (Nat.ble m (@Option.rec Nat (fun _ => Nat) len (fun c => c) cap)) (k (.sl id tag (off + l * s) (hh - l) (some (m - l)) s)) false) false = true from h7)
      obtain ⟨hb2, hk⟩ := ite'_and h8
      have hmc : m ≤ c := by
        cases cap with
        | none => exact Nat.le_trans (ble_le hb2) hlc
        | some c0 => have := hcap c0 rfl; subst this; exact ble_le hb2
      rcases hhh with ⟨rfl, _⟩ | ⟨y, kd', rfl, hy⟩
      · exact absurd rfl (hhi (by simp))
      · refine POut.of (slice_VR hL hle hp hr he' hlh' (ble_le hb1) hmc (cp := some (m - l)) (fun _ h => Option.some.inj h)) hk fun w => ?_
        rw [hat, hx]
        simp only [Instr.slice, Sem.run_bind, run_und hu, Result.andThen_ok, Option.map_some, sliceBounds_max hl hy hz hlh' (ble_le hb1) hmc, run_size hs, Sem.run_pure]

theorem s_slcs (hY : X.ty = tysOf P) {t : TypeId} {x : Operand} {lo hi : Option Operand} {k : KV} (hE : ER X φ e a) (hu : undT X.ty t = some .string)
    (h : pSlcs (cOpd X x) (lo.map (cOpd X)) (hi.map (cOpd X)) e k = true) :
    POut P φ k (do pure (.value (← Instr.sliceAt t (a.eval x) (lo.map a.eval) (hi.map a.eval) none))) := by
  rw [hY] at hu
  obtain ⟨v, hv, h1⟩ := ev_sound hE h
  obtain ⟨n, m, rfl, h2⟩ := onS_true h1
  obtain ⟨s, hx, rfl, rfl⟩ := VR_s.1 hv
  obtain ⟨l, h3, hl⟩ := bnd_is hE h2
  obtain ⟨hh, h4, hhh⟩ := bnd_is hE h3
  obtain ⟨hb1, h5⟩ := ite'_and h4
  obtain ⟨hb2, hk⟩ := ite'_and h5
  have hlh := ble_le hb1
  have hhn := ble_le hb2
  have hsz : s.data.toList.length = s.size := Array.length_toList
  rw [hsz] at hhn hhh
  refine POut.of (u := .string (s.extract l hh)) (VR_s.2 ⟨s.extract l hh, rfl, ?_, ?_⟩) hk fun w => ?_
  · have : (s.extract l hh).data.toList.length = (s.extract l hh).size := Array.length_toList
    rw [this]
    simp only [ByteArray.size_extract]
    show hh - l = _
    omega
  · have e1 : (s.extract l hh).data.toList = (s.data.toList.drop l).take (hh - l) := by
      simp [ByteArray.data_extract, List.extract_eq_take_drop]
    rw [e1, ← nob_mod, ← nob_div]
    show natOfBytes s.data.toList >>> (8 * l) % 2 ^ (8 * (hh - l)) = _
    rw [Nat.shiftRight_eq_div_pow]
  · rw [hx]
    simp only [Instr.sliceAt, Instr.slice, Sem.run_bind, run_und hu, Result.andThen_ok, Option.isSome_none, Bool.false_eq_true, if_false, Sem.run_pure, sliceBounds_run hl hhh hlh hhn]

theorem s_mx {x y : Operand} {k : KV} {t ty : TypeId} (hE : ER X φ e a) (h : pMx (cOpd X x) (cOpd X y) e k = true) :
    POut P φ k (do pure (.value (← Builtin.max_ #[t] ty #[a.eval x, a.eval y]))) := by
  obtain ⟨va, ha, h1⟩ := ev_sound hE h
  obtain ⟨vb, hb, h2⟩ := ev_sound hE h1
  obtain ⟨kd, m, rfl, h3⟩ := onI_true h2
  obtain ⟨kd', n, rfl, h4⟩ := onI_true h3
  obtain ⟨_, h5⟩ := ite'_and h4
  rw [leI_eq] at h5
  refine POut.of (u := .int kd (if n > m then n else m)) (VR_i.2 ?_) h5 fun w => ?_
  · congr 1
    by_cases hc : m ≤ n
    · simp only [hc, decide_true]; by_cases h' : n > m
      · rw [if_pos h']
      · rw [if_neg h']; omega
    · simp only [hc, decide_false]; rw [if_neg (by omega)]
  · rw [VR_i.1 ha, VR_i.1 hb]
    simp [Builtin.max_, Builtin.max2]

theorem s_mn {x y : Operand} {k : KV} {t ty : TypeId} (hE : ER X φ e a) (h : pMn (cOpd X x) (cOpd X y) e k = true) :
    POut P φ k (do pure (.value (← Builtin.min_ #[t] ty #[a.eval x, a.eval y]))) := by
  obtain ⟨va, ha, h1⟩ := ev_sound hE h
  obtain ⟨vb, hb, h2⟩ := ev_sound hE h1
  obtain ⟨kd, m, rfl, h3⟩ := onI_true h2
  obtain ⟨kd', n, rfl, h4⟩ := onI_true h3
  obtain ⟨_, h5⟩ := ite'_and h4
  rw [leI_eq] at h5
  refine POut.of (u := .int kd (if n < m then n else m)) (VR_i.2 ?_) h5 fun w => ?_
  · congr 1
    by_cases hc : m ≤ n
    · simp only [hc, decide_true]; rw [if_neg (by omega)]
    · simp only [hc, decide_false]; rw [if_pos (by omega)]
  · rw [VR_i.1 ha, VR_i.1 hb]
    simp [Builtin.min_, Builtin.min2]
end
end Go.AE
