/- Memory: appends. -/
import Derived.Test.YtodlgflkhcknaaaAFMem5
namespace Go.AE
set_option linter.unusedVariables false
variable {oq : Unit} [Opq oq]
open Go

theorem growBy_le (n : Nat) : ∀ (r c : Nat), c ≤ n + (n + 768) / 4 → Builtin.growBy n r c ≤ n + (n + 768) / 4
  | 0, c, h => h
  | r + 1, c, h => by
    unfold Builtin.growBy
    split
    · exact h
    · exact growBy_le n r _ (by omega)

theorem nextcap_le {need old : Nat} (h : old < need) : Builtin.nextslicecap need old ≤ 2 * need + 1000 := by
  unfold Builtin.nextslicecap
  split
  · omega
  · split
    · omega
    · have := growBy_le need 4 old (by omega); omega

section
variable {P : Program} {w w' : World}

theorem app_place {t u ty el : TypeId} {x : Value} {base : Option Addr} {len c n s : Nat} {new : List Value} {d : TypeDesc} (hu : undT (tysOf P) t = some (.slice el)) (hs : sizeT (tysOf P) el = some s) (hd : undT (tysOf P) u = some d) (hd' : ∀ k, d ≠ .int k)
    (hlo : ∀ w, (Builtin.lenOf x).run P w = .ok n w) (hfc : (Builtin.firstCells s n x).run P w = .ok new.toArray w) (hle : len + n ≤ c)
    (hst : (match base with | some a => storeCells (a.add (len * s)) new | none => pure () : Sem Unit).run P w = .ok () w') :
    (Builtin.append_ #[t, u] ty #[.slice base len c, x]).run P w = .ok (.slice base (len + n) c) w' := by
  unfold Builtin.append_
  simp only [List.getElem?_toArray, List.getElem?_cons_zero, List.getElem?_cons_succ, Sem.run_bind, run_und hu, Result.andThen_ok, run_size hs, run_und hd, Sem.run_pure]
  simp only [Bool.false_eq_true, if_false, Sem.run_bind, hlo, Result.andThen_ok, Bool.not_false, if_true, if_pos hle, hfc]
  cases base with
  | none => cases hst; rfl
  | some a =>
    have hst' : (storeCells (a.add (len * s)) new).run P w = .ok () w' := hst
    simp only [hst', Result.andThen_ok, Sem.run_bind, Sem.run_pure]

theorem app_grow {t u ty el : TypeId} {x : Value} {base : Option Addr} {len c n s b : Nat} {old new : List Value} {d : TypeDesc} {z : AV} (hu : undT (tysOf P) t = some (.slice el)) (hs : sizeT (tysOf P) el = some s) (hb : bytesT (tysOf P) el = some (b + 1))
    (hz : zeroT (tysOf P) el = some z) (hd : undT (tysOf P) u = some d) (hd' : ∀ k, d ≠ .int k) (hlo : ∀ w, (Builtin.lenOf x).run P w = .ok n w) (hfc : (Builtin.firstCells s n x).run P w.drew = .ok new.toArray w.drew)
    (hold : (Builtin.firstCells s len (.slice base len c)).run P w.drew = .ok old.toArray w.drew) (hlt : c < len + n) (hroom : (2 * (len + n) + 1000) * (b + 1) ≤ 281474976710656) :
    ∃ newCap rest, len + n ≤ newCap ∧ (∃ zs : Array Value, (∀ φ, VR φ z (.agg zs) ∨ True) ∧ rest = Builtin.zeroCells zs (newCap - (len + n)) ∧ ∃ zv : Value, (∀ φ, VR φ z zv) ∧ zs = zv.cells) ∧
      (Builtin.append_ #[t, u] ty #[.slice base len c, x]).run P w = .ok (.slice (some ⟨w.heap.size, 0, none⟩) (len + n) newCap)
        { w with heap := w.heap.push (.cells (old.toArray ++ new.toArray ++ rest) el), drawn := w.drawn + 1 } := by
  obtain ⟨i, hi, hib⟩ := run_bytes hb w
  have hi2 : ∀ w', (typeInfo el).run P w' = .ok i w' := fun w' => by
    unfold bytesT at hb
    cases hg : (tysOf P).get el with
    | none => rw [hg] at hb; cases hb
    | some j =>
      have h1 := run_info (tys_get hg) w
      rw [h1] at hi
      injection hi with e1
      subst e1
      exact run_info (tys_get hg) w'
  have hzz : ∃ zv : Value, (∀ w, (zeroValue el).run P w = .ok zv w) ∧ ∀ φ, VR φ z zv := by
    obtain ⟨v, hv, _⟩ := run_zero hz (fun _ _ => none)
    refine ⟨v, hv, fun φ => ?_⟩
    obtain ⟨v2, hv2, hr⟩ := run_zero hz φ
    have := (hv w).symm.trans (hv2 w)
    injection this with e1
    subst e1; exact hr
  obtain ⟨zv, hzv, hzr⟩ := hzz
  let need := len + n
  let newCap := need + (w.tape w.drawn (.appendCap need c el)) % (2 ^ 63 - need)
  have hchoose : (choose (.appendCap need c el)).run P w = .ok newCap w.drew := rfl
  have hnc := nextcap_le (show c < len + n from hlt)
  have hle1 : Builtin.nextslicecap (len + n) c * i.bytes ≤ 281474976710656 := by
    rw [hib]
    exact Nat.le_trans (Nat.mul_le_mul_right _ hnc) hroom
  refine ⟨newCap, Builtin.zeroCells zv.cells (newCap - need), Nat.le_add_right .., ⟨zv.cells, fun _ => .inr trivial, rfl, zv, hzr, rfl⟩, ?_⟩
  unfold Builtin.append_
  simp only [List.getElem?_toArray, List.getElem?_cons_zero, List.getElem?_cons_succ, Sem.run_bind, run_und hu, Result.andThen_ok, run_size hs, run_und hd, Sem.run_pure]
  simp only [Bool.false_eq_true, if_false, Sem.run_bind, hlo, Result.andThen_ok, Bool.not_false, if_true, if_neg (show ¬ (len + n ≤ c) from by omega), hi2, false_or]
  have hb0 : i.bytes ≠ 0 := by omega
  rw [if_neg (fun hc => hb0 hc.2)]
  simp only [Sem.run_bind, hi2, Result.andThen_ok]
  rw [if_neg (show ¬ (Builtin.nextslicecap (len + n) c * i.bytes > 2 ^ 48) from by
    have : (2 : Nat) ^ 48 = 281474976710656 := rfl
    rw [this]; omega)]
  simp only [Sem.run_bind]
  rw [hchoose]
  simp only [Result.andThen_ok, run_askRoom, hold, hfc, hzv, newRow, Sem.run_bind, run_newObj, Sem.run_pure, hi2]
  rfl
end
end Go.AE
