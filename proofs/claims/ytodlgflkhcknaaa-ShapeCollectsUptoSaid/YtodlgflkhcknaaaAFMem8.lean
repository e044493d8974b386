/- Memory: an append, whatever it is given. -/
import Derived.Test.YtodlgflkhcknaaaAFMem7
namespace Go.AE
set_option linter.unusedVariables false
variable {oq : Unit} [Opq oq]
open Go

section
variable {P : Program} {φ : Emb} {h : Heap} {w : World} {M : Nat}

/-- What an append needs to know of its type and of what is appended. -/
structure AppCtx (P : Program) (w : World) (t u ty el : TypeId) (s b : Nat) (x : Value) (n : Nat) (us : List Value) : Prop where
  hu : undT (tysOf P) t = some (.slice el)
  hs : sizeT (tysOf P) el = some (s + 1)
  hb : bytesT (tysOf P) el = some (b + 1)
  hz : ∃ z, zeroT (tysOf P) el = some z ∧ (cellsOf z).length = s + 1
  hd : ∃ d, undT (tysOf P) u = some d ∧ ∀ k, d ≠ .int k
  lo : ∀ w, (Builtin.lenOf x).run P w = .ok n w
  fc : ∀ w2 : World, w2.heap = w.heap → (Builtin.firstCells (s + 1) n x).run P w2 = .ok us.toArray w2

variable {t u ty el : TypeId} {s b n : Nat} {x : Value} {us : List Value} {new : List AV}

theorem AppCtx.place (A : AppCtx P w t u ty el s b x n us) {base : Option Addr} {len c : Nat} {w' : World} (hle : len + n ≤ c)
    (hst : (match base with | some a => storeCells (a.add (len * (s + 1))) us | none => pure () : Sem Unit).run P w = .ok () w') :
    (Builtin.append_ #[t, u] ty #[.slice base len c, x]).run P w = .ok (.slice base (len + n) c) w' := by
  obtain ⟨d, hd, hd'⟩ := A.hd
  exact app_place A.hu A.hs hd hd' A.lo (A.fc w rfl) hle hst

theorem AppCtx.grow (A : AppCtx P w t u ty el s b x n us) {base : Option Addr} {len c : Nat} {old : List Value}
    (hold : (Builtin.firstCells (s + 1) len (.slice base len c)).run P w.drew = .ok old.toArray w.drew) (hlt : c < len + n) (hroom : (2 * (len + n) + 1000) * (b + 1) ≤ 281474976710656) :
    ∃ newCap rest, len + n ≤ newCap ∧ rest.size = (newCap - (len + n)) * (s + 1) ∧
      (Builtin.append_ #[t, u] ty #[.slice base len c, x]).run P w = .ok (.slice (some ⟨w.heap.size, 0, none⟩) (len + n) newCap)
        { w with heap := w.heap.push (.cells (old.toArray ++ us.toArray ++ rest) el), drawn := w.drawn + 1 } := by
  obtain ⟨d, hd, hd'⟩ := A.hd
  obtain ⟨z, hz, hzl⟩ := A.hz
  letI : Opq () := opq0
  obtain ⟨nc, rest, h1, ⟨zs, _, hr, zv, hzv, rfl⟩, h3⟩ := app_grow A.hu A.hs A.hb hz hd hd' A.lo (A.fc w.drew rfl) hold hlt hroom
  refine ⟨nc, rest, h1, ?_, h3⟩
  have := VRL_len (cells_VR (hzv (fun _ _ => none)))
  simp only [Array.length_toList] at this
  rw [hr]
  simp [Builtin.zeroCells, ← this, hzl]

theorem EOut.val {k : KH} {s : Sem Value} {v : AV} {u : Value} {h' : Heap} {ψ : Emb} {w' : World} (hk : k v h' = true) (hv : VR ψ v u) (hr : s.run P w = .ok u w') (hW : WR ψ h' w') (hS : Stp φ h.next w ψ h'.next w') :
    EOut P φ h w k (do pure (.value (← s))) := ⟨v, h', ψ, u, w', hk, hv, .inl (by rw [Sem.run_bind, hr]; rfl), hW, hS⟩

theorem drew_cell (w : World) (a : Addr) : w.drew.cell? a = w.cell? a := rfl

/-- Behind an append to a slice that may have room, or not. -/
theorem appVe_out (A : AppCtx P w t u ty el s b x n us) (hW : WR φ h w) (hus : VRL φ new us) (hlen : new.length = n * (s + 1)) (hn : n ≠ 0) {id tag off len c ext ver minv : Nat} {segs : List (Nat × Nat)} {cells : T AV} {l : Loc} {p : Addr} {k : KH}
    (ho : h.tr.get id = some (.ve cells ext ver minv segs)) (hl : φ id tag = some l) (hle : l.start ≤ off) (hlc : len ≤ c) (hp : c ≠ 0 → p = l.at off) (hroom : l.base + (off - l.start) + c * (s + 1) ≤ l.size)
    (hbig : (2 * (len + n) + 1000) * (b + 1) ≤ 281474976710656) (hk : appVe cells ext ver minv segs (s + 1) id tag off len new n (off + len * (s + 1)) h k = true) :
    EOut P φ h w k (do pure (.value (← Builtin.append_ #[t, u] ty #[.slice (some p) len c, x]))) := by
  obtain ⟨hc1, hk1⟩ := ite'_and hk
  obtain ⟨ha, hk'⟩ := ite'_and hk1
  obtain ⟨hm, hc2⟩ := ite'_and hc1
  obtain ⟨hst, hc3⟩ := ite'_and hc2
  have hm' := ble_le hm
  have hst' : off + len * (s + 1) ≤ ext := ble_le hst
  have hO := hW.obj _ _ ho
  obtain ⟨k1, k2, k3, k4, k5⟩ := hO
  obtain ⟨htv, hblk, hclaim⟩ := k5 tag l hl
  have hstamp : ∀ j, j < off + len * (s + 1) → stampOK tag j segs = true := by
    intro j hj
    rcases ite'_true hc3 with ⟨he, _⟩ | ⟨_, hs⟩
    · exact k4 _ _ (by rw [beq_eq he]; exact Nat.le_refl _)
    · cases hst0 : off + len * (s + 1) with
      | zero => omega
      | succ m =>
        have hs2 : (@Nat.rec (fun _ => Bool) true (fun j _ => stampOK tag j segs) (off + len * (s + 1)) : Bool) = true := hs
        rw [hst0] at hs2
        exact k3 tag m j (by omega) hs2
  have hold : ∀ j, l.start ≤ j → j < off + len * (s + 1) → ∀ v, cells.get j = some v → CellR φ w l j v := fun j h1 h2 v hv => hclaim hm' j h1 (by omega) (hstamp j h2) v hv
  have hul := VRL_len hus
  have hidn := hW.scope _ _ ho
  have hge : Opq.ro ≤ id := Nat.le_of_not_lt fun hlt => by have := hW.roo.2 _ _ ho hlt; cases this
  have hnone : ∀ L, φ id (ver + 1) ≠ some L := fun L hL => by have := (k5 _ _ hL).1; omega
  -- what stands for the row's new state
  have mk : ∀ (l' : Loc) (w' : World), (∀ i t L, φ i t = some L → i ≠ id → w'.heap[L.block]? = w.heap[L.block]?) → w'.os = w.os → w'.tape = w.tape → w'.output = w.output → w.heap.size ≤ w'.heap.size → l'.block < w'.heap.size →
      (∀ B, B < w.heap.size → (∀ i t L, Opq.ro ≤ i → i < h.next → φ i t = some L → L.block ≠ B) → w'.heap[B]? = w.heap[B]?) →
      ((l' = l) ∨ w.heap.size ≤ l'.block) →
      (∀ ψ, Sub φ ψ → (∀ t L, ψ id t = some L → (t = ver + 1 ∧ L = l') ∨ φ id t = some L) → OR ψ w' id (.ve (T.ofList new (off + len * (s + 1)) cells) (off + len * (s + 1) + n * (s + 1)) (ver + 1) minv ((off + len * (s + 1), ver + 1) :: popSegs (off + len * (s + 1)) segs))) →
      ∃ ψ, ψ id (ver + 1) = some l' ∧ WR ψ (updO h id (.ve (T.ofList new (off + len * (s + 1)) cells) (off + len * (s + 1) + n * (s + 1)) (ver + 1) minv ((off + len * (s + 1), ver + 1) :: popSegs (off + len * (s + 1)) segs))) w' ∧
        Stp φ h.next w ψ h.next w' := by
    intro l' w' hsame hos htape hout hsz hhere hblock hl' hOR
    let ψ : Emb := fun i t => if i = id ∧ t = ver + 1 then some l' else φ i t
    have hsub : Sub φ ψ := fun i t L hL => by
      show (if i = id ∧ t = ver + 1 then some l' else φ i t) = some L
      rw [if_neg (fun (hc : i = id ∧ t = ver + 1) => hnone L (by rw [← hc.1, ← hc.2]; exact hL))]; exact hL
    have hinv : ∀ i t L, ψ i t = some L → (i = id ∧ t = ver + 1 ∧ L = l') ∨ φ i t = some L := fun i t L hL => by
      have hL' : (if i = id ∧ t = ver + 1 then some l' else φ i t) = some L := hL
      split at hL'
      · rename_i hc; exact .inl ⟨hc.1, hc.2, (Option.some.inj hL').symm⟩
      · exact .inr hL'
    refine ⟨ψ, if_pos ⟨rfl, rfl⟩, ⟨fun j o hj => ?_, fun j o hj => ?_, fun i t i' t' L L' hr hL hL' hb => ?_, fun i t L hL => ?_, ⟨hW.roo.1, fun j o hj hid => ?_⟩⟩, ⟨hsub, Nat.le_refl _, fun i t L hL => ?_, hos, htape, hout, hsz, hblock⟩⟩
    · rw [get_upd] at hj
      show j < h.next
      split at hj
      · rename_i e; rw [e]; exact hidn
      · exact hW.scope _ _ hj
    · rw [get_upd] at hj
      split at hj
      · rename_i e
        cases hj; subst e
        exact hOR ψ hsub fun t L hL => by
          rcases hinv _ _ _ hL with ⟨_, h1, h2⟩ | h1
          · exact .inl ⟨h1, h2⟩
          · exact .inr h1
      · rename_i hne
        refine OR_same (hW.obj _ _ hj) hsub (fun t L hL => ?_) (fun t L hL => hsame j t L hL hne)
        rcases hinv _ _ _ hL with ⟨h1, _⟩ | h1
        · exact absurd h1 hne
        · exact h1
    · rcases hinv _ _ _ hL with ⟨rfl, rfl, rfl⟩ | h1 <;> rcases hinv _ _ _ hL' with ⟨rfl, rfl, rfl⟩ | h2
      · exact ⟨rfl, rfl, rfl⟩
      · rcases hl' with rfl | hl'
        · exact hW.inj _ _ _ _ _ _ hge hl h2 hb
        · have := hW.here _ _ _ h2; omega
      · rcases hl' with rfl | hl'
        · exact hW.inj _ _ _ _ _ _ hr h1 hl hb
        · have := hW.here _ _ _ h1; omega
      · exact hW.inj _ _ _ _ _ _ hr h1 h2 hb
    · rcases hinv _ _ _ hL with ⟨_, _, rfl⟩ | h1
      · exact hhere
      · have := hW.here _ _ _ h1; omega
    · rw [get_upd] at hj
      split at hj
      · omega
      · exact hW.roo.2 _ _ hj hid
    · rcases hinv _ _ _ hL with ⟨rfl, _, rfl⟩ | h1
      · rcases hl' with rfl | hl'
        · exact .inr (.inl ⟨hidn, tag, _, hl, rfl⟩)
        · exact .inr (.inr ⟨hidn, hl', .inr ⟨tag, _, hl⟩⟩)
      · exact .inl h1
  by_cases hcap : len + n ≤ c
  · -- there is room
    have hc0 : c ≠ 0 := by omega
    have hp' := hp hc0
    have hmul : len * (s + 1) + n * (s + 1) ≤ c * (s + 1) := by rw [← Nat.add_mul]; exact Nat.mul_le_mul_right _ hcap
    obtain ⟨w', r1, r2, r3, r4, r5, r6, r7, r8⟩ := storeRaw (P := P) (B := l.block) (o := l.base + (off + len * (s + 1) - l.start)) us 0 w (allOne_true hus ha) (fun j hj => by
      have hin : l.base + (off + len * (s + 1) - l.start) + (0 + j) < l.size := by omega
      exact ⟨hblk.cell hin, hblk.free hin⟩)
    obtain ⟨ψ, g1, g2, g3⟩ := mk l w' (fun i t L hL hne => r6 _ fun e => hne (hW.inj _ _ _ _ _ _ hge hl hL e.symm).1.symm) r2 r3 r4 (by omega) (by rw [r5]; exact hW.here _ _ _ hl)
      (fun B hB hno => r6 _ fun e => hno id tag l hge hidn hl e.symm) (.inl rfl) fun ψ hsub hψ => by
        refine ve_next (l' := l) (hW.obj _ _ ho) hsub hst' hlen hψ (fun t L hL => r7 _ (k5 _ _ hL).2.1) (r7 _ hblk) ?_ ?_ ?_
        · intro t L j y hL hLj hj hy
          by_cases e : L.block = l.block
          · have hin := (hW.inj _ _ _ _ _ _ hge hl hL e.symm).2.1
            show w'.cell? ⟨L.block, L.base + (j - L.start), none⟩ = some y
            rw [e, r8, if_neg (by omega), ← e]; exact hy
          · rw [cell_same (show w'.heap[(L.at j).block]? = _ from r6 _ e)]; exact hy
        · intro j hj hjs v hv
          obtain ⟨y, hy, hr⟩ := hold j hj hjs v hv
          refine ⟨y, ?_, VR_mono hsub _ _ hr⟩
          show w'.cell? ⟨l.block, l.base + (j - l.start), none⟩ = some y
          rw [r8, if_neg (by omega)]; exact hy
        · intro i v hv
          obtain ⟨y, hy, hr⟩ := VRL_get hus i v hv
          have hi : i < us.length := (List.getElem?_eq_some_iff.1 hy).1
          refine ⟨y, ?_, VR_mono hsub _ _ hr⟩
          show w'.cell? ⟨l.block, l.base + (off + len * (s + 1) + i - l.start), none⟩ = some y
          rw [r8, if_pos (by omega)]
          rw [show l.base + (off + len * (s + 1) + i - l.start) - (l.base + (off + len * (s + 1) - l.start) + 0) = i from by omega]; exact hy
    refine EOut.val hk' (VR_sl.2 ⟨l, p, c, g1, hle, rfl, hcap, fun _ h => (by cases h), hp, hroom⟩) (A.place hcap ?_) g2 g3
    show (storeCells (p.add (len * (s + 1))) us).run P w = .ok () w'
    rw [hp', l.at_add hle]
    exact r1
  · -- there is none
    obtain ⟨olds, hol, holds⟩ := readVe (φ := φ) (w := w) (l := l) (cells := cells) (len * (s + 1)) off fun j h1 h2 => by
      obtain ⟨v, hv⟩ := k2 j (by omega)
      exact ⟨v, hv, hold j (by omega) h2 v hv⟩
    have hfo : (Builtin.firstCells (s + 1) len (.slice (some p) len c)).run P w.drew = .ok olds.toArray w.drew := by
      simp only [Builtin.firstCells]
      by_cases hc0 : c = 0
      · obtain rfl : len = 0 := by omega
        have : olds = [] := by rw [Nat.zero_mul] at hol; exact List.length_eq_zero_iff.1 hol
        rw [this, Nat.zero_mul]; rfl
      · rw [hp hc0]
        exact loadCells_run (P := P) (w := w.drew) hle hol.symm fun i y hy => (holds i y hy).1
    obtain ⟨nc, rest, hnc, hrest, hrun⟩ := A.grow hfo (by omega) hbig
    let cs : Array Value := olds.toArray ++ us.toArray ++ rest
    let w' : World := { w with heap := w.heap.push (.cells cs el), drawn := w.drawn + 1 }
    have hcs : cs.size = nc * (s + 1) := by
      show (olds.toArray ++ us.toArray ++ rest : Array Value).size = _
      simp only [Array.size_append, List.size_toArray, hrest, hol]
      rw [← hul, hlen, ← Nat.add_mul, ← Nat.add_mul]; congr 1; omega
    have hb : w'.heap[w.heap.size]? = some (.cells cs el (0, 0)) := push_new rfl
    have hcsl : cs.toList = olds ++ us ++ rest.toList := by
      show (olds.toArray ++ us.toArray ++ rest : Array Value).toList = _
      simp
    obtain ⟨ψ, g1, g2, g3⟩ := mk ⟨w.heap.size, off, 0, cs.size⟩ w' (fun i t L hL _ => push_old rfl (hW.here _ _ _ hL)) rfl rfl rfl (by show _ ≤ (w.heap.push _).size; simp) (by show _ < (w.heap.push _).size; simp)
      (fun B hB _ => push_old rfl hB) (.inr (Nat.le_refl _)) fun ψ hsub hψ => by
        refine ve_next (hW.obj _ _ ho) hsub hst' hlen hψ (fun t L hL => ?_) ⟨cs, el, 0, 0, hb, rfl, .inl rfl⟩ ?_ ?_ ?_
        · obtain ⟨c1, c2, c3, c4, c5, c6⟩ := (k5 _ _ hL).2.1
          exact ⟨c1, c2, c3, c4, (push_old rfl (hW.here _ _ _ hL)).trans c5, c6⟩
        · intro t L j y hL _ _ hy
          rw [cell_same (show w'.heap[(L.at j).block]? = _ from push_old rfl (hW.here _ _ _ hL))]; exact hy
        · intro j hj hjs v hv
          have hj' : off ≤ j := hj
          obtain ⟨y, hy⟩ : ∃ y, olds[j - off]? = some y := ⟨olds[j - off]'(by omega), List.getElem?_eq_getElem (by omega)⟩
          obtain ⟨_, v', hv', hr⟩ := holds _ _ hy
          rw [show off + (j - off) = j from by omega, hv] at hv'
          cases hv'
          refine ⟨y, ?_, VR_mono hsub _ _ hr⟩
          have : cs[j - off]? = some y := by
            rw [← Array.getElem?_toList, hcsl, List.append_assoc, List.getElem?_append_left (by omega)]; exact hy
          simp only [World.cell?, Loc.at, hb]
          simpa using this
        · intro i v hv
          obtain ⟨y, hy, hr⟩ := VRL_get hus i v hv
          have hi : i < us.length := (List.getElem?_eq_some_iff.1 hy).1
          refine ⟨y, ?_, VR_mono hsub _ _ hr⟩
          have : cs[off + len * (s + 1) + i - off]? = some y := by
            rw [← Array.getElem?_toList, hcsl, List.append_assoc, List.getElem?_append_right (by omega), List.getElem?_append_left (by omega)]
            rw [show off + len * (s + 1) + i - off - olds.length = i from by omega]; exact hy
          simp only [World.cell?, Loc.at, hb]
          simpa using this
    refine EOut.val hk' (VR_sl.2 ⟨_, ⟨w.heap.size, 0, none⟩, nc, g1, Nat.le_refl _, rfl, hnc, fun _ h => (by cases h), fun _ => ?_, ?_⟩) hrun g2 g3
    · show (⟨w.heap.size, 0, none⟩ : Addr) = ⟨w.heap.size, 0 + (off - off), none⟩
      simp
    · show 0 + (off - off) + nc * (s + 1) ≤ cs.size
      rw [hcs]; omega
end
end Go.AE
