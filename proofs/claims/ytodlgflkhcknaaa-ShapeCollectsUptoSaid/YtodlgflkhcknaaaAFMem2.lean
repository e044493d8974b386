/- Memory: reads, together; steps of the world; what is made anew. -/
import Derived.Test.YtodlgflkhcknaaaAFMem1
import Derived.Laws.BytesString
namespace Go.AE
set_option linter.unusedVariables false
variable {oq : Unit} [Opq oq]
open Go

section
variable {P : Program} {X : CX} {φ : Emb} {e : Env} {a : Act} {h : Heap} {w : World}

theorem bytesK_true : ∀ {l : List AV} {us : List Value} {acc sh : Nat} {k : Nat → Bool}, VRL φ l us → bytesK l acc sh k = true →
    ∃ bs : List UInt8, us = bs.map (fun b => Value.int .u8 (Int.ofNat b.toNat)) ∧ k (acc + natOfBytes bs * 2 ^ sh) = true
  | [], us, acc, sh, k, hv, h => by cases (hv : us = []); exact ⟨[], rfl, by rw [nob_nil, Nat.zero_mul]; exact h⟩
  | x :: l, us, acc, sh, k, ⟨v, vs, e, hx, hl⟩, h => by
    subst e
    obtain ⟨kd, n, rfl, h1⟩ := onI_true (show onI x (fun kd n => ite' (beqK kd .u8) (@Int.rec (fun _ => Bool) (fun b => ite' (Nat.ble b 255) (bytesK l (acc + (b <<< sh)) (sh + 8) k) false) (fun _ => false) n) false) = true from h)
    obtain ⟨hk, h2⟩ := ite'_and h1
    cases beqK_eq hk
    cases n with
    | negSucc n => cases h2
    | ofNat b =>
      obtain ⟨hb, h3⟩ := ite'_and h2
      obtain ⟨bs, rfl, h4⟩ := bytesK_true hl h3
      have hlt := ble_le hb
      have hbn : (UInt8.ofNat b).toNat = b := by simp; omega
      refine ⟨UInt8.ofNat b :: bs, ?_, ?_⟩
      · rw [VR_i.1 hx, List.map_cons, hbn]
      · rw [nob_cons, hbn]
        rw [Nat.shiftLeft_eq] at h4
        have : acc + b * 2 ^ sh + natOfBytes bs * 2 ^ (sh + 8) = acc + (b + 256 * natOfBytes bs) * 2 ^ sh := by
          rw [Nat.pow_add, Nat.add_mul, show (2 : Nat) ^ 8 = 256 from rfl, Nat.mul_comm (2 ^ sh) 256, ← Nat.mul_assoc, Nat.mul_comm (natOfBytes bs) 256]
          omega
        rw [← this]; exact h4

theorem isByte_und {t : TypeId} (h : isByte (tysOf P) t = true) : P.underlying t = some (.int .u8) := by
  unfold isByte at h
  split at h
  · exact und_get ‹_›
  · cases h

theorem fold_bytes (bs : List UInt8) : ∀ s : ByteArray, ((bs.map fun b => Int.ofNat b.toNat).foldl (fun (r : ByteArray) n => r.push (UInt8.ofNat n.toNat)) s).data.toList = s.data.toList ++ bs := by
  induction bs with
  | nil => intro s; simp
  | cons b bs ih =>
    intro s
    rw [List.map_cons, List.foldl_cons, ih]
    have : (UInt8.ofNat (Int.ofNat b.toNat).toNat) = b := by
      apply UInt8.toNat_inj.1
      have := b.toNat_lt
      simp
    rw [this]
    simp [ByteArray.push]

theorem s_b2s (hY : X.ty = tysOf P) (hW : WR φ h w) {s d el : TypeId} {x : Operand} {k : KV} (hE : ER X φ e a) (h1 : undT X.ty s = some (.slice el)) (h2 : undT X.ty d = some .string) (hb : isByte X.ty el = true)
    (hr : rB2s (cOpd X x) e h k = true) : ROut P φ w k (do pure (.value (← convert s d (a.eval x)))) := by
  rw [hY] at h1 h2 hb
  have hel := isByte_und hb
  obtain ⟨v, hv, h3⟩ := ev_sound hE hr
  rcases onSl_true h3 with ⟨rfl, h4⟩ | ⟨id, tag, off, len, cap, esz, rfl, h4⟩
  · have hx := VR_nils.1 hv
    refine ROut.of (v := .s 0 0) (u := .string .empty) (VR_s.2 ⟨.empty, rfl, rfl, rfl⟩) h4 ?_
    rw [hx, run_convert_bytes_string w s d el none 0 0 (und_get h1) hel (und_get h2)]
    rfl
  · obtain ⟨l, p, c, hl, hle, hx, hlc, hcap, hp, hroom⟩ := VR_sl.1 hv
    obtain ⟨o, ho, h5⟩ := getK_true h4
    obtain ⟨vs, hlen, h6, us, hvu, hc⟩ := rdsK_true (hW.obj _ _ ho) hl _ _ _ hle h5
    obtain ⟨bs, hbs, hk⟩ := bytesK_true hvu h6
    have hul := VRL_len hvu
    have hbl : bs.length = len := by rw [hbs] at hul; simp at hul; omega
    have hstr := fold_bytes bs ByteArray.empty
    have he0 : (ByteArray.empty).data.toList = [] := rfl
    rw [he0, List.nil_append] at hstr
    refine ROut.of (v := .s len (0 + natOfBytes bs * 2 ^ 0)) (u := .string _) (VR_s.2 ⟨_, rfl, by rw [hstr]; exact hbl.symm, by rw [hstr]; simp⟩) hk ?_
    rw [hx, run_convert_bytes_string w s d el (some p) len c (und_get h1) hel (und_get h2)]
    refine run_bytesToString w p len c (bs.map fun b => Int.ofNat b.toNat) ?_
    have hus : us = (bs.map fun b => Int.ofNat b.toNat).map (Value.int .u8) := by rw [hbs]; simp
    rw [← hus]
    by_cases h0 : c = 0
    · have : len = 0 := by omega
      subst this
      have : us = [] := by rw [hbs]; simp at hbl; rw [hbl]; rfl
      rw [this]; rfl
    · rw [hp h0]
      exact loadCells_run hle (by omega) hc

theorem rd_inj {p q : ROp} (h : rd p = some (.rd q)) : p = q := by unfold rd at h; cases h; rfl
theorem pu_rd {p : POp} {q : ROp} : pu p ≠ some (.rd q) := by unfold pu; intro h; cases h
theorem al_rd {p : AOp} {q : ROp} : al p ≠ some (.rd q) := by unfold al; intro h; cases h
theorem ef_rd {p : EOp} {q : ROp} : ef p ≠ some (.rd q) := by unfold ef; intro h; cases h

theorem cNil_rd {neg : Bool} {c : Nat} {x y : Operand} {q : ROp} : cNil X neg c x y ≠ some (.rd q) := by unfold cNil; intro h; split at h <;> first | exact pu_rd h | cases h
theorem cEq_rd {neg : Bool} {t : TypeId} {d : TypeDesc} {x y : Operand} {q : ROp} : cEq X neg t d x y ≠ some (.rd q) := by
  unfold cEq; intro h
  split at h
  · exact pu_rd h
  · split at h <;> first | exact pu_rd h | cases h
  · split at h <;> first | exact cNil_rd h | cases h
  all_goals first | exact cNil_rd h | cases h
theorem cBin_rd {op : BinOp} {t : TypeId} {x y : Operand} {q : ROp} : cBin X op t x y ≠ some (.rd q) := by
  unfold cBin; intro h
  split at h
  · exact pu_rd h
  · exact pu_rd h
  · split at h <;> first | exact cEq_rd h | cases h
  · cases h

theorem read_sound (hY : X.ty = tysOf P) (hW : WR φ h w) {o : Oper} {k : KV} {p : ROp} (hE : ER X φ e a) (hc : cOp X o.op o.type = some (.rd p)) (hr : runR p e h k = true) :
    ROut P φ w k (execOp a.eval o) := by
  obtain ⟨dst, op, ty, pos, after, guard⟩ := o
  simp only at hc
  cases op with
  | load t x =>
    simp only [cOp] at hc
    split at hc
    · rename_i n hg hs; cases rd_inj hc; exact s_ldn hY hW hE hg hs hr
    · rename_i n hg hs; cases rd_inj hc; exact s_ld hY hW hE hg hr
    · cases hc
  | lookup t m x ok =>
    simp only [cOp] at hc
    split at hc
    · rename_i kt el hd
      split at hc
      · rename_i c z hk hz; cases rd_inj hc; exact s_lk hY hW hE hd hk hz hr
      · cases hc
    · cases hc
  | convert s d x =>
    simp only [cOp, cConv] at hc
    split at hc
    · exact absurd hc pu_rd
    · exact absurd hc pu_rd
    · split at hc <;> first | exact absurd hc al_rd | cases hc
    · rename_i el h1 h2
      split at hc
      · cases rd_inj hc; exact s_b2s hY hW hE h1 h2 ‹_› hr
      · cases hc
    · cases hc
  | call c =>
    obtain ⟨callee, args, argTypes⟩ := c
    simp only [cOp, cCall] at hc
    split at hc
    · rename_i hcl
      split at hc
      · rename_i x t' h1 h2
        have e1 : args = #[x] := by apply Array.ext'; exact h1
        have e2 : argTypes = #[t'] := by apply Array.ext'; exact h2
        subst e1; subst e2
        unfold cLen at hc
        split at hc
        · rename_i hd
          cases rd_inj hc
          show ROut P φ w k (builtin .len #[t'] ty (#[x].map fun | .const _ => true | _ => false) (#[x].map a.eval))
          rw [show #[x].map a.eval = #[a.eval x] from by simp]
          exact s_lenm hY hW hE hd hr
        · exact absurd hc pu_rd
        · exact absurd hc pu_rd
        · cases hc
      · cases hc
    · split at hc
      · unfold cApp at hc
        split at hc
        · split at hc
          · split at hc <;> first | exact absurd hc ef_rd | cases hc
          · cases hc
        · cases hc
      · cases hc
    · split at hc
      · unfold cCopy at hc
        split at hc
        · split at hc <;> first | exact absurd hc ef_rd | cases hc
        · cases hc
      · cases hc
    · split at hc <;> first | exact absurd hc pu_rd | cases hc
    · split at hc <;> first | exact absurd hc pu_rd | cases hc
    · exact absurd hc ef_rd
    · cases hc
  | binOp op t x y u => exact absurd hc cBin_rd
  | build t parts =>
    simp only [cOp, cBuild] at hc
    split at hc
    · split at hc <;> first | (cases hc; done) | cases hc
    · split at hc <;> first | (cases hc; done) | cases hc
    · cases hc
  | _ =>
    simp only [cOp] at hc
    repeat' split at hc
    all_goals first
      | exact absurd hc pu_rd
      | exact absurd hc al_rd
      | exact absurd hc ef_rd
      | cases hc
end

/-- A step: what stands for what grows; of what was there and is not spoken of nothing has turned. -/
structure Stp (φ : Emb) (n : Nat) (w : World) (ψ : Emb) (m : Nat) (w' : World) : Prop where
  sub : Sub φ ψ
  le : n ≤ m
  new : ∀ id t l, ψ id t = some l → φ id t = some l ∨ (id < n ∧ ∃ t' l', φ id t' = some l' ∧ l'.block = l.block) ∨ (id < m ∧ w.heap.size ≤ l.block ∧ (n ≤ id ∨ ∃ t' l', φ id t' = some l'))
  os : w'.os = w.os
  tape : w'.tape = w.tape
  output : w'.output = w.output
  size : w.heap.size ≤ w'.heap.size
  block : ∀ B, B < w.heap.size → (∀ id t l, Opq.ro ≤ id → id < n → φ id t = some l → l.block ≠ B) → w'.heap[B]? = w.heap[B]?

/-- Nothing stands for the numbers from n up to M. -/
def Fresh (φ : Emb) (n M : Nat) : Prop := ∀ id t l, φ id t = some l → id < n ∨ M ≤ id

theorem Stp.fresh {φ ψ : Emb} {n m M : Nat} {w w' : World} (h : Stp φ n w ψ m w') (hf : Fresh φ n M) : Fresh ψ m M := by
  intro id t l hl
  have hle := h.le
  rcases h.new id t l hl with h1 | ⟨h1, _⟩ | ⟨h1, _⟩
  · rcases hf id t l h1 with h2 | h2
    · exact .inl (by omega)
    · exact .inr h2
  · exact .inl (by omega)
  · exact .inl h1

theorem Stp.refl (φ : Emb) (n : Nat) (w : World) : Stp φ n w φ n w := ⟨Sub.refl _, Nat.le_refl _, fun _ _ _ h => .inl h, rfl, rfl, rfl, Nat.le_refl _, fun _ _ _ => rfl⟩

theorem Stp.comp {φ ψ χ : Emb} {n N m p M : Nat} {w w1 w2 : World} (h : Stp φ n w ψ N w1) (k : Stp ψ m w1 χ p w2) (hf : Fresh φ n M) (hm : n ≤ m) (hp : p ≤ N) (hN : N ≤ M) : Stp φ n w χ N w2 := by
  have l1 := h.le
  have l2 := k.le
  have s1 := h.size
  have s2 := k.size
  refine ⟨h.sub.trans k.sub, l1, fun id t l hl => ?_, k.os.trans h.os, k.tape.trans h.tape, k.output.trans h.output, Nat.le_trans s1 s2, fun B hB hno => ?_⟩
  · rcases k.new id t l hl with h1 | ⟨h1, t', l', h2, h3⟩ | ⟨h1, h2, h3⟩
    · exact h.new id t l h1
    · rcases h.new id t' l' h2 with h4 | ⟨h4, t2, l2', h5, h6⟩ | ⟨h4, h5, h6⟩
      · rcases hf id t' l' h4 with h7 | h7
        · exact .inr (.inl ⟨h7, t', l', h4, h3⟩)
        · omega
      · exact .inr (.inl ⟨h4, t2, l2', h5, h6.trans h3⟩)
      · exact .inr (.inr ⟨by omega, by rw [← h3]; exact h5, h6⟩)
    · refine .inr (.inr ⟨by omega, by omega, ?_⟩)
      rcases h3 with h3 | ⟨t', l', h3⟩
      · exact .inl (by omega)
      · rcases h.new id t' l' h3 with h4 | ⟨_, t2, l2', h5, _⟩ | ⟨_, _, h6⟩
        · exact .inr ⟨t', l', h4⟩
        · exact .inr ⟨t2, l2', h5⟩
        · exact h6
  · rw [k.block B (by omega) ?_, h.block B hB hno]
    intro id t l hro hid hl
    rcases h.new id t l hl with h1 | ⟨h1, t', l', h2, h3⟩ | ⟨_, h1, _⟩
    · rcases hf id t l h1 with h2 | h2
      · exact hno id t l hro h2 h1
      · omega
    · rw [← h3]; exact hno id t' l' hro h1 h2
    · omega

theorem Stp.wide {φ ψ : Emb} {n m p : Nat} {w w1 : World} (h : Stp φ n w ψ m w1) (hp : m ≤ p) : Stp φ n w ψ p w1 :=
  ⟨h.sub, Nat.le_trans h.le hp, fun id t l hl => by
    rcases h.new id t l hl with h1 | h1 | ⟨h1, h2⟩
    · exact .inl h1
    · exact .inr (.inl h1)
    · exact .inr (.inr ⟨by omega, h2⟩), h.os, h.tape, h.output, h.size, h.block⟩

theorem Stp.trans {φ ψ χ : Emb} {n m p M : Nat} {w w1 w2 : World} (h : Stp φ n w ψ m w1) (k : Stp ψ m w1 χ p w2) (hf : Fresh φ n M) (hp : p ≤ M) : Stp φ n w χ p w2 :=
  (h.wide k.le).comp k hf h.le (Nat.le_refl _) hp

end Go.AE
