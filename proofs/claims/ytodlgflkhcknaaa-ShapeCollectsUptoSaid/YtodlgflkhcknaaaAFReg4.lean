/- Regions whose order is open: what is kept while operations run in any order. -/
import Derived.Test.YtodlgflkhcknaaaAFReg3
namespace Go.AE
set_option linter.unusedVariables false
variable {oq : Unit} [Opq oq]
open Go

noncomputable def kEq (v : AV) (h : Heap) : KH := fun a b => @decide (a = v ∧ b = h) (Classical.propDecidable _)
theorem kEq_self (v : AV) (h : Heap) : kEq v h v h = true := by unfold kEq; exact @decide_eq_true _ (Classical.propDecidable _) ⟨rfl, rfl⟩
theorem kEq_true {v x : AV} {h h' : Heap} (hk : kEq v h x h' = true) : x = v ∧ h' = h := by unfold kEq at hk; exact @of_decide_eq_true _ (Classical.propDecidable _) hk
theorem val_eq {v x : AV} {h h' : Heap} (hk : ∀ k : KH, k x h' = k v h) : x = v ∧ h' = h := kEq_true ((hk (kEq v h)).trans (kEq_self v h))

/-- A trie made of what is told of the numbers below n. -/
noncomputable def mkT {α : Type} (f : Nat → Option α) : Nat → T α
  | 0 => .e
  | n + 1 => match f n with
    | some v => T.set v (mkT f n) n
    | none => mkT f n
theorem get_mkT {α : Type} (f : Nat → Option α) : ∀ n i, (mkT f n).get i = if i < n then f i else none
  | 0, i => by rw [if_neg (by omega)]; rfl
  | n + 1, i => by
    rw [mkT]
    split
    · rename_i v hv
      rw [get_set, get_mkT f n]
      by_cases h : i = n
      · subst h; rw [if_pos rfl, if_pos (by omega), hv]
      · rw [if_neg h]
        by_cases h2 : i < n
        · rw [if_pos h2, if_pos (by omega)]
        · rw [if_neg h2, if_neg (by omega)]
    · rename_i hv
      rw [get_mkT f n]
      by_cases h : i = n
      · subst h; rw [if_neg (by omega), if_pos (by omega), hv]
      · by_cases h2 : i < n
        · rw [if_pos h2, if_pos (by omega)]
        · rw [if_neg h2, if_neg (by omega)]

/- What is made says how. -/
theorem OR_vac_st {φ : Emb} {w : World} {n : Nat} (h : ∀ t, φ n t = none) (cells : T AV) (m : Nat) : OR φ w n (.st cells m) := fun tag l hl => by rw [h] at hl; cases hl
theorem lin_alloc (o : AOp) (e : Env) (n : Nat) : (∀ h : Heap, h.next = n → ∀ k, runA o e h k = false) ∨
    ∃ v obj, (∀ h : Heap, h.next = n → ∀ k, runA o e h k = k v (addO h obj)) ∧ ∀ (φ : Emb) (w : World), (∀ t, φ n t = none) → OR φ w n obj := by
  cases o with
  | new z => exact .inr ⟨.p n 0 0, .st (T.ofList z 0 .e) (lenL z 0), fun h hn k => (by subst hn; rfl), fun φ w hv => OR_vac_st hv _ _⟩
  | box x =>
    rcases lin_ev x e with f | ⟨v, f⟩
    · exact .inl fun h hn k => f _
    · exact .inr ⟨.p n 0 0, .st (T.ofList (cellsOf v) 0 .e) (lenL (cellsOf v) 0), fun h hn k => (by subst hn; exact f _), fun φ w hv => OR_vac_st hv _ _⟩
  | bsl z sz len ps =>
    rcases lin_fill e ps (repL z len) with f | ⟨v, f⟩
    · exact .inl fun h hn k => f _
    · exact .inr ⟨.sl n 0 0 len (some len) sz, .st (T.ofList v 0 .e) (Nat.mul len sz), fun h hn k => (by subst hn; exact f _), fun φ w hv => OR_vac_st hv _ _⟩
  | mkm => exact .inr ⟨.m n, .mp [], fun h hn k => (by subst hn; rfl), fun φ w hv tag l hl => (by rw [hv] at hl; cases hl)⟩
  | mks z sz b x y =>
    have hd : ∀ h k, runA (.mks z sz b x y) e h k = evN x e fun l => evN y e fun c => ite' (Nat.ble l c) (ite' (Nat.ble c 16777216) (ite' (Nat.ble (Nat.mul b c) 16777216)
      (k (.sl h.next 0 0 l (some c) sz) (addO h (.st (T.ofList (repL z c) 0 .e) (Nat.mul c sz)))) false) false) false := fun _ _ => rfl
    rcases lin_evN x e with f | ⟨l, f⟩
    · exact .inl fun h hn k => by rw [hd, f]
    · rcases lin_evN y e with g | ⟨c, g⟩
      · exact .inl fun h hn k => by rw [hd, f, g]
      · cases h1 : Nat.ble l c with
        | false => exact .inl fun h hn k => by rw [hd, f, g, h1]; rfl
        | true => cases h2 : Nat.ble c 16777216 with
          | false => exact .inl fun h hn k => by rw [hd, f, g, h1, h2]; rfl
          | true => cases h3 : Nat.ble (Nat.mul b c) 16777216 with
            | false => exact .inl fun h hn k => by rw [hd, f, g, h1, h2, h3]; rfl
            | true => exact .inr ⟨.sl n 0 0 l (some c) sz, .st (T.ofList (repL z c) 0 .e) (Nat.mul c sz), fun h hn k => (by subst hn; rw [hd, f, g, h1, h2, h3]; rfl), fun φ w hv => OR_vac_st hv _ _⟩
  | s2b x =>
    have hd : ∀ h k, runA (.s2b x) e h k = ev x e fun v => onS v fun n w => k (.sl h.next 0 0 n none 1) (addO h (.ve (T.ofList (sbytes n w) 0 .e) n 0 0 [])) := fun _ _ => rfl
    rcases lin_ev x e with f | ⟨v, f⟩
    · exact .inl fun h hn k => f _
    · cases v with
      | s m w =>
        refine .inr ⟨.sl n 0 0 m none 1, .ve (T.ofList (sbytes m w) 0 .e) m 0 0 [], fun h hn k => (by subst hn; rw [hd, f]; rfl), fun φ w' hv => ⟨Nat.le_refl _, fun j hj => ?_, fun _ _ _ _ _ => rfl, fun _ _ _ => rfl, fun tag l hl => (by rw [hv] at hl; cases hl)⟩⟩
        have hlen : ∀ m w, (sbytes m w).length = m := fun m => by
          induction m with
          | zero => intro w; rfl
          | succ m ih => intro w; show (sbytes m (Nat.div w 256)).length + 1 = _; rw [ih]
        rw [get_ofList, if_pos ⟨by omega, by rw [hlen]; omega⟩]
        have : j - 0 < (sbytes m w).length := by rw [hlen]; omega
        exact ⟨_, List.getElem?_eq_getElem this⟩
      | _ => exact .inl fun h hn k => by rw [hd, f]; rfl

/- Reads in a heap that has grown. -/
theorem find_same {α β : Type} (t t' : T α) (i : Nat) (f : α → Bool) (hs : ∀ x, t.get i = some x → t'.get i = some x) (h : t.getK i false f = true) : t'.getK i false f = true := by
  obtain ⟨x, hx, hf⟩ := getK_true h
  rw [getK_eq, hs x hx]; exact hf
theorem read_grow {h h' : Heap} (hs : ∀ id o, h.tr.get id = some o → h'.tr.get id = some o) (o : ROp) (e : Env) (k : KV) (hr : runR o e h k = true) : runR o e h' k = true := by
  have hg : ∀ (id : Nat) (f : Obj → Bool), h.tr.getK id false f = true → h'.tr.getK id false f = true := fun id f hf => find_same (β := Obj) _ _ id f (hs id) hf
  cases o with
  | ld x =>
    have hd : ∀ h : Heap, runR (.ld x) e h k = ev x e fun v => onP v fun id tag off => h.tr.getK id false fun o => rdK o tag off k := fun _ => rfl
    rw [hd] at hr ⊢
    rcases lin_ev x e with f | ⟨v, f⟩
    · rw [f] at hr; cases hr
    rw [f] at hr ⊢
    cases v <;> first | exact hg _ _ hr | exact hr
  | ldn n x =>
    have hd : ∀ h : Heap, runR (.ldn n x) e h k = ev x e fun v => onP v fun id tag off => h.tr.getK id false fun o => rdsK o tag n off fun l => k (.agg l) := fun _ => rfl
    rw [hd] at hr ⊢
    rcases lin_ev x e with f | ⟨v, f⟩
    · rw [f] at hr; cases hr
    rw [f] at hr ⊢
    cases v <;> first | exact hg _ _ hr | exact hr
  | lk z ok kc m key =>
    have hd : ∀ h : Heap, runR (.lk z ok kc m key) e h k = ev m e fun m => ev key e fun key => ite' (kindIs kc key) (onM m (okV ok k z false) fun id => h.tr.getK id false fun o => onMp o fun es => findK es key (okV ok k z false) fun v => okV ok k v true) false := fun _ => rfl
    rw [hd] at hr ⊢
    rcases lin_ev m e with f | ⟨v, f⟩
    · rw [f] at hr; cases hr
    rw [f] at hr ⊢
    rcases lin_ev key e with g | ⟨y, g⟩
    · rw [g] at hr; cases hr
    rw [g] at hr ⊢
    cases hk : kindIs kc y <;> rw [hk] at hr
    · cases hr
    · cases v <;> first | exact hg _ _ hr | exact hr
  | lenm x =>
    have hd : ∀ h : Heap, runR (.lenm x) e h k = ev x e fun m => onM m (k (.i .i64 (.ofNat 0))) fun id => h.tr.getK id false fun o => onMp o fun es => k (.i .i64 (.ofNat (lenL es 0))) := fun _ => rfl
    rw [hd] at hr ⊢
    rcases lin_ev x e with f | ⟨v, f⟩
    · rw [f] at hr; cases hr
    rw [f] at hr ⊢
    cases v <;> first | exact hg _ _ hr | exact hr
  | b2s x =>
    have hd : ∀ h : Heap, runR (.b2s x) e h k = ev x e fun v => onSl v (k (.s 0 0)) fun id tag off len _ _ => h.tr.getK id false fun o => rdsK o tag len off fun l => bytesK l 0 0 fun w => k (.s len w) := fun _ => rfl
    rw [hd] at hr ⊢
    rcases lin_ev x e with f | ⟨v, f⟩
    · rw [f] at hr; cases hr
    rw [f] at hr ⊢
    cases v <;> first | exact hg _ _ hr | exact hr

theorem step_next {call : Nat → List AV → Heap → KH → Bool} (hL : LinC call) {c : COper} {e : Env} {h h' : Heap} {v : AV} {wt : Bool} (hs : StepAt call c e h v h' wt) : h.next ≤ h'.next := by
  rcases hs with ⟨_, _, g⟩ | ⟨_, _, _, rfl⟩
  · rcases lin_runO c.op hL e (h := h) with f | ⟨x, h2, hn, f⟩
    · have := (f (fun _ _ => true)).symm.trans (g (fun _ _ => true)); cases this
    · obtain ⟨rfl, rfl⟩ := val_eq fun k => (f k).symm.trans (g k)
      exact hn
  · exact Nat.le_refl _

theorem step_pure {call : Nat → List AV → Heap → KH → Bool} {c : COper} {p : POp} {e : Env} {h h' : Heap} {v : AV} (hc : c.op = .pu p) (hs : ∀ k, runO c.op call e h k = k v h') : h' = h ∧ ∀ k : KV, runP p e k = k v := by
  rw [hc] at hs
  have hs : ∀ k : KH, (runP p e fun v => k v h) = k v h' := hs
  rcases lin_runP p e with f | ⟨x, f⟩
  · have := (f _).symm.trans (hs (fun _ _ => true)); cases this
  · obtain ⟨rfl, rfl⟩ := val_eq fun k => (f _).symm.trans (hs k)
    exact ⟨rfl, f⟩
theorem step_read {call : Nat → List AV → Heap → KH → Bool} {c : COper} {p : ROp} {e : Env} {h h' : Heap} {v : AV} (hc : c.op = .rd p) (hs : ∀ k, runO c.op call e h k = k v h') : h' = h ∧ ∀ k : KV, runR p e h k = k v := by
  rw [hc] at hs
  have hs : ∀ k : KH, (runR p e h fun v => k v h) = k v h' := hs
  rcases lin_runR p e h with f | ⟨x, f⟩
  · have := (f _).symm.trans (hs (fun _ _ => true)); cases this
  · obtain ⟨rfl, rfl⟩ := val_eq fun k => (f _).symm.trans (hs k)
    exact ⟨rfl, f⟩
theorem step_alloc {call : Nat → List AV → Heap → KH → Bool} {c : COper} {p : AOp} {e : Env} {h h' : Heap} {v : AV} (hc : c.op = .al p) (hs : ∀ k, runO c.op call e h k = k v h') :
    ∃ obj, h' = addO h obj ∧ (∀ h2 : Heap, h2.next = h.next → ∀ k, runA p e h2 k = k v (addO h2 obj)) ∧ ∀ (φ : Emb) (w : World), (∀ t, φ h.next t = none) → OR φ w h.next obj := by
  rw [hc] at hs
  have hs : ∀ k : KH, runA p e h k = k v h' := hs
  rcases lin_alloc p e h.next with f | ⟨x, obj, f, g⟩
  · have := (f h rfl _).symm.trans (hs (fun _ _ => true)); cases this
  · obtain ⟨rfl, h2⟩ := val_eq fun k => (f h rfl k).symm.trans (hs k)
    exact ⟨obj, h2.symm, f, g⟩
end Go.AE
