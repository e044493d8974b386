/- Regions whose order is open: the whole. -/
import Derived.Test.YtodlgflkhcknaaaAFReg7
namespace Go.AE
set_option linter.unusedVariables false
variable {oq : Unit} [Opq oq]
open Go

noncomputable def locFrom (f : Nat → Nat) (loc : List Nat) : Nat → List Nat
  | 0 => loc
  | j + 1 => f j :: locFrom f loc j
theorem locFrom_shift (f : Nat → Nat) (loc : List Nat) : ∀ j, locFrom f loc (j + 1) = locFrom (fun i => f (i + 1)) (f 0 :: loc) j
  | 0 => rfl
  | j + 1 => by rw [locFrom, locFrom_shift f loc j, locFrom]
theorem locFrom_at (f : Nat → Nat) : ∀ j, locFrom f [] j = locAt f j
  | 0 => rfl
  | j + 1 => by rw [locFrom, locFrom_at f j, locAt]

theorem cOpers_spec {X : CX} {ops : Array Oper} (l : List Oper) : ∀ (f : Nat → Nat) (loc : List Nat) (cl : List COper), (∀ (j : Nat) (o : Oper), l[j]? = some o → f j = slotOf o.dst) → cOpers X ops l loc = some cl →
    cl.length = l.length ∧ ∀ (j : Nat) (o : Oper), l[j]? = some o → ∃ c, cl[j]? = some c ∧ cOper (X.at (locFrom f loc j)) ops o = some c := by
  induction l with
  | nil => intro f loc cl _ h; cases h; exact ⟨rfl, fun j o h => (by simp at h)⟩
  | cons o l ih =>
    intro f loc cl hf h
    unfold cOpers at h
    split at h
    · cases h
    · rename_i c hc
      split at h
      · rename_i r hr
        cases h
        have h0 : f 0 = slotOf o.dst := hf 0 o rfl
        rw [← h0] at hr
        obtain ⟨h1, h2⟩ := ih (fun i => f (i + 1)) _ r (fun j o' ho => hf (j + 1) o' (by simpa using ho)) hr
        refine ⟨by simp [h1], fun j o' ho => ?_⟩
        cases j with
        | zero => cases ho; exact ⟨c, rfl, hc⟩
        | succ j =>
          obtain ⟨c', h3, h4⟩ := h2 j o' (by simpa using ho)
          exact ⟨c', by simpa using h3, by rw [locFrom_shift]; exact h4⟩
      · cases h

section
variable {P : Program} {X : CX} {call : Nat → List AV → Heap → KH → Bool} {ops : Array Oper} {cl : List COper} {di : List DI} {bef : Nat → Nat} {E : Nat → Env} {H : Nat → Heap} {V : Nat → AV} {W : Nat → Bool} {fr0 : Fr}
  {M : Nat} {φ0 φ : Emb} {w0 w : World} {Q : Exit → Act → World → Prop}

def LL (listed : Array Bool) (i : Nat) : Prop := listed.getD i false = true

theorem LL_set {listed : Array Bool} {i : Nat} (hi : i < listed.size) : LL (listed.setIfInBounds i true) = fun j => j = i ∨ LL listed j := by
  funext j
  apply propext
  unfold LL
  by_cases h : j = i
  · subst h; simp [hi]
  · rw [getD_set_ne false (fun e => h e.symm)]
    constructor
    · exact .inr
    · intro h'; exact h'.resolve_left h

def left (listed : Array Bool) : Nat := (listed.toList.filter fun b => !b).length
theorem left_zero {l : List Bool} : (l.filter fun b => !b).length = 0 → ∀ b ∈ l, b = true := by
  intro h b hb
  cases b with
  | true => rfl
  | false =>
    have : false ∈ l.filter fun b => !b := List.mem_filter.2 ⟨hb, rfl⟩
    rw [List.length_eq_zero_iff.1 h] at this; cases this
theorem left_set : ∀ {l : List Bool} {i : Nat}, l[i]? = some false → ((l.set i true).filter fun b => !b).length + 1 = (l.filter fun b => !b).length
  | [], i, h => by simp at h
  | b :: l, 0, h => by
    have : b = false := by simpa using h
    subst this; simp
  | b :: l, i + 1, h => by
    have ih := left_set (l := l) (i := i) (by simpa using h)
    cases b
    · simpa using ih
    · simpa using ih

theorem any_sound (D : DC P X call ops cl di bef E H V W fr0) (hF0 : Fresh φ0 (H 0).next M) (hMn : (H cl.length).next ≤ M) (hQ : ∀ L a w, Inv X ops cl bef H V W fr0 M φ0 w0 L a w → (∀ i, i < ops.size → L i) → Q .normal a w) :
    ∀ (fuel : Nat) (listed : Array Bool) (a : Act) (w : World), listed.size = ops.size → left listed ≤ fuel → Inv X ops cl bef H V W fr0 M φ0 w0 (LL listed) a w → wpAny P .any ops Q fuel listed a w := by
  have rdy : ∀ {listed : Array Bool} {i : Nat}, listed.size = ops.size → i ∈ Region.ready .any ops listed → ∃ o, Ready ops (LL listed) i o ∧ listed.toList[i]? = some false ∧ i < listed.size := fun {listed i} hsz h => by
    obtain ⟨h1, o, h2, h3⟩ := mem_ready.1 h
    have hi : i < listed.size := by rw [hsz]; exact (Array.getElem?_eq_some_iff.1 h2).1
    have hf : listed[i] = false := by simpa [hi] using h1
    exact ⟨o, ⟨h2, fun h => by unfold LL at h; simp [hi, hf] at h, h3⟩, by simp [hi, hf], hi⟩
  have all : ∀ {listed : Array Bool}, listed.size = ops.size → Region.ready .any ops listed = [] → ∀ i, i < ops.size → LL listed i := fun {listed} hsz h i => by
    induction i using Nat.strongRecOn with
    | _ i ih =>
      intro hi
      obtain ⟨o, ho⟩ := get_of_lt hi
      obtain ⟨c, d, _, _, dk, _⟩ := D.ok i o ho
      have hi' : i < listed.size := by omega
      cases hb : listed[i] with
      | true => unfold LL; simp [hi', hb]
      | false =>
        have : i ∈ Region.ready .any ops listed := mem_ready.2 ⟨by simp [hi', hb], o, ho, fun e he hbd => ih e.on (dk.lt e he hbd) (by have := dk.lt e he hbd; omega)⟩
        rw [h] at this; cases this
  intro fuel
  induction fuel with
  | zero =>
    intro listed a w hsz hl I
    have hz := left_zero (l := listed.toList) (Nat.le_zero.1 hl)
    have he : Region.ready .any ops listed = [] := by
      cases hr : Region.ready .any ops listed with
      | nil => rfl
      | cons i r =>
        obtain ⟨o, _, h1, _⟩ := rdy hsz (show i ∈ Region.ready .any ops listed by rw [hr]; exact List.mem_cons_self)
        have := hz false (List.mem_of_getElem? h1); cases this
    exact ⟨he, hQ _ a w I (all hsz he)⟩
  | succ fuel ih =>
    intro listed a w hsz hl I
    refine ⟨fun he => hQ _ a w I (all hsz he), fun i hi => ?_⟩
    obtain ⟨o, hr, h1, hlt⟩ := rdy hsz hi
    refine wpOp_mono (fun a' w' I' => ih (listed.setIfInBounds i true) a' w' (by simpa using hsz) ?_ ?_) (dr_step D hF0 hMn I hr)
    · have := left_set h1
      unfold left at hl ⊢
      rw [Array.toList_setIfInBounds]; omega
    · rw [LL_set hlt]; exact I'

theorem WR.drawn {φ : Emb} {h : Heap} {w : World} (hW : WR φ h w) (n : Nat) : WR φ h { w with drawn := n } :=
  ⟨hW.scope, fun id o ho => by
    have := hW.obj id o ho
    cases o <;> exact this, hW.inj, hW.here, hW.roo⟩

theorem dreg_sound (g : Good P X call) (hm : P.follows .mixedOrders = true) {id : Nat} {fr : Fr} {a : Act} {h : Heap} {k : KF} (hreg : cReg X ops true = .dreg cl) (hr : runD call cl ⟨fr, []⟩ h [] [] k = true) (hFI : FI X φ fr a) (hW : WR φ h w)
    (hF : Fresh φ h.next M) (hM : ∀ fr h', k fr h' = true → h'.next ≤ M)
    (hQ : ∀ fr h' ψ a' w', k fr h' = true → FI X ψ fr a' → WR ψ h' w' → Stp φ h.next w ψ h'.next w' → Q .normal a' w') : (Code.region id ops true).wp P Q a w := by
  unfold cReg at hreg
  split at hreg
  · cases hreg
  · rename_i cl0 hcl
    simp only at hreg
    split at hreg
    · cases hreg
    · rename_i di hdi
      split at hreg
      · rename_i hpairs
        have hreg : withLoHi di di cl0 = cl := by cases hreg; rfl
        have hslot : ∀ (j : Nat) (o : Oper), ops.toList[j]? = some o → slotAt ops j = slotOf o.dst := fun j o ho => by
          have : ops[j]? = some o := by simpa using ho
          unfold slotAt dstAt; rw [this]; rfl
        obtain ⟨hl0, hspec⟩ := cOpers_spec ops.toList (slotAt ops) [] cl0 hslot hcl
        obtain ⟨_, hdl, bef, _, hdk⟩ := dInfo_spec ops.toList cl0 0 .e di hdi
        have hll := lohi_len di di (cl := cl0) hdl
        rw [hreg] at hll
        obtain ⟨E, H, V, W, hE0, hH0, htra, hk, _, hchk⟩ := trace g.lin cl ⟨fr, []⟩ h [] [] hr
        have D : DC P X call ops cl di bef E H V W fr := by
          refine ⟨g, by rw [hll, hl0]; simp, by rw [hdl, hll], fun i o ho => ?_, fun i j x y hij hx hy => pairs_spec hpairs i j x y hij hx hy, htra, hE0, fun i c x hc hx => ?_, hchk⟩
          · have ho' : ops.toList[i]? = some o := by simpa using ho
            obtain ⟨c0, hc0, hco⟩ := hspec i o ho'
            have hi : i < cl.length := by rw [hll]; exact (List.getElem?_eq_some_iff.1 hc0).1
            have hci := List.getElem?_eq_getElem hi
            obtain ⟨c1, x, h1, h2, h3, h4, h5, h6, h7⟩ := lohi_spec di di (cl := cl0) hdl i cl[i] (by rw [hreg]; exact hci)
            rw [hc0] at h1; cases h1
            obtain ⟨p1, p2, p3⟩ := cOper_parts hco
            rw [locFrom_at] at p1 p3
            have dk := hdk i o c0 x ho' hc0 h2
            rw [Nat.zero_add] at dk
            refine ⟨cl[i], x, hci, h2, ⟨dk.no, dk.dst, dk.look, dk.guard, dk.lt, dk.back, dk.befs, by rw [h5]; exact dk.al, by rw [h5]; exact dk.ef⟩, by rw [h5]; exact p1, by rw [h3]; exact p2, by rw [h4]; exact p3⟩
          · obtain ⟨c1, x', h1, h2, h3, h4, h5, h6, h7⟩ := lohi_spec di di (cl := cl0) hdl i c (by rw [hreg]; exact hc)
            rw [hx] at h2; cases h2
            exact ⟨h6, h7⟩
        have hMn : (H cl.length).next ≤ M := hM _ _ hk
        have hF0 : Fresh φ (H 0).next M := by rw [hH0]; exact hF
        refine wp_region_any hm ?_
        let w1 : World := { w with drawn := w.drawn + 1 }
        refine any_sound (w0 := w) D hF0 hMn (fun L a' w' I hall => ?_) ops.size _ a w1 (by simp) ?_ ?_
        · obtain ⟨_, hn, hd, ψ, s, hS, hs, m⟩ := I
          have hsn : s = cl.length := by
            rcases hs.here with h1 | ⟨c, hc, he⟩
            · exact h1
            · exact absurd (hall s (by rw [← D.len]; exact (List.getElem?_eq_some_iff.1 hc).1)) (hs.next s c (Nat.le_refl _) hc he)
          subst hsn
          have hstp := m.stp
          rw [hH0] at hstp
          refine hQ _ _ ψ a' w' hk ⟨⟨fun t j hj => (by cases hj), fun t ht v hv => ?_⟩, hn, hd⟩ m.wr hstp
          exact hS t ops.size (Nat.le_refl _) (fun x hx _ => ⟨fun _ => hall x hx, fun _ => hx⟩) v (by rw [← D.len]; exact D.cs_fr cl.length (Nat.le_refl _) t v ht hv)
        · unfold left
          refine Nat.le_trans (List.length_filter_le _ _) (by simp)
        · have hno : ∀ i, ¬ LL (Array.replicate ops.size false) i := fun i hi => by
            unfold LL at hi
            rw [Array.getD_eq_getD_getElem?, Array.getElem?_replicate] at hi
            split at hi <;> cases hi
          have hm0 : Mem cl H W M φ w (LL (Array.replicate ops.size false)) 0 φ w1 := by
            have hW1 : WR φ (H 0) w1 := by rw [hH0]; exact hW.drawn _
            refine ⟨hW1, fun j hj id o ho => ?_, fun a c o _ _ _ _ hL => absurd hL (hno a), fun id t l hl => ?_, fun a c hc ha hw _ t => ?_, ⟨Sub.refl _, D.mono (Nat.zero_le _) (Nat.le_refl _), fun _ _ _ h => .inl h, rfl, rfl, rfl, Nat.le_refl _, fun _ _ _ => rfl⟩, hW1.roo.1⟩
            · obtain rfl : j = 0 := by omega
              exact hW1.scope id o ho
            · rcases hF0 id t l hl with h1 | h1
              · exact .inl h1
              · exact .inr (.inr h1)
            · cases hl : φ (H a).next t with
              | none => rfl
              | some l =>
                have ha' : a < cl.length := (List.getElem?_eq_some_iff.1 hc).1
                have h1 := D.mono (Nat.zero_le a) (Nat.le_of_lt ha')
                have h2 := D.made_lt hc ha hw
                have h3 := D.mono (i := a + 1) (j := cl.length) ha' (Nat.le_refl _)
                rcases hF0 _ t l hl with h4 | h4 <;> omega
          obtain ⟨s', hs', hm'⟩ := D.advance _ 0 rfl (Nat.zero_le _) hm0 (fun x c hx => by omega) fun x c _ _ _ => hno x
          refine ⟨fun i hi => absurd hi (hno i), hFI.size, hFI.defers, φ, s', fun t i hi hw v hv => ?_, hs', hm'⟩
          have hcs : ∀ j, j ≤ i → CS X ops fr V j t = some v → CS X ops fr V 0 t = some v := fun j => by
            induction j with
            | zero => intro _ h; exact h
            | succ j ih =>
              intro hj h
              rw [CS] at h
              rw [if_neg] at h
              · exact ih (by omega) h
              · intro hwj
                exact hno j ((hw j (by omega) hwj).1 (by omega))
          have h0 := hcs i (Nat.le_refl _) hv
          rw [CS] at h0
          split at h0
          · rename_i hlv; exact hFI.er.fr t hlv v h0
          · cases h0
      · cases hreg
end
end Go.AE
