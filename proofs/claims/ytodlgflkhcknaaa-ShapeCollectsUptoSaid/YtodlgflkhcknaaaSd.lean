import Derived.Test.YtodlgflkhcknaaaSc
import Derived.Test.YtodlgflkhcknaaaGp
set_option linter.unusedVariables false
/- What is built and collected is the same graph. -/
namespace Go.Proofs.Ytodlgflkhcknaaa.gcc
open Go Go.AE
set_option linter.unusedSimpArgs false
set_option maxRecDepth 100000

theorem odd_none {A : List Cl} {w : Int} (h : w % 2 = 1) : lookB 0 (A.map Cl.bk) w = none := by
  rw [look_bk]
  cases hl : look 0 A w with
  | none => rfl
  | some c => have := look_even hl; omega
theorem usedB_lt {bs : List Bk} : ∀ {t u : Nat}, t < u → u ≤ bs.length → usedB (bs.take t) < usedB (bs.take u) := by
  induction bs with
  | nil => intro t u h1 h2; simp at h2; omega
  | cons b bs ih =>
    intro t u h1 h2
    cases u with
    | zero => omega
    | succ u =>
      cases t with
      | zero => simp only [List.take_zero, usedB, List.take_succ_cons]; omega
      | succ t =>
        simp only [List.take_succ_cons, usedB]
        have := ih (t := t) (u := u) (by omega) (by simpa using h2)
        omega

section
variable {L0 cs Ln : List Cl} {bs : List Bl}
theorem addrs_get {u j : Nat} (hj : j < bs.length) : (addrs u bs bs.length)[j]? = some (2 * ((u + wordsB (bs.take j) : Nat) : Int)) := by
  unfold addrs; rw [List.getElem?_map, List.getElem?_range hj]; rfl
theorem words_lt {i j : Nat} (hij : i < j) (hj : j ≤ bs.length) : wordsB (bs.take i) < wordsB (bs.take j) := by
  have h1 : bs[i]? = some (bs[i]'(by omega)) := List.getElem?_eq_getElem _
  have h2 := words_take h1
  have h3 := words_le (bs.take j) (i + 1)
  rw [List.take_take, Nat.min_eq_left (by omega)] at h3
  omega

/-- The graph is reached. -/
theorem reach {a : Nat → Int} {ord : List Int} (hk : ∀ (j : Nat) b r, bs[j]? = some b → a j ∈ ord → r ∈ b.kids → r.1 = false → a r.2.toNat ∈ ord) : ∀ (f : Nat) (r : Rf) (n n' : Nat), OKr bs f r n n' → n ≤ bs.length → (r.1 = false → a r.2.toNat ∈ ord) → ∀ j, n ≤ j → j < n' → a j ∈ ord
  | 0, _, _, _, h, _, _, _, _, _ => h.elim
  | f + 1, r, n, n', h, hn, hr, j, hj1, hj2 => by
    rcases h with ⟨_, _, h3⟩ | ⟨_, _, _, h3⟩ | ⟨h1, h2, b, h3, h4, h5⟩
    · omega
    · omega
    · have hl := (List.getElem?_eq_some_iff.1 h3).1
      have hin : a n ∈ ord := by
        have := hr h1
        rw [h2, Int.toNat_natCast] at this
        exact this
      by_cases e : j = n
      · rw [e]; exact hin
      · have go : ∀ (l : List Rf) (m m' : Nat), (∀ r ∈ l, r ∈ b.kids) → OKs (OKr bs f) l m m' → m ≤ bs.length → ∀ j, m ≤ j → j < m' → a j ∈ ord := by
          intro l
          induction l with
          | nil => intro m m' _ ho _ j g1 g2; have ho : m' = m := ho; omega
          | cons x l ih =>
            intro m m' hm ho hml j g1 g2
            obtain ⟨m1, o1, o2⟩ := ho
            have hx := hm x List.mem_cons_self
            have ha := o1.all hml
            by_cases e : j < m1
            · exact reach hk f x m m1 o1 hml (hk n b x h3 hin hx) j g1 e
            · exact ih m1 m' (fun r hr => hm r (List.mem_cons_of_mem _ hr)) o2 ha.2.1 j (by omega) g2
        exact go b.kids (n + 1) n' (fun r hr => hr) h5 (by omega) j (by omega) hj2

theorem isoC (ln : cs.length = bs.length) (pr : ∀ (j : Nat) c b, cs[j]? = some c → bs[j]? = some b → c.tag = b.tag ∧ c.fl.length = b.sn + b.kids.length ∧ (b.tag = 1 → c.fl = bytesW b.sn b.sv))
    (dn : ∀ (j : Nat) c b (t : Nat) r, cs[j]? = some c → bs[j]? = some b → b.kids[t]? = some r → c.fl[t]? = some (wordOf (addrs (used L0) bs bs.length) r)) {f : Nat} {ri : Bool} {rn : Int} (ho : OKr bs f (ri, rn) 0 bs.length)
    (hL : Ln.map Cl.bk = (pcollect ((L0 ++ cs).map Cl.bk) [wordOf (addrs (used L0) bs bs.length) (ri, rn)]).2.bs) :
    ∃ β, (pcollect ((L0 ++ cs).map Cl.bk) [wordOf (addrs (used L0) bs bs.length) (ri, rn)]).1 = [wB β (ri, rn)] ∧ Iso Ln bs β ∧ used Ln = wordsB bs := by
  obtain ⟨_, _, hrt, hall⟩ := ho.all (Nat.zero_le _)
  obtain ⟨a, ha⟩ : ∃ a : Nat → Int, a = fun j => 2 * ((used L0 + wordsB (bs.take j) : Nat) : Int) := ⟨_, rfl⟩
  obtain ⟨A, hA⟩ : ∃ A, A = (L0 ++ cs).map Cl.bk := ⟨_, rfl⟩
  have ust := us_take ln (fun j c b hc hb => (pr j c b hc hb).2.1)
  have lk : ∀ (j : Nat) (c : Cl), cs[j]? = some c → lookB 0 A (a j) = some c.bk := fun j c hc => by
    have hjc : (L0 ++ cs)[L0.length + j]? = some c := by rw [List.getElem?_append_right (by omega), Nat.add_sub_cancel_left]; exact hc
    have := look_addr (a := 0) hjc
    rw [List.take_append, List.take_of_length_le (by omega), Nat.add_sub_cancel_left, used_app, ust, Nat.zero_add] at this
    rw [hA, look_bk, ha, this]; rfl
  have csj : ∀ {j : Nat}, j < bs.length → ∃ c, cs[j]? = some c := fun {j} hj => ⟨_, List.getElem?_eq_getElem (by omega)⟩
  have wo : ∀ r : Rf, okRf bs.length r → (r.1 = true ∧ wordOf (addrs (used L0) bs bs.length) r % 2 = 1 ∧ wordOf (addrs (used L0) bs bs.length) r = 2 * r.2 + 1) ∨ (r.1 = false ∧ r.2.toNat < bs.length ∧ wordOf (addrs (used L0) bs bs.length) r = a r.2.toNat) := fun r hr => by
    rcases hr with ⟨h1, h2⟩ | ⟨h1, h2, h3⟩
    · left
      have : wordOf (addrs (used L0) bs bs.length) r = 2 * r.2 + 1 := by unfold wordOf; rw [if_pos h1]
      exact ⟨h1, by rw [this]; omega, this⟩
    · right
      refine ⟨h1, by omega, ?_⟩
      unfold wordOf
      rw [if_neg (by rw [h1]; decide), List.getD_eq_getElem?_getD, addrs_get (by omega), ha]; rfl
  have flk : ∀ (j : Nat) c b (x : Nat) y, cs[j]? = some c → bs[j]? = some b → c.fl[x]? = some y → (b.tag = 1 ∧ y % 2 = 1) ∨ (b.tag ≠ 1 ∧ ∃ r, b.kids[x]? = some r ∧ r ∈ b.kids ∧ okRf bs.length r ∧ y = wordOf (addrs (used L0) bs bs.length) r) := fun j c b x y hc hb hy => by
    obtain ⟨hg, hk⟩ := hall j b (Nat.zero_le _) (List.getElem?_eq_some_iff.1 hb).1 hb
    obtain ⟨p1, p2, p3⟩ := pr j c b hc hb
    have hx := (List.getElem?_eq_some_iff.1 hy).1
    rcases good_tag hg with ⟨t1, _⟩ | ⟨t1, _, _, t4, _⟩
    · left
      rw [p3 t1] at hy hx
      rw [bytesW_len] at hx
      rw [bytesW_get hx] at hy
      cases hy
      exact ⟨t1, by omega⟩
    · right
      have hxk : x < b.kids.length := by omega
      have hr := List.getElem?_eq_getElem hxk
      have := dn j c b x _ hc hb hr
      rw [hy] at this
      cases this
      exact ⟨t1, _, hr, List.getElem_mem hxk, hk _ (List.getElem_mem hxk), rfl⟩
  have hP : ∀ w b y, (∃ j, j < bs.length ∧ w = a j) → lookB 0 A w = some b → y ∈ b.2 → lookB 0 A y ≠ none → ∃ j, j < bs.length ∧ y = a j := fun w b y ⟨j, hj, hw⟩ hb hy hn => by
    obtain ⟨c, hc⟩ := csj hj
    rw [hw, lk j c hc] at hb
    cases hb
    obtain ⟨x, hx⟩ := List.getElem?_of_mem hy
    rcases flk j c _ x y hc (List.getElem?_eq_getElem hj) hx with ⟨_, h2⟩ | ⟨_, r, _, _, hr, rfl⟩
    · rw [hA] at hn; exact absurd (odd_none h2) hn
    · rcases wo r hr with ⟨_, h2, _⟩ | ⟨_, h2, h3⟩
      · rw [hA] at hn; exact absurd (odd_none h2) hn
      · exact ⟨_, h2, h3⟩
  obtain ⟨w, hw⟩ : ∃ w, w = wordOf (addrs (used L0) bs bs.length) (ri, rn) := ⟨_, rfl⟩
  rw [← hA, ← hw] at hL ⊢
  obtain ⟨y, hy1, hy2, I⟩ := collect_one (A := A) (P := fun w => ∃ j, j < bs.length ∧ w = a j) hP w (fun hn => by
    rcases wo _ hrt with ⟨_, h2, _⟩ | ⟨_, h2, h3⟩
    · rw [hA, hw] at hn; exact absurd (odd_none h2) hn
    · exact ⟨_, h2, hw.trans h3⟩)
  obtain ⟨s, hs⟩ : ∃ s, s = (pcollect A [w]).2 := ⟨_, rfl⟩
  rw [← hs] at hL hy2 I
  have full : ∀ (t : Nat) v c c0, s.ord[t]? = some v → s.bs[t]? = some c → lookB 0 A v = some c0 → c.1 = c0.1 ∧ c.2.length = c0.2.length ∧ ∀ (x : Nat) u, c0.2[x]? = some u → ∃ z, c.2[x]? = some z ∧ Mv A s u z := fun t v c c0 hv hc hc0 => by
    obtain ⟨g1, g2, g3⟩ := I.fd t v c c0 hv hc hc0
    exact ⟨g1, g2, fun x u hu => (g3 x u hu).1 (.inl (List.getElem?_eq_some_iff.1 hv).1)⟩
  have olen := I.ok.len
  have mvIn : ∀ {u z : Int}, Mv A s u z → lookB 0 A u ≠ none → u ∈ s.ord ∧ (nowAt 0 s.ord s.bs u).getD 0 = z := fun h hn => by
    rcases h with ⟨h1, _⟩ | ⟨_, t, h2, h3⟩
    · exact absurd h1 hn
    · have := now_addr (a := 0) I.ok.nd olen h2
      rw [Nat.zero_add] at this
      exact ⟨List.mem_of_getElem? h2, by rw [this, h3]; rfl⟩
  have aIn : ∀ j, j < bs.length → a j ∈ s.ord := by
    refine fun j hj => reach (a := a) (ord := s.ord) (fun j b r hb hj hr h1 => ?_) f (ri, rn) 0 bs.length ho (Nat.zero_le _) (fun h1 => ?_) j (Nat.zero_le _) hj
    · have hjl := (List.getElem?_eq_some_iff.1 hb).1
      obtain ⟨c, hc⟩ := csj hjl
      obtain ⟨t, ht⟩ := List.getElem?_of_mem hj
      have htl := (List.getElem?_eq_some_iff.1 ht).1
      obtain ⟨_, _, g3⟩ := full t (a j) _ c.bk ht (List.getElem?_eq_getElem (by omega)) (lk j c hc)
      obtain ⟨x, hx⟩ := List.getElem?_of_mem hr
      have hf := dn j c b x r hc hb hx
      obtain ⟨z, _, z2⟩ := g3 x _ hf
      rcases wo r ((hall j b (Nat.zero_le _) hjl hb).2 r hr) with ⟨h2, _⟩ | ⟨_, h2, h3⟩
      · rw [h1] at h2; cases h2
      · rw [h3] at z2
        obtain ⟨c', hc'⟩ := csj h2
        exact (mvIn z2 (by rw [lk _ c' hc']; simp)).1
    · rcases wo _ hrt with ⟨h2, _⟩ | ⟨_, h2, h3⟩
      · rw [h1] at h2; cases h2
      · rw [hw, h3] at hy2
        obtain ⟨c', hc'⟩ := csj h2
        exact (mvIn hy2 (by rw [lk _ c' hc']; simp)).1
  obtain ⟨β, hβ⟩ : ∃ β : Nat → Int, β = fun j => (nowAt 0 s.ord s.bs (a j)).getD 0 := ⟨_, rfl⟩
  have at' : ∀ j, j < bs.length → ∃ t, s.ord[t]? = some (a j) ∧ t < s.bs.length ∧ β j = 2 * ((usedB (s.bs.take t) : Nat) : Int) := fun j hj => by
    obtain ⟨t, ht⟩ := List.getElem?_of_mem (aIn j hj)
    have := now_addr (a := 0) I.ok.nd olen ht
    rw [Nat.zero_add] at this
    exact ⟨t, ht, by have := (List.getElem?_eq_some_iff.1 ht).1; omega, by rw [hβ]; simp only; rw [this]; rfl⟩
  have mvW : ∀ r : Rf, okRf bs.length r → ∀ z, Mv A s (wordOf (addrs (used L0) bs bs.length) r) z → z = wB β r := fun r hr z hz => by
    rcases wo r hr with ⟨h1, h2, h3⟩ | ⟨h1, h2, h3⟩
    · rcases hz with ⟨_, h4⟩ | ⟨h4, _⟩
      · rw [h4, h3]; unfold wB; rw [if_pos h1]
      · rw [hA] at h4; exact absurd (odd_none h2) h4
    · obtain ⟨c', hc'⟩ := csj h2
      rw [h3] at hz
      have := (mvIn hz (by rw [lk _ c' hc']; simp)).2
      unfold wB
      rw [if_neg (by rw [h1]; decide), hβ]
      exact this.symm
  refine ⟨β, by rw [hy1, mvW _ hrt y (by rw [← hw]; exact hy2)], ⟨fun i j hij hj => ?_, fun j b hb => ?_⟩, ?_⟩
  · obtain ⟨t, t1, t2, t3⟩ := at' i (by omega)
    obtain ⟨u, u1, u2, u3⟩ := at' j hj
    have hne : t ≠ u := fun e => by
      subst e
      rw [t1] at u1
      have h1 : a i = a j := Option.some.inj u1
      have := words_lt (bs := bs) hij (by omega)
      rw [ha] at h1
      simp only at h1
      omega
    rw [t3, u3]
    rcases Nat.lt_or_gt_of_ne hne with h1 | h1
    · have := usedB_lt (bs := s.bs) h1 (by omega); omega
    · have := usedB_lt (bs := s.bs) h1 (by omega); omega
  · have hj := (List.getElem?_eq_some_iff.1 hb).1
    obtain ⟨c0, hc0⟩ := csj hj
    obtain ⟨t, t1, t2, t3⟩ := at' j hj
    have hbt : s.bs[t]? = some s.bs[t] := List.getElem?_eq_getElem t2
    obtain ⟨g1, g2, g3⟩ := full t (a j) _ _ t1 hbt (lk j c0 hc0)
    have hLt : (Ln.map Cl.bk)[t]? = some s.bs[t] := by rw [hL]; exact hbt
    rw [List.getElem?_map] at hLt
    obtain ⟨c, hc, hck⟩ := Option.map_eq_some_iff.1 hLt
    have hlook := look_addr (a := 0) hc
    have hut : used (Ln.take t) = usedB (s.bs.take t) := by rw [← used_bk, List.map_take, hL]
    rw [Nat.zero_add, hut, ← t3] at hlook
    obtain ⟨p1, p2, p3⟩ := pr j c0 b hc0 hb
    have hfl : c.fl = s.bs[t].2 := by rw [← hck]; rfl
    have hlen2 : c.fl.length = c0.fl.length := by rw [hfl]; exact g2
    refine ⟨c, hlook, ?_, fun ht => ?_, fun ht => ?_⟩
    · have : c.tag = s.bs[t].1 := by rw [← hck]; rfl
      rw [this, g1]; exact p1
    · rw [← p3 ht]
      refine List.ext_getElem? fun x => ?_
      by_cases hx : x < c0.fl.length
      · obtain ⟨z, z1, z2⟩ := g3 x _ (List.getElem?_eq_getElem hx)
        rw [hfl, z1, List.getElem?_eq_getElem hx]
        rcases flk j c0 b x _ hc0 hb (List.getElem?_eq_getElem hx) with ⟨_, h2⟩ | ⟨h2, _⟩
        · rcases z2 with ⟨_, h4⟩ | ⟨h4, _⟩
          · rw [h4]
          · rw [hA] at h4; exact absurd (odd_none h2) h4
        · exact absurd ht h2
      · rw [List.getElem?_eq_none (by omega), List.getElem?_eq_none (by omega)]
    · have hsn : b.sn = 0 := by
        rcases good_tag (hall j b (Nat.zero_le _) hj hb).1 with ⟨h2, _⟩ | ⟨_, _, _, h2, _⟩
        · exact absurd h2 ht
        · exact h2
      refine List.ext_getElem? fun x => ?_
      by_cases hx : x < c0.fl.length
      · obtain ⟨z, z1, z2⟩ := g3 x _ (List.getElem?_eq_getElem hx)
        rw [hfl, z1, List.getElem?_map]
        rcases flk j c0 b x _ hc0 hb (List.getElem?_eq_getElem hx) with ⟨h2, _⟩ | ⟨_, r, hr, _, hok, he⟩
        · exact absurd h2 ht
        · rw [hr]
          have he' : c0.bk.2[x] = wordOf (addrs (used L0) bs bs.length) r := he
          rw [he] at z2
          rw [mvW r hok z z2]; rfl
      · rw [List.getElem?_eq_none (by omega), List.getElem?_eq_none (by simp; omega)]
  · have hu1 : used Ln = usedB s.bs := by rw [← used_bk, hL]
    obtain ⟨h1, _⟩ := used_sum (A := A) s.ord s.bs olen (fun t v c hv hc => by
      obtain ⟨c0, e1, _, e2⟩ := I.ok.pr t v c hv hc
      exact ⟨c0, e1, e2⟩)
    have hperm : s.ord.Perm ((List.range bs.length).map a) := by
      refine (List.perm_ext_iff_of_nodup I.ok.nd ?_).2 fun v => ⟨fun hv => ?_, fun hv => ?_⟩
      · refine List.pairwise_map.2 (List.Pairwise.imp_of_mem (R := fun i j => i < j) ?_ List.pairwise_lt_range)
        intro i j hi hj hij he
        have := words_lt (bs := bs) hij (Nat.le_of_lt (List.mem_range.1 hj))
        rw [ha] at he
        simp only at he
        omega
      · obtain ⟨j, hj, e⟩ := I.mem v hv
        exact List.mem_map.2 ⟨j, List.mem_range.2 hj, e.symm⟩
      · obtain ⟨j, hj, rfl⟩ := List.mem_map.1 hv
        exact aIn j (List.mem_range.1 hj)
    have hsum := (hperm.map fun w => szO (lookB 0 A w)).sum_nat
    rw [hu1, h1, hsum, List.map_map]
    have all : ∀ n, n ≤ bs.length → ((List.range n).map ((fun w => szO (lookB 0 A w)) ∘ a)).sum = wordsB (bs.take n) := by
      intro n
      induction n with
      | zero => intro _; simp [wordsB]
      | succ n ih =>
        intro hn
        obtain ⟨c, hc⟩ := csj (j := n) (by omega)
        have hb : bs[n]? = some (bs[n]'(by omega)) := List.getElem?_eq_getElem _
        rw [List.range_succ, List.map_append, List.sum_append, ih (by omega), words_take hb]
        simp only [List.map_cons, List.map_nil, List.sum_cons, List.sum_nil, Function.comp_apply, lk n c hc, szO]
        have := (pr n c _ hc hb).2.1
        show wordsB (bs.take n) + (1 + c.fl.length + 0) = _
        omega
    rw [all bs.length (Nat.le_refl _), List.take_length]
end
end Go.Proofs.Ytodlgflkhcknaaa.gcc

/- The law ShapeCollects: blocks that nobody holds. -/
namespace Go.Proofs.Ytodlgflkhcknaaa.gcc
open Go Go.AE
set_option linter.unusedSimpArgs false
set_option maxRecDepth 100000

theorem OKs.impl {bs : List Bl} {R R' : Rf → Nat → Nat → Prop} {n0 : Nat} (hR : ∀ r m m', R r m m' → m ≤ bs.length → m ≤ m' ∧ m' ≤ bs.length) (h : ∀ r m m', n0 ≤ m → m ≤ bs.length → R r m m' → R' r m m') : ∀ {l : List Rf} {n n' : Nat}, n0 ≤ n → n ≤ bs.length → OKs R l n n' → OKs R' l n n'
  | [], _, _, _, _, h1 => h1
  | _ :: _, n, _, hn, hl, ⟨m, h1, h2⟩ => by
    have := hR _ _ _ h1 hl
    exact ⟨m, h _ _ _ hn hl h1, OKs.impl hR h (by omega) this.2 h2⟩
theorem OKr.add {bs : List Bl} {f : Nat} {r : Rf} {n n' : Nat} (h : OKr bs f r n n') : ∀ d, OKr bs (f + d) r n n'
  | 0 => h
  | d + 1 => (h.add d).succ
theorem OKr.deep {bs : List Bl} : ∀ {f : Nat} {r : Rf} {n n' : Nat}, OKr bs f r n n' → n ≤ bs.length → OKr bs (bs.length - n + 1) r n n'
  | 0, _, _, _, h, _ => h.elim
  | f + 1, r, n, n', h, hn => by
    rcases h with h | h | ⟨h1, h2, b, h3, h4, h5⟩
    · exact .inl h
    · exact .inr (.inl h)
    · have hl := (List.getElem?_eq_some_iff.1 h3).1
      refine .inr (.inr ⟨h1, h2, b, h3, h4, h5.impl (n0 := n + 1) (fun r m m' h hm => ⟨(h.all hm).1, (h.all hm).2.1⟩) (fun r m m' hm hml h => ?_) (Nat.le_refl _) (by omega)⟩)
      have := (OKr.deep h hml).add (bs.length - n - (bs.length - m + 1))
      rw [show bs.length - m + 1 + (bs.length - n - (bs.length - m + 1)) = bs.length - n from by omega] at this
      exact this

section
variable {p m gb : Nat}
def FJ (fr : Fr) (p gb : Nat) (J i : Int) : Prop := fr.get 1 = some (iv J) ∧ fr.get 2 = some (.p gb 0 0) ∧ fr.get 5 = some (.p p 0 0) ∧ fr.get 6 = some (iv i)
theorem jStep {h : Heap} {L : List Cl} {J : Int} {i : Nat} (r : RH h p m 500 L) (hs : Sc h) (hu : used L = 2 * i) (hi : (i : Int) < J) (hJ : J ≤ 50) {fr : Fr} (F : FJ fr p gb J i) (n f : Nat) :
    ∃ fr' h' c, (∀ K, iter (exec (cal (n + 3)) c4L0) (f + 1) fr h K = iter (exec (cal (n + 3)) c4L0) f fr' h' K) ∧ FJ fr' p gb J ((i : Int) + 1) ∧ RH h' p m 500 (L ++ [c]) ∧ used (L ++ [c]) = 2 * (i + 1) ∧ Sc h' ∧ Kp h h' [p, m] ∧ ∀ z ∈ fpC c, h.next ≤ z := by
  obtain ⟨f1, f2, f5, f6⟩ := F
  obtain ⟨H, hH⟩ : ∃ y, y = addO h (.st (T.set (iv (2 * (i : Int) + 1)) .e 0) 1) := ⟨_, rfl⟩
  have s2 : Sc H := by rw [hH]; exact hs.add _
  have k2 : Kp h H [] := by rw [hH]; exact Kp.add _ _ _
  have x2 : H.tr.get h.next = some (.st (T.set (iv (2 * (i : Int) + 1)) .e 0) 1) := by rw [hH, get_add, if_pos rfl]
  have rv : RowR H (.sl h.next 0 0 1 (some 1) 1) [2 * (i : Int) + 1] := .inr ⟨h.next, 0, 0, some 1, _, rfl, x2, fun j x hj k => by
    cases j with
    | zero => simp at hj; subst hj; rw [Nat.zero_add, m_st0 _ _ _ _ (by omega), t_get (get_same _ _ _)]
    | succ j => simp at hj⟩
  obtain ⟨h', c, e, c1, c2, r', s', k', i'⟩ := rAlloc (r.keep k2 hs (by simp) (by simp) (fun _ _ => by simp)) s2 (tag := 4) (by omega) (by omega) rv (by simp; omega) (by omega) n
  rw [hH] at e
  have a1 := fun K => b_lssT (a := (i : Int)) (b := J) hi K
  have a2 := fun K => b_add (a := (i : Int)) (b := 1) (by omega) (by omega) K
  have a3 := fun h K => sInt (x := (i : Int)) ⟨by omega, by omega⟩ (n + 2) h K
  apply Exists.intro
  refine ⟨h', c, fun K => ?_, ⟨?_, ?_, ?_, ?_⟩, r', ?_, s', (k2.mono (by simp)).trans k' (fun z hz _ => hz), fun z hz => Nat.le_trans k2.1 (i' z hz)⟩
  · rw [it_succ]
    simp (maxSteps := 1000000) -implicitDefEqProofs only [c4L0, ↓x_seq, ↓x_reg, ↓o_consN, ↓r_pu, ↓p_mv, ↓e_t, ↓t_get f6, ↓t_get f1, ↓o_consS, ↓p_bin, ↓e_l1, ↓e_l0, ↓a1, ↓o_nil, ↓nrm_n, ↓x_cond, ↓getK_same, ↓n_b, ↓x_skip]
    simp (maxSteps := 1000000) -implicitDefEqProofs only [c4T5, ↓x_seq, ↓x_block, ↓x_reg, ↓o_consN, ↓r_pu, ↓p_mv, ↓e_t, ne_eq, Nat.reduceEqDiff, not_false_eq_true, ↓getK_other, ↓t_get f5, ↓t_get f6, ↓r_ef, ↓m_callf, ↓es_cons, ↓e_l0, ↓es_nil, ↓a3, ↓r_al, ↓bsl1, ↓c_i, ↓bslK_of, ↓e_l3, ↓e_c, ↓e, ↓o_nil, ↓nrm_n]
    simp (maxSteps := 1000000) -implicitDefEqProofs only [c4T6, ↓x_reg, ↓o_consN, ↓r_pu, ↓p_mv, ↓e_t, ne_eq, Nat.reduceEqDiff, not_false_eq_true, ↓getK_other, ↓t_get f6, ↓p_bin, ↓e_l0, ↓e_c, ↓a2, ↓o_consS, ↓o_nil, ↓nrm_n]
    rfl
  · simp only [get_other, get_same, ne_eq, Nat.reduceEqDiff, not_false_eq_true, f1]
  · simp only [get_other, get_same, ne_eq, Nat.reduceEqDiff, not_false_eq_true, f2]
  · simp only [get_other, get_same, ne_eq, Nat.reduceEqDiff, not_false_eq_true, f5]
  · simp only [get_other, get_same, ne_eq, Nat.reduceEqDiff, not_false_eq_true]
  · rw [used_app, hu]
    show 2 * i + (1 + c.fl.length + 0) = _
    rw [c2]; simp; omega
theorem jLoop {J : Int} (hJ : J ≤ 50) {N : Nat} (n f : Nat) : ∀ (d i : Nat) (h : Heap) (fr : Fr) (L : List Cl), (i : Int) + d = J → RH h p m 500 L → Sc h → used L = 2 * i → (∀ z ∈ fpL L, N ≤ z) → N ≤ h.next → FJ fr p gb J i →
    ∃ fr' h' L', (∀ K, iter (exec (cal (n + 3)) c4L0) (d + (f + 1)) fr h K = K (.exit 0) fr' h') ∧ FJ fr' p gb J J ∧ RH h' p m 500 L' ∧ (used L' : Int) = 2 * J ∧ Sc h' ∧ Kp h h' [p, m] ∧ ∀ z ∈ fpL L', N ≤ z
  | 0, i, h, fr, L, hd, r, hs, hu, hN, hn, F => by
    have hi : (i : Int) = J := by omega
    rw [hi] at F
    obtain ⟨f1, f2, f5, f6⟩ := F
    have a1 := fun K => b_lssF (a := J) (b := J) (by omega) K
    refine ⟨T.set (.b false) fr 34, h, L, fun K => ?_, ⟨?_, ?_, ?_, ?_⟩, r, by omega, hs, Kp.refl _ _, hN⟩
    · rw [Nat.zero_add, it_succ]
      simp (maxSteps := 1000000) -implicitDefEqProofs only [c4L0, ↓x_seq, ↓x_reg, ↓o_consN, ↓r_pu, ↓p_mv, ↓e_t, ↓t_get f6, ↓t_get f1, ↓o_consS, ↓p_bin, ↓e_l1, ↓e_l0, ↓a1, ↓o_nil, ↓nrm_n, ↓x_cond, ↓getK_same, ↓n_b, ↓x_exit, ↓nrm_e]
    · rw [get_other _ _ (by decide)]; exact f1
    · rw [get_other _ _ (by decide)]; exact f2
    · rw [get_other _ _ (by decide)]; exact f5
    · rw [get_other _ _ (by decide)]; exact f6
  | d + 1, i, h, fr, L, hd, r, hs, hu, hN, hn, F => by
    obtain ⟨fr1, h1, c, e1, F1, r1, u1, s1, k1, i1⟩ := jStep r hs hu (by omega) hJ F n (d + (f + 1))
    obtain ⟨fr', h', L', e2, F2, r2, u2, s2, k2, N2⟩ := jLoop hJ n f d (i + 1) h1 fr1 (L ++ [c]) (by omega) r1 s1 u1 (fun z hz => by
      rcases fpL_snoc.1 hz with h5 | h5
      · exact hN z h5
      · have := i1 z h5; omega) (Nat.le_trans hn k1.1) (by rw [show ((i + 1 : Nat) : Int) = (i : Int) + 1 from by omega]; exact F1)
    refine ⟨fr', h', L', fun K => ?_, F2, r2, u2, s2, k1.trans k2 (fun z hz _ => hz), N2⟩
    rw [show d + 1 + (f + 1) = d + (f + 1) + 1 from by omega, e1, e2]
end
end Go.Proofs.Ytodlgflkhcknaaa.gcc

/- The law ShapeCollects, as the evaluator runs it. -/
namespace Go.Proofs.Ytodlgflkhcknaaa.gcc
open Go Go.AE
set_option linter.unusedSimpArgs false
set_option maxRecDepth 100000

theorem callK28 (n : Nat) (h : Heap) (k : KH) : cal (n + 1) 28 [] h k = k (.b true) h := rfl

section
variable {h : Heap} {vb : AV} {bs : List Bl} {ri : Bool} {rn J : Int}
theorem KidsR.up {h : Heap} {N M : Nat} {v : AV} {ks : List Rf} (r : KidsR h N v ks) (hM : N ≤ M) : KidsR h M v ks := by
  rcases r with r | ⟨id, t, off, cap, o, rfl, hi, ho, hr⟩
  · exact .inl r
  · exact .inr ⟨id, t, off, cap, o, rfl, Nat.lt_of_lt_of_le hi hM, ho, hr⟩
theorem BlksR.up {h : Heap} {N M : Nat} {v : AV} {bs : List Bl} (r : BlksR h N v bs) (hM : N ≤ M) : BlksR h M v bs := by
  rcases r with r | ⟨id, t, off, cap, o, rfl, hi, ho, hr⟩
  · exact .inl r
  · exact .inr ⟨id, t, off, cap, o, rfl, Nat.lt_of_lt_of_le hi hM, ho, fun j b hb => by
      obtain ⟨h1, h2, kv, h3, h4⟩ := hr j b hb
      exact ⟨h1, h2, kv, h3, h4.up hM⟩⟩
theorem sn_words {bs : List Bl} : ∀ b ∈ bs, b.sn ≤ wordsB bs := by
  induction bs with
  | nil => intro b hb; simp at hb
  | cons a bs ih =>
    intro b hb
    simp at hb
    simp only [wordsB]
    rcases hb with rfl | hb
    · omega
    · have := ih b hb; omega

/-- The blocks are one graph: built, collected, drawn. -/
theorem lawOK (rb : BlksR h h.next vb bs) (hs : Sc h) (hstr : ∀ b ∈ bs, b.sv < 256 ^ b.sn) (hlen : bs.length ≤ 300000) {h2 : Heap} (s2 : Sc h2) (k2 : Kp h h2 []) (ho : OKr bs (bs.length + 1) (ri, rn) 0 bs.length) (hw : wordsB bs ≤ 300) (hJ0 : 0 ≤ J) (hJ : J ≤ 50)
    (hb : h2.tr.get h.next = some (.st (T.set vb (T.set (iv rn) (T.set (.b ri) .e 0) 1) 2) 3)) (hn : h.next < h2.next) {fr : Fr} (f1 : fr.get 1 = some (iv J)) (f2 : fr.get 2 = some (.p h.next 0 0)) :
    ∃ h', ∀ k : KH, exec (cal (4 * (bs.length + 1) + 7)) c4T1 fr h2 (retK [.tmp 4] k) = k (.b true) h' := by
  obtain ⟨kc, ko, ksm⟩ := rb.cells
  obtain ⟨G, hG⟩ : ∃ G, G = 4 * (bs.length + 1) + 7 := ⟨_, rfl⟩
  have lo2 := Lo.of k2 (Nat.le_refl _) (fun i hi => by simp at hi)
  have rb2 := rb.keep lo2
  obtain ⟨h3, e3, r3, s3, k3, n3⟩ := rNew s2 (s := 500) (by omega) (by omega) (G - 1)
  rw [show G - 1 + 1 = G from by omega, hG] at e3
  have b3 := k3.get s2 hb (by simp)
  have rb3 := (rb2.up (Nat.le_of_lt hn))
  -- what nobody holds
  obtain ⟨fr4, hfr4⟩ : ∃ x : Fr, x = T.set (iv 0) (T.set (.b false) (T.set (.p (h2.next + 1) 0 0) fr 5) 31) 6 := ⟨_, rfl⟩
  have F4 : FJ fr4 (h2.next + 1) h.next J (0 : Nat) := by
    rw [hfr4]
    refine ⟨?_, ?_, ?_, ?_⟩ <;> simp only [get_other, get_same, ne_eq, Nat.reduceEqDiff, not_false_eq_true, f1, f2]
    rfl
  obtain ⟨fr5, h5, L0, e5, ⟨g1, g2, g5, g6⟩, r5, u5, s5, k5, i5⟩ := jLoop (gb := h.next) hJ (N := h2.next) (G - 3) (1000000 - J.toNat - 1) J.toNat 0 h3 fr4 [] (by omega) r3 s3 rfl (fun z hz => by simp [fpL] at hz) (by omega) F4
  rw [show J.toNat + (1000000 - J.toNat - 1 + 1) = 1000000 from by omega, hfr4, show G - 3 + 3 = G from by omega, hG] at e5
  have k25 : Kp h2 h5 [] := k3.trans k5 (fun z hz hl => by simp at hz; omega)
  have b5 := k25.get s2 hb (by simp)
  have lo5 := Lo.of k25 (Nat.le_refl _) (fun i hi => by simp at hi)
  have n5 := k25.1
  -- built
  have hfit : (used L0 + wordsB bs : Int) ≤ 500 := by omega
  obtain ⟨h6, cs, e6, r6, ln, pr, dn, s6, l6, n6, u6⟩ := sBuild r5 (rb3.keep lo5) s5 n5 (bs.length + 1) ho.succ hfit (by omega) ⟨by omega, by omega, i5⟩
  have b6 := (l6 _ hn).trans b5
  -- collected
  obtain ⟨w, hw'⟩ : ∃ w, w = wordOf (addrs (used L0) bs bs.length) (ri, rn) := ⟨_, rfl⟩
  rw [← hw'] at e6
  obtain ⟨H7, hH7⟩ : ∃ y, y = addO h6 (.st (T.set (iv w) .e 0) 1) := ⟨_, rfl⟩
  have s7 : Sc H7 := by rw [hH7]; exact s6.add _
  have k7 : Kp h6 H7 [] := by rw [hH7]; exact Kp.add _ _ _
  have x7 : H7.tr.get h6.next = some (.st (T.set (iv w) .e 0) 1) := by rw [hH7, get_add, if_pos rfl]
  have rv7 : RowR H7 (.sl h6.next 0 0 1 (some 1) 1) [w] := .inr ⟨h6.next, 0, 0, some 1, _, rfl, x7, fun j x hj k => by
    cases j with
    | zero => simp at hj; subst hj; rw [Nat.zero_add, m_st0 _ _ _ _ (by omega), t_get (get_same _ _ _)]
    | succ j => simp at hj⟩
  have r7 := r6.keep k7 s6 (by simp) (by simp) (fun _ _ => by simp)
  obtain ⟨h8, pn, mn, Ln, out, e8, r8, bk8, go8, s8, k8, u8⟩ := gCollect r7 s7 (by omega) (by omega) (by omega) rv7 (by simp) (G - 7)
  rw [show G - 7 + 7 = G from by omega, hG, hH7] at e8
  have k68 : Kp h6 h8 [] := k7.trans k8 (fun i hi _ => hi)
  have b8 := k68.get s6 b6 (by simp)
  rw [hw'] at bk8 go8
  obtain ⟨β, p1, I, hul⟩ := isoC ln pr dn ho bk8
  rw [p1] at go8
  have go8' : GR h8 out [iv (wB β (ri, rn))] := go8
  obtain ⟨oid, ot, oo, hout, ho1, ho2⟩ := go8'.read (j := 0) rfl
  -- drawn
  have hstr' : ∀ b ∈ bs, b.sv < 256 ^ b.sn ∧ b.sn ≤ 100000 := fun b hb => ⟨hstr b hb, by have := sn_words b hb; omega⟩
  have hlw := len_words bs
  obtain ⟨h9, v, N9, e9, s9, k9, rv9, n9⟩ := sOf I hstr' (by omega) r8 s8 (2 * bs.length + 3) (by have := ho.add (bs.length + 2); rw [show bs.length + 1 + (bs.length + 2) = 2 * bs.length + 3 from by omega] at this; exact this)
  rw [show 2 * (2 * bs.length + 3) + 5 = 4 * (bs.length + 1) + 7 from by omega] at e9
  obtain ⟨vc, vo, vsm⟩ := rv9.cells
  have b9 := k9.get s8 b8 (by simp)
  obtain ⟨H10, hH10⟩ : ∃ y, y = updO (addO h9 (.st (T.set .nils (T.set (iv 0) (T.set (.b false) .e 0) 1) 2) 3)) h9.next (.st (T.set v (T.set (iv rn) (T.set (.b ri) (T.set .nils (T.set (iv 0) (T.set (.b false) .e 0) 1) 2) 0) 1) 2) 3) := ⟨_, rfl⟩
  have hq : (addO h9 (.st (T.set .nils (T.set (iv 0) (T.set (.b false) .e 0) 1) 2) 3)).tr.get h9.next = some (.st (T.set .nils (T.set (iv 0) (T.set (.b false) .e 0) 1) 2) 3) := by rw [get_add, if_pos rfl]
  have s10 : Sc H10 := by rw [hH10]; exact (s9.add _).upd hq _
  have k10 : Kp h9 H10 [] := by rw [hH10]; exact (Kp.add h9 _ []).trans (Kp.upd _ _ _) (fun z hz hl => by simp at hz; omega)
  have hk2 : ∀ b ∈ bs, b.kids.length ≤ 10 := fun b hb => by
    obtain ⟨j, hj⟩ := List.getElem?_of_mem hb
    have hg := ((ho.all (Nat.zero_le _)).2.2.2 j b (Nat.zero_le _) (List.getElem?_eq_some_iff.1 hj).1 hj).1
    have := kidsOf_le b.tag
    have := hg.1
    omega
  have k610 : Kp h6 H10 [] := (k68.trans k9 (fun i hi _ => hi)).trans k10 (fun i hi _ => hi)
  have n610 := k610.1
  have rb6 : BlksR h6 h2.next vb bs := (rb3.keep lo5).keep l6
  have rb10 : BlksR H10 h2.next vb bs := rb6.keep (Lo.of k610 (by omega) (fun i hi => by simp at hi))
  have rv10 : BlksR H10 N9 v bs := rv9.keep (Lo.of k10 n9 (fun i hi => by simp at hi))
  obtain ⟨h11, e11, s11, k11⟩ := sSame (ri := ri) (rn := rn) s10 (Nat.le_trans n9 k10.1) (by omega : h2.next ≤ H10.next) rv10 rb10 hlen hk2 (G - 2)
  rw [show G - 2 + 2 = G from by omega, hG, hH10] at e11
  have k811 : Kp h8 h11 [] := (k9.trans k10 (fun i hi _ => hi)).trans k11 (fun i hi _ => hi)
  have r11 := r8.keep k811 s8 (by simp) (by simp) (fun _ _ => by simp)
  have b11 := k811.get s8 b8 (by simp)
  have a1 := fun K => rUsed r11 (G - 1) K
  rw [show G - 1 + 1 = G from by omega, hG, hul] at a1
  obtain ⟨h12, e12, s12, k12⟩ := xWordsB (ri := ri) (rn := rn) (rb10.keep (Lo.of k11 (by omega) (fun i hi => by simp at hi))) s11 (by have := k11.1; omega) hlen (by omega) (G - 1)
  rw [show G - 1 + 1 = G from by omega, hG] at e12
  have a2 := fun h K => callK28 (4 * (bs.length + 1) + 6) h K
  have a3 := fun K => b_neqF (a := 0) (b := 0) rfl K
  have a4 : ∀ K, lenK (.sl oid ot 0 1 none 1) K = K (iv 1) := fun K => rfl
  have a5 := fun K => b_neqF (a := 1) (b := 1) rfl K
  have a6 := fun K => b_eqlT (a := 0) (b := 0) rfl K
  have a7 := fun K => b_eqlT (a := (wordsB bs : Int)) (b := (wordsB bs : Int)) rfl K
  have a8 := s_agg3 (s_b ri) (s_i .i64 rn) ksm
  have hb9n : h.next ≠ h9.next := Nat.ne_of_lt (s9 _ _ b9)
  refine ⟨h12, fun k => ?_⟩
  simp (maxSteps := 1000000) -implicitDefEqProofs only [c4T1, ↓x_seq, ↓x_reg, ↓o_consN, ↓r_ef, ↓m_callf, ↓es_cons, ↓e_c, ↓es_nil, ↓e3, ↓o_consS, ↓r_pu, ↓p_mv, ↓e_l0, ↓o_nil, ↓nrm_n]
  simp (maxSteps := 1000000) -implicitDefEqProofs only [c4T2, ↓x_seq, ↓x_reg, ↓o_consN, ↓r_pu, ↓p_mv, ↓e_t, ↓getK_same, ↓o_consS, ↓p_isnil, ↓e_l0, ↓nil_p, ↓neg_f, ↓o_nil, ↓nrm_n, ↓x_cond, ↓n_b, ↓x_skip]
  simp (maxSteps := 1000000) -implicitDefEqProofs only [c4T3, c4T4, ↓x_seq, ↓x_reg, ↓o_consS, ↓r_pu, ↓p_mv, ↓e_c, ↓o_nil, ↓nrm_n, ↓x_block, ↓x_loop, ↓e5, ↓rec_bb]
  simp (maxSteps := 1000000) -implicitDefEqProofs only [c4T7, ↓x_seq, ↓x_reg, ↓o_consN, ↓r_pu, ↓p_mv, ↓e_t, ↓t_get g5, ↓r_rd, ↓m_ldn, ↓t_get g2, ↓n_p, ↓t_get b5, ↓rds_3, Nat.reduceLT, ↓m_st0, ne_eq, nx2, not_false_eq_true, ↓getK_other, nx1, ↓getK_same, Nat.zero_add, Nat.reduceAdd, ↓r_ef, ↓m_callf, ↓es_cons, ↓e_l1, ↓e_l0, ↓es_nil, ↓e6, ↓p_ext, ↓n_tup, ↓nth0, ↓nth1, ↓o_consS, ↓o_nil, ↓nrm_n]
  simp (maxSteps := 1000000) -implicitDefEqProofs only [c4T8, ↓x_seq, ↓x_reg, ↓o_consN, ↓r_pu, ↓p_mv, ↓e_t, ne_eq, Nat.reduceEqDiff, not_false_eq_true, ↓getK_other, nx2, ↓t_get g5, nx1, ↓getK_same, ↓r_al, ↓bsl1, ↓e_l0, ↓c_i, ↓bslK_of, ↓r_ef, ↓m_callf, ↓es_cons, ↓e_l2, ↓es_nil, ↓e8, ↓p_ext, ↓n_tup, ↓nth0, ↓e_l1, ↓nth1, ↓o_consS, ↓o_nil, ↓nrm_n]
  have hout' : out = .sl oid ot 0 1 none 1 := hout
  subst hout'
  have a9 : ∀ K, rdK oo ot (0 * 1) K = K (iv (wB β (ri, rn))) := fun K => ho2 K
  simp (maxSteps := 1000000) -implicitDefEqProofs only [c4T9, ↓x_seq, ↓x_reg, ↓o_consN, ↓r_pu, ↓p_mv, ↓e_t, ne_eq, nx2, not_false_eq_true, ↓getK_other, nx1, ↓getK_same, ↓p_bin, ↓e_l0, ↓e_c, ↓a3, ↓o_guardN, ↓g_b, ↓e_l1, ↓p_isnil, ↓nil_p, ↓neg_f, ↓p_pick, ↓e_l2, ↓n_b, ↓p_len, ↓a4, ↓a5, ↓o_consS, ↓e_l3, ↓o_nil, ↓nrm_n, ↓x_cond, ↓x_skip]
  simp (maxSteps := 1000000) -implicitDefEqProofs only [c4T10, ↓x_seq, ↓x_reg, ↓o_consN, ↓r_pu, ↓p_mv, ↓e_t, ne_eq, Nat.reduceEqDiff, not_false_eq_true, ↓getK_other, nx1, ↓getK_same, ↓p_iad, ↓e_l0, ↓n_sl, ↓evN_of, ↓e_c, ↓n_i, ↓int_0, Nat.zero_add, ble_dec, Nat.reduceLeDiff, decide_true, ↓r_rd, ↓m_ld, ↓n_p, ↓t_get ho1, ↓ho2, ↓r_ef, ↓m_callf, ↓es_cons, ↓e_l3, ↓es_nil, ↓e9, ↓p_ext, ↓n_tup, ↓nth0, ↓e_l1, ↓nth1, ↓o_consS, ↓r_al, ↓m_new, ↓m_store, ↓e_l2, ↓c_agg, len_3, beq_dec, ↓ga_new2, ↓ofL_cons, ↓ofL_nil, Nat.reduceAdd, ↓o_nil, ↓nrm_n, wrs_3, ↓one_b, Nat.reduceLT, ↓w_st, ↓one_i, vo, i_t]
  simp (maxSteps := 1000000) -implicitDefEqProofs only [c4T11, ↓x_seq, ↓x_dreg, ↓d_puN, ↓p_mv, ↓e_t, ↓getK_same, ↓p_bin, ↓e_l0, ↓e_c, ↓a6, ↓d_gtrdN, ↓g_b, ↓m_ldn, ne_eq, nx1, not_false_eq_true, ↓getK_other, ↓n_p, ↓gu_same, ↓rds_3, Nat.reduceLT, ↓m_st0, nx2, Nat.zero_add, Nat.reduceAdd, ↓e_l1, Nat.reduceEqDiff, ↓t_get g2, hb9n, ↓gu_other, ↓ga_old, ↓t_get b9, ↓d_gtefN, ↓e_l2, ↓m_callf, ↓es_cons, ↓es_nil, ↓e11, ↓p_pick, ↓e_l3, ↓n_b, ↓d_gtpuN, ↓a1, ↓t_get b11, ↓e12, ↓e_l4, ↓a7, ↓e_l5, ↓a2, ↓d_puS, ↓d_nil, ↓rev_cons, ↓rev_nil, beq_dec, decide_true, decide_false, k_cons, ↓ka_cons, ble_dec, Nat.reduceLeDiff, Nat.zero_le, i_f, a8, i_t, ↓ka_nil, and_t, ↓k_nil, ↓nrm_n, ↓x_ret, ↓ret_r, ↓res_t1, ↓one1]
end
end Go.Proofs.Ytodlgflkhcknaaa.gcc

/- The law ShapeCollects answers yes, whatever it is given. -/
namespace Go.Proofs.Ytodlgflkhcknaaa.gcc
open Go Go.AE
set_option linter.unusedSimpArgs false
set_option maxRecDepth 100000

theorem lawS {h : Heap} {vb : AV} {bs : List Bl} {ri : Bool} {rn J : Int} (rb : BlksR h h.next vb bs) (hs : Sc h) (hstr : ∀ b ∈ bs, b.sv < 256 ^ b.sn) (hlen : bs.length ≤ 300000) (hw : (wordsB bs : Int) ≤ 4611686018427387904) :
    ∃ h', ∀ k : KH, cal (4 * (bs.length + 1) + 8) 4 [.agg [.b ri, iv rn, vb], iv J] h k = k (.b true) h' := by
  obtain ⟨kc, ko, ksm⟩ := rb.cells
  obtain ⟨H, hH⟩ : ∃ y, y = addO h (.st (T.set vb (T.set (iv rn) (T.set (.b ri) .e 0) 1) 2) 3) := ⟨_, rfl⟩
  have s1 : Sc H := by rw [hH]; exact hs.add _
  have k1 : Kp h H [] := by rw [hH]; exact Kp.add _ _ _
  have x1 : H.tr.get h.next = some (.st (T.set vb (T.set (iv rn) (T.set (.b ri) .e 0) 1) 2) 3) := by rw [hH, get_add, if_pos rfl]
  have n1 : h.next < H.next := s1 _ _ x1
  have rb1 := rb.keep (Lo.of k1 (Nat.le_refl _) (fun i hi => by simp at hi))
  obtain ⟨h2, ok, e2, s2, k2, ho⟩ := xIs (ri := ri) (rn := rn) rb1 s1 k1.1 (by omega) (4 * (bs.length + 1) + 3) (by omega)
  rw [show 4 * (bs.length + 1) + 3 + 4 = 4 * (bs.length + 1) + 7 from by omega, hH] at e2
  have x2 := k2.get s1 x1 (by simp)
  have k02 : Kp h h2 [] := k1.trans k2 (fun i hi _ => hi)
  cases ok with
  | false =>
    refine ⟨h2, fun k => ?_⟩
    rw [run4]; simp only [ofL_cons, ofL_nil, Nat.zero_add, Nat.reduceAdd]
    simp (maxSteps := 1000000) -implicitDefEqProofs only [c4, ↓x_seq, ↓x_reg, ↓o_consS, ↓r_al, ↓m_box, ↓e_t, ne_eq, nx1, not_false_eq_true, ↓getK_other, ↓getK_same, ↓r_pu, ↓p_mv, ↓e_c, ↓o_nil, ↓nrm_n, ↓c_agg, ofL_cons, ↓ofL_nil, Nat.zero_add, Nat.reduceAdd, len_3]
    simp (maxSteps := 1000000) -implicitDefEqProofs only [c4T0, ↓x_seq, ↓x_reg, ↓o_consN, ↓r_rd, ↓m_ldn, ↓e_t, ne_eq, nx2, not_false_eq_true, ↓getK_other, ↓getK_same, ↓n_p, ↓ga_new2, ↓rds_3, Nat.reduceLT, ↓m_st0, nx1, Nat.zero_add, Nat.reduceAdd, ↓r_ef, ↓m_callf, ↓es_cons, ↓e_l0, ↓es_nil, ↓e2, ↓r_pu, ↓p_not, ↓n_b, ↓p_mv, ↓o_guardN, ↓g_b, ↓rec_nf, ↓e_l1, ↓e_l2, ↓p_pick, ↓e_l3, ↓e_c, ↓o_consS, ↓o_nil, ↓nrm_n, ↓x_cond, ↓x_ret, ↓nrm_r, ↓ret_r, ↓res_t1, ↓one1]
  | true =>
    have ho' := (ho rfl).deep (Nat.zero_le _)
    rw [Nat.sub_zero] at ho'
    have rb2 := rb.keep (Lo.of k02 (Nat.le_refl _) (fun i hi => by simp at hi))
    obtain ⟨h3, e3, s3, k3⟩ := xWordsB (ri := ri) (rn := rn) rb2 s2 k02.1 hlen hw (4 * (bs.length + 1) + 6)
    have x3 := k3.get s2 x2 (by simp)
    have k03 : Kp h h3 [] := k02.trans k3 (fun i hi _ => hi)
    by_cases h4 : 300 < (wordsB bs : Int)
    · have a1 := fun K => b_gtrT (a := (wordsB bs : Int)) (b := 300) h4 K
      refine ⟨h3, fun k => ?_⟩
      rw [run4]; simp only [ofL_cons, ofL_nil, Nat.zero_add, Nat.reduceAdd]
      simp (maxSteps := 1000000) -implicitDefEqProofs only [c4, ↓x_seq, ↓x_reg, ↓o_consS, ↓r_al, ↓m_box, ↓e_t, ne_eq, nx1, not_false_eq_true, ↓getK_other, ↓getK_same, ↓r_pu, ↓p_mv, ↓e_c, ↓o_nil, ↓nrm_n, ↓c_agg, ofL_cons, ↓ofL_nil, Nat.zero_add, Nat.reduceAdd, len_3]
      simp (maxSteps := 1000000) -implicitDefEqProofs only [c4T0, ↓x_seq, ↓x_reg, ↓o_consN, ↓r_rd, ↓m_ldn, ↓e_t, ne_eq, nx2, not_false_eq_true, ↓getK_other, ↓getK_same, ↓n_p, ↓ga_new2, ↓rds_3, Nat.reduceLT, ↓m_st0, nx1, Nat.zero_add, Nat.reduceAdd, ↓r_ef, ↓m_callf, ↓es_cons, ↓e_l0, ↓es_nil, ↓e2, ↓r_pu, ↓p_not, ↓n_b, ↓p_mv, ↓o_guardN, ↓g_b, ↓rec_nt, ↓t_get x2, ↓e_l1, ↓e3, ↓e_l2, ↓p_bin, ↓e_c, ↓a1, ↓p_pick, ↓e_l3, ↓o_consS, ↓o_nil, ↓nrm_n, ↓x_cond, ↓x_ret, ↓nrm_r, ↓ret_r, ↓res_t1, ↓one1]
    · have a1 := fun K => b_gtrF (a := (wordsB bs : Int)) (b := 300) h4 K
      by_cases h5 : J < 0
      · have a2 := fun K => b_lssT (a := J) (b := 0) h5 K
        refine ⟨h3, fun k => ?_⟩
        rw [run4]; simp only [ofL_cons, ofL_nil, Nat.zero_add, Nat.reduceAdd]
        simp (maxSteps := 1000000) -implicitDefEqProofs only [c4, ↓x_seq, ↓x_reg, ↓o_consS, ↓r_al, ↓m_box, ↓e_t, ne_eq, nx1, not_false_eq_true, ↓getK_other, ↓getK_same, ↓r_pu, ↓p_mv, ↓e_c, ↓o_nil, ↓nrm_n, ↓c_agg, ofL_cons, ↓ofL_nil, Nat.zero_add, Nat.reduceAdd, len_3]
        simp (maxSteps := 1000000) -implicitDefEqProofs only [c4T0, ↓x_seq, ↓x_reg, ↓o_consN, ↓r_rd, ↓m_ldn, ↓e_t, ne_eq, nx2, not_false_eq_true, ↓getK_other, ↓getK_same, ↓n_p, ↓ga_new2, ↓rds_3, Nat.reduceLT, ↓m_st0, nx1, Nat.zero_add, Nat.reduceAdd, ↓r_ef, ↓m_callf, ↓es_cons, ↓e_l0, ↓es_nil, ↓e2, ↓r_pu, ↓p_not, ↓n_b, ↓p_mv, ↓o_guardN, ↓g_b, ↓rec_nt, ↓t_get x2, ↓e_l1, ↓e3, ↓e_l2, ↓p_bin, ↓e_c, ↓a1, ↓p_pick, ↓e_l3, Nat.reduceEqDiff, ↓a2, ↓o_consS, ↓o_nil, ↓nrm_n, ↓x_cond, ↓x_ret, ↓nrm_r, ↓ret_r, ↓res_t1, ↓one1]
      · have a2 := fun K => b_lssF (a := J) (b := 0) h5 K
        by_cases h6 : 50 < J
        · have a3 := fun K => b_gtrT (a := J) (b := 50) h6 K
          refine ⟨h3, fun k => ?_⟩
          rw [run4]; simp only [ofL_cons, ofL_nil, Nat.zero_add, Nat.reduceAdd]
          simp (maxSteps := 1000000) -implicitDefEqProofs only [c4, ↓x_seq, ↓x_reg, ↓o_consS, ↓r_al, ↓m_box, ↓e_t, ne_eq, nx1, not_false_eq_true, ↓getK_other, ↓getK_same, ↓r_pu, ↓p_mv, ↓e_c, ↓o_nil, ↓nrm_n, ↓c_agg, ofL_cons, ↓ofL_nil, Nat.zero_add, Nat.reduceAdd, len_3]
          simp (maxSteps := 1000000) -implicitDefEqProofs only [c4T0, ↓x_seq, ↓x_reg, ↓o_consN, ↓r_rd, ↓m_ldn, ↓e_t, ne_eq, nx2, not_false_eq_true, ↓getK_other, ↓getK_same, ↓n_p, ↓ga_new2, ↓rds_3, Nat.reduceLT, ↓m_st0, nx1, Nat.zero_add, Nat.reduceAdd, ↓r_ef, ↓m_callf, ↓es_cons, ↓e_l0, ↓es_nil, ↓e2, ↓r_pu, ↓p_not, ↓n_b, ↓p_mv, ↓o_guardN, ↓g_b, ↓rec_nt, ↓t_get x2, ↓e_l1, ↓e3, ↓e_l2, ↓p_bin, ↓e_c, ↓a1, ↓p_pick, ↓e_l3, Nat.reduceEqDiff, ↓a2, ↓a3, ↓o_consS, ↓o_nil, ↓nrm_n, ↓x_cond, ↓x_ret, ↓nrm_r, ↓ret_r, ↓res_t1, ↓one1]
        · have a3 := fun K => b_gtrF (a := J) (b := 50) h6 K
          obtain ⟨fr, hfr⟩ : ∃ x : Fr, x = T.set (.b false) (T.set (.b false) (T.set (.p h.next 0 0) (T.set (iv J) (T.set (.agg [.b ri, iv rn, vb]) .e 0) 1) 2) 4) 28 := ⟨_, rfl⟩
          obtain ⟨h', e⟩ := lawOK rb hs hstr hlen s3 k03 ho' (by omega) (by omega : 0 ≤ J) (by omega) x3 (by have := k2.1; have := k3.1; omega) (fr := fr)
            (by rw [hfr]; simp only [get_other, get_same, ne_eq, Nat.reduceEqDiff, not_false_eq_true]) (by rw [hfr]; simp only [get_other, get_same, ne_eq, Nat.reduceEqDiff, not_false_eq_true])
          rw [hfr] at e
          refine ⟨h', fun k => ?_⟩
          rw [run4]; simp only [ofL_cons, ofL_nil, Nat.zero_add, Nat.reduceAdd]
          simp (maxSteps := 1000000) -implicitDefEqProofs only [c4, ↓x_seq, ↓x_reg, ↓o_consS, ↓r_al, ↓m_box, ↓e_t, ne_eq, nx1, not_false_eq_true, ↓getK_other, ↓getK_same, ↓r_pu, ↓p_mv, ↓e_c, ↓o_nil, ↓nrm_n, ↓c_agg, ofL_cons, ↓ofL_nil, Nat.zero_add, Nat.reduceAdd, len_3]
          simp (maxSteps := 1000000) -implicitDefEqProofs only [c4T0, ↓x_seq, ↓x_reg, ↓o_consN, ↓r_rd, ↓m_ldn, ↓e_t, ne_eq, nx2, not_false_eq_true, ↓getK_other, ↓getK_same, ↓n_p, ↓ga_new2, ↓rds_3, Nat.reduceLT, ↓m_st0, nx1, Nat.zero_add, Nat.reduceAdd, ↓r_ef, ↓m_callf, ↓es_cons, ↓e_l0, ↓es_nil, ↓e2, ↓r_pu, ↓p_not, ↓n_b, ↓p_mv, ↓o_guardN, ↓g_b, ↓rec_nt, ↓t_get x2, ↓e_l1, ↓e3, ↓e_l2, ↓p_bin, ↓e_c, ↓a1, ↓p_pick, ↓e_l3, Nat.reduceEqDiff, ↓a2, ↓a3, ↓o_consS, ↓o_nil, ↓nrm_n, ↓x_cond, ↓x_skip, ↓e]
end Go.Proofs.Ytodlgflkhcknaaa.gcc
