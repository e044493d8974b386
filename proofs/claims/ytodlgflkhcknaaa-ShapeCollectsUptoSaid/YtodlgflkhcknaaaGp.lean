import Derived.Test.YtodlgflkhcknaaaGh
set_option linter.unusedVariables false
/- The collector, purely: what it does with a heap's blocks. -/
namespace Go.Proofs.Ytodlgflkhcknaaa.gcc
open Go Go.AE

/-- A block's data. -/
abbrev Bk := Int × List Int
def Cl.bk (c : Cl) : Bk := (c.tag, c.fl)
def usedB : List Bk → Nat
  | [] => 0
  | b :: A => 1 + b.2.length + usedB A
def lookB : Nat → List Bk → Int → Option Bk
  | _, [], _ => none
  | a, b :: A, w => if 2 * (a : Int) = w then some b else lookB (a + (1 + b.2.length)) A w
theorem used_bk : ∀ L : List Cl, usedB (L.map Cl.bk) = used L
  | [] => rfl
  | c :: L => by simp only [List.map_cons, usedB, used, used_bk L]; rfl
theorem look_bk (w : Int) : ∀ (L : List Cl) (a : Nat), lookB a (L.map Cl.bk) w = (look a L w).map Cl.bk
  | [], a => rfl
  | c :: L, a => by
    simp only [List.map_cons, lookB, look]
    split
    · rfl
    · exact look_bk w L _
theorem usedB_app (A B : List Bk) : usedB (A ++ B) = usedB A + usedB B := by
  induction A with
  | nil => simp [usedB]
  | cons b A ih => simp only [List.cons_append, usedB, ih]; omega
theorem len_usedB : ∀ B : List Bk, B.length ≤ usedB B
  | [] => by simp [usedB]
  | b :: B => by have := len_usedB B; simp only [List.length_cons, usedB]; omega

/-- The place of a word among those that have been moved, and where it is now. -/
def nowAt : Nat → List Int → List Bk → Int → Option Int
  | a, v :: o, b :: B, w => if v = w then some (2 * (a : Int)) else nowAt (a + (1 + b.2.length)) o B w
  | _, _, _, _ => none

/-- What has been moved: the words, the blocks that are there now. -/
structure Sx where
  ord : List Int
  bs : List Bk
/-- A word is moved. -/
def pmove (A : List Bk) (s : Sx) (w : Int) : Int × Sx :=
  match lookB 0 A w with
  | none => (w, s)
  | some b => match nowAt 0 s.ord s.bs w with
    | some x => (x, s)
    | none => (2 * (usedB s.bs : Int), ⟨s.ord ++ [w], s.bs ++ [b]⟩)

/-- Each that has been moved is a block of the old heap, as great; none twice. -/
structure OKx (A : List Bk) (s : Sx) : Prop where
  len : s.ord.length = s.bs.length
  nd : s.ord.Nodup
  pr : ∀ (j : Nat) w b, s.ord[j]? = some w → s.bs[j]? = some b → ∃ b0, lookB 0 A w = some b0 ∧ b.1 = b0.1 ∧ b.2.length = b0.2.length

def szO : Option Bk → Nat
  | none => 0
  | some b => 1 + b.2.length
theorem sum_le : ∀ (A : List Bk) (a : Nat) (ws : List Int), ws.Nodup → (∀ w ∈ ws, lookB a A w ≠ none) → (ws.map fun w => szO (lookB a A w)).sum ≤ usedB A
  | [], a, ws, _, h => by
    cases ws with
    | nil => simp [usedB]
    | cons w ws => exact absurd rfl (h w List.mem_cons_self)
  | b :: A, a, ws, nd, h => by
    have later : ∀ w, w ≠ 2 * (a : Int) → lookB a (b :: A) w = lookB (a + (1 + b.2.length)) A w := fun w hw => by
      simp only [lookB]; rw [if_neg (fun e => hw e.symm)]
    by_cases hm : 2 * (a : Int) ∈ ws
    · have hp := List.perm_cons_erase hm
      have hs := (hp.map fun w => szO (lookB a (b :: A) w)).sum_nat
      rw [hs]
      simp only [List.map_cons, List.sum_cons]
      have h1 : szO (lookB a (b :: A) (2 * (a : Int))) = 1 + b.2.length := by simp [lookB, szO]
      have nd2 : (ws.erase (2 * (a : Int))).Nodup := nd.erase _
      have hne : ∀ w ∈ ws.erase (2 * (a : Int)), w ≠ 2 * (a : Int) := fun w hw => ((List.Nodup.mem_erase_iff nd).1 hw).1
      have h2 : (ws.erase (2 * (a : Int))).map (fun w => szO (lookB a (b :: A) w)) = (ws.erase (2 * (a : Int))).map fun w => szO (lookB (a + (1 + b.2.length)) A w) :=
        List.map_congr_left fun w hw => by rw [later w (hne w hw)]
      have := sum_le A (a + (1 + b.2.length)) (ws.erase (2 * (a : Int))) nd2 fun w hw => by
        rw [← later w (hne w hw)]; exact h w (List.mem_of_mem_erase hw)
      rw [h1, h2]
      simp only [usedB]
      omega
    · have hne : ∀ w ∈ ws, w ≠ 2 * (a : Int) := fun w hw e => hm (e ▸ hw)
      have h2 : ws.map (fun w => szO (lookB a (b :: A) w)) = ws.map fun w => szO (lookB (a + (1 + b.2.length)) A w) := List.map_congr_left fun w hw => by rw [later w (hne w hw)]
      have := sum_le A (a + (1 + b.2.length)) ws nd fun w hw => by rw [← later w (hne w hw)]; exact h w hw
      rw [h2]
      simp only [usedB]
      omega
theorem used_sum {A : List Bk} : ∀ (ord : List Int) (bs : List Bk), ord.length = bs.length → (∀ (j : Nat) w b, ord[j]? = some w → bs[j]? = some b → ∃ b0, lookB 0 A w = some b0 ∧ b.2.length = b0.2.length) →
    usedB bs = (ord.map fun w => szO (lookB 0 A w)).sum ∧ ∀ w ∈ ord, lookB 0 A w ≠ none
  | [], [], _, _ => ⟨rfl, fun w h => by simp at h⟩
  | w :: o, b :: bs, hl, h => by
    obtain ⟨h1, h2⟩ := used_sum (A := A) o bs (by simpa using hl) fun j w b hw hb => h (j + 1) w b (by simpa using hw) (by simpa using hb)
    obtain ⟨b0, e1, e2⟩ := h 0 w b rfl rfl
    refine ⟨?_, fun v hv => ?_⟩
    · simp only [usedB, List.map_cons, List.sum_cons, h1, e1, szO, e2]
    · simp at hv
      rcases hv with rfl | hv
      · rw [e1]; simp
      · exact h2 v hv
  | [], b :: bs, hl, _ => by simp at hl
  | w :: o, [], hl, _ => by simp at hl

/-- What has been moved takes no more room than the old heap. -/
theorem OKx.fit {A : List Bk} {s : Sx} (o : OKx A s) : usedB s.bs ≤ usedB A := by
  obtain ⟨h1, h2⟩ := used_sum (A := A) s.ord s.bs o.len fun j w b hw hb => by obtain ⟨b0, e1, _, e2⟩ := o.pr j w b hw hb; exact ⟨b0, e1, e2⟩
  rw [h1]
  exact sum_le A 0 s.ord o.nd h2

theorem nowAt_none {w : Int} : ∀ {ord : List Int} {bs : List Bk} {a : Nat}, ord.length = bs.length → nowAt a ord bs w = none → w ∉ ord
  | [], [], a, _, _ => by simp
  | v :: o, b :: bs, a, hl, h => by
    simp only [nowAt] at h
    split at h
    · cases h
    · rename_i hne
      have := nowAt_none (by simpa using hl) h
      simp [this, Ne.symm hne]
  | [], b :: bs, a, hl, _ => by simp at hl
  | v :: o, [], a, hl, _ => by simp at hl

theorem OKx.move {A : List Bk} {s : Sx} (o : OKx A s) (w : Int) : OKx A (pmove A s w).2 := by
  unfold pmove
  cases h1 : lookB 0 A w with
  | none => exact o
  | some b =>
    cases h2 : nowAt 0 s.ord s.bs w with
    | some x => exact o
    | none =>
      have hw := nowAt_none o.len h2
      refine ⟨by simp [o.len], List.nodup_append.2 ⟨o.nd, by simp, fun x hx y hy => by simp at hy; subst hy; exact fun e => hw (e ▸ hx)⟩, fun j v c hv hc => ?_⟩
      rw [List.getElem?_append] at hv hc
      rw [o.len] at hv
      split at hv
      · rename_i hlt; rw [if_pos hlt] at hc; exact o.pr j v c hv hc
      · rename_i hlt
        rw [if_neg hlt] at hc
        cases hd : j - s.bs.length with
        | zero => rw [hd] at hv hc; simp at hv hc; subst hv; subst hc; exact ⟨b, h1, rfl, rfl⟩
        | succ q => rw [hd] at hv; simp at hv
theorem OKx.room {A : List Bk} {s : Sx} (o : OKx A s) {w : Int} {b : Bk} (h1 : lookB 0 A w = some b) (h2 : nowAt 0 s.ord s.bs w = none) : usedB s.bs + (1 + b.2.length) ≤ usedB A := by
  have h := (o.move w).fit
  unfold pmove at h
  rw [h1, h2] at h
  simp only [usedB_app, usedB] at h
  omega
end Go.Proofs.Ytodlgflkhcknaaa.gcc

/- A word is moved (package gc). -/
namespace Go.Proofs.Ytodlgflkhcknaaa.gcc
open Go Go.AE
set_option linter.unusedSimpArgs false
set_option maxRecDepth 100000

/-- The map of what has been moved. -/
def mens : Nat → List Int → List Cl → List (AV × AV)
  | a, w :: o, c :: L => (iv w, iv (2 * a)) :: mens (a + (1 + c.fl.length)) o L
  | _, _, _ => []
theorem find_mens (w : Int) (d : Bool) (f : KV) : ∀ (o : List Int) (L : List Cl) (a : Nat), findK (mens a o L) (iv w) d f = match nowAt a o (L.map Cl.bk) w with
    | none => d
    | some x => f (iv x)
  | [], L, a => by cases L <;> rfl
  | v :: o, [], a => rfl
  | v :: o, c :: L, a => by
    show eqS (iv v) (iv w) (fun r => @Bool.rec (fun _ => Bool) (findK (mens (a + (1 + c.fl.length)) o L) (iv w) d f) (f (iv (2 * a))) r) = _
    rw [eq_iv]
    simp only [List.map_cons, nowAt]
    by_cases h : v = w
    · rw [if_pos h, decide_eq_true h]
    · rw [if_neg h, decide_eq_false h]
      exact find_mens w d f o L _
theorem put_mens (w : Int) (v : AV) (K : List (AV × AV) → Bool) : ∀ (o : List Int) (L : List Cl) (a : Nat), o.length = L.length → nowAt a o (L.map Cl.bk) w = none → putM (mens a o L) (iv w) v K = K (mens a o L ++ [(iv w, v)])
  | [], [], a, _, _ => rfl
  | u :: o, c :: L, a, hl, h => by
    simp only [List.map_cons, nowAt] at h
    split at h
    · cases h
    · rename_i hne
      show eqS (iv u) (iv w) (fun r => @Bool.rec (fun _ => Bool) (putM (mens (a + (1 + c.fl.length)) o L) (iv w) v fun l => K ((iv u, iv (2 * a)) :: l)) (K ((iv u, v) :: mens (a + (1 + c.fl.length)) o L)) r) = _
      rw [eq_iv, decide_eq_false hne]
      exact put_mens w v (fun l => K ((iv u, iv (2 * a)) :: l)) o L _ (by simpa using hl) h
  | [], c :: L, a, hl, _ => by simp at hl
  | u :: o, [], a, hl, _ => by simp at hl
theorem mens_app (w : Int) (c : Cl) : ∀ (o : List Int) (L : List Cl) (a : Nat), o.length = L.length → mens a (o ++ [w]) (L ++ [c]) = mens a o L ++ [(iv w, iv (2 * ((a + used L : Nat) : Int)))]
  | [], [], a, _ => by simp [mens, used]
  | u :: o, x :: L, a, hl => by
    simp only [List.cons_append, mens, used]
    rw [mens_app w c o L _ (by simpa using hl), show a + (1 + x.fl.length) + used L = a + (1 + x.fl.length + used L) from by omega]
  | [], c :: L, a, hl => by simp at hl
  | u :: o, [], a, hl => by simp at hl

/-- The mover: the old heap, the new one, what has been moved, the words in order; below b lies the old heap, from b on all else. -/
structure MV (h : Heap) (b q po mo pn mn mm : Nat) (size : Int) (Lo Ln : List Cl) (ord : List Int) (v : AV) : Prop where
  cell : ∃ c, h.tr.get q = some (.st c 4) ∧ c.get 0 = some (.p po 0 0) ∧ c.get 1 = some (.p pn 0 0) ∧ c.get 2 = some (.m mm) ∧ c.get 3 = some v
  old : RH h po mo size Lo
  now : RH h pn mn size Ln
  mp : h.tr.get mm = some (.mp (mens 0 ord Ln))
  gr : GR h v (ord.map iv)
  ok : OKx (Lo.map Cl.bk) ⟨ord, Ln.map Cl.bk⟩
  lo : po < b ∧ mo < b ∧ ∀ i ∈ fpL Lo, i < b
  hi : b ≤ q ∧ b ≤ pn ∧ b ≤ mn ∧ b ≤ mm ∧ (∀ i ∈ fpL Ln, b ≤ i) ∧ ∀ i ∈ rid v, b ≤ i
  ne : mm ≠ mn ∧ ∀ i ∈ rid v, i ∉ fpL Ln

theorem GR.notSt {h : Heap} {v : AV} {l : List AV} (g : GR h v l) {p n : Nat} {c : T AV} (hp : h.tr.get p = some (.st c n)) : p ∉ rid v := by
  rcases g with ⟨rfl, rfl⟩ | ⟨id, t, cells, minv, segs, h1, rfl, h3, h4⟩
  · simp [rid]
  · intro hi; simp [rid] at hi; rw [← hi, hp] at h3; cases h3
theorem GR.notMp {h : Heap} {v : AV} {l : List AV} (g : GR h v l) {p : Nat} {es : List (AV × AV)} (hp : h.tr.get p = some (.mp es)) : p ∉ rid v := by
  rcases g with ⟨rfl, rfl⟩ | ⟨id, t, cells, minv, segs, h1, rfl, h3, h4⟩
  · simp [rid]
  · intro hi; simp [rid] at hi; rw [← hi, hp] at h3; cases h3
theorem RH.notSt4 {h : Heap} {p m : Nat} {size : Int} {L : List Cl} (r : RH h p m size L) {q : Nat} {c : T AV} (hq : h.tr.get q = some (.st c 4)) : q ≠ p ∧ q ≠ m ∧ q ∉ fpL L := by
  obtain ⟨d, g1, _⟩ := r.hd
  refine ⟨fun e => (by rw [e, g1] at hq; cases hq), fun e => (by rw [e, r.mp] at hq; cases hq), fun hi => ?_⟩
  obtain ⟨x, hx, hi⟩ := List.mem_flatMap.1 hi
  obtain ⟨⟨s, s1, s2⟩, s3⟩ := r.bl x hx
  simp only [fpC, List.mem_cons] at hi
  rcases hi with rfl | hi
  · rw [s1] at hq; cases hq
  · exact s3.notSt hq hi
theorem RH.notMp {h : Heap} {p m : Nat} {size : Int} {L : List Cl} (r : RH h p m size L) {q : Nat} {es : List (AV × AV)} (hq : h.tr.get q = some (.mp es)) : q ≠ p ∧ q ∉ fpL L := by
  obtain ⟨d, g1, _⟩ := r.hd
  refine ⟨fun e => (by rw [e, g1] at hq; cases hq), fun hi => ?_⟩
  obtain ⟨x, hx, hi⟩ := List.mem_flatMap.1 hi
  obtain ⟨⟨s, s1, s2⟩, s3⟩ := r.bl x hx
  simp only [fpC, List.mem_cons] at hi
  rcases hi with rfl | hi
  · rw [s1] at hq; cases hq
  · exact s3.notMp hq hi

section
variable {h : Heap} {b q po mo pn mn mm : Nat} {size : Int} {Lo Ln : List Cl} {ord : List Int} {v : AV}
theorem tag_look {w : Int} : look 0 Lo w = none → tagOf Lo w = 0 := fun h => by unfold tagOf; rw [h]

theorem move_old (V : MV h b q po mo pn mn mm size Lo Ln ord v) {w : Int} (hl : look 0 Lo w = none) (n : Nat) (k : KH) : cal (n + 6) 31 [.p q 0 0, iv w] h k = k (iv w) h := by
  obtain ⟨c, c1, c2, c3, c4, c5⟩ := V.cell
  have a1 := fun k => rTag V.old w (n + 3) k
  rw [tag_look hl] at a1
  have a2 := fun k => b_eqlT (a := (0 : Int)) (b := 0) rfl k
  rw [run31]; simp only [ofL_cons, ofL_nil, Nat.zero_add, Nat.reduceAdd]
  simp -implicitDefEqProofs only [c31, ↓x_seq, ↓x_reg, ↓o_consS, ↓r_pu, ↓p_mv, ↓e_c, ↓o_nil, ↓nrm_n, ↓o_consN, ↓e_t, ne_eq, reduceCtorEq, not_false_eq_true, ↓getK_other, ↓getK_same, ↓p_nilck, ↓e_l0, ↓n_pf, ↓p_fad, ↓n_p, ↓r_rd, ↓m_ld, ↓t_get c1, Nat.zero_add, Nat.reduceLT, ↓m_st0, ↓t_get c2, Nat.reduceEqDiff, ↓r_ef, ↓m_callf, ↓es_cons, ↓e_l1, ↓es_nil, ↓a1, ↓p_bin, ↓a2, ↓x_cond, ↓n_b, ↓x_ret, ↓nrm_r, ↓ret_r, ↓res_t1, ↓one1]
theorem move_known (V : MV h b q po mo pn mn mm size Lo Ln ord v) {w x : Int} {c0 : Cl} (hl : look 0 Lo w = some c0) (hx : nowAt 0 ord (Ln.map Cl.bk) w = some x) (n : Nat) (k : KH) : cal (n + 6) 31 [.p q 0 0, iv w] h k = k (iv x) h := by
  obtain ⟨c, c1, c2, c3, c4, c5⟩ := V.cell
  have a1 := fun k => rTag V.old w (n + 3) k
  have ht : tagOf Lo w = c0.tag := by unfold tagOf; rw [hl]
  rw [ht] at a1
  have a2 := fun k => b_eqlF (a := c0.tag) (b := 0) (by have := V.old.ne c0 (look_mem hl); omega) k
  have a3 : ∀ d f, findK (mens 0 ord Ln) (iv w) d f = f (iv x) := fun d f => by rw [find_mens, hx]
  rw [run31]; simp only [ofL_cons, ofL_nil, Nat.zero_add, Nat.reduceAdd]
  simp -implicitDefEqProofs only [c31, ↓x_seq, ↓x_reg, ↓o_consS, ↓r_pu, ↓p_mv, ↓e_c, ↓o_nil, ↓nrm_n, ↓o_consN, ↓e_t, ne_eq, reduceCtorEq, not_false_eq_true, ↓getK_other, ↓getK_same, ↓p_nilck, ↓e_l0, ↓n_pf, ↓p_fad, ↓n_p, ↓r_rd, ↓m_ld, ↓t_get c1, Nat.zero_add, Nat.reduceLT, ↓m_st0, ↓t_get c2, Nat.reduceEqDiff, ↓r_ef, ↓m_callf, ↓es_cons, ↓e_l1, ↓es_nil, ↓a1, ↓p_bin, ↓a2, ↓x_cond, ↓n_b, ↓x_skip, ↓t_get c4, ↓m_lk, ↓kd1, ↓n_m, ↓t_get V.mp, ↓n_mp, ↓a3, ↓okT, ↓p_ext, ↓n_tup, ↓nth0, ↓nth1, ↓p_not, ↓rec_nt, ↓x_ret, ↓ret_r, ↓res_t1, ↓one1, i_t]
end
end Go.Proofs.Ytodlgflkhcknaaa.gcc

/- A word is moved for the first time (package gc). -/
namespace Go.Proofs.Ytodlgflkhcknaaa.gcc
open Go Go.AE
set_option linter.unusedSimpArgs false
set_option maxRecDepth 100000

theorem fpL_snoc {L : List Cl} {c : Cl} {i : Nat} : i ∈ fpL (L ++ [c]) ↔ i ∈ fpL L ∨ i ∈ fpC c := by simp [fpL]

section
variable {h : Heap} {b q po mo pn mn mm : Nat} {size : Int} {Lo Ln : List Cl} {ord : List Int} {v : AV}
theorem move_new (V : MV h b q po mo pn mn mm size Lo Ln ord v) (hs : Sc h) (hu : (used Lo : Int) ≤ size) (hsz : size ≤ 20000) {w : Int} {c0 : Cl} (hl : look 0 Lo w = some c0) (hx : nowAt 0 ord (Ln.map Cl.bk) w = none) (n : Nat) :
    ∃ h' c v', (∀ k : KH, cal (n + 6) 31 [.p q 0 0, iv w] h k = k (iv (2 * used Ln)) h') ∧ MV h' b q po mo pn mn mm size Lo (Ln ++ [c]) (ord ++ [w]) v' ∧ c.bk = c0.bk ∧ Sc h' ∧ Kp h h' (pn :: mn :: mm :: q :: rid v) ∧ (∀ i ∈ rid v', i ∈ rid v ∨ h.next ≤ i) ∧ ∀ i ∈ fpC c, h.next ≤ i := by
  obtain ⟨c, c1, c2, c3, c4, c5⟩ := V.cell
  have hne := V.old.ne c0 (look_mem hl)
  have ht : tagOf Lo w = c0.tag := by unfold tagOf; rw [hl]
  have hf : flOf Lo w = c0.fl := by unfold flOf; rw [hl]
  have hlB : lookB 0 (Lo.map Cl.bk) w = some c0.bk := by rw [look_bk, hl]; rfl
  have hroom := V.ok.room hlB hx
  rw [used_bk, used_bk] at hroom
  have hroom : used Ln + (1 + c0.fl.length) ≤ used Lo := hroom
  obtain ⟨v1, h2, e1, rv1, hs2, k2, i2⟩ := rFields V.old hs w (by rw [hf]; omega) (n + 1)
  rw [hf] at rv1
  have old2 := V.old.keep k2 hs (by simp) (by simp) (fun _ _ => by simp)
  have now2 := V.now.keep k2 hs (by simp) (by simp) (fun _ _ => by simp)
  obtain ⟨h3, cn, e2, cn1, cn2, now3, hs3, k3, i3⟩ := rAlloc now2 hs2 hne.1 hne.2 rv1 (by omega) hsz (n + 2)
  have q2 := k2.get hs c1 (by simp)
  obtain ⟨qn1, qn2, qn3⟩ := V.now.notSt4 c1
  obtain ⟨qo1, qo2, qo3⟩ := V.old.notSt4 c1
  obtain ⟨mn1, mn3⟩ := V.now.notMp V.mp
  have m2 := k2.get hs V.mp (by simp)
  have q3 := k3.get hs2 q2 (by simp [qn1, qn2])
  have m3 := k3.get hs2 m2 (by simp [mn1, V.ne.1])
  have hqm : q ≠ mm := fun e => by have := V.mp; rw [← e, c1] at this; cases this
  have g3 : GR h3 v (ord.map iv) := (V.gr.keep k2 hs (fun _ _ => by simp)).keep k3 hs2 (fun i hi hn => by
    obtain ⟨d, d1, _⟩ := V.now.hd
    simp at hn
    rcases hn with rfl | rfl
    · exact V.gr.notSt d1 hi
    · exact V.gr.notMp V.now.mp hi)
  let h4 := updO h3 mm (.mp (mens 0 ord Ln ++ [(iv w, iv (2 * (used Ln : Int)))]))
  have hs4 : Sc h4 := hs3.upd m3 _
  have k4 : Kp h3 h4 [mm] := Kp.upd h3 mm _
  have g4 : GR h4 v (ord.map iv) := g3.keep k4 hs3 (fun i hi hn => by simp at hn; subst hn; exact V.gr.notMp V.mp hi)
  let h5 := addO h4 (.st (T.set (iv w) .e 0) 1)
  have hs5 : Sc h5 := hs4.add _
  have k5 : Kp h4 h5 [] := Kp.add h4 _ _
  have g5 : GR h5 v (ord.map iv) := g4.keep k5 hs4 (fun _ _ => by simp)
  have hol : ord.length ≤ 20000 := by
    have h1 := V.ok.len
    have h2 := len_usedB (Ln.map Cl.bk)
    have h3 := V.ok.fit
    rw [used_bk, used_bk] at h3
    rw [used_bk] at h2
    have h1 : ord.length = (Ln.map Cl.bk).length := h1
    have h3 : used Ln ≤ used Lo := h3
    omega
  obtain ⟨v', h6, e6, g6, hs6, k6, i6⟩ := app_one (b := 8) (by omega) g5 hs5 (x := iv w) rfl (by simp; omega)
  have hqv : q ∉ rid v := V.gr.notSt c1
  have hmv : mm ∉ rid v := V.gr.notMp V.mp
  have q4 : h4.tr.get q = some (.st c 4) := k4.get hs3 q3 (by simp [hqm])
  have q5 : h5.tr.get q = some (.st c 4) := k5.get hs4 q4 (by simp)
  have q6 : h6.tr.get q = some (.st c 4) := k6.get hs5 q5 hqv
  let h7 := updO h6 q (.st (T.set v' c 3) 4)
  have k7 : Kp h6 h7 [q] := Kp.upd h6 q _
  have hs7 : Sc h7 := hs6.upd q6 _
  have hq3 : q ≠ h3.next := by have := hs3 _ _ q3; omega
  have one' : oneC v' = true := by
    rcases g6 with ⟨h1, rfl⟩ | ⟨id, t, cells, minv, segs, h1, rfl, h3, h4⟩ <;> rfl
  have cell' : cellsOf v' = [v'] := by
    rcases g6 with ⟨h1, rfl⟩ | ⟨id, t, cells, minv, segs, h1, rfl, h3, h4⟩ <;> rfl
  have n2 := k2.1
  have n3 := k3.1
  have n6 := k6.1
  have n5 : h5.next = h3.next + 1 := rfl
  have K57 : Kp h3 h7 (mm :: q :: rid v) := (k4.mono (by simp)).trans ((k5.mono (T := mm :: q :: rid v) (by simp)).trans ((k6.mono (T := mm :: q :: rid v) (fun i hi => by simp [hi])).trans (k7.mono (T := mm :: q :: rid v) (by simp)) (fun i hi _ => hi)) (fun i hi _ => hi)) (fun i hi _ => hi)
  have K37 : Kp h2 h7 (pn :: mn :: mm :: q :: rid v) := (k3.mono (by simp)).trans (K57.mono (fun i hi => by simp at hi ⊢; exact .inr (.inr hi))) (fun i hi _ => hi)
  have K07 : Kp h h7 (pn :: mn :: mm :: q :: rid v) := (k2.mono (by simp)).trans K37 (fun i hi _ => hi)
  have bS : ∀ i ∈ (pn :: mn :: mm :: q :: rid v), b ≤ i := fun i hi => by
    simp only [List.mem_cons] at hi
    rcases hi with rfl | rfl | rfl | rfl | hi
    · exact V.hi.2.1
    · exact V.hi.2.2.1
    · exact V.hi.2.2.2.1
    · exact V.hi.1
    · exact V.hi.2.2.2.2.2 i hi
  have ltn := V.now.lt hs
  have hbn : b ≤ h.next := by have := hs _ _ c1; have := V.hi.1; omega
  refine ⟨h7, cn, v', fun k => ?_, ⟨⟨T.set v' c 3, ?_, ?_, ?_, ?_, get_same _ _ _⟩, ?_, ?_, ?_, ?_, ?_, V.lo, ?_, ?_⟩, by simp [Cl.bk, cn1, cn2], hs7, K07, fun i hi => by
    rcases i6 i hi with h1 | h1
    · exact .inl h1
    · exact .inr (by omega), fun i hi => by have := i3 i hi; omega⟩
  · have a1 := fun k => rTag V.old w (n + 3) k
    rw [ht] at a1
    have a2 := fun k => b_eqlF (a := c0.tag) (b := 0) (by omega) k
    have a3 : ∀ d f, findK (mens 0 ord Ln) (iv w) d f = d := fun d f => by rw [find_mens, hx]
    have a4 : ∀ K, putM (mens 0 ord Ln) (iv w) (iv (2 * (used Ln : Int))) K = K (mens 0 ord Ln ++ [(iv w, iv (2 * (used Ln : Int)))]) := fun K => put_mens w _ K ord Ln 0 (by have := V.ok.len; simpa using this) hx
    have a6 : ∀ k : KH, appK 1 8 v [iv w] 1 (addO (updO h3 mm (.mp (mens 0 ord Ln ++ [(iv w, iv (2 * (used Ln : Int)))]))) (.st (T.set (iv w) .e 0) 1)) k = k v' h6 := e6
    have a7 : ∀ K, wrK (.st c 4) 0 3 v' K = K (.st (T.set v' c 3) 4) := fun K => w_st one' (by omega) K
    rw [run31]; simp only [ofL_cons, ofL_nil, Nat.zero_add, Nat.reduceAdd]
    simp -implicitDefEqProofs only [c31, ↓x_seq, ↓x_reg, ↓o_consS, ↓r_pu, ↓p_mv, ↓e_c, ↓o_nil, ↓nrm_n, ↓o_consN, ↓e_t, ne_eq, reduceCtorEq, not_false_eq_true, ↓getK_other, ↓getK_same, ↓p_nilck, ↓e_l0, ↓n_pf, ↓p_fad, ↓n_p, ↓r_rd, ↓m_ld, ↓t_get c1, Nat.zero_add, Nat.reduceLT, ↓m_st0, ↓t_get c2, Nat.reduceEqDiff, ↓r_ef, ↓m_callf, ↓es_cons, ↓e_l1, ↓es_nil, ↓a1, ↓p_bin, ↓a2, ↓x_cond, ↓n_b, ↓x_skip, ↓t_get c4, ↓m_lk, ↓kd1, ↓n_m, ↓t_get V.mp, ↓n_mp, ↓a3, ↓okT, ↓p_ext, ↓n_tup, ↓nth0, ↓nth1, ↓p_not, ↓rec_nf, ↓x_dreg, ↓d_puN, ↓d_rdN, ↓t_get c3, ↓d_efN, ↓e1, ↓e_l12, ↓e_l6, ↓e2, ↓d_puS, ↓d_nil, ↓rev_cons, ↓rev_nil, Bool.not_false, beq_dec, decide_false, decide_true, k_cons, ↓ka_cons, ble_dec, Nat.zero_le, i_t, ↓s_p, Nat.reduceLeDiff, Nat.reduceAdd, ↓t_get q2, i_f, ↓t_get q3, ↓ka_nil, and_t, ↓k_nil, ↓m_mup, ↓e_l2, ↓t_get m3, ↓a4, hqm, ↓gu_other, ↓t_get c5, ↓r_al, ↓bsl1, ↓c_i, ↓bslK_of, ↓m_app, ↓src_new, ↓a6, ↓e_l7, ↓m_store, cell', len_1, ↓t_get q6, ↓x_ret, ↓ret_r, ↓res_t1, ↓one1, ↓wrs1, ↓a7]
    rfl
  · show (updO h6 q _).tr.get q = _
    rw [get_upd]; exact if_pos rfl
  · rw [get_other _ _ (by omega)]; exact c2
  · rw [get_other _ _ (by omega)]; exact c3
  · rw [get_other _ _ (by omega)]; exact c4
  · exact V.old.keep K07 hs (fun hm => by have := bS _ hm; have := V.lo.1; omega) (fun hm => by have := bS _ hm; have := V.lo.2.1; omega) (fun i hi hm => by have := bS _ hm; have := V.lo.2.2 i hi; omega)
  · refine now3.keep K57 hs3 (fun hm => ?_) (fun hm => ?_) (fun i hi hm => ?_)
    · obtain ⟨d, d1, _⟩ := V.now.hd
      simp only [List.mem_cons] at hm
      rcases hm with h1 | h1 | h1
      · exact mn1 h1.symm
      · exact qn1 h1.symm
      · exact V.gr.notSt d1 h1
    · simp only [List.mem_cons] at hm
      rcases hm with h1 | h1 | h1
      · exact V.ne.1 h1.symm
      · exact qn2 h1.symm
      · exact V.gr.notMp V.now.mp h1
    · rcases fpL_snoc.1 hi with hi | hi
      · simp only [List.mem_cons] at hm
        rcases hm with rfl | rfl | h1
        · exact mn3 hi
        · exact qn3 hi
        · exact V.ne.2 i h1 hi
      · have := i3 i hi
        simp only [List.mem_cons] at hm
        rcases hm with rfl | rfl | h1
        · have := hs _ _ V.mp; omega
        · have := hs _ _ c1; omega
        · have := V.gr.lt hs i h1; omega
  · have h1 : h7.tr.get mm = h6.tr.get mm := by show (updO h6 q _).tr.get mm = _; rw [get_upd, if_neg (Ne.symm hqm)]
    have h4m : h4.tr.get mm = some (.mp (mens 0 ord Ln ++ [(iv w, iv (2 * (used Ln : Int)))])) := by show (updO h3 mm _).tr.get mm = _; rw [get_upd]; exact if_pos rfl
    rw [h1, k6.get hs5 (k5.get hs4 h4m (by simp)) hmv, mens_app w cn ord Ln 0 (by have := V.ok.len; simpa using this)]
    simp
  · rw [List.map_append]
    exact g6.keep k7 hs6 (fun i hi hm => by
      simp at hm; subst hm
      rcases i6 i hi with h1 | h1
      · exact hqv h1
      · have := hs _ _ c1; omega)
  · have := V.ok.move w
    unfold pmove at this
    rw [hlB, hx] at this
    rw [List.map_append, show [cn].map Cl.bk = [c0.bk] from by simp [Cl.bk, cn1, cn2]]
    exact this
  · refine ⟨V.hi.1, V.hi.2.1, V.hi.2.2.1, V.hi.2.2.2.1, fun i hi => ?_, fun i hi => ?_⟩
    · rcases fpL_snoc.1 hi with hi | hi
      · exact V.hi.2.2.2.2.1 i hi
      · have := i3 i hi; omega
    · rcases i6 i hi with h1 | h1
      · exact V.hi.2.2.2.2.2 i h1
      · omega
  · refine ⟨V.ne.1, fun i hi hm => ?_⟩
    rcases i6 i hi with h1 | h1
    · rcases fpL_snoc.1 hm with hm | hm
      · exact V.ne.2 i h1 hm
      · have := i3 i hm
        have := V.gr.lt hs i h1
        omega
    · have := (now3.lt hs3).2.2 i hm
      omega
end
end Go.Proofs.Ytodlgflkhcknaaa.gcc

/- A word is moved (package gc), in one sentence; the roots. -/
namespace Go.Proofs.Ytodlgflkhcknaaa.gcc
open Go Go.AE
set_option linter.unusedSimpArgs false
set_option maxRecDepth 100000

/-- The roots are moved. -/
def proots (A : List Bk) : List Int → Sx → List Int × Sx
  | [], s => ([], s)
  | w :: ws, s => ((pmove A s w).1 :: (proots A ws (pmove A s w).2).1, (proots A ws (pmove A s w).2).2)

theorem RowR.elem {h : Heap} {v : AV} {fl : List Int} (r : RowR h v fl) {j : Nat} {x : Int} (hx : fl[j]? = some x) :
    ∃ id t off cap o, v = .sl id t off fl.length cap 1 ∧ h.tr.get id = some o ∧ ∀ k, rdK o t (off + j * 1) k = k (iv x) := by
  rcases r with ⟨rfl, _⟩ | ⟨id, t, off, cap, o, rfl, ho, hr⟩
  · simp at hx
  · exact ⟨id, t, off, cap, o, rfl, ho, fun k => by rw [Nat.mul_one]; exact hr j x hx k⟩

section
variable {b q po mo pn mn mm : Nat} {size : Int} {Lo : List Cl}
theorem gMove {h : Heap} {Ln : List Cl} {ord : List Int} {v : AV} (V : MV h b q po mo pn mn mm size Lo Ln ord v) (hs : Sc h) (hu : (used Lo : Int) ≤ size) (hsz : size ≤ 20000) (w : Int) (n : Nat) :
    ∃ h' Ln' v', (∀ k : KH, cal (n + 6) 31 [.p q 0 0, iv w] h k = k (iv (pmove (Lo.map Cl.bk) ⟨ord, Ln.map Cl.bk⟩ w).1) h') ∧ MV h' b q po mo pn mn mm size Lo Ln' (pmove (Lo.map Cl.bk) ⟨ord, Ln.map Cl.bk⟩ w).2.ord v' ∧
      Ln'.map Cl.bk = (pmove (Lo.map Cl.bk) ⟨ord, Ln.map Cl.bk⟩ w).2.bs ∧ Sc h' ∧ Kp h h' (pn :: mn :: mm :: q :: rid v) ∧ (∀ i ∈ rid v', i ∈ rid v ∨ h.next ≤ i) ∧ ∀ i ∈ fpL Ln', i ∈ fpL Ln ∨ h.next ≤ i := by
  unfold pmove
  rw [look_bk]
  cases hl : look 0 Lo w with
  | none => exact ⟨h, Ln, v, fun k => move_old V hl n k, V, rfl, hs, Kp.refl _ _, fun i hi => .inl hi, fun i hi => .inl hi⟩
  | some c0 =>
    show ∃ h' Ln' v', _
    cases hx : nowAt 0 ord (Ln.map Cl.bk) w with
    | some x =>
      simp only [Option.map_some, hx]
      exact ⟨h, Ln, v, fun k => move_known V hl hx n k, V, rfl, hs, Kp.refl _ _, fun i hi => .inl hi, fun i hi => .inl hi⟩
    | none =>
      simp only [Option.map_some, hx]
      obtain ⟨h', c, v', e1, e2, e3, e4, e5, e6, e7⟩ := move_new V hs hu hsz hl hx n
      exact ⟨h', Ln ++ [c], v', fun k => by rw [e1, used_bk], e2, by rw [List.map_append, ← e3]; rfl, e4, e5, e6, fun i hi => by
        rcases fpL_snoc.1 hi with hi | hi
        · exact .inl hi
        · exact .inr (e7 i hi)⟩

theorem MV.S_hi {h : Heap} {Ln : List Cl} {ord : List Int} {v : AV} (V : MV h b q po mo pn mn mm size Lo Ln ord v) : ∀ i ∈ (pn :: mn :: mm :: q :: rid v), b ≤ i := fun i hi => by
  simp only [List.mem_cons] at hi
  rcases hi with rfl | rfl | rfl | rfl | hi
  · exact V.hi.2.1
  · exact V.hi.2.2.1
  · exact V.hi.2.2.2.1
  · exact V.hi.1
  · exact V.hi.2.2.2.2.2 i hi

/-- What the frame of 'Collect' holds while the roots are moved. -/
def FA (fr : Fr) (po q : Nat) (out vr : AV) (N i : Nat) : Prop :=
  fr.get 0 = some (.p po 0 0) ∧ fr.get 6 = some (.p q 0 0) ∧ fr.get 7 = some out ∧ fr.get 27 = some vr ∧ fr.get 28 = some (iv N) ∧ fr.get 29 = some (iv i)

theorem stepA {h : Heap} {Ln : List Cl} {ord : List Int} {v out vr : AV} {outs roots : List Int} (V : MV h b q po mo pn mn mm size Lo Ln ord v) (hs : Sc h) (hu : (used Lo : Int) ≤ size) (hsz : size ≤ 20000)
    (rr : RowR h vr roots) (hrb : ∀ i ∈ rid vr, i < b) (go : GR h out (outs.map iv)) (hob : ∀ i ∈ rid out, b ≤ i ∧ i ∉ rid v ∧ i ∉ fpL Ln) {i : Nat} {w : Int} (hw : roots[i]? = some w) (hol : outs.length < 1000000) (hil : i < 1000000) {fr : Fr} (F : FA fr po q out vr roots.length i) (n f : Nat) :
    ∃ fr' h' Ln' v' out', (∀ k, iter (exec (cal (n + 6)) c6L2) (f + 1) fr h k = iter (exec (cal (n + 6)) c6L2) f fr' h' k) ∧ FA fr' po q out' vr roots.length (i + 1) ∧
      MV h' b q po mo pn mn mm size Lo Ln' (pmove (Lo.map Cl.bk) ⟨ord, Ln.map Cl.bk⟩ w).2.ord v' ∧ Ln'.map Cl.bk = (pmove (Lo.map Cl.bk) ⟨ord, Ln.map Cl.bk⟩ w).2.bs ∧ Sc h' ∧
      GR h' out' ((outs ++ [(pmove (Lo.map Cl.bk) ⟨ord, Ln.map Cl.bk⟩ w).1]).map iv) ∧ (∀ i ∈ rid out', b ≤ i ∧ i ∉ rid v' ∧ i ∉ fpL Ln') ∧ (∀ id, id < b → h'.tr.get id = h.tr.get id) ∧ h.next ≤ h'.next := by
  obtain ⟨f0, f6, f7, f27, f28, f29⟩ := F
  obtain ⟨h1, Ln', v', e1, V1, b1, hs1, k1, i1, j1⟩ := gMove V hs hu hsz w n
  obtain ⟨id, t, off, cap, o, rfl, ho, hr⟩ := rr.elem hw
  have hlt : i < roots.length := (List.getElem?_eq_some_iff.1 hw).1
  obtain ⟨cq, cq1, _⟩ := V.cell
  obtain ⟨dn, dn1, _⟩ := V.now.hd
  have go1 : GR h1 out (outs.map iv) := go.keep k1 hs (fun z hz hm => by
    simp only [List.mem_cons] at hm
    rcases hm with rfl | rfl | rfl | rfl | hm
    · exact go.notSt dn1 hz
    · exact go.notMp V.now.mp hz
    · exact go.notMp V.mp hz
    · exact go.notSt cq1 hz
    · exact (hob z hz).2.1 hm)
  have k2 := Kp.add h1 (.st (T.set (iv (pmove (Lo.map Cl.bk) ⟨ord, Ln.map Cl.bk⟩ w).1) .e 0) 1) []
  have hs2 := hs1.add (.st (T.set (iv (pmove (Lo.map Cl.bk) ⟨ord, Ln.map Cl.bk⟩ w).1) .e 0) 1)
  have go2 := go1.keep k2 hs1 (fun _ _ => by simp)
  obtain ⟨out', h3, e3, go3, hs3, k3, i3⟩ := app_one (b := 8) (by omega) go2 hs2 (x := iv (pmove (Lo.map Cl.bk) ⟨ord, Ln.map Cl.bk⟩ w).1) rfl (by simpa using hol)
  have k13 : Kp h1 h3 (rid out) := (k2.mono (by simp)).trans k3 (fun i hi _ => hi)
  have nb1 : h.next ≤ h1.next := k1.1
  have bn : b ≤ h.next := by have := hs _ _ cq1; have := V.hi.1; omega
  have cell' : cellsOf out' = [out'] := by
    rcases go3 with ⟨h1, rfl⟩ | ⟨id, t, cells, minv, segs, h1, rfl, h3, h4⟩ <;> rfl
  have hov : ∀ z ∈ rid out, z ∉ rid v' := fun z hz hm => by
    rcases i1 z hm with h4 | h4
    · exact (hob z hz).2.1 h4
    · have := go.lt hs z hz; omega
  have hol' : ∀ z ∈ rid out, z ∉ fpL Ln' := fun z hz hm => by
    rcases j1 z hm with h4 | h4
    · exact (hob z hz).2.2 h4
    · have := go.lt hs z hz; omega
  have V3 : MV h3 b q po mo pn mn mm size Lo Ln' (pmove (Lo.map Cl.bk) ⟨ord, Ln.map Cl.bk⟩ w).2.ord v' := by
    obtain ⟨c1, c1a, c1b⟩ := V1.cell
    obtain ⟨d1, d1a, _⟩ := V1.now.hd
    have hb' : ∀ z ∈ rid out, b ≤ z := fun z hz => (hob z hz).1
    refine ⟨⟨c1, k13.get hs1 c1a (go1.notSt c1a), c1b⟩, V1.old.keep k13 hs1 (fun hm => by have := hb' _ hm; have := V.lo.1; omega) (fun hm => by have := hb' _ hm; have := V.lo.2.1; omega) (fun z hz hm => by have := hb' _ hm; have := V.lo.2.2 z hz; omega),
      V1.now.keep k13 hs1 (go1.notSt d1a) (go1.notMp V1.now.mp) (fun z hz hm => hol' z hm hz), k13.get hs1 V1.mp (go1.notMp V1.mp), V1.gr.keep k13 hs1 (fun z hz hm => hov z hm hz), V1.ok, V1.lo, V1.hi, V1.ne⟩
  apply Exists.intro
  refine ⟨h3, Ln', v', out', ?_, ?_, V3, b1, hs3, by rw [List.map_append]; exact go3, fun z hz => ?_, fun z hz => ?_, by have := k13.1; omega⟩
  · intro k
    have a1 := fun k => b_lssT (a := (i : Int)) (b := (roots.length : Int)) (by omega) k
    have a2 := fun k => b_add (a := (i : Int)) (b := 1) (by omega) (by omega) k
    have a3 : decide (i + 1 ≤ roots.length) = true := decide_eq_true hlt
    rw [it_succ]
    simp -implicitDefEqProofs only [c6L2, ↓x_seq, ↓x_reg, ↓o_consS, ↓r_pu, ↓p_bin, ↓e_t, ↓t_get f29, ↓t_get f28, ↓a1, ↓o_nil, ↓nrm_n, ↓x_cond, ↓getK_same, ↓n_b, ↓x_skip, ↓x_block, ↓o_consN, ↓p_iad, ne_eq, Nat.reduceEqDiff, not_false_eq_true, ↓getK_other, ↓t_get f27, ↓n_sl, ↓evN_of, ↓n_i, ↓int_n, ble_dec, a3, ↓r_rd, ↓m_ld, ↓e_l0, ↓n_p, ↓t_get ho, ↓hr, ↓p_mv, ↓t_get f7, ↓t_get f6, ↓r_ef, ↓m_callf, ↓es_cons, ↓e_l1, ↓es_nil, ↓e1, ↓r_al, ↓bsl1, ↓c_i, ↓bslK_of, ↓m_app, ↓e_l4, ↓src_new, ↓e3, ↓e_c, ↓a2, i_t]
    rfl
  · refine ⟨?_, ?_, ?_, ?_, ?_, ?_⟩ <;> simp only [get_same, get_other, ne_eq, Nat.reduceEqDiff, not_false_eq_true, f0, f6, f7, f27, f28, f29]
    rfl
  · rcases i3 z hz with h4 | h4
    · exact ⟨(hob z h4).1, hov z h4, hol' z h4⟩
    · have h5 : h1.next + 1 ≤ z := h4
      refine ⟨by omega, fun hm => ?_, fun hm => ?_⟩
      · have := V1.gr.lt hs1 z hm; omega
      · have := (V1.now.lt hs1).2.2 z hm; omega
  · rw [k13.2 z (by omega) (fun hm => by have := (hob z hm).1; omega), k1.2 z (by omega) (fun hm => by have := V.S_hi z hm; omega)]

theorem loopA {vr : AV} {roots : List Int} (hu : (used Lo : Int) ≤ size) (hsz : size ≤ 20000) (hrb : ∀ i ∈ rid vr, i < b) (hN : roots.length < 1000000) (n : Nat) : ∀ (ws : List Int) (i : Nat) (h : Heap) (fr : Fr) (Ln : List Cl) (ord : List Int) (v out : AV) (outs : List Int),
    MV h b q po mo pn mn mm size Lo Ln ord v → Sc h → RowR h vr roots → GR h out (outs.map iv) → (∀ i ∈ rid out, b ≤ i ∧ i ∉ rid v ∧ i ∉ fpL Ln) → roots.drop i = ws → i ≤ roots.length → outs.length = i → FA fr po q out vr roots.length i → ∀ f,
    ∃ fr' h' Ln' v' out', (∀ k, iter (exec (cal (n + 6)) c6L2) (ws.length + (f + 1)) fr h k = k (.exit 0) fr' h') ∧ FA fr' po q out' vr roots.length roots.length ∧
      MV h' b q po mo pn mn mm size Lo Ln' (proots (Lo.map Cl.bk) ws ⟨ord, Ln.map Cl.bk⟩).2.ord v' ∧ Ln'.map Cl.bk = (proots (Lo.map Cl.bk) ws ⟨ord, Ln.map Cl.bk⟩).2.bs ∧ Sc h' ∧
      GR h' out' ((outs ++ (proots (Lo.map Cl.bk) ws ⟨ord, Ln.map Cl.bk⟩).1).map iv) ∧ (∀ i ∈ rid out', b ≤ i ∧ i ∉ rid v' ∧ i ∉ fpL Ln') ∧ (∀ id, id < b → h'.tr.get id = h.tr.get id) ∧ h.next ≤ h'.next
  | [], i, h, fr, Ln, ord, v, out, outs, V, hs, rr, go, hob, hd, hi, hoi, F, f => by
    have hii : i = roots.length := by
      have := congrArg List.length hd
      simp at this
      omega
    subst hii
    obtain ⟨f0, f6, f7, f27, f28, f29⟩ := F
    have a1 := fun k => b_lssF (a := (roots.length : Int)) (b := (roots.length : Int)) (by omega) k
    apply Exists.intro
    refine ⟨h, Ln, v, out, ?_, ?_, V, rfl, hs, by simpa [proots] using go, hob, fun _ _ => rfl, Nat.le_refl _⟩
    · intro k
      show iter (exec (cal (n + 6)) c6L2) (0 + (f + 1)) fr h k = _
      rw [Nat.zero_add, it_succ]
      simp -implicitDefEqProofs only [c6L2, ↓x_seq, ↓x_reg, ↓o_consS, ↓r_pu, ↓p_bin, ↓e_t, ↓t_get f29, ↓t_get f28, ↓a1, ↓o_nil, ↓nrm_n, ↓x_cond, ↓getK_same, ↓n_b, ↓x_exit, ↓nrm_e]
      rfl
    · refine ⟨?_, ?_, ?_, ?_, ?_, ?_⟩ <;> simp only [get_same, get_other, ne_eq, Nat.reduceEqDiff, not_false_eq_true, f0, f6, f7, f27, f28, f29]
  | w :: ws, i, h, fr, Ln, ord, v, out, outs, V, hs, rr, go, hob, hd, hi, hoi, F, f => by
    have hw : roots[i]? = some w := by
      have := congrArg (fun l : List Int => l[0]?) hd
      simpa using this
    have hlt : i < roots.length := (List.getElem?_eq_some_iff.1 hw).1
    obtain ⟨fr1, h1, Ln1, v1, out1, e1, F1, V1, b1, hs1, go1, hob1, lo1, n1⟩ := stepA V hs hu hsz rr hrb go hob hw (by omega) (by omega) F n (ws.length + (f + 1))
    have rr1 : RowR h1 vr roots := by
      rcases rr with rr | ⟨id, t, off, cap, o, rfl, ho, hr⟩
      · exact .inl rr
      · exact .inr ⟨id, t, off, cap, o, rfl, by rw [lo1 id (hrb id (by simp [rid]))]; exact ho, hr⟩
    have hd1 : roots.drop (i + 1) = ws := by
      have := congrArg List.tail hd
      simpa using this
    obtain ⟨fr', h', Ln', v', out', e2, F2, V2, b2, hs2, go2, hob2, lo2, n2⟩ := loopA hu hsz hrb hN n ws (i + 1) h1 fr1 Ln1 _ v1 out1 _ V1 hs1 rr1 go1 hob1 hd1 hlt (by simp [hoi]) F1 f
    rw [b1] at V2 b2 go2
    refine ⟨fr', h', Ln', v', out', fun k => ?_, F2, V2, b2, hs2, ?_, hob2, fun id hid => by rw [lo2 id hid, lo1 id hid], Nat.le_trans n1 n2⟩
    · rw [show (w :: ws).length + (f + 1) = ws.length + (f + 1) + 1 from by simp; omega, e1, e2]
    · rw [List.append_assoc] at go2
      exact go2
end
end Go.Proofs.Ytodlgflkhcknaaa.gcc

/- A moved block's fields are moved (package gc): one by one. -/
namespace Go.Proofs.Ytodlgflkhcknaaa.gcc
open Go Go.AE
set_option linter.unusedSimpArgs false
set_option maxRecDepth 100000

/-- A field is set. -/
def pset (s : Sx) (i k : Nat) (x : Int) : Sx := ⟨s.ord, match s.bs[i]? with
  | some c => s.bs.set i (c.1, c.2.set k x)
  | none => s.bs⟩
def pinner (A : List Bk) (i : Nat) : Nat → List Int → Sx → Sx
  | _, [], s => s
  | k, w :: ws, s => pinner A i (k + 1) ws (pset (pmove A s w).2 i k (pmove A s w).1)

theorem pmove_pre {A : List Bk} {s : Sx} {w : Int} {i : Nat} {u : Int} (h : s.ord[i]? = some u) : (pmove A s w).2.ord[i]? = some u := by
  unfold pmove
  cases lookB 0 A w with
  | none => exact h
  | some c => cases nowAt 0 s.ord s.bs w with
    | some x => exact h
    | none =>
      show (s.ord ++ [w])[i]? = some u
      rw [List.getElem?_append_left (List.getElem?_eq_some_iff.1 h).1]; exact h
theorem set_cases {α : Type} {l : List α} {i j : Nat} {a d : α} (h : (l.set i a)[j]? = some d) : (j = i ∧ d = a) ∨ (j ≠ i ∧ l[j]? = some d) := by
  rw [List.getElem?_set] at h
  by_cases e : i = j
  · rw [if_pos e] at h
    split at h
    · cases h; exact .inl ⟨e.symm, rfl⟩
    · cases h
  · rw [if_neg e] at h; exact .inr ⟨fun e' => e e'.symm, h⟩
theorem OKx.set {A : List Bk} {s : Sx} (o : OKx A s) (i k : Nat) (x : Int) : OKx A (pset s i k x) := by
  unfold pset
  cases hc : s.bs[i]? with
  | none => exact o
  | some c =>
    refine ⟨by simp [o.len], o.nd, fun j w d hw hd => ?_⟩
    rcases set_cases hd with ⟨rfl, rfl⟩ | ⟨_, hd⟩
    · obtain ⟨b0, h1, h2, h3⟩ := o.pr j w c hw hc
      exact ⟨b0, h1, h2, by simpa using h3⟩
    · exact o.pr j w d hw hd
theorem pset_ord (s : Sx) (i k : Nat) (x : Int) : (pset s i k x).ord = s.ord := rfl

theorem look_addr {c : Cl} : ∀ {L : List Cl} {a j : Nat}, L[j]? = some c → look a L (2 * ((a + used (L.take j) : Nat) : Int)) = some c
  | [], a, j, h => by simp at h
  | x :: L, a, 0, h => by simp at h; subst h; simp [look, used]
  | x :: L, a, j + 1, h => by
    simp only [List.take_succ_cons, used, look]
    rw [if_neg (by omega), show a + (1 + x.fl.length + used (L.take j)) = a + (1 + x.fl.length) + used (L.take j) from by omega]
    exact look_addr (by simpa using h)
theorem now_addr {w : Int} : ∀ {ord : List Int} {B : List Bk} {a j : Nat}, ord.Nodup → ord.length = B.length → ord[j]? = some w → nowAt a ord B w = some (2 * ((a + usedB (B.take j) : Nat) : Int))
  | [], B, a, j, _, _, h => by simp at h
  | u :: o, [], a, j, _, hl, h => by simp at hl
  | u :: o, c :: B, a, 0, nd, hl, h => by simp at h; subst h; simp [nowAt, usedB]
  | u :: o, c :: B, a, j + 1, nd, hl, h => by
    have hm : w ∈ o := List.mem_of_getElem? (by simpa using h)
    have hne : u ≠ w := fun e => (List.nodup_cons.1 nd).1 (e ▸ hm)
    simp only [nowAt, List.take_succ_cons, usedB]
    rw [if_neg hne, show a + (1 + c.2.length + usedB (B.take j)) = a + (1 + c.2.length) + usedB (B.take j) from by omega]
    exact now_addr (List.nodup_cons.1 nd).2 (by simpa using hl) (by simpa using h)
theorem mens_set {c c' : Cl} (h2 : c'.fl.length = c.fl.length) : ∀ (o : List Int) (L : List Cl) (a j : Nat), L[j]? = some c → mens a o (L.set j c') = mens a o L
  | [], L, a, j, h => by cases L <;> cases j <;> rfl
  | u :: o, [], a, j, h => by simp at h
  | u :: o, x :: L, a, 0, h => by simp at h; subst h; simp only [List.set_cons_zero, mens, h2]
  | u :: o, x :: L, a, j + 1, h => by simp only [List.set_cons_succ, mens]; rw [mens_set h2 o L _ j (by simpa using h)]
theorem fpL_set {c c' : Cl} (h1 : c'.id = c.id) (h2 : c'.row = c.row) : ∀ (L : List Cl) (j : Nat), L[j]? = some c → fpL (L.set j c') = fpL L
  | [], j, h => by simp at h
  | x :: L, 0, h => by simp at h; subst h; simp [fpL, fpC, h1, h2]
  | x :: L, j + 1, h => by
    have := fpL_set h1 h2 L j (by simpa using h)
    simp only [fpL] at this
    simp only [List.set_cons_succ, fpL, List.flatMap_cons, this]

/-- What the frame of 'Collect' holds while a block's fields are moved. -/
def FB (fr : Fr) (po q : Nat) (out : AV) (i : Nat) (row : AV) (N k : Nat) : Prop :=
  fr.get 0 = some (.p po 0 0) ∧ fr.get 6 = some (.p q 0 0) ∧ fr.get 7 = some out ∧ fr.get 10 = some (iv i) ∧ fr.get 57 = some row ∧ fr.get 58 = some (iv N) ∧ fr.get 59 = some (iv k)

section
variable {b q po mo pn mn mm : Nat} {size : Int} {Lo : List Cl}

theorem stepB {h : Heap} {Ln : List Cl} {ord : List Int} {v out row : AV} {outs : List AV} {fl : List Int} (V : MV h b q po mo pn mn mm size Lo Ln ord v) (hs : Sc h) (hu : (used Lo : Int) ≤ size) (hsz : size ≤ 20000)
    {i : Nat} {wi : Int} (hi : ord[i]? = some wi) (hfl : flOf Lo wi = fl) (rr : RowR h row fl) (hrb : ∀ z ∈ rid row, z < h.next ∧ z ∉ (pn :: mn :: mm :: q :: rid v) ∧ z ∉ fpL Ln)
    (go : GR h out outs) (hob : ∀ z ∈ rid out, b ≤ z ∧ z ∉ rid v ∧ z ∉ fpL Ln) {k : Nat} {w : Int} (hw : fl[k]? = some w) {fr : Fr} (F : FB fr po q out i row fl.length k) (n f : Nat) :
    ∃ fr' h' Ln' v', (∀ kk, iter (exec (cal (n + 6)) c6L0) (f + 1) fr h kk = iter (exec (cal (n + 6)) c6L0) f fr' h' kk) ∧ FB fr' po q out i row fl.length (k + 1) ∧
      MV h' b q po mo pn mn mm size Lo Ln' (pset (pmove (Lo.map Cl.bk) ⟨ord, Ln.map Cl.bk⟩ w).2 i k (pmove (Lo.map Cl.bk) ⟨ord, Ln.map Cl.bk⟩ w).1).ord v' ∧
      Ln'.map Cl.bk = (pset (pmove (Lo.map Cl.bk) ⟨ord, Ln.map Cl.bk⟩ w).2 i k (pmove (Lo.map Cl.bk) ⟨ord, Ln.map Cl.bk⟩ w).1).bs ∧ Sc h' ∧
      RowR h' row fl ∧ (∀ z ∈ rid row, z < h'.next ∧ z ∉ (pn :: mn :: mm :: q :: rid v') ∧ z ∉ fpL Ln') ∧ GR h' out outs ∧ (∀ z ∈ rid out, b ≤ z ∧ z ∉ rid v' ∧ z ∉ fpL Ln') ∧ (∀ id, id < b → h'.tr.get id = h.tr.get id) ∧ h.next ≤ h'.next := by
  obtain ⟨f0, f6, f7, f10, f57, f58, f59⟩ := F
  obtain ⟨h1, Ln1, v1, e1, V1, b1, hs1, k1, i1, j1⟩ := gMove V hs hu hsz w n
  generalize hr : pmove (Lo.map Cl.bk) ⟨ord, Ln.map Cl.bk⟩ w = r at *
  have hi1 : r.2.ord[i]? = some wi := by rw [← hr]; exact pmove_pre hi
  have hlen1 := V1.ok.len
  have hlen1 : r.2.ord.length = Ln1.length := by simpa using hlen1
  obtain ⟨c, hc⟩ : ∃ c, Ln1[i]? = some c := ⟨_, List.getElem?_eq_getElem (by have := (List.getElem?_eq_some_iff.1 hi1).1; omega)⟩
  have hcl : c.fl.length = fl.length := by
    obtain ⟨b0, g1, g2, g3⟩ := V1.ok.pr i wi c.bk hi1 (by show (Ln1.map Cl.bk)[i]? = _; rw [List.getElem?_map, hc]; rfl)
    rw [look_bk] at g1
    cases hk : look 0 Lo wi with
    | none => rw [hk] at g1; cases g1
    | some c0 =>
      rw [hk] at g1
      cases g1
      have : flOf Lo wi = c0.fl := by unfold flOf; rw [hk]
      rw [← hfl, this]; exact g3
  have hklt : k < fl.length := (List.getElem?_eq_some_iff.1 hw).1
  have hla : look 0 Ln1 (2 * (used (Ln1.take i) : Int)) = some c := by
    have := look_addr (a := 0) hc
    rw [Nat.zero_add] at this; exact this
  have htake : usedB ((Ln.map Cl.bk).take i) = used (Ln1.take i) := by
    have hp : (Ln1.map Cl.bk).take i = (Ln.map Cl.bk).take i := by
      rw [b1, ← hr]
      unfold pmove
      cases lookB 0 (Lo.map Cl.bk) w with
      | none => rfl
      | some d => cases nowAt 0 ord (Ln.map Cl.bk) w with
        | some x => rfl
        | none =>
          show ((Ln.map Cl.bk) ++ [d]).take i = _
          rw [List.take_append_of_le_length]
          have h1 := V.ok.len
          have h1 : ord.length = (Ln.map Cl.bk).length := h1
          have := (List.getElem?_eq_some_iff.1 hi).1
          omega
    rw [← hp, ← List.map_take, used_bk]
  obtain ⟨h2, e2, now2, hs2, k2, n2⟩ := rSet V1.now hs1 hc hla (i := k) (by omega) r.1 (n + 3)
  obtain ⟨c1, c1a, c1b, c1c, c1d, c1e⟩ := V1.cell
  obtain ⟨cq, cqa, cqb, cqc, cqd, cqe⟩ := V.cell
  have hcr : ∀ z ∈ rid c.row, z ∈ fpL Ln1 := fun z hz => List.mem_flatMap.2 ⟨c, List.mem_of_getElem? hc, by simp [fpC, hz]⟩
  obtain ⟨qn1, qn2, qn3⟩ := V1.now.notSt4 c1a
  obtain ⟨m1, m3⟩ := V1.now.notMp V1.mp
  have hsetb : (Ln1.set i (c.put k r.1)).map Cl.bk = (pset r.2 i k r.1).bs := by
    unfold pset
    rw [← b1]
    have : (Ln1.map Cl.bk)[i]? = some c.bk := by rw [List.getElem?_map, hc]; rfl
    simp only [this]
    rw [List.map_set]; rfl
  have hfp : fpL (Ln1.set i (c.put k r.1)) = fpL Ln1 := fpL_set (c := c) (c' := c.put k r.1) rfl rfl Ln1 i hc
  have bn : b ≤ h.next := by have := hs _ _ cqa; have := V.hi.1; omega
  have hovz : ∀ z ∈ rid out, b ≤ z ∧ z ∉ rid v1 ∧ z ∉ fpL Ln1 := fun z hz => by
    have hzl := go.lt hs z hz
    refine ⟨(hob z hz).1, fun hm => ?_, fun hm => ?_⟩
    · rcases i1 z hm with h4 | h4
      · exact (hob z hz).2.1 h4
      · omega
    · rcases j1 z hm with h4 | h4
      · exact (hob z hz).2.2 h4
      · omega
  have hrz : ∀ z ∈ rid row, z < h1.next ∧ z ∉ (pn :: mn :: mm :: q :: rid v1) ∧ z ∉ fpL Ln1 := fun z hz => by
    obtain ⟨z1, z2, z3⟩ := hrb z hz
    refine ⟨Nat.lt_of_lt_of_le z1 k1.1, fun hm => z2 ?_, fun hm => ?_⟩
    · simp only [List.mem_cons] at hm ⊢
      rcases hm with h4 | h4 | h4 | h4 | h4
      · exact .inl h4
      · exact .inr (.inl h4)
      · exact .inr (.inr (.inl h4))
      · exact .inr (.inr (.inr (.inl h4)))
      · rcases i1 z h4 with h5 | h5
        · exact .inr (.inr (.inr (.inr h5)))
        · omega
    · rcases j1 z hm with h4 | h4
      · exact z3 h4
      · omega
  obtain ⟨dn, dn1, _⟩ := V.now.hd
  have go1 : GR h1 out outs := go.keep k1 hs (fun z hz hm => by
    simp only [List.mem_cons] at hm
    rcases hm with rfl | rfl | rfl | rfl | hm
    · exact go.notSt dn1 hz
    · exact go.notMp V.now.mp hz
    · exact go.notMp V.mp hz
    · exact go.notSt cqa hz
    · exact (hob z hz).2.1 hm)
  have go2 : GR h2 out outs := go1.keep k2 hs1 (fun z hz hm => (hovz z hz).2.2 (hcr z hm))
  have rr1 : RowR h1 row fl := rr.keep k1 hs (fun z hz => (hrb z hz).2.1)
  have rr2 : RowR h2 row fl := rr1.keep k2 hs1 (fun z hz hm => (hrz z hz).2.2 (hcr z hm))
  have V2 : MV h2 b q po mo pn mn mm size Lo (Ln1.set i (c.put k r.1)) r.2.ord v1 := by
    refine ⟨⟨c1, k2.get hs1 c1a (fun hm => qn3 (hcr _ hm)), c1b, c1c, c1d, c1e⟩, V1.old.keep k2 hs1 (fun hm => ?_) (fun hm => ?_) (fun z hz hm => ?_), now2, ?_, V1.gr.keep k2 hs1 (fun z hz hm => V1.ne.2 z hz (hcr z hm)), ?_, V1.lo, ?_, ?_⟩
    · have := V1.hi.2.2.2.2.1 _ (hcr _ hm); have := V1.lo.1; omega
    · have := V1.hi.2.2.2.2.1 _ (hcr _ hm); have := V1.lo.2.1; omega
    · have := V1.hi.2.2.2.2.1 _ (hcr _ hm); have := V1.lo.2.2 z hz; omega
    · rw [mens_set (put_len c k r.1) r.2.ord Ln1 0 i hc]; exact k2.get hs1 V1.mp (fun hm => m3 (hcr _ hm))
    · rw [hsetb]
      have := V1.ok.set i k r.1
      unfold pset at this ⊢
      rw [b1] at this
      exact this
    · rw [hfp]; exact V1.hi
    · rw [hfp]; exact V1.ne
  obtain ⟨ir, tr, offr, capr, orr, hrow, hor, hrr⟩ := rr.elem hw
  obtain ⟨iv', tv, ov, hv, hov, hrv⟩ := V.gr.read (j := i) (x := iv wi) (by rw [List.getElem?_map, hi]; rfl)
  have hilt : i < ord.length := (List.getElem?_eq_some_iff.1 hi).1
  have hol : ord.length ≤ 20000 := by
    have h1 := V.ok.len
    have h2 := len_usedB (Ln.map Cl.bk)
    have h3 := V.ok.fit
    rw [used_bk, used_bk] at h3
    rw [used_bk] at h2
    have h1 : ord.length = (Ln.map Cl.bk).length := h1
    have h3 : used Ln ≤ used Lo := h3
    omega
  have hfll : fl.length ≤ 20000 := by
    have h1 := V1.ok.fit
    have h2 : c.fl.length ≤ used Ln1 := by
      have : ∀ (L : List Cl) (d : Cl), d ∈ L → d.fl.length ≤ used L := fun L => by
        induction L with
        | nil => intro d hd; simp at hd
        | cons x L ih =>
          intro d hd
          simp only [List.mem_cons] at hd
          simp only [used]
          rcases hd with rfl | hd
          · omega
          · have := ih d hd; omega
      exact this Ln1 c (List.mem_of_getElem? hc)
    rw [used_bk, used_bk] at h1
    have h1 : used Ln1 ≤ used Lo := h1
    omega
  apply Exists.intro
  refine ⟨h2, Ln1.set i (c.put k r.1), v1, ?_, ?_, V2, hsetb, hs2, rr2, fun z hz => ⟨by rw [n2]; exact (hrz z hz).1, (hrz z hz).2.1, by rw [hfp]; exact (hrz z hz).2.2⟩, go2, fun z hz => ⟨(hovz z hz).1, (hovz z hz).2.1, by rw [hfp]; exact (hovz z hz).2.2⟩, fun id hid => ?_, by rw [n2]; exact k1.1⟩
  · intro kk
    subst hrow
    subst hv
    have a1 := fun k' => b_lssT (a := (k : Int)) (b := (fl.length : Int)) (by omega) k'
    have a2 := fun k' => b_add (a := (k : Int)) (b := 1) (by omega) (by omega) k'
    have a3 : decide (k + 1 ≤ fl.length) = true := decide_eq_true hklt
    have a4 : decide (i + 1 ≤ (ord.map iv).length) = true := decide_eq_true (by rw [List.length_map]; exact hilt)
    have a5 : ∀ d f, findK (mens 0 ord Ln) (iv wi) d f = f (iv (2 * (used (Ln1.take i) : Int))) := fun d f => by
      rw [find_mens, now_addr (a := 0) V.ok.nd V.ok.len hi, Nat.zero_add]
      show f (iv (2 * ((usedB ((Ln.map Cl.bk).take i) : Nat) : Int))) = _
      rw [htake]
    have a6 : ∀ k', rdK ov tv (i * 1) k' = k' (iv wi) := fun k' => by rw [Nat.mul_one]; exact hrv k'
    rw [it_succ]
    simp -implicitDefEqProofs only [c6L0, ↓x_seq, ↓x_reg, ↓o_consS, ↓r_pu, ↓p_bin, ↓e_t, ↓t_get f59, ↓t_get f58, ↓a1, ↓o_nil, ↓nrm_n, ↓x_cond, ↓getK_same, ↓n_b, ↓x_skip, ↓x_block, ↓o_consN, ↓p_mv, ne_eq, Nat.reduceEqDiff, not_false_eq_true, ↓getK_other, ↓p_iad, ↓t_get f57, ↓n_sl, ↓evN_of, ↓n_i, ↓int_n, ble_dec, a3, ↓r_rd, ↓m_ld, ↓e_l0, ↓n_p, ↓t_get hor, ↓hrr, ↓e_l2, ↓e_l1, ↓x_dreg, ↓d_puN, ↓t_get f6, ↓p_nilck, ↓n_pf, ↓p_fad, ↓d_rdN, ↓t_get cqa, Nat.zero_add, Nat.reduceLT, ↓m_st0, ↓t_get cqd, ↓t_get cqe, ↓t_get f10, a4, ↓t_get hov, ↓m_lk, ↓e_l7, ↓n_m, ↓t_get V.mp, ↓n_mp, ↓okF, ↓d_puS, ↓d_nil, ↓rev_nil, beq_dec, decide_true, k_nil, ↓r_ef, ↓m_callf, ↓es_cons, ↓es_nil, ↓e1, ↓t_get c1a, ↓t_get c1c, ↓e_l3, ↓e_c, ↓a2, and_t, ↓a6, ↓kd1, ↓a5, ↓e2, i_t]
    rfl
  · refine ⟨?_, ?_, ?_, ?_, ?_, ?_, ?_⟩ <;> simp only [get_same, get_other, ne_eq, Nat.reduceEqDiff, not_false_eq_true, f0, f6, f7, f10, f57, f58, f59]
    rfl
  · rw [k2.2 id (by have := k1.1; omega) (fun hm => by have := V1.hi.2.2.2.2.1 _ (hcr _ hm); omega), k1.2 id (by omega) (fun hm => by have := V.S_hi id hm; omega)]
end
end Go.Proofs.Ytodlgflkhcknaaa.gcc

/- All moved blocks' fields are moved (package gc); Collect. -/
namespace Go.Proofs.Ytodlgflkhcknaaa.gcc
open Go Go.AE
set_option linter.unusedSimpArgs false
set_option maxRecDepth 100000

section
variable {b q po mo pn mn mm : Nat} {size : Int} {Lo : List Cl}

theorem loopB {out row : AV} {outs : List AV} {fl : List Int} (hu : (used Lo : Int) ≤ size) (hsz : size ≤ 20000) {i : Nat} {wi : Int} (hfl : flOf Lo wi = fl) (n : Nat) : ∀ (ws : List Int) (k : Nat) (h : Heap) (fr : Fr) (Ln : List Cl) (ord : List Int) (v : AV),
    MV h b q po mo pn mn mm size Lo Ln ord v → Sc h → ord[i]? = some wi → RowR h row fl → (∀ z ∈ rid row, z < h.next ∧ z ∉ (pn :: mn :: mm :: q :: rid v) ∧ z ∉ fpL Ln) →
    GR h out outs → (∀ z ∈ rid out, b ≤ z ∧ z ∉ rid v ∧ z ∉ fpL Ln) → fl.drop k = ws → k ≤ fl.length → FB fr po q out i row fl.length k → ∀ f,
    ∃ fr' h' Ln' v', (∀ kk, iter (exec (cal (n + 6)) c6L0) (ws.length + (f + 1)) fr h kk = kk (.exit 4) fr' h') ∧ FB fr' po q out i row fl.length fl.length ∧
      MV h' b q po mo pn mn mm size Lo Ln' (pinner (Lo.map Cl.bk) i k ws ⟨ord, Ln.map Cl.bk⟩).ord v' ∧ Ln'.map Cl.bk = (pinner (Lo.map Cl.bk) i k ws ⟨ord, Ln.map Cl.bk⟩).bs ∧ Sc h' ∧
      GR h' out outs ∧ (∀ z ∈ rid out, b ≤ z ∧ z ∉ rid v' ∧ z ∉ fpL Ln') ∧ (∀ id, id < b → h'.tr.get id = h.tr.get id) ∧ h.next ≤ h'.next
  | [], k, h, fr, Ln, ord, v, V, hs, hi, rr, hrb, go, hob, hd, hk, F, f => by
    have hkk : k = fl.length := by
      have := congrArg List.length hd
      simp at this
      omega
    subst hkk
    obtain ⟨f0, f6, f7, f10, f57, f58, f59⟩ := F
    have a1 := fun k' => b_lssF (a := (fl.length : Int)) (b := (fl.length : Int)) (by omega) k'
    apply Exists.intro
    refine ⟨h, Ln, v, ?_, ?_, V, rfl, hs, go, hob, fun _ _ => rfl, Nat.le_refl _⟩
    · intro kk
      show iter (exec (cal (n + 6)) c6L0) (0 + (f + 1)) fr h kk = _
      rw [Nat.zero_add, it_succ]
      simp -implicitDefEqProofs only [c6L0, ↓x_seq, ↓x_reg, ↓o_consS, ↓r_pu, ↓p_bin, ↓e_t, ↓t_get f59, ↓t_get f58, ↓a1, ↓o_nil, ↓nrm_n, ↓x_cond, ↓getK_same, ↓n_b, ↓x_exit, ↓nrm_e]
      rfl
    · refine ⟨?_, ?_, ?_, ?_, ?_, ?_, ?_⟩ <;> simp only [get_same, get_other, ne_eq, Nat.reduceEqDiff, not_false_eq_true, f0, f6, f7, f10, f57, f58, f59]
  | w :: ws, k, h, fr, Ln, ord, v, V, hs, hi, rr, hrb, go, hob, hd, hk, F, f => by
    have hw : fl[k]? = some w := by
      have := congrArg (fun l : List Int => l[0]?) hd
      simpa using this
    have hlt : k < fl.length := (List.getElem?_eq_some_iff.1 hw).1
    obtain ⟨fr1, h1, Ln1, v1, e1, F1, V1, b1, hs1, rr1, hrb1, go1, hob1, lo1, n1⟩ := stepB V hs hu hsz hi hfl rr hrb go hob hw F n (ws.length + (f + 1))
    have hd1 : fl.drop (k + 1) = ws := by
      have := congrArg List.tail hd
      simpa using this
    obtain ⟨fr', h', Ln', v', e2, F2, V2, b2, hs2, go2, hob2, lo2, n2⟩ := loopB hu hsz hfl n ws (k + 1) h1 fr1 Ln1 _ v1 V1 hs1 (by rw [pset_ord]; exact pmove_pre hi) rr1 hrb1 go1 hob1 hd1 hlt F1 f
    rw [b1] at V2 b2
    refine ⟨fr', h', Ln', v', fun kk => ?_, F2, V2, b2, hs2, go2, hob2, fun id hid => by rw [lo2 id hid, lo1 id hid], Nat.le_trans n1 n2⟩
    rw [show (w :: ws).length + (f + 1) = ws.length + (f + 1) + 1 from by simp; omega, e1, e2]

/-- A word's fields in the old heap. -/
def flB (A : List Bk) (w : Int) : List Int := match lookB 0 A w with
  | none => []
  | some c => c.2
theorem fl_bk (L : List Cl) (w : Int) : flB (L.map Cl.bk) w = flOf L w := by
  unfold flB flOf
  rw [look_bk]
  cases look 0 L w <;> rfl
/-- The moved blocks' fields, one block behind another. -/
def pouter (A : List Bk) : Nat → Nat → Sx → Sx
  | 0, _, s => s
  | f + 1, i, s => match s.ord[i]? with
    | none => s
    | some w => pouter A f (i + 1) (pinner A i 0 (flB A w) s)

/-- What the frame of 'Collect' holds while the moved blocks are gone through. -/
def FC (fr : Fr) (po q : Nat) (out : AV) (i : Nat) : Prop :=
  fr.get 0 = some (.p po 0 0) ∧ fr.get 6 = some (.p q 0 0) ∧ fr.get 7 = some out ∧ fr.get 10 = some (iv i)

theorem used_mem {L : List Cl} {d : Cl} (h : d ∈ L) : d.fl.length ≤ used L := by
  induction L with
  | nil => simp at h
  | cons x L ih =>
    simp only [List.mem_cons] at h
    simp only [used]
    rcases h with rfl | h
    · omega
    · have := ih h; omega
theorem fl_le (L : List Cl) (w : Int) : (flOf L w).length ≤ used L := by
  unfold flOf
  cases h : look 0 L w with
  | none => simp
  | some c => exact used_mem (look_mem h)
theorem MV.ordLe {h : Heap} {Ln : List Cl} {ord : List Int} {v : AV} (V : MV h b q po mo pn mn mm size Lo Ln ord v) : ord.length ≤ used Lo := by
  have h1 := V.ok.len
  have h2 := len_usedB (Ln.map Cl.bk)
  have h3 := V.ok.fit
  rw [used_bk, used_bk] at h3
  rw [used_bk] at h2
  have h1 : ord.length = (Ln.map Cl.bk).length := h1
  have h3 : used Ln ≤ used Lo := h3
  omega

theorem endC {h : Heap} {Ln : List Cl} {ord : List Int} {v out : AV} {i : Nat} {fr : Fr} (V : MV h b q po mo pn mn mm size Lo Ln ord v) (hge : ord.length ≤ i) (F : FC fr po q out i) (n f : Nat) :
    ∃ fr', (∀ kk, iter (exec (cal (n + 6)) c6L1) (f + 1) fr h kk = kk (.exit 2) fr' h) ∧ fr'.get 6 = some (.p q 0 0) ∧ fr'.get 7 = some out := by
  obtain ⟨f0, f6, f7, f10⟩ := F
  obtain ⟨cq, cqa, cqb, cqc, cqd, cqe⟩ := V.cell
  have hlen : ∀ k : KV, lenK v k = k (iv ((ord.map iv).length : Nat)) := V.gr.len
  rw [List.length_map] at hlen
  have a1 := fun k' => b_lssF (a := (i : Int)) (b := (ord.length : Int)) (by omega) k'
  apply Exists.intro
  refine ⟨?_, ?_, ?_⟩
  · intro kk
    rw [it_succ]
    simp -implicitDefEqProofs only [c6L1, ↓x_seq, ↓x_reg, ↓o_consN, ↓r_pu, ↓p_mv, ↓e_t, ↓t_get f10, ↓t_get f6, ↓p_nilck, ↓e_l0, ↓n_pf, ↓p_fad, ↓n_p, ↓r_rd, ↓m_ld, ↓t_get cqa, Nat.zero_add, Nat.reduceLT, ↓m_st0, ↓t_get cqe, ↓p_len, ↓hlen, ↓o_consS, ↓p_bin, ↓e_l5, ↓a1, ↓o_nil, ↓nrm_n, ↓x_cond, ↓getK_same, ↓n_b, ↓x_exit, ↓nrm_e]
    rfl
  · simp only [get_same, get_other, ne_eq, Nat.reduceEqDiff, not_false_eq_true, f6]
  · simp only [get_same, get_other, ne_eq, Nat.reduceEqDiff, not_false_eq_true, f7]

theorem loopC {out : AV} {outs : List AV} (hu : (used Lo : Int) ≤ size) (hsz : size ≤ 20000) (n : Nat) : ∀ (d i : Nat) (h : Heap) (fr : Fr) (Ln : List Cl) (ord : List Int) (v : AV),
    MV h b q po mo pn mn mm size Lo Ln ord v → Sc h → GR h out outs → (∀ z ∈ rid out, b ≤ z ∧ z ∉ rid v ∧ z ∉ fpL Ln) → used Lo + 1 = i + d → FC fr po q out i → ∀ f,
    ∃ fr' h' Ln' v', (∀ kk, iter (exec (cal (n + 6)) c6L1) (d + (f + 1)) fr h kk = kk (.exit 2) fr' h') ∧ fr'.get 6 = some (.p q 0 0) ∧ fr'.get 7 = some out ∧
      MV h' b q po mo pn mn mm size Lo Ln' (pouter (Lo.map Cl.bk) d i ⟨ord, Ln.map Cl.bk⟩).ord v' ∧ Ln'.map Cl.bk = (pouter (Lo.map Cl.bk) d i ⟨ord, Ln.map Cl.bk⟩).bs ∧ Sc h' ∧
      GR h' out outs ∧ (∀ id, id < b → h'.tr.get id = h.tr.get id) ∧ h.next ≤ h'.next
  | 0, i, h, fr, Ln, ord, v, V, hs, go, hob, hd, F, f => by
    have := V.ordLe
    obtain ⟨fr', e1, e2, e3⟩ := endC V (by omega) F n f
    exact ⟨fr', h, Ln, v, fun kk => by rw [Nat.zero_add]; exact e1 kk, e2, e3, V, rfl, hs, go, fun _ _ => rfl, Nat.le_refl _⟩
  | d + 1, i, h, fr, Ln, ord, v, V, hs, go, hob, hd, F, f => by
    have F' := F
    obtain ⟨f0, f6, f7, f10⟩ := F
    obtain ⟨cq, cqa, cqb, cqc, cqd, cqe⟩ := V.cell
    have hol := V.ordLe
    have hlen : ∀ k : KV, lenK v k = k (iv ((ord.map iv).length : Nat)) := V.gr.len
    have hml : (ord.map iv).length = ord.length := List.length_map ..
    rw [hml] at hlen
    cases hw : ord[i]? with
    | none =>
      obtain ⟨fr', e1, e2, e3⟩ := endC V (List.getElem?_eq_none_iff.1 hw) F' n (d + (f + 1))
      simp only [pouter, hw]
      exact ⟨fr', h, Ln, v, fun kk => by rw [show d + 1 + (f + 1) = d + (f + 1) + 1 from by omega]; exact e1 kk, e2, e3, V, rfl, hs, go, fun _ _ => rfl, Nat.le_refl _⟩
    | some w =>
      have hlt : i < ord.length := (List.getElem?_eq_some_iff.1 hw).1
      have a1 := fun k' => b_lssT (a := (i : Int)) (b := (ord.length : Int)) (by omega) k'
      obtain ⟨ivv, tv, ov, hv, hov, hrv⟩ := V.gr.read (j := i) (x := iv w) (by rw [List.getElem?_map, hw]; rfl)
      have hfle := fl_le Lo w
      obtain ⟨row, h1, e1, rr1, hs1, k1, i1⟩ := rFields V.old hs w (by omega) (n + 2)
      have go1 : GR h1 out outs := go.keep k1 hs (fun _ _ => by simp)
      have V1 : MV h1 b q po mo pn mn mm size Lo Ln ord v :=
        ⟨⟨cq, k1.get hs cqa (by simp), cqb, cqc, cqd, cqe⟩, V.old.keep k1 hs (by simp) (by simp) (fun _ _ => by simp), V.now.keep k1 hs (by simp) (by simp) (fun _ _ => by simp), k1.get hs V.mp (by simp), V.gr.keep k1 hs (fun _ _ => by simp), V.ok, V.lo, V.hi, V.ne⟩
      have hrow : ∀ z ∈ rid row, z < h1.next ∧ z ∉ (pn :: mn :: mm :: q :: rid v) ∧ z ∉ fpL Ln := fun z hz => by
        have h5 := i1 z hz
        have l1 := V.now.lt hs
        have l2 := hs _ _ cqa
        have l3 := hs _ _ V.mp
        refine ⟨rr1.lt hs1 z hz, fun hm => ?_, fun hm => ?_⟩
        · simp only [List.mem_cons] at hm
          rcases hm with h6 | h6 | h6 | h6 | h6
          · omega
          · omega
          · omega
          · omega
          · have := V.gr.lt hs z h6; omega
        · have := l1.2.2 z hm; omega
      let fr1 : Fr := T.set (iv 0) (T.set (iv (flOf Lo w).length) (T.set row (T.set (.b true) fr 46) 57) 58) 59
      have F1 : FB fr1 po q out i row (flOf Lo w).length 0 := by
        refine ⟨?_, ?_, ?_, ?_, ?_, ?_, ?_⟩ <;> simp only [fr1, get_same, get_other, ne_eq, Nat.reduceEqDiff, not_false_eq_true, f0, f6, f7, f10]
        rfl
      obtain ⟨fr2, h2, Ln2, v2, e2, F2, V2, b2, hs2, go2, hob2, lo2, n2⟩ := loopB hu hsz rfl n (flOf Lo w) 0 h1 fr1 Ln ord v V1 hs1 hw rr1 hrow go1 hob rfl (Nat.zero_le _) F1 (1000000 - (flOf Lo w).length - 1)
      rw [show (flOf Lo w).length + (1000000 - (flOf Lo w).length - 1 + 1) = 1000000 from by omega] at e2
      obtain ⟨g0, g6, g7, g10, g57, g58, g59⟩ := F2
      obtain ⟨fr', h', Ln', v', e3, F3, F3b, V3, b3, hs3, go3, lo3, n3⟩ := loopC hu hsz n d (i + 1) h2 (T.set (iv ((i : Int) + 1)) fr2 10) Ln2 _ v2 V2 hs2 go2 hob2 (by omega) ⟨by simp only [get_other, ne_eq, Nat.reduceEqDiff, not_false_eq_true, g0], by simp only [get_other, ne_eq, Nat.reduceEqDiff, not_false_eq_true, g6], by simp only [get_other, ne_eq, Nat.reduceEqDiff, not_false_eq_true, g7], by simp only [get_same]; rfl⟩ f
      rw [b2] at V3 b3
      simp only [pouter, hw, fl_bk]
      refine ⟨fr', h', Ln', v', fun kk => ?_, F3, F3b, V3, b3, hs3, go3, fun id hid => ?_, by have := k1.1; omega⟩
      · rw [show d + 1 + (f + 1) = d + (f + 1) + 1 from by omega, it_succ]
        subst hv
        have a2 : decide (i + 1 ≤ (ord.map iv).length) = true := decide_eq_true (by rw [hml]; exact hlt)
        have a3 : ∀ k', rdK ov tv (i * 1) k' = k' (iv w) := fun k' => by rw [Nat.mul_one]; exact hrv k'
        have a5 := fun k' => b_add (a := (i : Int)) (b := 1) (by omega) (by omega) k'
        have a6 := fun k' => b_lssT (a := (i : Int)) (b := (((ord.map iv).length : Nat) : Int)) (by rw [hml]; omega) k'
        have e2' : ∀ (kk : KE), iter (exec (cal (n + 6)) c6L0) 1000000 (T.set (iv 0) (T.set (iv (flOf Lo w).length) (T.set row (T.set (.b true) fr 46) 57) 58) 59) h1 kk = kk (Ex.exit 4) fr2 h2 := e2
        simp -implicitDefEqProofs only [c6L1, ↓x_seq, ↓x_reg, ↓o_consN, ↓r_pu, ↓p_mv, ↓e_t, ↓t_get f10, ↓t_get f6, ↓p_nilck, ↓e_l0, ↓n_pf, ↓p_fad, ↓n_p, ↓r_rd, ↓m_ld, ↓t_get cqa, Nat.zero_add, Nat.reduceLT, ↓m_st0, ↓t_get cqe, ↓p_len, ↓hlen, ↓o_consS, ↓p_bin, ↓e_l5, ↓a1, ↓o_nil, ↓nrm_n, ↓x_cond, ↓getK_same, ↓n_b, ↓x_skip, ↓x_block, ne_eq, reduceCtorEq, not_false_eq_true, ↓getK_other, ↓t_get f0, Nat.reduceEqDiff, ↓p_iad, ↓e_l1, ↓n_sl, ↓evN_of, ↓n_i, ↓int_n, ble_dec, a2, ↓t_get hov, ↓r_ef, ↓m_callf, ↓es_cons, ↓e_l7, ↓es_nil, ↓e_c, ↓x_loop, ↓nrm_e, beq_dec, ↓nrm_r, ↓a3, ↓e1, ↓rr1.len, ↓e2', ↓t_get g10, ↓a5, decide_false, decide_true, i_t]
        exact e3 kk
      · rw [lo3 id hid, lo2 id hid, k1.2 id (by have := hs _ _ cqa; have := V.hi.1; omega) (by simp)]
end
end Go.Proofs.Ytodlgflkhcknaaa.gcc

/- Collect, Reach (package gc). -/
namespace Go.Proofs.Ytodlgflkhcknaaa.gcc
open Go Go.AE
set_option linter.unusedSimpArgs false
set_option maxRecDepth 100000

/-- What is collected by roots: the roots' words then, the blocks. -/
def pcollect (A : List Bk) (roots : List Int) : List Int × Sx := ((proots A roots ⟨[], []⟩).1, pouter A (usedB A + 1) 0 (proots A roots ⟨[], []⟩).2)

section
variable {h : Heap} {p m : Nat} {size : Int} {L : List Cl}
theorem gCollect (r : RH h p m size L) (hs : Sc h) (h0 : 0 ≤ size) (hu : (used L : Int) ≤ size) (hsz : size ≤ 20000) {vr : AV} {roots : List Int} (rr : RowR h vr roots) (hN : roots.length < 1000000) (n : Nat) :
    ∃ h' pn mn Ln out, (∀ k : KH, cal (n + 7) 6 [.p p 0 0, vr] h k = k (.tup [.p pn 0 0, out]) h') ∧ RH h' pn mn size Ln ∧ Ln.map Cl.bk = (pcollect (L.map Cl.bk) roots).2.bs ∧ GR h' out ((pcollect (L.map Cl.bk) roots).1.map iv) ∧ Sc h' ∧ Kp h h' [] ∧ used Ln ≤ used L := by
  obtain ⟨h1, e1, now1, hs1, k1, n1⟩ := rNew hs h0 hsz (n + 5)
  have lt := r.lt hs
  have old1 := r.keep k1 hs (by simp) (by simp) (fun _ _ => by simp)
  let h2 := addO h1 (.mp [])
  have k2 : Kp h1 h2 [] := Kp.add h1 _ _
  have hs2 : Sc h2 := hs1.add _
  let cq : T AV := T.set .nils (T.set (.m h1.next) (T.set (.p (h.next + 1) 0 0) (T.set (.p p 0 0) .e 0) 1) 2) 3
  let h3 := addO h2 (.st cq 4)
  have k3 : Kp h2 h3 [] := Kp.add h2 _ _
  have hs3 : Sc h3 := hs2.add _
  have k13 : Kp h1 h3 [] := k2.trans k3 (fun i hi _ => hi)
  have k03 : Kp h h3 [] := k1.trans k13 (fun i hi _ => hi)
  have n2 : h2.next = h1.next + 1 := rfl
  have V : MV h3 h.next h2.next p m (h.next + 1) h.next h1.next size L [] [] .nils := by
    refine ⟨⟨cq, by show (addO h2 _).tr.get h2.next = _; rw [get_add]; exact if_pos rfl, ?_, ?_, ?_, ?_⟩, old1.keep k13 hs1 (by simp) (by simp) (fun _ _ => by simp), now1.keep k13 hs1 (by simp) (by simp) (fun _ _ => by simp), ?_, .inl ⟨rfl, rfl⟩, ⟨rfl, List.nodup_nil, fun j w c hw => by simp at hw⟩,
      ⟨lt.1, lt.2.1, lt.2.2⟩, ⟨by omega, by omega, by omega, by omega, fun i hi => by simp [fpL] at hi, fun i hi => by simp [rid] at hi⟩, ⟨by omega, fun i hi => by simp [rid] at hi⟩⟩
    · simp only [cq, get_same, get_other, ne_eq, Nat.reduceEqDiff, not_false_eq_true]
    · simp only [cq, get_same, get_other, ne_eq, Nat.reduceEqDiff, not_false_eq_true]
    · simp only [cq, get_same, get_other, ne_eq, Nat.reduceEqDiff, not_false_eq_true]
    · simp only [cq, get_same]
    · refine k3.get hs2 (?_ : h2.tr.get h1.next = _) (by simp)
      show (addO h1 _).tr.get h1.next = _
      rw [get_add]; exact if_pos rfl
  have rr3 : RowR h3 vr roots := rr.keep k03 hs (fun _ _ => by simp)
  have FA0 : FA (T.set (iv 0) (T.set (iv roots.length) (T.set vr (T.set .nils (T.set (.p h2.next 0 0) (T.set (.b false) (T.set .nils (T.set .nilp (T.set vr (T.set (.p p 0 0) .e 0) 1) 4) 5) 16) 6) 7) 27) 28) 29) p h2.next .nils vr roots.length 0 := by
    refine ⟨?_, ?_, ?_, ?_, ?_, ?_⟩ <;> simp only [get_same, get_other, ne_eq, Nat.reduceEqDiff, not_false_eq_true]
    rfl
  obtain ⟨fr4, h4, Ln4, v4, out, e4, F4, V4, b4, hs4, go4, hob4, lo4, n4⟩ := loopA hu hsz (rr.lt hs) hN n roots 0 h3 _ [] [] .nils .nils [] V hs3 rr3 (.inl ⟨rfl, rfl⟩) (fun i hi => by simp [rid] at hi) rfl (Nat.zero_le _) rfl FA0 (1000000 - roots.length - 1)
  rw [show roots.length + (1000000 - roots.length - 1 + 1) = 1000000 from by omega] at e4
  obtain ⟨f0, f6, f7, f27, f28, f29⟩ := F4
  have FC0 : FC (T.set (iv 0) fr4 10) p h2.next out 0 := by
    refine ⟨?_, ?_, ?_, ?_⟩ <;> simp only [get_same, get_other, ne_eq, Nat.reduceEqDiff, not_false_eq_true, f0, f6, f7]
    rfl
  obtain ⟨fr5, h5, Ln5, v5, e5, F5, F5b, V5, b5, hs5, go5, lo5, n5⟩ := loopC hu hsz n (used L + 1) 0 h4 _ Ln4 _ v4 V4 hs4 go4 hob4 (by omega) FC0 (1000000 - (used L + 1) - 1)
  rw [show used L + 1 + (1000000 - (used L + 1) - 1 + 1) = 1000000 from by omega] at e5
  rw [b4] at b5 V5
  obtain ⟨c5, c5a, c5b, c5c, c5d, c5e⟩ := V5.cell
  refine ⟨h5, h.next + 1, h.next, Ln5, out, fun k => ?_, V5.now, ?_, ?_, hs5, ⟨by have := k03.1; omega, fun id hid _ => by rw [lo5 id hid, lo4 id hid, k03.2 id hid (by simp)]⟩, ?_⟩
  · rw [run6]; simp only [ofL_cons, ofL_nil, Nat.zero_add, Nat.reduceAdd]
    have a1 := fun k => rSize r (n + 5) k
    have e4' : ∀ k : KE, iter (exec (cal (n + 6)) c6L2) 1000000 (T.set (iv 0) (T.set (iv roots.length) (T.set vr (T.set .nils (T.set (.p (addO h1 (.mp [])).next 0 0) (T.set (.b false) (T.set .nils (T.set .nilp (T.set vr (T.set (.p p 0 0) .e 0) 1) 4) 5) 16) 6) 7) 27) 28) 29)
        (addO (addO h1 (.mp [])) (.st (T.set .nils (T.set (.m h1.next) (T.set (.p (h.next + 1) 0 0) (T.set (.p p 0 0) .e 0) 1) 2) 3) 4)) k = k (.exit 0) fr4 h4 := e4
    simp -implicitDefEqProofs only [c6, ↓x_seq, ↓x_reg, ↓o_consS, ↓r_pu, ↓p_mv, ↓e_c, ↓o_nil, ↓nrm_n, ↓o_consN, ↓e_t, ne_eq, reduceCtorEq, not_false_eq_true, ↓getK_other, ↓getK_same, ↓p_isnil, ↓e_l0, ↓nil_p, ↓neg_f, ↓x_cond, ↓n_b, ↓x_skip, ↓r_ef, ↓m_callf, ↓es_cons, ↓es_nil, ↓a1, ↓e1, ↓r_al, ↓m_mkm, ↓p_bld, ↓fill_cons, ↓e_l4, ↓c_p, ↓fv40, ↓e_l1, ↓fv41, ↓c_m, ↓fv42, ↓fill_nil, ↓m_box, Nat.reduceEqDiff, ↓p_len, ↓rr.len, ↓x_block, ↓x_loop, ↓c_agg, ofL_cons, ↓ofL_nil, Nat.zero_add, Nat.reduceAdd, len_4, ↓p_nilck, ↓p_fad, ↓n_p, ↓r_rd, ↓m_ld, ↓x_ret, ↓ret_r, ↓res_t2, ↓one2, ↓nrm_e, beq_dec, ↓nrm_r, ↓e4', ↓e5, ↓t_get F5, ↓n_pf, ↓t_get c5a, Nat.reduceLT, ↓m_st0, ↓t_get c5c, ↓t_get F5b, decide_true]
  · rw [b5]
    unfold pcollect
    rw [used_bk]
    rfl
  · have : ([] : List Int) ++ (proots (L.map Cl.bk) roots ⟨[], List.map Cl.bk []⟩).1 = (pcollect (L.map Cl.bk) roots).1 := rfl
    rw [this] at go5
    exact go5
  · have := V5.ok.fit
    rw [used_bk, used_bk] at this
    exact this
theorem gReach (r : RH h p m size L) (hs : Sc h) (h0 : 0 ≤ size) (hu : (used L : Int) ≤ size) (hsz : size ≤ 20000) {vr : AV} {roots : List Int} (rr : RowR h vr roots) (hN : roots.length < 1000000) (n : Nat) :
    ∃ h', (∀ k : KH, cal (n + 8) 12 [.p p 0 0, vr] h k = k (iv (usedB (pcollect (L.map Cl.bk) roots).2.bs)) h') ∧ Sc h' ∧ Kp h h' [] := by
  obtain ⟨h', pn, mn, Ln, out, e1, r1, b1, _, hs1, k1, _⟩ := gCollect r hs h0 hu hsz rr hN n
  refine ⟨h', fun k => ?_, hs1, k1⟩
  have a1 := fun k => rUsed r1 (n + 6) k
  rw [← used_bk, b1] at a1
  rw [run12]; simp only [ofL_cons, ofL_nil, Nat.zero_add, Nat.reduceAdd]
  simp -implicitDefEqProofs only [c12, ↓x_seq, ↓x_reg, ↓o_consS, ↓r_pu, ↓p_mv, ↓e_c, ↓o_nil, ↓nrm_n, ↓o_consN, ↓e_t, ne_eq, reduceCtorEq, not_false_eq_true, ↓getK_other, ↓getK_same, Nat.reduceEqDiff, ↓r_ef, ↓m_callf, ↓es_cons, ↓e_l1, ↓e_l0, ↓es_nil, ↓e1, ↓p_ext, ↓n_tup, ↓nth0, ↓nth1, ↓a1, ↓x_ret, ↓ret_r, ↓res_t1, ↓one1]
end
end Go.Proofs.Ytodlgflkhcknaaa.gcc

/- The collector, purely: behind it each block that was moved is the old one, its fields moved. -/
namespace Go.Proofs.Ytodlgflkhcknaaa.gcc
open Go Go.AE

/-- A word, and what it is now. -/
def Mv (A : List Bk) (s : Sx) (w y : Int) : Prop := (lookB 0 A w = none ∧ y = w) ∨ (lookB 0 A w ≠ none ∧ ∃ t : Nat, s.ord[t]? = some w ∧ y = 2 * ((usedB (s.bs.take t) : Nat) : Int))
/-- More has been moved. -/
structure Ex (s s' : Sx) : Prop where
  pre : ∀ (t : Nat) w, s.ord[t]? = some w → s'.ord[t]? = some w
  ad : ∀ t, t ≤ s.bs.length → usedB (s'.bs.take t) = usedB (s.bs.take t)
  le : s.bs.length ≤ s'.bs.length
theorem Ex.refl (s : Sx) : Ex s s := ⟨fun _ _ h => h, fun _ _ => rfl, Nat.le_refl _⟩
theorem Ex.trans {a b c : Sx} (h : Ex a b) (g : Ex b c) : Ex a c := ⟨fun t w hw => g.pre t w (h.pre t w hw), fun t ht => (g.ad t (Nat.le_trans ht h.le)).trans (h.ad t ht), Nat.le_trans h.le g.le⟩
theorem Mv.ext {A : List Bk} {s s' : Sx} {w y : Int} (h : Mv A s w y) (e : Ex s s') (hl : s.ord.length = s.bs.length) : Mv A s' w y := by
  rcases h with h | ⟨h1, t, h2, h3⟩
  · exact .inl h
  · have := (List.getElem?_eq_some_iff.1 h2).1
    exact .inr ⟨h1, t, e.pre t w h2, by rw [e.ad t (by omega)]; exact h3⟩

theorem now_mem {w x : Int} : ∀ {ord : List Int} {bs : List Bk} {a : Nat}, nowAt a ord bs w = some x → w ∈ ord
  | [], bs, a, h => by simp [nowAt] at h
  | v :: o, [], a, h => by simp [nowAt] at h
  | v :: o, b :: bs, a, h => by
    simp only [nowAt] at h
    split at h
    · rename_i e; simp [e]
    · exact List.mem_cons_of_mem _ (now_mem h)
theorem usedB_set {bs : List Bk} {c c' : Bk} (h2 : c'.2.length = c.2.length) : ∀ (bs : List Bk) (i t : Nat), bs[i]? = some c → usedB ((bs.set i c').take t) = usedB (bs.take t)
  | [], i, t, h => by simp at h
  | b :: bs, 0, 0, h => rfl
  | b :: bs, 0, t + 1, h => by simp at h; subst h; simp [usedB, h2]
  | b :: bs, i + 1, 0, h => rfl
  | b :: bs, i + 1, t + 1, h => by
    simp only [List.set_cons_succ, List.take_succ_cons, usedB]
    rw [usedB_set (bs := bs) h2 bs i t (by simpa using h)]

theorem move_spec {A : List Bk} {s : Sx} (o : OKx A s) (w : Int) : Mv A (pmove A s w).2 w (pmove A s w).1 ∧ Ex s (pmove A s w).2 ∧
    ((pmove A s w).2 = s ∨ ∃ b, lookB 0 A w = some b ∧ (pmove A s w).2 = ⟨s.ord ++ [w], s.bs ++ [b]⟩) := by
  unfold pmove
  cases h1 : lookB 0 A w with
  | none => exact ⟨.inl ⟨h1, rfl⟩, Ex.refl s, .inl rfl⟩
  | some b =>
    cases h2 : nowAt 0 s.ord s.bs w with
    | some x =>
      refine ⟨.inr ⟨by rw [h1]; simp, ?_⟩, Ex.refl s, .inl rfl⟩
      obtain ⟨t, ht⟩ := List.getElem?_of_mem (now_mem h2)
      have := now_addr (a := 0) o.nd o.len ht
      rw [h2, Nat.zero_add] at this
      exact ⟨t, ht, by simpa using this⟩
    | none =>
      refine ⟨.inr ⟨by rw [h1]; simp, s.ord.length, ?_, ?_⟩, ⟨fun t v hv => ?_, fun t ht => ?_, by simp⟩, .inr ⟨b, rfl, rfl⟩⟩
      · show (s.ord ++ [w])[s.ord.length]? = some w
        simp
      · show 2 * (usedB s.bs : Int) = 2 * ((usedB ((s.bs ++ [b]).take s.ord.length) : Nat) : Int)
        rw [o.len, List.take_append_of_le_length (Nat.le_refl _), List.take_length]
      · show (s.ord ++ [w])[t]? = some v
        rw [List.getElem?_append_left (List.getElem?_eq_some_iff.1 hv).1]; exact hv
      · show usedB ((s.bs ++ [b]).take t) = _
        rw [List.take_append_of_le_length ht]

/-- So far: of block i the first k fields, of those before it all. -/
structure Iv (A : List Bk) (P : Int → Prop) (s : Sx) (i k : Nat) : Prop where
  ok : OKx A s
  mem : ∀ w ∈ s.ord, P w
  fd : ∀ (t : Nat) w b b0, s.ord[t]? = some w → s.bs[t]? = some b → lookB 0 A w = some b0 → b.1 = b0.1 ∧ b.2.length = b0.2.length ∧
    ∀ (x : Nat) y, b0.2[x]? = some y → ((t < i ∨ (t = i ∧ x < k)) → ∃ z, b.2[x]? = some z ∧ Mv A s y z) ∧ (¬ (t < i ∨ (t = i ∧ x < k)) → b.2[x]? = some y)

section
variable {A : List Bk} {P : Int → Prop}
theorem Iv.move {s : Sx} {i k : Nat} (I : Iv A P s i k) (w : Int) (hw : lookB 0 A w ≠ none → P w) (hi : i < s.ord.length ∨ k = 0) (hi2 : i ≤ s.ord.length) : Iv A P (pmove A s w).2 i k := by
  obtain ⟨h1, h2, h3⟩ := move_spec I.ok w
  rcases h3 with h3 | ⟨b, h3, h4⟩
  · rw [h3]; exact I
  · have ok' := I.ok.move w
    rw [h4] at h2 ok' ⊢
    refine ⟨ok', fun v hv => ?_, fun t v c c0 hv hc hc0 => ?_⟩
    · simp at hv
      rcases hv with hv | rfl
      · exact I.mem v hv
      · exact hw (by rw [h3]; simp)
    · by_cases ht : t < s.ord.length
      · have hv' : (s.ord ++ [w])[t]? = some v := hv
        have hc' : (s.bs ++ [b])[t]? = some c := hc
        rw [List.getElem?_append_left ht] at hv'
        rw [List.getElem?_append_left (by have := I.ok.len; omega)] at hc'
        obtain ⟨g1, g2, g3⟩ := I.fd t v c c0 hv' hc' hc0
        refine ⟨g1, g2, fun x y hy => ⟨fun hd => ?_, (g3 x y hy).2⟩⟩
        obtain ⟨z, z1, z2⟩ := (g3 x y hy).1 hd
        exact ⟨z, z1, z2.ext h2 I.ok.len⟩
      · have hv' : (s.ord ++ [w])[t]? = some v := hv
        have hc' : (s.bs ++ [b])[t]? = some c := hc
        have hl := (List.getElem?_eq_some_iff.1 hv').1
        simp at hl
        have ht' : t = s.ord.length := by omega
        subst ht'
        rw [List.getElem?_append_right (Nat.le_refl _), Nat.sub_self] at hv'
        rw [List.getElem?_append_right (by rw [I.ok.len]; exact Nat.le_refl _), I.ok.len, Nat.sub_self] at hc'
        simp at hv' hc'
        subst hv'
        subst hc'
        rw [h3] at hc0
        cases hc0
        exact ⟨rfl, rfl, fun x y hy => ⟨fun hd => by omega, fun _ => hy⟩⟩

/-- One field. -/
theorem Iv.step {s : Sx} {i k : Nat} (I : Iv A P s i k) (hP : ∀ w b y, P w → lookB 0 A w = some b → y ∈ b.2 → lookB 0 A y ≠ none → P y) {w : Int} (hw : s.ord[i]? = some w) {y : Int} (hy : (flB A w)[k]? = some y) :
    Iv A P (pset (pmove A s y).2 i k (pmove A s y).1) i (k + 1) ∧ Ex s (pset (pmove A s y).2 i k (pmove A s y).1) ∧ (pset (pmove A s y).2 i k (pmove A s y).1).ord[i]? = some w := by
  have hil := (List.getElem?_eq_some_iff.1 hw).1
  obtain ⟨b0, hb0, hfl⟩ : ∃ b0, lookB 0 A w = some b0 ∧ flB A w = b0.2 := by
    unfold flB at hy ⊢
    cases h : lookB 0 A w with
    | none => rw [h] at hy; simp at hy
    | some b0 => exact ⟨b0, rfl, rfl⟩
  rw [hfl] at hy
  have I1 := I.move y (fun h => hP w b0 y (I.mem w (List.mem_of_getElem? hw)) hb0 (List.mem_of_getElem? hy) h) (.inl hil) (by omega)
  obtain ⟨h1, h2, _⟩ := move_spec I.ok y
  obtain ⟨s1, hs1⟩ : ∃ s1, s1 = (pmove A s y).2 := ⟨_, rfl⟩
  obtain ⟨z, hz⟩ : ∃ z, z = (pmove A s y).1 := ⟨_, rfl⟩
  rw [← hs1] at I1 h1 h2 ⊢
  rw [← hz] at h1 ⊢
  have hw1 := h2.pre i w hw
  have hi1 := (List.getElem?_eq_some_iff.1 hw1).1
  have hc : s1.bs[i]? = some (s1.bs[i]'(by have := I1.ok.len; omega)) := List.getElem?_eq_getElem _
  obtain ⟨c, hceq⟩ : ∃ c, c = s1.bs[i]'(by have := I1.ok.len; omega) := ⟨_, rfl⟩
  rw [← hceq] at hc
  have hps : pset s1 i k z = ⟨s1.ord, s1.bs.set i (c.1, c.2.set k z)⟩ := by unfold pset; rw [hc]
  have ok2 := I1.ok.set i k z
  rw [hps] at ok2 ⊢
  have e12 : Ex s1 ⟨s1.ord, s1.bs.set i (c.1, c.2.set k z)⟩ := ⟨fun _ _ h => h, fun t _ => usedB_set (bs := s1.bs) (by simp) s1.bs i t hc, by simp⟩
  refine ⟨⟨ok2, I1.mem, fun t v d d0 hv hd hd0 => ?_⟩, h2.trans e12, hw1⟩
  have hv : s1.ord[t]? = some v := hv
  rcases set_cases hd with ⟨rfl, rfl⟩ | ⟨hne, hd⟩
  · rw [hw1] at hv
    cases hv
    rw [hb0] at hd0
    cases hd0
    obtain ⟨g1, g2, g3⟩ := I1.fd t w c b0 hw1 hc hb0
    refine ⟨g1, by simp; exact g2, fun x u hu => ⟨fun hd => ?_, fun hn => ?_⟩⟩
    · by_cases e : x = k
      · subst e
        rw [hy] at hu
        cases hu
        exact ⟨z, by rw [List.getElem?_set_self (by rw [g2]; exact (List.getElem?_eq_some_iff.1 hy).1)], h1.ext e12 I1.ok.len⟩
      · obtain ⟨q, q1, q2⟩ := (g3 x u hu).1 (by omega)
        exact ⟨q, by rw [List.getElem?_set_ne (Ne.symm e)]; exact q1, q2.ext e12 I1.ok.len⟩
    · rw [List.getElem?_set_ne (by omega)]
      exact (g3 x u hu).2 (by omega)
  · obtain ⟨g1, g2, g3⟩ := I1.fd t v d d0 hv hd hd0
    refine ⟨g1, g2, fun x u hu => ⟨fun hd => ?_, fun hn => (g3 x u hu).2 (by omega)⟩⟩
    obtain ⟨q, q1, q2⟩ := (g3 x u hu).1 (by omega)
    exact ⟨q, q1, q2.ext e12 I1.ok.len⟩

theorem Iv.inner (hP : ∀ w b y, P w → lookB 0 A w = some b → y ∈ b.2 → lookB 0 A y ≠ none → P y) {i : Nat} {w : Int} : ∀ (ws : List Int) (k : Nat) (s : Sx), Iv A P s i k → s.ord[i]? = some w → ws = (flB A w).drop k →
    Iv A P (pinner A i k ws s) i (k + ws.length) ∧ Ex s (pinner A i k ws s) ∧ (pinner A i k ws s).ord[i]? = some w
  | [], k, s, I, hw, h => ⟨I, Ex.refl s, hw⟩
  | y :: ws, k, s, I, hw, h => by
    have hk : k < (flB A w).length := by
      rcases Nat.lt_or_ge k (flB A w).length with h1 | h1
      · exact h1
      · rw [List.drop_of_length_le h1] at h; cases h
    rw [List.drop_eq_getElem_cons hk] at h
    cases h
    obtain ⟨I1, e1, w1⟩ := I.step hP hw (List.getElem?_eq_getElem hk)
    obtain ⟨I2, e2, w2⟩ := Iv.inner hP ((flB A w).drop (k + 1)) (k + 1) _ I1 w1 rfl
    refine ⟨?_, e1.trans e2, w2⟩
    rw [show k + ((flB A w)[k] :: (flB A w).drop (k + 1)).length = k + 1 + ((flB A w).drop (k + 1)).length from by simp; omega]
    exact I2
theorem Iv.next {s : Sx} {i : Nat} {w : Int} (I : Iv A P s i (flB A w).length) (hw : s.ord[i]? = some w) : Iv A P s (i + 1) 0 :=
  ⟨I.ok, I.mem, fun t v b b0 hv hb hb0 => by
    obtain ⟨g1, g2, g3⟩ := I.fd t v b b0 hv hb hb0
    refine ⟨g1, g2, fun x y hy => ⟨fun hd => (g3 x y hy).1 ?_, fun hn => (g3 x y hy).2 (by omega)⟩⟩
    by_cases e : t = i
    · subst e
      rw [hw] at hv
      cases hv
      have : flB A w = b0.2 := by unfold flB; rw [hb0]
      exact .inr ⟨rfl, by rw [this]; exact (List.getElem?_eq_some_iff.1 hy).1⟩
    · omega⟩
theorem Iv.outer (hP : ∀ w b y, P w → lookB 0 A w = some b → y ∈ b.2 → lookB 0 A y ≠ none → P y) : ∀ (f i : Nat) (s : Sx), Iv A P s i 0 → i ≤ s.ord.length → usedB A < f + i → Iv A P (pouter A f i s) (pouter A f i s).ord.length 0 ∧ Ex s (pouter A f i s)
  | 0, i, s, I, hi, hf => by
    have h1 := I.ok.fit
    have h2 := len_usedB s.bs
    have h3 := I.ok.len
    omega
  | f + 1, i, s, I, hi, hf => by
    unfold pouter
    cases hw : s.ord[i]? with
    | none =>
      have : s.ord.length ≤ i := List.getElem?_eq_none_iff.1 hw
      rw [show i = s.ord.length from by omega] at I
      exact ⟨I, Ex.refl s⟩
    | some w =>
      obtain ⟨I1, e1, w1⟩ := Iv.inner hP (flB A w) 0 s I hw (by rw [List.drop_zero])
      rw [Nat.zero_add] at I1
      obtain ⟨I2, e2⟩ := Iv.outer hP f (i + 1) _ (I1.next w1) (List.getElem?_eq_some_iff.1 w1).1 (by omega)
      exact ⟨I2, e1.trans e2⟩

/-- What is collected by one root. -/
theorem collect_one (hP : ∀ w b y, P w → lookB 0 A w = some b → y ∈ b.2 → lookB 0 A y ≠ none → P y) (w : Int) (hw : lookB 0 A w ≠ none → P w) :
    ∃ y, (pcollect A [w]).1 = [y] ∧ Mv A (pcollect A [w]).2 w y ∧ Iv A P (pcollect A [w]).2 (pcollect A [w]).2.ord.length 0 := by
  have I0 : Iv A P ⟨[], []⟩ 0 0 := ⟨⟨rfl, List.nodup_nil, fun j w b h => by simp at h⟩, fun w h => by simp at h, fun t w b b0 h => by simp at h⟩
  have I1 := I0.move w hw (.inr rfl) (Nat.le_refl _)
  obtain ⟨h1, h2, _⟩ := move_spec I0.ok w
  obtain ⟨I2, e2⟩ := Iv.outer hP (usedB A + 1) 0 _ I1 (Nat.zero_le _) (by omega)
  exact ⟨(pmove A ⟨[], []⟩ w).1, rfl, h1.ext e2 I1.ok.len, I2⟩
end
end Go.Proofs.Ytodlgflkhcknaaa.gcc
