/- Memory: stores, maps, copies, appends. -/
import Derived.Test.YtodlgflkhcknaaaAFMem4
namespace Go.AE
set_option linter.unusedVariables false
variable {oq : Unit} [Opq oq]
open Go

/- Stores of many cells into a block. -/
theorem storeRaw {P : Program} {B o : Nat} : ∀ (us : List Value) (i : Nat) (w : World), (∀ x ∈ us, x.oneCell' = true) → (∀ j, j < us.length → (∃ y, w.cell? ⟨B, o + (i + j), none⟩ = some y) ∧ w.frozen? ⟨B, o + (i + j), none⟩ = false) →
    ∃ w', (storeCells ⟨B, o, none⟩ us i).run P w = .ok () w' ∧ w'.os = w.os ∧ w'.tape = w.tape ∧ w'.output = w.output ∧ w'.heap.size = w.heap.size ∧ (∀ b, b ≠ B → w'.heap[b]? = w.heap[b]?) ∧ (∀ l, Blk w l → Blk w' l) ∧
      ∀ x, w'.cell? ⟨B, x, none⟩ = if o + i ≤ x ∧ x < o + i + us.length then us[x - (o + i)]? else w.cell? ⟨B, x, none⟩
  | [], i, w, _, _ => ⟨w, rfl, rfl, rfl, rfl, rfl, fun _ _ => rfl, fun _ h => h, fun x => by rw [if_neg (by simp)]⟩
  | u :: us, i, w, h1, h2 => by
    obtain ⟨⟨y, hy⟩, hf⟩ := h2 0 (by simp)
    have hadd : (⟨B, o, none⟩ : Addr).add i = ⟨B, o + i, none⟩ := by
      unfold Addr.add; split
      · rename_i e; subst e; rfl
      · rfl
    have hrun : (store ((⟨B, o, none⟩ : Addr).add i) u).run P w = .ok () (w.setCell ⟨B, o + i, none⟩ u) := by
      rw [hadd, run_store P w _ _ _ (h1 u (List.mem_cons_self ..)), show w.cell? ⟨B, o + i, none⟩ = some y from hy]
      simp [show w.frozen? ⟨B, o + i, none⟩ = false from hf]
    obtain ⟨w', r1, r2, r3, r4, r5, r6, r7, r8⟩ := storeRaw us (i + 1) (w.setCell ⟨B, o + i, none⟩ u) (fun x hx => h1 x (List.mem_cons_of_mem _ hx)) (fun j hj => by
      obtain ⟨⟨z, hz⟩, hfz⟩ := h2 (j + 1) (by simpa using hj)
      have e1 : o + (i + 1 + j) = o + (i + (j + 1)) := by omega
      rw [e1]
      refine ⟨⟨_, cell_set hz ⟨y, hy⟩⟩, ?_⟩
      simp only [World.frozen?, World.setCell, Array.getElem?_modify, if_true] at hfz ⊢
      cases hb : w.heap[B]? with
      | none => simp
      | some ob =>
        rw [hb] at hfz
        cases ob <;> simp_all)
    refine ⟨w', (storeCells_run hrun).trans r1, r2, r3, r4, r5.trans (by simp), fun b hb => (r6 b hb).trans (setCell_block hb), fun l hl => r7 l (Blk_set hl), fun x => ?_⟩
    rw [r8 x]
    simp only [List.length_cons]
    by_cases hc : o + (i + 1) ≤ x ∧ x < o + (i + 1) + us.length
    · rw [if_pos hc, if_pos (by omega)]
      obtain ⟨m, rfl⟩ : ∃ m, x = o + (i + 1) + m := ⟨x - (o + (i + 1)), by omega⟩
      rw [show o + (i + 1) + m - (o + (i + 1)) = m from by omega, show o + (i + 1) + m - (o + i) = m + 1 from by omega, List.getElem?_cons_succ]
    · rw [if_neg hc]
      by_cases e : x = o + i
      · subst e
        rw [if_pos (by omega), World.cell?_setCell_same w _ u (show w.cell? ⟨B, o + i, none⟩ = some y from hy)]; simp
      · rw [if_neg (by omega), World.cell?_setCell_other w _ _ u (fun he => e (by injection he with _ h _; omega))]

section
variable {P : Program} {X : CX} {φ : Emb} {e : Env} {a : Act} {h : Heap} {w : World} {M : Nat}

theorem EOut.skip {k : KH} {s : Sem Unit} {h' : Heap} {w' : World} (hk : k .u h' = true) (hr : s.run P w = .ok () w') (hW : WR φ h' w') (hS : Stp φ h.next w φ h'.next w') :
    EOut P φ h w k (do s; pure .skip) := ⟨_, _, φ, undef, w', hk, VR_u.2 rfl, .inr ⟨rfl, by rw [Sem.run_bind, hr]; rfl⟩, hW, hS⟩

theorem s_st (hY : X.ty = tysOf P) (hW : WR φ h w) {t : TypeId} {x y : Operand} {n : Nat} {k : KH} {call : Nat → List AV → Heap → KH → Bool} (hE : ER X φ e a) (hs : sizeT X.ty t = some n) (hk : eSt n (cOpd X x) (cOpd X y) call e h k = true) :
    EOut P φ h w k (do Instr.storeAt t (a.eval x) (a.eval y); pure .skip) := by
  rw [hY] at hs
  obtain ⟨v, hv, h1⟩ := ev_sound hE hk
  obtain ⟨id, tag, off, rfl, h2⟩ := onP_true h1
  obtain ⟨l, hl, hle, hx⟩ := VR_p.1 hv
  obtain ⟨v2, hv2, h3⟩ := ev_sound hE h2
  obtain ⟨hn, h4⟩ := ite'_and h3
  have hn' := beq_eq hn
  rw [lenL_eq] at hn'
  obtain ⟨o, ho, h5⟩ := getK_true h4
  have hcv := cells_VR hv2
  have hcl := VRL_len hcv
  simp only [Array.length_toList] at hcl
  obtain ⟨o', w', hk', hrun, hW', hS'⟩ := wrsK_true (P := P) hl hle _ _ 0 h w o _ hW ho hcv (show wrsK (cellsOf v2) o tag (off + 0) _ = true from h5)
  refine EOut.skip hk' ?_ hW' hS'
  rw [hx]
  simp only [Instr.storeAt, Instr.sureAddr, Sem.run_bind, Sem.run_pure, Result.andThen_ok, storeVar, run_size hs]
  rw [if_neg (by omega)]
  exact hrun

theorem sameBits_int {q : IntKind} {n : Int} (k : Nat) : Instr.sameBits k (.int q n) (.int q n) = true := by
  cases k <;> simp [Instr.sameBits]
theorem sameBits_string {s : ByteArray} (k : Nat) : Instr.sameBits k (.string s) (.string s) = true := by
  cases k <;> simp [Instr.sameBits, beq_toListBytes]

theorem put_now {c : Nat} {key val : AV} {u uv : Value} {d : TypeDesc} (hc : kindIs c key = true) (hd : (c = 1 ∧ ∃ q, d = .int q) ∨ (c = 2 ∧ d = .string)) (hk : VR φ key u) (hv : VR φ val uv) :
    ∀ {es : List (AV × AV)} {l : List MapEntry} {k : List (AV × AV) → Bool} (i : Nat), MR φ es l → putM es key val k = true →
      (Instr.findNow d u l i = some none ∧ ∃ es', k es' = true ∧ ∀ b, MR φ es' (l ++ [⟨u, uv, b⟩])) ∨
      ∃ j x en, Instr.findNow d u l i = some (some (i + j, x)) ∧ l[j]? = some en ∧ en.key = u ∧ ∃ es', k es' = true ∧ MR φ es' (l.modify j fun e => { e with key := u, val := uv })
  | [], l, k, i, h, hf => by
    cases (h : l = [])
    exact .inl ⟨rfl, [(key, val)], hf, fun b => ⟨_, [], rfl, hk, hv, rfl⟩⟩
  | x :: es, l, k, i, ⟨e, l', h1, h2, h3, h4⟩, hf => by
    subst h1
    obtain ⟨r, hr, hfr, hsame⟩ := key_now hc hd h2 hk (show eqS x.1 key (fun r => @Bool.rec (fun _ => Bool) (putM es key val fun l => k (x :: l)) (k ((x.1, val) :: es)) r) = true from hf)
    cases r with
    | true =>
      obtain ⟨e1, e2⟩ := hsame rfl
      refine .inr ⟨0, e.val, e, by simp [Instr.findNow, hr], rfl, e2.symm, (x.1, val) :: es, hfr, ?_⟩
      exact ⟨{ e with key := u, val := uv }, l', rfl, by rw [e2]; exact h2, hv, h4⟩
    | false =>
      rcases put_now hc hd hk hv (i + 1) h4 (show putM es key val (fun l => k (x :: l)) = true from hfr) with ⟨h5, es', h6, h7⟩ | ⟨j, y, en, h5, h6, h7, es', h8, h9⟩
      · exact .inl ⟨by simp [Instr.findNow, hr, h5], x :: es', h6, fun b => ⟨e, _, rfl, h2, h3, h7 b⟩⟩
      · refine .inr ⟨j + 1, y, en, by simp [Instr.findNow, hr, h5]; omega, by simpa using h6, h7, x :: es', h8, ?_⟩
        exact ⟨e, _, by rw [List.modify_succ_cons], h2, h3, h9⟩

theorem s_mup (hY : X.ty = tysOf P) (hW : WR φ h w) {t kt el : TypeId} {m x y : Operand} {c : Nat} {k : KH} {call : Nat → List AV → Heap → KH → Bool} (hE : ER X φ e a) (hu : undT X.ty t = some (.map kt el)) (hkt : keyT X kt = some c)
    (hk : eMup c (cOpd X m) (cOpd X x) (cOpd X y) call e h k = true) : EOut P φ h w k (do Instr.mapUpdate t (a.eval m) (a.eval x) (a.eval y); pure .skip) := by
  obtain ⟨d, hd, hdc⟩ := keyT_desc hY hkt
  rw [hY] at hu
  obtain ⟨vm, hvm, h1⟩ := ev_sound hE hk
  rcases onM_true h1 with ⟨_, h2⟩ | ⟨id, rfl, h2⟩
  · cases h2
  obtain ⟨l, hl, hm⟩ := VR_m.1 hvm
  obtain ⟨vk, hvk, h3⟩ := ev_sound hE h2
  obtain ⟨hkind, h4⟩ := ite'_and h3
  obtain ⟨vx, hvx, h5⟩ := ev_sound hE h4
  obtain ⟨o, ho, h6⟩ := getK_true h5
  obtain ⟨es, rfl, h7⟩ := onMp_true h6
  obtain ⟨_, entries, clock, hb, hmr⟩ := hW.obj _ _ ho 0 l hl
  have hlt := hW.here _ _ _ hl
  have hck : (Instr.checkKey false 10000 kt (a.eval x)).run P w = .ok () w := checkKey_run hd hdc false 9999 _ w
  have hget : (getObj l.block).run P w = .ok (.map entries clock) w := by simp [getObj, Sem.run, hb]
  have hset : ∀ ob, (setObj l.block ob).run P w = .ok () { w with heap := w.heap.setIfInBounds l.block ob } := fun ob => by simp [setObj, Sem.run, hb]
  have fin : ∀ {es' : List (AV × AV)} {en : Array MapEntry} {ck : Nat}, k .u (updO h id (.mp es')) = true → MR φ es' en.toList →
      (Instr.mapUpdate t (a.eval m) (a.eval x) (a.eval y)).run P w = .ok () { w with heap := w.heap.setIfInBounds l.block (.map en ck) } →
      EOut P φ h w k (do Instr.mapUpdate t (a.eval m) (a.eval x) (a.eval y); pure .skip) := by
    intro es' en ck hk' hmr' hrun
    obtain ⟨g1, g2⟩ := change_step (w' := { w with heap := w.heap.setIfInBounds l.block (.map en ck) }) (o' := .mp es') hW ho rfl hl rfl rfl rfl (by simp) (fun i hi => by simp [Array.getElem?_setIfInBounds_ne (Ne.symm hi)])
      (fun tag L hL => by
        obtain ⟨h0, _⟩ := hW.obj _ _ ho tag L hL
        subst h0
        have : L = l := Option.some.inj (hL.symm.trans hl)
        subst this
        exact ⟨rfl, en, ck, by simp [Array.getElem?_setIfInBounds_self_of_lt hlt], hmr'⟩)
    exact EOut.skip hk' hrun g1 g2
  rcases put_now hkind hdc hvk hvx 0 hmr h7 with ⟨hf, es', hk', hmr'⟩ | ⟨j, z, en, hf, hj, hen, es', hk', hmr'⟩
  · refine fin (en := entries.push ⟨a.eval x, a.eval y, clock⟩) (ck := clock + 1) hk' (by simpa using hmr' clock) ?_
    have hfind : (Instr.findKey kt (a.eval x) entries.toList).run P w = .ok none w := by simp [Instr.findKey, run_underlying hd, hf]
    rw [hm]
    simp only [Instr.mapUpdate, Sem.run_bind, run_und hu, Result.andThen_ok, hget, hck, hfind, hset]
  · refine fin (en := entries.modify j fun e => { e with key := a.eval x, val := a.eval y }) (ck := clock) hk' (by simpa using hmr') ?_
    have hfind : (Instr.findKey kt (a.eval x) entries.toList).run P w = .ok (some (j, z)) w := by simp [Instr.findKey, run_underlying hd, hf]
    have hstay : ∀ w, (Instr.keyThatStays (((entries[j]?).map (·.key)).getD (a.eval x)) (a.eval x)).run P w = .ok (a.eval x) w := fun w => by
      have e1 : ((entries[j]?).map (·.key)).getD (a.eval x) = a.eval x := by
        rw [Array.getElem?_toList] at hj; rw [hj]; simp [hen]
      rw [e1]
      have : Instr.sameBits 10000 (a.eval x) (a.eval x) = true := by
        cases vk with
        | i q n => rw [VR_i.1 hvk]; exact sameBits_int _
        | s n q => obtain ⟨str, hs, _⟩ := VR_s.1 hvk; rw [hs]; exact sameBits_string _
        | b x => rcases hdc with ⟨rfl, _⟩ | ⟨rfl, _⟩ <;> cases hkind
        | o i => rw [VR_o.1 hvk]; exact sameBits_int _
        | _ => cases hkind
      simp [Instr.keyThatStays, this]
    rw [hm]
    simp only [Instr.mapUpdate, Sem.run_bind, run_und hu, Result.andThen_ok, hget, hck, hfind, hstay, hset]

/-- What is appended, or copied. -/
theorem srcK_true (hW : WR φ h w) {sz : Nat} {v : AV} {u : Value} {k : List AV → Nat → Bool} (hv : VR φ v u) (hk : srcK sz v h k = true) :
    ∃ l n us, k l n = true ∧ VRL φ l us ∧ l.length = n * sz ∧ (∀ w', (Builtin.lenOf u).run P w' = .ok n w') ∧ ∀ w2 : World, w2.heap = w.heap → ∀ m, m ≤ n → (Builtin.firstCells sz m u).run P w2 = .ok (us.take (m * sz)).toArray w2 := by
  rcases onSlS_true hk with ⟨n, m, rfl, h1⟩ | ⟨rfl, h1⟩ | ⟨id, tag, off, len, cap, esz, rfl, h1⟩
  · obtain ⟨hs, hk'⟩ := ite'_and h1
    have hs' := beq_eq hs
    subst hs'
    obtain ⟨s, rfl, rfl, rfl⟩ := VR_s.1 hv
    have hsz : s.data.toList.length = s.size := Array.length_toList
    refine ⟨_, _, _, hk', sbytes_VRL _, by rw [sbytes_eq]; simp, fun w' => by simp [Builtin.lenOf, hsz], fun w2 hw2 m hm => ?_⟩
    simp only [Builtin.firstCells, Sem.run_pure, Nat.mul_one]
    congr 1
    apply Array.ext'
    rw [← List.map_take]
    simp [ByteArray.data_extract, List.extract_eq_take_drop]
  · cases VR_nils.1 hv
    exact ⟨[], 0, [], h1, rfl, by simp, fun _ => rfl, fun w2 hw2 m hm => by simp [Builtin.firstCells]⟩
  · obtain ⟨l, p, c, hl, hle, rfl, hlc, hcap, hp, hroom⟩ := VR_sl.1 hv
    obtain ⟨o, ho, h2⟩ := getK_true h1
    obtain ⟨vs, hlen, hk', us, hus, hc⟩ := rdsK_true (hW.obj _ _ ho) hl _ _ _ hle h2
    have hul := VRL_len hus
    have hlen2 : vs.length = len * sz := hlen
    refine ⟨vs, len, us, hk', hus, hlen, fun _ => rfl, fun w2 hw2 m hm => ?_⟩
    simp only [Builtin.firstCells]
    by_cases h0 : c = 0
    · obtain rfl : m = 0 := by omega
      rw [Nat.zero_mul]; rfl
    · rw [hp h0]
      have hle2 : m * sz ≤ len * sz := Nat.mul_le_mul_right _ hm
      exact loadCells_run hle (by rw [List.length_take, Nat.min_eq_left (by omega)]) fun i x hx => by
        rw [show w2.cell? (l.at (off + i)) = w.cell? (l.at (off + i)) from by simp only [World.cell?, hw2]]
        exact hc i x (by rw [List.getElem?_take] at hx; split at hx; exact hx; cases hx)

theorem minN_eq (a b : Nat) : minN a b = Nat.min a b := by
  unfold minN
  cases hb : Nat.ble a b
  · have := ble_not hb; show b = _; exact (Nat.min_eq_right (by omega)).symm
  · have := ble_le hb; show a = _; exact (Nat.min_eq_left this).symm

theorem VRL_take {φ : Emb} : ∀ {l : List AV} {us : List Value} (n : Nat), VRL φ l us → VRL φ (l.take n) (us.take n)
  | _, _, 0, _ => by simp [VRL]
  | [], _, n + 1, h => by cases (h : _ = []); simp [VRL]
  | x :: l, _, n + 1, ⟨v, vs, e, h1, h2⟩ => by subst e; exact ⟨v, vs.take n, rfl, h1, VRL_take n h2⟩

theorem s_copy (hY : X.ty = tysOf P) (hW : WR φ h w) {t ty el : TypeId} {x y : Operand} {rest : List TypeId} {s : Nat} {k : KH} {call : Nat → List AV → Heap → KH → Bool} (hE : ER X φ e a) (hu : undT X.ty t = some (.slice el))
    (hs : sizeT X.ty el = some s) (hk : eCopy s (cOpd X x) (cOpd X y) call e h k = true) : EOut P φ h w k (do pure (.value (← Builtin.copy_ (t :: rest).toArray ty #[a.eval x, a.eval y]))) := by
  rw [hY] at hu hs
  obtain ⟨vx, hvx, h1⟩ := ev_sound hE hk
  obtain ⟨vy, hvy, h2⟩ := ev_sound hE h1
  obtain ⟨new, n, us, h3, hus, hlen, hlo, hfc⟩ := srcK_true (P := P) hW hvy h2
  rcases onSl_true h3 with ⟨rfl, h4⟩ | ⟨id, tag, off, len, cap, esz, rfl, h4⟩
  · have hx := VR_nils.1 hvx
    refine ⟨_, _, φ, .int .i64 0, w, h4, VR_i.2 rfl, .inl ?_, hW, Stp.refl _ _ _⟩
    rw [hx]
    have := hfc w rfl 0 (Nat.zero_le _)
    simp [Builtin.copy_, run_und hu, hlo, run_size hs, this, goInt]
  · obtain ⟨l, p, c, hl, hle, hx, hlc, hcap, hp, hroom⟩ := VR_sl.1 hvx
    obtain ⟨o, ho, h5⟩ := getK_true h4
    rw [minN_eq, takeL_eq] at h5
    have hmn : Nat.min n len ≤ n := Nat.min_le_left ..
    obtain ⟨o', w', hk', hrun, hW', hS'⟩ := wrsK_true (P := P) hl hle _ _ 0 h w o _ hW ho (VRL_take (Nat.min n len * s) hus) (show wrsK _ o tag (off + 0) _ = true from h5)
    refine ⟨_, _, φ, .int .i64 (Nat.min n len), w', hk', VR_i.2 rfl, .inl ?_, hW', hS'⟩
    have hst : (storeCells p (us.take (Nat.min n len * s))).run P w = .ok () w' := by
      by_cases h0 : c = 0
      · have : Nat.min n len = 0 := by have : Nat.min n len ≤ len := Nat.min_le_right ..; omega
        rw [this] at hrun ⊢
        simpa [storeCells] using hrun
      · rw [hp h0]; exact hrun
    rw [hx]
    simp only [Builtin.copy_, List.getElem?_toArray, List.getElem?_cons_zero, List.getElem?_cons_succ, Sem.run_bind, run_und hu, Result.andThen_ok, hlo, run_size hs, hfc w rfl _ hmn, hst, Sem.run_pure, goInt]
end
end Go.AE
