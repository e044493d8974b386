/- Memory: what an abstract heap stands for; what reads say. -/
import Derived.Test.YtodlgflkhcknaaaAFOps8
namespace Go.AE
set_option linter.unusedVariables false
variable {oq : Unit} [Opq oq]
open Go

/-- A block of cells, none of which may not be written. -/
def Blk (w : World) (l : Loc) : Prop := ∃ cs elem lo hi, w.heap[l.block]? = some (.cells cs elem (lo, hi)) ∧ cs.size = l.size ∧ (lo = hi ∨ l.size ≤ lo)

/-- The cell j of a row stands for what is there. -/
def CellR (φ : Emb) (w : World) (l : Loc) (j : Nat) (v : AV) : Prop := ∃ u, w.cell? (l.at j) = some u ∧ VR φ v u

/-- The entries of a map, one by one. -/
def MR (φ : Emb) : List (AV × AV) → List MapEntry → Prop
  | [], l => l = []
  | x :: xs, l => ∃ e es, l = e :: es ∧ VR φ x.1 e.key ∧ VR φ x.2 e.val ∧ MR φ xs es

def Obj.isRo : Obj → Bool
  | .ro _ => true
  | _ => false

/-- An object stands for what is there. -/
def OR (φ : Emb) (w : World) (id : Nat) (o : Obj) : Prop :=
  match o with
  | .st cells n => ∀ tag l, φ id tag = some l → tag = 0 ∧ l.start = 0 ∧ l.base = 0 ∧ l.size = n ∧ Blk w l ∧ ∀ j, j < n → ∀ v, cells.get j = some v → CellR φ w l j v
  | .ve cells ext ver minv segs => minv ≤ ver ∧ (∀ j, j < ext → ∃ v, cells.get j = some v) ∧ (∀ tag j j', j' ≤ j → stampOK tag j segs = true → stampOK tag j' segs = true) ∧ (∀ tag j, ver ≤ tag → stampOK tag j segs = true) ∧
      ∀ tag l, φ id tag = some l → tag ≤ ver ∧ Blk w l ∧ (minv ≤ tag → ∀ j, l.start ≤ j → j < ext → stampOK tag j segs = true → ∀ v, cells.get j = some v → CellR φ w l j v)
  | .mp es => ∀ tag l, φ id tag = some l → tag = 0 ∧ ∃ entries clock, w.heap[l.block]? = some (.map entries clock) ∧ MR φ es entries.toList
  | .ro cells => ∀ tag l, φ id tag = some l → ∀ j v, l.start ≤ j → cells.get j = some v → CellR φ w l j v

structure WR (φ : Emb) (h : Heap) (w : World) : Prop where
  scope : ∀ id o, h.tr.get id = some o → id < h.next
  obj : ∀ id o, h.tr.get id = some o → OR φ w id o
  inj : ∀ id t id' t' l l', Opq.ro ≤ id → φ id t = some l → φ id' t' = some l' → l.block = l'.block → id = id' ∧ l.base + l'.start = l'.base + l.start ∧ l.size = l'.size
  here : ∀ id t l, φ id t = some l → l.block < w.heap.size
  roo : Opq.ro ≤ h.next ∧ ∀ id o, h.tr.get id = some o → id < Opq.ro → o.isRo = true

theorem CellR.mono {φ ψ : Emb} (hs : Sub φ ψ) {w : World} {l : Loc} {j : Nat} {v : AV} (h : CellR φ w l j v) : CellR ψ w l j v :=
  let ⟨u, hu, hr⟩ := h; ⟨u, hu, VR_mono hs _ _ hr⟩

theorem MR_mono {φ ψ : Emb} (hs : Sub φ ψ) : ∀ {es : List (AV × AV)} {l : List MapEntry}, MR φ es l → MR ψ es l
  | [], _, h => h
  | _ :: _, _, ⟨e, es, h1, h2, h3, h4⟩ => ⟨e, es, h1, VR_mono hs _ _ h2, VR_mono hs _ _ h3, MR_mono hs h4⟩

theorem MR_len {φ : Emb} : ∀ {es : List (AV × AV)} {l : List MapEntry}, MR φ es l → es.length = l.length
  | [], _, h => by cases (h : _ = []); rfl
  | _ :: _, _, ⟨e, es, h1, _, _, h4⟩ => by rw [h1]; simp [MR_len h4]

theorem Blk.cell {w : World} {l : Loc} (h : Blk w l) {i : Nat} (hi : i < l.size) : ∃ u, w.cell? ⟨l.block, i, none⟩ = some u := by
  obtain ⟨cs, elem, lo, hi', hb, hs, _⟩ := h
  refine ⟨cs[i]'(by omega), ?_⟩
  simp [World.cell?, hb, show i < cs.size from by omega]

theorem Blk.free {w : World} {l : Loc} (h : Blk w l) {i : Nat} (hi : i < l.size) : w.frozen? ⟨l.block, i, none⟩ = false := by
  obtain ⟨cs, elem, lo, hi', hb, hs, hf⟩ := h
  simp only [World.frozen?, hb]
  rcases hf with rfl | hf <;> simp <;> omega

section
variable {P : Program} {φ : Emb} {w : World}

theorem rdK_true {o : Obj} {id tag off : Nat} {l : Loc} {k : KV} (hO : OR φ w id o) (hl : φ id tag = some l) (hle : l.start ≤ off) (h : rdK o tag off k = true) :
    ∃ v, CellR φ w l off v ∧ k v = true := by
  cases o with
  | st cells n =>
    obtain ⟨h0, h1⟩ := ite'_and (show ite' (Nat.beq tag 0) (ite' (Nat.ble (Nat.succ off) n) (cells.getK off false k) false) false = true from h)
    obtain ⟨hb, h2⟩ := ite'_and h1
    obtain ⟨v, hv, hk⟩ := getK_true h2
    obtain ⟨_, _, _, _, _, hc⟩ := hO tag l hl
    exact ⟨v, hc off (ble_le hb) v hv, hk⟩
  | ve cells ext ver minv segs =>
    obtain ⟨hb, h1⟩ := ite'_and (show ite' (Nat.ble (Nat.succ off) ext) (ite' (ite' (Nat.beq tag ver) true (ite' (Nat.ble minv tag) (stampOK tag off segs) false)) (cells.getK off false k) false) false = true from h)
    obtain ⟨h2, h3⟩ := ite'_and h1
    obtain ⟨v, hv, hk⟩ := getK_true h3
    obtain ⟨hm, _, hmono, htop, hc⟩ := hO
    obtain ⟨_, _, hc⟩ := hc tag l hl
    have hstamp : minv ≤ tag ∧ stampOK tag off segs = true := by
      rcases ite'_true h2 with ⟨h4, _⟩ | ⟨_, h4⟩
      · cases beq_eq h4; exact ⟨hm, htop _ _ (Nat.le_refl _)⟩
      · obtain ⟨h5, h6⟩ := ite'_and h4; exact ⟨ble_le h5, h6⟩
    exact ⟨v, hc hstamp.1 off hle (ble_le hb) hstamp.2 v hv, hk⟩
  | mp es => cases h
  | ro cells =>
    obtain ⟨v, hv, hk⟩ := getK_true (show cells.getK off false k = true from h)
    exact ⟨v, hO tag l hl off v hle hv, hk⟩

theorem Loc.at_succ (l : Loc) {off : Nat} (h : l.start ≤ off) (i : Nat) : (l.at off).add i = l.at (off + i) := l.at_add h i

theorem rdsK_true {o : Obj} {id tag : Nat} {l : Loc} (hO : OR φ w id o) (hl : φ id tag = some l) : ∀ (n off : Nat) (k : List AV → Bool), l.start ≤ off → rdsK o tag n off k = true →
    ∃ vs, vs.length = n ∧ k vs = true ∧ ∃ us : List Value, VRL φ vs us ∧ ∀ (i : Nat) (u : Value), us[i]? = some u → w.cell? (l.at (off + i)) = some u
  | 0, off, k, _, h => ⟨[], rfl, h, [], rfl, fun i u hu => by simp at hu⟩
  | n + 1, off, k, hle, h => by
    obtain ⟨v, ⟨u, hu, hr⟩, h1⟩ := rdK_true hO hl hle (show rdK o tag off (fun v => rdsK o tag n (off + 1) fun vs => k (v :: vs)) = true from h)
    obtain ⟨vs, hlen, hk, us, hus, hc⟩ := rdsK_true hO hl n (off + 1) _ (Nat.le_succ_of_le hle) h1
    refine ⟨v :: vs, by simp [hlen], hk, u :: us, ⟨u, us, rfl, hr, hus⟩, fun i x hx => ?_⟩
    cases i with
    | zero => simp at hx; subst hx; exact hu
    | succ i => rw [show off + (i + 1) = off + 1 + i from by omega]; exact hc i x (by simpa using hx)

theorem load_run {a : Addr} {u : Value} (h : w.cell? a = some u) : (load a).run P w = .ok u w := by rw [run_load, h]

theorem loadFrom_run {a : Addr} : ∀ (us : List Value) (i : Nat) (acc : Array Value), (∀ (j : Nat) (u : Value), us[j]? = some u → w.cell? (a.add (i + j)) = some u) →
    (loadCellsFrom a i us.length acc).run P w = .ok (acc ++ us.toArray) w
  | [], i, acc, _ => by simp [loadCellsFrom]
  | u :: us, i, acc, h => by
    have h0 := h 0 u rfl
    simp only [List.length_cons, loadCellsFrom, Sem.run_bind, load_run (P := P) (show w.cell? (a.add i) = some u from h0), Result.andThen_ok]
    rw [loadFrom_run us (i + 1) (acc.push u) (fun j x hx => by rw [show i + 1 + j = i + (j + 1) from by omega]; exact h (j + 1) x (by simpa using hx))]
    simp

theorem loadCells_run {l : Loc} {off : Nat} (hle : l.start ≤ off) {us : List Value} {n : Nat} (hn : n = us.length) (h : ∀ (i : Nat) (u : Value), us[i]? = some u → w.cell? (l.at (off + i)) = some u) :
    (loadCells (l.at off) n).run P w = .ok us.toArray w := by
  subst hn
  unfold loadCells
  rw [loadFrom_run us 0 #[] (fun j u hu => by rw [Nat.zero_add, l.at_add hle]; exact h j u hu)]
  simp

/-- A read. -/
def ROut (P : Program) (φ : Emb) (w : World) (k : KV) (s : Sem Next) : Prop := ∃ v u, VR φ v u ∧ k v = true ∧ s.run P w = .ok (.value u) w

theorem ROut.of {k : KV} {s : Sem Value} {v : AV} {u : Value} (hv : VR φ v u) (hk : k v = true) (h : s.run P w = .ok u w) : ROut P φ w k (do pure (.value (← s))) :=
  ⟨v, u, hv, hk, by rw [Sem.run_bind, h]; rfl⟩
end

section
variable {P : Program} {X : CX} {φ : Emb} {e : Env} {a : Act} {h : Heap} {w : World}

theorem s_ld (hY : X.ty = tysOf P) (hW : WR φ h w) {t : TypeId} {x : Operand} {k : KV} (hE : ER X φ e a) (hg : aggT X.ty t = some false) (hr : rLd (cOpd X x) e h k = true) :
    ROut P φ w k (do pure (.value (← Instr.loadAt t (a.eval x)))) := by
  rw [hY] at hg
  obtain ⟨v, hv, h1⟩ := ev_sound hE hr
  obtain ⟨id, tag, off, rfl, h2⟩ := onP_true h1
  obtain ⟨l, hl, hle, hx⟩ := VR_p.1 hv
  obtain ⟨o, ho, h3⟩ := getK_true h2
  obtain ⟨v', ⟨u, hu, hvu⟩, hk⟩ := rdK_true (hW.obj _ _ ho) hl hle h3
  refine ROut.of hvu hk ?_
  rw [hx]
  simp only [Instr.loadAt, Instr.sureAddr, Sem.run_bind, Sem.run_pure, Result.andThen_ok, loadVar, run_agg hg, Bool.false_eq_true, if_false]
  exact load_run hu

theorem s_ldn (hY : X.ty = tysOf P) (hW : WR φ h w) {t : TypeId} {x : Operand} {n : Nat} {k : KV} (hE : ER X φ e a) (hg : aggT X.ty t = some true) (hs : sizeT X.ty t = some n) (hr : rLdn n (cOpd X x) e h k = true) :
    ROut P φ w k (do pure (.value (← Instr.loadAt t (a.eval x)))) := by
  rw [hY] at hg hs
  obtain ⟨v, hv, h1⟩ := ev_sound hE hr
  obtain ⟨id, tag, off, rfl, h2⟩ := onP_true h1
  obtain ⟨l, hl, hle, hx⟩ := VR_p.1 hv
  obtain ⟨o, ho, h3⟩ := getK_true h2
  obtain ⟨vs, hlen, hk, us, hvu, hc⟩ := rdsK_true (hW.obj _ _ ho) hl _ _ _ hle h3
  have hul := VRL_len hvu
  refine ROut.of (u := .agg us.toArray) (VR_agg.2 ⟨_, rfl, hvu⟩) hk ?_
  rw [hx]
  simp only [Instr.loadAt, Instr.sureAddr, Sem.run_bind, Sem.run_pure, Result.andThen_ok, loadVar, run_agg hg, if_true, run_size hs, loadCells_run (P := P) hle (by omega : n = us.length) hc]

theorem okV_true {ok : Bool} {k : KV} {v : AV} {b : Bool} (h : okV ok k v b = true) : k (if ok then .tup [v, .b b] else v) = true := by cases ok <;> exact h

theorem okV_VR {ok : Bool} {v : AV} {u : Value} {b : Bool} (h : VR φ v u) : VR φ (if ok then .tup [v, .b b] else v) (if ok then .tuple #[u, .bool b] else u) := by
  cases ok
  · exact h
  · exact VR_tup.2 ⟨_, rfl, u, [.bool b], rfl, h, .bool b, [], rfl, rfl, rfl⟩

theorem key_now {c : Nat} {key x : AV} {u v : Value} {d : TypeDesc} (hc : kindIs c key = true) (hd : (c = 1 ∧ ∃ q, d = .int q) ∨ (c = 2 ∧ d = .string)) (hx : VR φ x v) (hk : VR φ key u) {f : Bool → Bool} (h : eqS x key f = true) :
    ∃ r, Instr.sameNow d u v = some r ∧ f r = true ∧ (r = true → x = key ∧ u = v) := by
  cases x with
  | b p => obtain ⟨q, rfl, _⟩ := onB_true (show onB key (fun y => f (@Bool.rec (fun _ => Bool) (notB y) y p)) = true from h); rcases hd with ⟨rfl, _⟩ | ⟨rfl, _⟩ <;> cases hc
  | i kd n =>
    obtain ⟨kd', m, rfl, h2⟩ := onI_true (show onI key (fun kd' m => ite' (beqK kd kd') (f (beqI n m)) false) = true from h)
    obtain ⟨hq, h3⟩ := ite'_and h2
    cases beqK_eq hq
    cases VR_i.1 hx; cases VR_i.1 hk
    rcases hd with ⟨_, q, rfl⟩ | ⟨rfl, _⟩
    · refine ⟨m == n, by simp [Instr.sameNow], ?_, fun hr => ?_⟩
      · rw [beqI_eq] at h3; rw [← h3]; congr 1; rw [Bool.eq_iff_iff]; simp; exact eq_comm
      · simp at hr; subst hr; exact ⟨rfl, rfl⟩
    · cases hc
  | s n m =>
    obtain ⟨n', m', rfl, h2⟩ := onS_true (show onS key (fun n' m' => f (beqS n m n' m')) = true from h)
    obtain ⟨s, rfl, rfl, rfl⟩ := VR_s.1 hx
    obtain ⟨s', rfl, rfl, rfl⟩ := VR_s.1 hk
    rcases hd with ⟨rfl, _⟩ | ⟨_, rfl⟩
    · cases hc
    · have hbs : (s' == s) = (s.data.toList == s'.data.toList) := by
        rw [beq_toListBytes, ByteArray.toList_eq, ByteArray.toList_eq, Bool.eq_iff_iff]; simp; exact eq_comm
      refine ⟨s' == s, rfl, ?_, fun hr => ?_⟩
      · rw [hbs, ← beqS_eq]; exact h2
      · rw [hbs] at hr
        have : s.data.toList = s'.data.toList := by simpa using hr
        have hd : s = s' := by
          obtain ⟨⟨x⟩⟩ := s; obtain ⟨⟨y⟩⟩ := s'; simp at this; rw [this]
        subst hd; exact ⟨rfl, rfl⟩
  | o i =>
    obtain ⟨j, rfl, h2⟩ := onO_true (show onO key (fun j => ite' (Nat.beq i j) (f true) false) = true from h)
    obtain ⟨hq, h3⟩ := ite'_and h2
    cases beq_eq hq
    cases VR_o.1 hx; cases VR_o.1 hk
    rcases hd with ⟨_, q, rfl⟩ | ⟨rfl, _⟩
    · exact ⟨true, by simp [Instr.sameNow], h3, fun _ => ⟨rfl, rfl⟩⟩
    · cases hc
  | _ => cases h

theorem find_now {c : Nat} {key : AV} {u : Value} {d : TypeDesc} (hc : kindIs c key = true) (hd : (c = 1 ∧ ∃ q, d = .int q) ∨ (c = 2 ∧ d = .string)) (hk : VR φ key u) {no : Bool} {f : KV} :
    ∀ {es : List (AV × AV)} {l : List MapEntry} (i : Nat), MR φ es l → findK es key no f = true →
      (Instr.findNow d u l i = some none ∧ no = true) ∨ ∃ j v x, Instr.findNow d u l i = some (some (j, v)) ∧ VR φ x v ∧ f x = true
  | [], l, i, h, hf => by cases (h : l = []); exact .inl ⟨rfl, hf⟩
  | x :: es, l, i, ⟨e, l', h1, h2, h3, h4⟩, hf => by
    subst h1
    obtain ⟨r, hr, hfr, _⟩ := key_now hc hd h2 hk (show eqS x.1 key (fun r => @Bool.rec (fun _ => Bool) (findK es key no f) (f x.2) r) = true from hf)
    cases r with
    | true => exact .inr ⟨i, e.val, x.2, by simp [Instr.findNow, hr], h3, hfr⟩
    | false =>
      have := find_now hc hd hk (i + 1) h4 (show findK es key no f = true from hfr)
      simpa [Instr.findNow, hr] using this

theorem keyT_desc {t : TypeId} {c : Nat} (hY : X.ty = tysOf P) (h : keyT X t = some c) : ∃ d, P.underlying t = some d ∧ ((c = 1 ∧ ∃ q, d = .int q) ∨ (c = 2 ∧ d = .string)) := by
  unfold keyT at h
  rw [hY] at h
  split at h
  · rename_i q hq; cases h; exact ⟨_, und_get hq, .inl ⟨rfl, q, rfl⟩⟩
  · rename_i hq; cases h; exact ⟨_, und_get hq, .inr ⟨rfl, rfl⟩⟩
  · cases h

theorem checkKey_run {t : TypeId} {d : TypeDesc} {c : Nat} (hd : P.underlying t = some d) (hc : (c = 1 ∧ ∃ q, d = .int q) ∨ (c = 2 ∧ d = .string)) (b : Bool) (n : Nat) (v : Value) (w : World) :
    (Instr.checkKey b (n + 1) t v).run P w = .ok () w := by
  rcases hc with ⟨_, q, rfl⟩ | ⟨_, rfl⟩ <;> simp [Instr.checkKey, run_underlying hd]

theorem s_lk (hY : X.ty = tysOf P) (hW : WR φ h w) {t kt el : TypeId} {m x : Operand} {ok : Bool} {c : Nat} {z : AV} {k : KV} (hE : ER X φ e a) (hu : undT X.ty t = some (.map kt el)) (hkt : keyT X kt = some c)
    (hz : zeroT X.ty el = some z) (hr : rLk z ok c (cOpd X m) (cOpd X x) e h k = true) : ROut P φ w k (do pure (.value (← Instr.lookup t (a.eval m) (a.eval x) ok))) := by
  obtain ⟨d, hd, hdc⟩ := keyT_desc hY hkt
  rw [hY] at hu hz
  obtain ⟨zv, hzr, hzv⟩ := run_zero hz φ
  obtain ⟨vm, hvm, h1⟩ := ev_sound hE hr
  obtain ⟨vk, hvk, h2⟩ := ev_sound hE h1
  obtain ⟨hkind, h3⟩ := ite'_and h2
  have hck : ∀ b v, (Instr.checkKey b 10000 kt v).run P w = .ok () w := fun b v => checkKey_run hd hdc b 9999 v w
  rcases onM_true h3 with ⟨rfl, h4⟩ | ⟨id, rfl, h4⟩
  · have hm := VR_nilm.1 hvm
    refine ROut.of (okV_VR (ok := ok) (b := false) hzv) (okV_true h4) ?_
    rw [hm]
    have hfind : (Instr.findKey kt (a.eval x) []).run P w = .ok none w := by simp [Instr.findKey, run_underlying hd, Instr.findNow]
    simp only [Instr.lookup, Sem.run_bind, run_und hu, Result.andThen_ok, Sem.run_pure, hck, hfind, hzr]
  · obtain ⟨l, hl, hm⟩ := VR_m.1 hvm
    obtain ⟨o, ho, h5⟩ := getK_true h4
    obtain ⟨es, rfl, h6⟩ := onMp_true h5
    obtain ⟨_, entries, clock, hb, hmr⟩ := hW.obj _ _ ho 0 l hl
    have hget : (getObj l.block).run P w = .ok (.map entries clock) w := by simp [getObj, Sem.run, hb]
    rcases find_now hkind hdc hvk 0 hmr h6 with ⟨hf, hno⟩ | ⟨j, v, y, hf, hy, hfy⟩
    · refine ROut.of (okV_VR (ok := ok) (b := false) hzv) (okV_true hno) ?_
      rw [hm]
      have hfind : (Instr.findKey kt (a.eval x) entries.toList).run P w = .ok none w := by simp [Instr.findKey, run_underlying hd, hf]
      simp only [Instr.lookup, Sem.run_bind, run_und hu, Result.andThen_ok, hget, Sem.run_pure, hck, hfind, hzr]
    · refine ROut.of (okV_VR (ok := ok) (b := true) hy) (okV_true hfy) ?_
      rw [hm]
      have hfind : (Instr.findKey kt (a.eval x) entries.toList).run P w = .ok (some (j, v)) w := by simp [Instr.findKey, run_underlying hd, hf]
      simp only [Instr.lookup, Sem.run_bind, run_und hu, Result.andThen_ok, hget, Sem.run_pure, hck, hfind]

theorem s_lenm (hY : X.ty = tysOf P) (hW : WR φ h w) {t kt el ty : TypeId} {x : Operand} {k : KV} (hE : ER X φ e a) (hu : undT X.ty t = some (.map kt el)) (hr : rLenm (cOpd X x) e h k = true) :
    ROut P φ w k (do pure (.value (← Builtin.len_ #[t] ty #[a.eval x]))) := by
  rw [hY] at hu
  obtain ⟨v, hv, h1⟩ := ev_sound hE hr
  rcases onM_true h1 with ⟨rfl, h2⟩ | ⟨id, rfl, h2⟩
  · have hm := VR_nilm.1 hv
    refine ROut.of (u := .int .i64 (Int.ofNat 0)) (VR_i.2 rfl) h2 ?_
    rw [hm]
    simp only [Builtin.len_, List.getElem?_toArray, List.getElem?_cons_zero, Sem.run_bind, run_und hu, Result.andThen_ok, goInt, Sem.run_pure]
    rfl
  · obtain ⟨l, hl, hm⟩ := VR_m.1 hv
    obtain ⟨o, ho, h5⟩ := getK_true h2
    obtain ⟨es, rfl, h6⟩ := onMp_true h5
    obtain ⟨_, entries, clock, hb, hmr⟩ := hW.obj _ _ ho 0 l hl
    have hget : (getObj l.block).run P w = .ok (.map entries clock) w := by simp [getObj, Sem.run, hb]
    have hlen := MR_len hmr
    rw [lenL_eq] at h6
    refine ROut.of (u := .int .i64 (Int.ofNat entries.size)) (VR_i.2 (by rw [hlen]; simp)) h6 ?_
    rw [hm]
    simp only [Builtin.len_, List.getElem?_toArray, List.getElem?_cons_zero, Sem.run_bind, run_und hu, Result.andThen_ok, hget, goInt, Sem.run_pure]
    rfl
end
end Go.AE
