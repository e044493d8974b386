/- The code of a function; calls. -/
import Derived.Test.YtodlgflkhcknaaaAFReg8
namespace Go.AE
set_option linter.unusedVariables false
variable {oq : Unit} [Opq oq]
open Go

def exOf : Ex → Exit
  | .nrm => .normal
  | .exit id => .exit id
  | .ret => .ret

section
variable {P : Program} {X : CX} {call : Nat → List AV → Heap → KH → Bool}

/-- What is to be shown of code. -/
def CodeOK (P : Program) (X : CX) (call : Nat → List AV → Heap → KH → Bool) (c : Code) : Prop :=
  ∀ (fr : Fr) (h : Heap) (k : KE) (φ : Emb) (a : Act) (w : World) (M : Nat) (Q : Exit → Act → World → Prop), FI X φ fr a → WR φ h w → Fresh φ h.next M → (∀ x fr h', k x fr h' = true → h'.next ≤ M) →
    exec call (cCode X c) fr h k = true → (∀ x fr h' ψ a' w', k x fr h' = true → FI X ψ fr a' → WR ψ h' w' → Stp φ h.next w ψ h'.next w' → Q (exOf x) a' w') → c.wp P Q a w

theorem exec_le {call : Nat → List AV → Heap → KH → Bool} (hL : LinC call) {c : CCode} {fr : Fr} {h : Heap} {k : KE} {M : Nat} (hM : ∀ x fr h', k x fr h' = true → h'.next ≤ M) (hr : exec call c fr h k = true) : h.next ≤ M := by
  rcases lin_exec hL c fr h with f | ⟨x, fr', h', hn, f⟩
  · rw [f] at hr; cases hr
  · rw [f] at hr; exact Nat.le_trans hn (hM _ _ _ hr)

theorem ok_skip : CodeOK P X call .skip := fun fr h k φ a w M Q hFI hW hF hM hr hQ => wp_skip (hQ .nrm fr h φ a w hr hFI hW (Stp.refl ..))
theorem ok_exit (id : Nat) : CodeOK P X call (.exit id) := fun fr h k φ a w M Q hFI hW hF hM hr hQ => wp_exit (hQ (.exit id) fr h φ a w hr hFI hW (Stp.refl ..))
theorem ok_ret : CodeOK P X call .ret := fun fr h k φ a w M Q hFI hW hF hM hr hQ => wp_ret (hQ .ret fr h φ a w hr hFI hW (Stp.refl ..))
theorem ok_label (l : Nat) : CodeOK P X call (.label l) := fun fr h k φ a w M Q hFI hW hF hM hr hQ => wp_label (hQ .nrm fr h φ a w hr hFI hW (Stp.refl ..))
theorem ok_bad {c : Code} (hc : cCode X c = .bad) : CodeOK P X call c := fun fr h k φ a w M Q hFI hW hF hM hr hQ => by rw [hc] at hr; cases hr

theorem ok_region (g : Good P X call) (hm : P.follows .mixedOrders = true) (id : Nat) (ops : Array Oper) (draw : Bool) : CodeOK P X call (.region id ops draw) := by
  intro fr h k φ a w M Q hFI hW hF hM hr hQ
  have hr : exec call (cReg X ops draw) fr h k = true := hr
  cases draw with
  | false =>
    cases hc : cOpers X ops ops.toList [] with
    | none =>
      have : cReg X ops false = .bad := by unfold cReg; rw [hc]
      rw [this] at hr; cases hr
    | some l =>
      have : cReg X ops false = .reg l := by unfold cReg; rw [hc]
      rw [this] at hr
      exact wp_region_list (reg_sound g ops.toList l [] φ ⟨fr, []⟩ a h w (k .nrm) hc hFI.er hFI.size hFI.defers hW hF (fun fr h' hk => hM _ _ _ hk) hr fun fr h' ψ a' w' hk hfi hW' hS => hQ .nrm fr h' ψ a' w' hk hfi hW' hS)
  | true =>
    have hd : cReg X ops true = .bad ∨ ∃ l, cReg X ops true = .dreg l := by
      unfold cReg
      split
      · exact .inl rfl
      · simp only []
        split
        · exact .inl rfl
        · split
          · exact .inr ⟨_, rfl⟩
          · exact .inl rfl
    rcases hd with hd | ⟨l, hd⟩
    · rw [hd] at hr; cases hr
    · have hr2 := hr
      rw [hd] at hr2
      exact dreg_sound g hm hd (k := k .nrm) hr2 hFI hW hF (fun fr h' hk => hM _ _ _ hk) fun fr h' ψ a' w' hk hfi hW' hS => hQ .nrm fr h' ψ a' w' hk hfi hW' hS

theorem ok_seq (g : Good P X call) {x y : Code} (hx : CodeOK P X call x) (hy : CodeOK P X call y) : CodeOK P X call (.seq x y) := by
  intro fr h k φ a w M Q hFI hW hF hM hr hQ
  refine wp_seq (hx fr h (fun e fr h => exNrm e (k e fr h) (exec call (cCode X y) fr h k)) φ a w M _ hFI hW hF (fun e fr h' hk => ?_) hr fun e fr h' ψ a' w' hk hfi hW' hS => ?_)
  · cases e with
    | nrm => exact exec_le g.lin hM (show exec call (cCode X y) fr h' k = true from hk)
    | exit i => exact hM _ _ _ hk
    | ret => exact hM _ _ _ hk
  · cases e with
    | nrm => exact hy fr h' k ψ a' w' M Q hfi hW' (hS.fresh hF) hM hk fun x fr h2 χ a2 w2 hk2 hfi2 hW2 hS2 => hQ x fr h2 χ a2 w2 hk2 hfi2 hW2 (hS.trans hS2 hF (hM _ _ _ hk2))
    | exit i => exact hQ (.exit i) fr h' ψ a' w' hk hfi hW' hS
    | ret => exact hQ .ret fr h' ψ a' w' hk hfi hW' hS

theorem ok_cond {c : Operand} {x y : Code} (hx : CodeOK P X call x) (hy : CodeOK P X call y) : CodeOK P X call (.cond c x y) := by
  intro fr h k φ a w M Q hFI hW hF hM hr hQ
  obtain ⟨v, hv, h1⟩ := ev_sound hFI.er (show ev (cOpd (X.at []) c) ⟨fr, []⟩ (fun v => onB v fun b => @Bool.rec (fun _ => Bool) (exec call (cCode X y) fr h k) (exec call (cCode X x) fr h k) b) = true from hr)
  obtain ⟨b, rfl, h2⟩ := onB_true h1
  refine wp_cond (VR_b.1 hv) ?_
  cases b with
  | true => exact hx fr h k φ a w M Q hFI hW hF hM h2 hQ
  | false => exact hy fr h k φ a w M Q hFI hW hF hM h2 hQ

theorem ok_block {id : Nat} {c : Code} (hc : CodeOK P X call c) : CodeOK P X call (.block id c) := by
  intro fr h k φ a w M Q hFI hW hF hM hr hQ
  refine wp_block (hc fr h (fun e fr h => @Ex.rec (fun _ => Bool) (k .nrm fr h) (fun i => @Bool.rec (fun _ => Bool) (k (.exit i) fr h) (k .nrm fr h) (Nat.beq i id)) (k .ret fr h) e) φ a w M _ hFI hW hF (fun e fr h' hk => ?_) hr
    fun e fr h' ψ a' w' hk hfi hW' hS => ?_)
  · cases e with
    | nrm => exact hM _ _ _ hk
    | exit i =>
      have hk : @Bool.rec (fun _ => Bool) (k (.exit i) fr h') (k .nrm fr h') (Nat.beq i id) = true := hk
      cases hb : Nat.beq i id <;> rw [hb] at hk <;> exact hM _ _ _ hk
    | ret => exact hM _ _ _ hk
  · cases e with
    | nrm => exact hQ .nrm fr h' ψ a' w' hk hfi hW' hS
    | exit i =>
      have hk : @Bool.rec (fun _ => Bool) (k (.exit i) fr h') (k .nrm fr h') (Nat.beq i id) = true := hk
      show if i = id then Q .normal a' w' else Q (.exit i) a' w'
      cases hb : Nat.beq i id <;> rw [hb] at hk
      · rw [if_neg (beq_ne hb)]; exact hQ (.exit i) fr h' ψ a' w' hk hfi hW' hS
      · rw [if_pos (beq_eq hb)]; exact hQ .nrm fr h' ψ a' w' hk hfi hW' hS
    | ret => exact hQ .ret fr h' ψ a' w' hk hfi hW' hS

theorem iter_le {call : Nat → List AV → Heap → KH → Bool} (hL : LinC call) {c : CCode} {n : Nat} {fr : Fr} {h : Heap} {k : KE} {M : Nat} (hM : ∀ x fr h', k x fr h' = true → h'.next ≤ M) (hr : iter (exec call c) n fr h k = true) : h.next ≤ M := by
  rcases lin_iter (fun fr h => lin_exec hL c fr h) n fr h with f | ⟨x, fr', h', hn, f⟩
  · rw [f] at hr; cases hr
  · rw [f] at hr; exact Nat.le_trans hn (hM _ _ _ hr)

theorem rounds_ok (g : Good P X call) {c : Code} (hc : CodeOK P X call c) : ∀ (n : Nat) (fr : Fr) (h : Heap) (k : KE) (φ : Emb) (a : Act) (w : World) (M : Nat) (Q : Exit → Act → World → Prop), FI X φ fr a → WR φ h w → Fresh φ h.next M →
    (∀ x fr h', k x fr h' = true → h'.next ≤ M) → iter (exec call (cCode X c)) n fr h k = true → (∀ x fr h' ψ a' w', k x fr h' = true → FI X ψ fr a' → WR ψ h' w' → Stp φ h.next w ψ h'.next w' → Q (exOf x) a' w') → Code.rounds P c Q n a w := by
  intro n
  induction n with
  | zero => intro fr h k φ a w M Q hFI hW hF hM hr hQ; cases hr
  | succ n ih =>
    intro fr h k φ a w M Q hFI hW hF hM hr hQ
    rw [rounds_succ]
    refine hc fr h (fun e fr h => exNrm e (k e fr h) (iter (exec call (cCode X c)) n fr h k)) φ a w M _ hFI hW hF (fun e fr h' hk => ?_) hr fun e fr h' ψ a' w' hk hfi hW' hS => ?_
    · cases e with
      | nrm => exact iter_le g.lin hM (show iter (exec call (cCode X c)) n fr h' k = true from hk)
      | exit i => exact hM _ _ _ hk
      | ret => exact hM _ _ _ hk
    · cases e with
      | nrm => exact ih fr h' k ψ a' w' M Q hfi hW' (hS.fresh hF) hM hk fun x fr h2 χ a2 w2 hk2 hfi2 hW2 hS2 => hQ x fr h2 χ a2 w2 hk2 hfi2 hW2 (hS.trans hS2 hF (hM _ _ _ hk2))
      | exit i => exact hQ (.exit i) fr h' ψ a' w' hk hfi hW' hS
      | ret => exact hQ .ret fr h' ψ a' w' hk hfi hW' hS

theorem ok_loop (g : Good P X call) {c : Code} (hc : CodeOK P X call c) : CodeOK P X call (.loop c) := by
  intro fr h k φ a w M Q hFI hW hF hM hr hQ
  exact wp_loop_rounds 1000000 (rounds_ok g hc 1000000 fr h k φ a w M Q hFI hW hF hM hr hQ)

theorem ok_scope {c : Code} (hc : CodeOK P X call c) : CodeOK P X call (.scope c) := by
  intro fr h k φ a w M Q hFI hW hF hM hr hQ
  refine wp_scope_straight (hc fr h k φ a w M _ hFI hW hF hM hr fun x fr h' ψ a' w' hk hfi hW' hS => ?_)
  have := hQ x fr h' ψ a' w' hk hfi hW' hS
  cases x <;> exact this

theorem code_ok (g : Good P X call) (hm : P.follows .mixedOrders = true) (c : Code) : CodeOK P X call c := by
  induction c with
  | skip => exact ok_skip
  | region id ops draw => exact ok_region g hm id ops draw
  | seq a b ia ib => exact ok_seq g ia ib
  | cond c a b ia ib => exact ok_cond ia ib
  | block id c ic => exact ok_block ic
  | loop c ic => exact ok_loop g ic
  | exit id => exact ok_exit id
  | scope c ic => exact ok_scope ic
  | label l => exact ok_label l
  | ret => exact ok_ret
  | _ => exact ok_bad rfl

/- Results. -/
theorem mapM_run {α β : Type} (f : α → Sem β) (w : World) : ∀ {l : List α} {us : List β}, l.length = us.length → (∀ (i : Nat) (x : α) (u : β), l[i]? = some x → us[i]? = some u → (f x).run P w = .ok u w) → (l.mapM f).run P w = .ok us w
  | [], [], _, _ => rfl
  | x :: l, u :: us, hl, h => by
    rw [List.mapM_cons]
    simp only [Sem.run_bind, h 0 x u rfl rfl, Result.andThen_ok, mapM_run f w (l := l) (us := us) (by simpa using hl) fun i y v hy hv => h (i + 1) y v (by simpa using hy) (by simpa using hv)]
    rfl

/-- A result's reading. -/
def readRes (tmps : Array Value) : ResultVar → Sem Value
  | .tmp t => pure (tmps.getD t undef)
  | .cell a t => do loadVar t (← asAddr (tmps.getD a undef))

theorem results_eq (fn : Func) (tmps : Array Value) : results fn tmps = (do let vs ← fn.results.mapM (readRes tmps); pure (if h : vs.size = 1 then vs[0] else .tuple vs)) := by
  rfl

theorem res_sound (hY : X.ty = tysOf P) {φ : Emb} {fr : Fr} {a : Act} {h : Heap} {w : World} (hFI : FI X φ fr a) (hW : WR φ h w) : ∀ {l : List ResultVar} {res : List CRes} {k : List AV → Bool}, cRes X l = some res → resK res fr h k = true →
    ∃ vs us, VRL φ vs us ∧ k vs = true ∧ l.length = us.length ∧ ∀ (i : Nat) (x : ResultVar) (u : Value), l[i]? = some x → us[i]? = some u → (readRes a.tmps x).run P w = .ok u w
  | [], res, k, hc, hr => by cases hc; exact ⟨[], [], rfl, hr, rfl, fun i x u hx => (by simp at hx)⟩
  | .tmp t :: l, res, k, hc, hr => by
    unfold cRes at hc
    split at hc
    · rename_i u r hlv hr'
      cases hc
      obtain ⟨v, hv, h1⟩ := getK_true (show fr.getK t false (fun v => resK r fr h fun vs => k (v :: vs)) = true from hr)
      obtain ⟨vs, us, h2, h3, h4, h5⟩ := res_sound hY hFI hW hr' h1
      refine ⟨v :: vs, a.tmps.getD t undef :: us, ⟨_, _, rfl, hFI.er.fr t hlv v hv, h2⟩, h3, by simp [h4], fun i x u hx hu => ?_⟩
      cases i with
      | zero => cases hx; cases hu; rfl
      | succ i => exact h5 i x u (by simpa using hx) (by simpa using hu)
    · cases hc
  | .cell c t :: l, res, k, hc, hr => by
    unfold cRes at hc
    split at hc
    · rename_i u s g r hlv hsz hag hr'
      cases hc
      obtain ⟨v, hv, h1⟩ := getK_true (show fr.getK c false (fun p => onP p fun id tag off => h.tr.getK id false fun o => @Bool.rec (fun _ => Bool) (rdK o tag off fun v => resK r fr h fun vs => k (v :: vs))
        (rdsK o tag s off fun l => resK r fr h fun vs => k (.agg l :: vs)) g) = true from hr)
      obtain ⟨id, tag, off, rfl, h2⟩ := onP_true h1
      obtain ⟨L, hl, hle, hx⟩ := VR_p.1 (hFI.er.fr c hlv _ hv)
      obtain ⟨o, ho, h3⟩ := getK_true h2
      rw [hY] at hsz hag
      have fin : ∀ (v : AV) (y : Value), VR φ v y → (loadVar t (L.at off)).run P w = .ok y w → resK r fr h (fun vs => k (v :: vs)) = true →
          ∃ vs us, VRL φ vs us ∧ k vs = true ∧ (ResultVar.cell c t :: l).length = us.length ∧ ∀ (i : Nat) (x : ResultVar) (u : Value), (ResultVar.cell c t :: l)[i]? = some x → us[i]? = some u → (readRes a.tmps x).run P w = .ok u w := fun v y hvy hrun hk => by
        obtain ⟨vs, us, g2, g3, g4, g5⟩ := res_sound hY hFI hW hr' hk
        refine ⟨v :: vs, y :: us, ⟨_, _, rfl, hvy, g2⟩, g3, by simp [g4], fun i x u hxx hu => ?_⟩
        cases i with
        | zero =>
          cases hxx; cases hu
          simp only [readRes, hx, asAddr, Sem.run_bind, Sem.run_pure, Result.andThen_ok]
          exact hrun
        | succ i => exact g5 i x u (by simpa using hxx) (by simpa using hu)
      cases g with
      | false =>
        obtain ⟨v', ⟨y, hy, hvy⟩, hk⟩ := rdK_true (hW.obj _ _ ho) hl hle h3
        exact fin v' y hvy (by simp only [loadVar, Sem.run_bind, run_agg hag, Result.andThen_ok, Bool.false_eq_true, if_false]; exact load_run hy) hk
      | true =>
        obtain ⟨vs, hlen, hk, us, hvu, hc⟩ := rdsK_true (hW.obj _ _ ho) hl _ _ _ hle h3
        have hul := VRL_len hvu
        exact fin (.agg vs) (.agg us.toArray) (VR_agg.2 ⟨_, rfl, hvu⟩) (by
          simp only [loadVar, Sem.run_bind, Sem.run_pure, run_agg hag, Result.andThen_ok, if_true, run_size hsz, loadCells_run (P := P) hle (by omega : s = us.length) hc]) hk
    · cases hc

theorem ret_sound (hY : X.ty = tysOf P) {φ : Emb} {fr : Fr} {a : Act} {h : Heap} {w : World} (hFI : FI X φ fr a) (hW : WR φ h w) {fn : Func} {res : List CRes} {k : KH} (hc : cRes X fn.results.toList = some res)
    (hr : resK res fr h (oneOrTup fun v => k v h) = true) : ∃ v u, k v h = true ∧ VR φ v u ∧ (results fn a.tmps).run P w = .ok u w := by
  obtain ⟨vs, us, h1, h2, h3, h4⟩ := res_sound hY hFI hW hc hr
  have hrun : (fn.results.mapM (readRes a.tmps)).run P w = .ok us.toArray w := by
    rw [Array.mapM_eq_mapM_toList]
    show (List.toArray <$> fn.results.toList.mapM (readRes a.tmps)).run P w = _
    rw [map_eq_pure_bind]
    simp only [Sem.run_bind, mapM_run (readRes a.tmps) w h3 h4, Result.andThen_ok, Sem.run_pure]
  have hres : (results fn a.tmps).run P w = .ok (if h : us.toArray.size = 1 then us.toArray[0] else .tuple us.toArray) w := by
    rw [results_eq]; simp only [Sem.run_bind, hrun, Result.andThen_ok, Sem.run_pure]
  cases vs with
  | nil =>
    have : us = [] := h1
    subst this
    exact ⟨_, _, h2, VR_tup.2 ⟨#[], rfl, rfl⟩, hres⟩
  | cons v vs =>
    obtain ⟨u, us', rfl, h5, h6⟩ := h1
    cases vs with
    | nil =>
      have : us' = [] := h6
      subst this
      exact ⟨v, u, h2, h5, hres⟩
    | cons v2 vs =>
      obtain ⟨u2, us2, rfl, h7, h8⟩ := h6
      refine ⟨_, .tuple (u :: u2 :: us2).toArray, h2, VR_tup.2 ⟨_, rfl, u, _, rfl, h5, u2, _, rfl, h7, h8⟩, ?_⟩
      rw [hres, dif_neg (by simp)]
end

/-- A function's body, where what it calls answers as is said. -/
theorem body_sound {P : Program} (hm : P.follows .mixedOrders = true) {eqs : List Nat} (hQ : ∀ t ∈ eqs, EqOK P t) (hN : ∀ (f : Nat) (fn : Func), P.funcs[f]? = some fn → fn.body ≠ none → fn.name ≠ "runtime.NumGoroutine")
    {call : Nat → List AV → Heap → KH → Bool} (hC : CallOK P call) (hL : LinC call) {f : Nat} {args : List AV} {h : Heap} {k : KH}
    (hr : @Option.rec CFunc (fun _ => Bool) false (fun fn => exec call fn.body (T.ofList args 0 .e) h (retK fn.res k)) (tabOf (tysOf P) eqs (funsOf P) f) = true) :
    (∀ args' w, (callFunc f args').run P w = .ok (.enter f args') w) ∧
    ∀ φ w M (args' : Array Value), VRL φ args args'.toList → WR φ h w → Fresh φ h.next M → (∀ v h', k v h' = true → h'.next ≤ M) →
      Calls P f args' w fun e w' => ∃ v h' ψ u, k v h' = true ∧ e = .returned u ∧ VR ψ v u ∧ WR ψ h' w' ∧ Stp φ h.next w ψ h'.next w' := by
  cases ht : tabOf (tysOf P) eqs (funsOf P) f with
  | none => rw [ht] at hr; cases hr
  | some cf =>
    rw [ht] at hr
    have ht : @Option.rec Func (fun _ => Option CFunc) none (fun f => cFunc (tysOf P) eqs f) ((funsOf P).get f) = some cf := ht
    cases hg : (funsOf P).get f with
    | none => rw [hg] at ht; cases ht
    | some fn =>
      rw [hg] at ht
      have ht : cFunc (tysOf P) eqs fn = some cf := ht
      have hf := funs_get hg
      unfold cFunc at ht
      split at ht
      · rename_i c hb
        split at ht
        · rename_i res hres
          cases ht
          let X : CX := ⟨tysOf P, eqs, lvOf c fn.results.toList, [], fn.ntmps⟩
          have g : Good P X call := ⟨rfl, hQ, hC, hL⟩
          refine ⟨fun args' w => ?_, fun φ w M args' hargs hW hF hM => ?_⟩
          · have hname := hN f fn hf (by rw [hb]; simp)
            simp [callFunc, hf, hb, hname]
          · refine calls_of_wp hf hb ?_
            have hFI : FI X φ (T.ofList args 0 .e) { tmps := args' ++ Array.replicate (fn.ntmps - args'.size) undef, defers := [] } := by
              refine ⟨⟨fun t j hj => (by cases hj), fun t _ v hv => ?_⟩, ?_, rfl⟩
              · have hv : (T.ofList args 0 T.e).get t = some v := hv
                rw [get_ofList] at hv
                split at hv
                · rw [Nat.sub_zero] at hv
                  obtain ⟨u, hu, hvu⟩ := VRL_get hargs t v hv
                  have hu' : args'[t]? = some u := by simpa using hu
                  have hlt := (Array.getElem?_eq_some_iff.1 hu').1
                  have : (args' ++ Array.replicate (fn.ntmps - args'.size) undef).getD t undef = u := by
                    rw [Array.getD_eq_getD_getElem?, Array.getElem?_append_left hlt, hu']; rfl
                  rw [this]; exact hvu
                · cases hv
              · show fn.ntmps ≤ _
                simp only [Array.size_append, Array.size_replicate]; omega
            refine code_ok g hm c _ h (retK res k) φ _ w M _ hFI hW hF (fun x fr h' hk => ?_) hr fun x fr h' ψ a' w' hk hfi hW' hS => ?_
            · cases x with
              | nrm => obtain ⟨v, hv⟩ : ∃ v, k v h' = true := by
                         rcases lin_res fr h' res with f1 | ⟨l, f1⟩
                         · have := (f1 _).symm.trans hk; cases this
                         · have h1 : oneOrTup (fun v => k v h') l = true := (f1 _).symm.trans hk
                           cases l with
                           | nil => exact ⟨_, h1⟩
                           | cons v l => cases l <;> exact ⟨_, h1⟩
                       exact hM v h' hv
              | exit i => cases hk
              | ret => obtain ⟨v, hv⟩ : ∃ v, k v h' = true := by
                         rcases lin_res fr h' res with f1 | ⟨l, f1⟩
                         · have := (f1 _).symm.trans hk; cases this
                         · have h1 : oneOrTup (fun v => k v h') l = true := (f1 _).symm.trans hk
                           cases l with
                           | nil => exact ⟨_, h1⟩
                           | cons v l => cases l <;> exact ⟨_, h1⟩
                       exact hM v h' hv
            · have key : resK res fr h' (oneOrTup fun v => k v h') = true → a'.defers = [] ∧ ∃ v, (results fn a'.tmps).run P w' = .ok v w' ∧ ∃ v_1 h' ψ u, k v_1 h' = true ∧ Ending.returned v = .returned u ∧ VR ψ v_1 u ∧ WR ψ h' w' ∧ Stp φ h.next w ψ h'.next w' := fun hk => by
                obtain ⟨v, u, hv, hvu, hrun⟩ := ret_sound (P := P) rfl hfi hW' hres hk
                exact ⟨hfi.defers, u, hrun, v, h', ψ, u, hv, rfl, hvu, hW', hS⟩
              cases x with
              | nrm => exact key hk
              | exit i => cases hk
              | ret => exact key hk
        · cases ht
      · cases ht

/-- Calls answer as the evaluator says. -/
theorem call_sound {P : Program} (hm : P.follows .mixedOrders = true) {eqs : List Nat} (hQ : ∀ t ∈ eqs, EqOK P t) (hN : ∀ (f : Nat) (fn : Func), P.funcs[f]? = some fn → fn.body ≠ none → fn.name ≠ "runtime.NumGoroutine") :
    ∀ n, CallOK P (callF (tabOf (tysOf P) eqs (funsOf P)) n)
  | 0 => fun f args h k hr => by cases hr
  | n + 1 => fun f args h k hr => body_sound hm hQ hN (call_sound hm hQ hN n) (lin_callF _ n) hr
end Go.AE
