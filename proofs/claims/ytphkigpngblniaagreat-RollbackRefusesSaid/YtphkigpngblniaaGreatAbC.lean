/- Code and calls are sound. -/
import Derived.Test.YtphkigpngblniaaGreatAbN
import Derived.LoopN
namespace Go.Ab
set_option linter.unusedSectionVars false
variable [Rho] {P : Program}

def Out.to : Out → Exit
  | .normal => .normal
  | .ret => .ret
  | .exit id => .exit id

theorem evLoop_sound {n : Nat} {b : Bar} {c : Code} {body : Temps → St → Option (Out × Temps × St)}
    (hb : ∀ (t t' : Temps) (s s' : St) (o : Out) (μ : Mu) (a : Act) (w : World) (Q : Exit → Act → World → Prop), body t s = some (o, t', s') → At n μ t s a w → (∀ μ' a' w', Goes b n μ w t' s' μ' a' w' → Q o.to a' w') → c.wp P Q a w) :
    ∀ (fuel : Nat) {t t' : Temps} {s s' : St} {o : Out} {μ : Mu} {a : Act} {w : World} {Q : Exit → Act → World → Prop}, evLoop body fuel t s = some (o, t', s') → At n μ t s a w →
      (∀ μ' a' w', Goes b n μ w t' s' μ' a' w' → Q o.to a' w') → Code.rounds P c Q fuel a w
  | 0, _, _, _, _, _, _, _, _, _, h, _, _ => by simp [evLoop] at h
  | fuel + 1, t, t', s, s', o, μ, a, w, Q, h, hA, hQ => by
    simp only [evLoop] at h
    rw [rounds_succ]
    split at h
    · rename_i t1 s1 hbd
      refine hb _ _ _ _ _ _ _ _ _ hbd hA fun μ1 a1 w1 hg => ?_
      exact evLoop_sound hb fuel h hg.here fun μ2 a2 w2 hg2 => hQ _ _ _ (hg.trans hg2)
    · rename_i hne
      refine hb _ _ _ _ _ _ _ _ _ h hA fun μ1 a1 w1 hg => ?_
      have := hQ _ _ _ hg
      cases o with
      | normal => exact absurd h (hne _ _)
      | ret => exact this
      | exit id => exact this

theorem evCode_sound (hm : P.follows .mixedOrders = true) {call : Bar → FuncId → List AV → St → Option (AV × St)} (hc : CallL call) (hcall : CallS P call) {b : Bar} {n fuel : Nat} :
    ∀ (c : Code) {t t' : Temps} {s s' : St} {o : Out} {μ : Mu} {a : Act} {w : World} {Q : Exit → Act → World → Prop}, evCode P call b fuel c t s = some (o, t', s') → dstsOk n c = true → At n μ t s a w →
      (∀ μ' a' w', Goes b n μ w t' s' μ' a' w' → Q o.to a' w') → c.wp P Q a w := by
  intro c
  induction c with
  | skip => intro t t' s s' o μ a w Q h hd hA hQ; simp only [evCode] at h; cases h; exact wp_skip (hQ _ _ _ (Goes.refl hA))
  | label l => intro t t' s s' o μ a w Q h hd hA hQ; simp only [evCode] at h; cases h; exact wp_label (hQ _ _ _ (Goes.refl hA))
  | exit l => intro t t' s s' o μ a w Q h hd hA hQ; simp only [evCode] at h; cases h; exact wp_exit (hQ _ _ _ (Goes.refl hA))
  | ret => intro t t' s s' o μ a w Q h hd hA hQ; simp only [evCode] at h; cases h; exact wp_ret (hQ _ _ _ (Goes.refl hA))
  | region id ops draw =>
    intro t t' s s' o μ a w Q h hd hA hQ
    have hdst : ∀ o ∈ ops.toList, ∀ d, o.dst = some d → d < n := by
      simp only [dstsOk, List.all_eq_true] at hd
      intro o ho d e
      have := hd o ho
      rw [e] at this
      simpa [Nat.blt_eq] using this
    simp only [evCode, cond_eq_ite] at h
    split at h
    · rename_i hdr
      subst hdr
      split at h
      · rename_i pl hpl
        split at h
        · rename_i t1 s1 hrun
          cases h
          exact evDraw_sound hm hc hcall hpl hrun hA hdst hQ
        · cases h
      · cases h
    · rename_i hdr
      have hdr := eq_false_of_ne_true hdr
      subst hdr
      split at h
      · rename_i t1 s1 hrun
        cases h
        refine wp_region ?_
        have := evOps_sound (Q := Q) hcall ops.toList 0 (by simp) hrun hA hdst hQ
        simpa using this
      · cases h
  | seq x y ihx ihy =>
    intro t t' s s' o μ a w Q h hd hA hQ
    simp only [dstsOk, Bool.and_eq_true] at hd
    simp only [evCode] at h
    refine wp_seq ?_
    split at h
    · rename_i t1 s1 h1
      exact ihx h1 hd.1 hA fun μ1 a1 w1 hg => ihy h hd.2 hg.here fun μ2 a2 w2 hg2 => hQ _ _ _ (hg.trans hg2)
    · rename_i hne
      refine ihx h hd.1 hA fun μ1 a1 w1 hg => ?_
      have := hQ _ _ _ hg
      cases o with
      | normal => exact absurd h (hne _ _)
      | ret => exact this
      | exit id => exact this
  | cond c x y ihx ihy =>
    intro t t' s s' o μ a w Q h hd hA hQ
    simp only [dstsOk, Bool.and_eq_true] at hd
    simp only [evCode] at h
    split at h
    · rename_i hcc
      exact wp_cond_true (VR.bool (evX_sound hcc hA.tr)) (ihx h hd.1 hA hQ)
    · rename_i hcc
      exact wp_cond_false (VR.bool (evX_sound hcc hA.tr)) (ihy h hd.2 hA hQ)
    · cases h
  | block id x ih =>
    intro t t' s s' o μ a w Q h hd hA hQ
    simp only [dstsOk] at hd
    simp only [evCode] at h
    refine wp_block ?_
    split at h
    · rename_i i t1 s1 h1
      refine ih h1 hd hA fun μ1 a1 w1 hg => ?_
      rw [cond_eq_ite] at h
      simp only [Out.to, Exit.inBlock]
      split at h
      · rename_i he
        cases h
        rw [if_pos (Nat.eq_of_beq_eq_true he)]
        exact hQ _ _ _ hg
      · rename_i he
        cases h
        rw [if_neg (fun e => he (by rw [e]; simp))]
        exact hQ _ _ _ hg
    · rename_i hne
      refine ih h hd hA fun μ1 a1 w1 hg => ?_
      have := hQ _ _ _ hg
      cases o with
      | normal => exact this
      | ret => exact this
      | exit id => exact absurd h (hne _ _ _)
  | loop x ih =>
    intro t t' s s' o μ a w Q h hd hA hQ
    simp only [dstsOk] at hd
    simp only [evCode] at h
    exact wp_loop_rounds fuel (evLoop_sound (fun _ _ _ _ _ _ _ _ _ h hA hQ => ih h hd hA hQ) fuel h hA hQ)
  | scope x ih => intro t t' s s' o μ a w Q h; simp [evCode] at h
  | goto l => intro t t' s s' o μ a w Q h; simp [evCode] at h
  | refuse w => intro t t' s s' o μ a w Q h; simp [evCode] at h
  | rangeFunc f p a b _ _ => intro t t' s s' o μ a w Q h; simp [evCode] at h

theorem VR.noTup {μ : Mu} {x : AV} {v : Value} (h : VR μ x v) (hx : noTup x = true) : VR0 μ x v := h.to0 fun vs e => by subst e; simp [Ab.noTup] at hx

theorem All2.noTup {μ : Mu} : ∀ {xs : List AV} {vs : List Value}, All2 (VR μ) xs vs → xs.all Ab.noTup = true → All2 (VR0 μ) xs vs
  | [], [], _, _ => trivial
  | _ :: _, _ :: _, ⟨h1, h2⟩, h => by
    simp only [List.all_cons, Bool.and_eq_true] at h
    exact ⟨h1.noTup h.1, All2.noTup h2 h.2⟩

theorem resultA_sound {μ : Mu} {t : Temps} {s : St} {a : Act} {w : World} {r : ResultVar} {x : AV} (h : resultA P t s r = some x) (ht : TR μ t a.tmps) (hR : R μ s w) :
    ∃ v, (match r with
      | .tmp t => (pure (a.tmps.getD t undef) : Sem Value)
      | .cell c t => do loadVar t (← asAddr (a.tmps.getD c undef))).run P w = .ok v w ∧ VR μ x v := by
  cases r with
  | tmp i =>
    simp only [resultA] at h
    have hv := ht i
    unfold tget at hv
    refine ⟨_, rfl, ?_⟩
    split at h
    · rename_i u hu; rw [hu] at hv; cases h; exact hv
    · rename_i hu; rw [hu] at hv; cases h; exact hv
  | cell c ty =>
    simp only [resultA] at h
    have hv := ht c
    unfold tget at hv
    split at h
    · rename_i l hl
      rw [hl] at hv
      obtain ⟨ad, e, hl'⟩ := VR.ptr hv
      simp only [e, asAddr, Sem.run_bind, Sem.run_pure, Result.andThen_ok, loadVar]
      split at h
      · rename_i hag
        split at h
        · rename_i n hsz
          split at h
          · rename_i cs hcs
            cases h
            obtain ⟨ys, e1, e2, _⟩ := readCells_sound (P := P) hcs hR hl'
            exact ⟨.agg ys, by simp [run_isAgg hag, run_size hsz, e1], VR.of0 (by simpa [VR0] using e2)⟩
          · cases h
        · cases h
      · rename_i hag
        split at h
        · rename_i c' hcs
          cases h
          obtain ⟨y, e1, e2⟩ := readCells_one_cell (P := P) hcs hR hl'
          exact ⟨y, by simp only [run_isAgg hag, Result.andThen_ok, Bool.false_eq_true, if_false, e1], VR.ofC e2⟩
        · cases h
      · cases h
    · cases h

theorem resultsA_sound {μ : Mu} {t : Temps} {s : St} {a : Act} {w : World} (ht : TR μ t a.tmps) (hR : R μ s w) : ∀ {rs : List ResultVar} {xs : List AV}, resultsA P t s rs = some xs →
    ∃ vs : List Value, (rs.mapM (m := Sem) fun
      | .tmp t => pure (a.tmps.getD t undef)
      | .cell c t => do loadVar t (← asAddr (a.tmps.getD c undef))).run P w = .ok vs w ∧ All2 (VR μ) xs vs
  | [], xs, h => by simp only [resultsA] at h; cases h; exact ⟨[], by simp, trivial⟩
  | r :: rs, xs, h => by
    simp only [resultsA] at h
    split at h
    · rename_i x hx
      split at h
      · rename_i xs' hxs
        cases h
        obtain ⟨v, e1, e2⟩ := resultA_sound hx ht hR
        obtain ⟨vs, e3, e4⟩ := resultsA_sound ht hR hxs
        refine ⟨v :: vs, ?_, e2, e4⟩
        simp only [List.mapM_cons, Sem.run_bind]
        rw [show ∀ X : Sem Value, X.run P w = .ok v w → (X.run P w).andThen = fun k => k v w from fun X hX => by rw [hX]; rfl]
        · simp only [e3, Result.andThen_ok, Sem.run_pure]
        · exact e1
      · cases h
    · cases h

theorem packA_sound {μ : Mu} {xs : List AV} {x : AV} {vs : Array Value} (h : packA xs = some x) (ha : All2 (VR μ) xs vs.toList) : VR μ x (if h : vs.size = 1 then vs[0] else .tuple vs) := by
  obtain ⟨vs⟩ := vs
  simp only at ha
  have hl := ha.length
  unfold packA at h
  split at h
  · rename_i v
    cases h
    cases vs with
    | nil => simp at hl
    | cons y ys =>
      cases ys with
      | nil => simpa using ha.1
      | cons _ _ => simp at hl
  · rename_i hne
    rw [cond_eq_ite] at h
    split at h
    · rename_i hall
      cases h
      have : ¬ vs.length = 1 := fun e => by
        cases xs with
        | nil => rw [← hl] at e; simp at e
        | cons y ys =>
          cases ys with
          | nil => exact hne y rfl
          | cons _ _ => rw [← hl] at e; simp at e
      rw [dif_neg (by simpa using this)]
      exact ha.noTup hall
    · cases h

theorem enterT_get : ∀ (vs : List AV) (k : Nat) (t : Temps) (i : Nat), (enterT vs k t).get i = if k ≤ i ∧ i < k + vs.length then vs[i - k]? else t.get i
  | [], k, t, i => by simp [enterT]; omega
  | v :: vs, k, t, i => by
    simp only [enterT, List.length_cons]
    rw [enterT_get vs (k + 1) (t.set k v) i, Tr.get_set]
    by_cases h1 : i = k
    · subst h1; rw [if_pos rfl, if_neg (by omega), if_pos (by omega)]; simp
    · rw [if_neg h1]
      by_cases h2 : k + 1 ≤ i ∧ i < k + 1 + vs.length
      · rw [if_pos h2, if_pos (by omega)]
        obtain ⟨d, hd⟩ : ∃ d, i - k = d + 1 := ⟨i - k - 1, by omega⟩
        have : i - (k + 1) = d := by omega
        rw [hd, this]; rfl
      · rw [if_neg h2, if_neg (by omega)]

theorem enter_TR {μ : Mu} {args : List AV} {vs : List Value} (h : All2 (VR μ) args vs) (n : Nat) : TR μ (enterT args 0 .leaf) (vs.toArray ++ Array.replicate n undef) := by
  intro i
  have hl := h.length
  unfold tget
  rw [enterT_get]
  rw [Array.getD_eq_getD_getElem?, Array.getElem?_append]
  by_cases hi : i < args.length
  · rw [if_pos (by omega), if_pos (by simp; omega)]
    obtain ⟨x, hx⟩ : ∃ x, args[i]? = some x := ⟨args[i], by simp [hi]⟩
    obtain ⟨y, h1, h2⟩ := h.get hx
    simp [hx, h1, h2]
  · rw [if_neg (by omega), if_neg (by simp; omega)]
    have : ((Array.replicate n undef)[i - vs.toArray.size]?).getD undef = undef := by
      rw [Array.getElem?_replicate]; split <;> rfl
    rw [this]
    simp only [Tr.get]
    exact VR.undefA

theorem body_end {b : Bar} {n : Nat} {fn : Func} {μ μ' : Mu} {t1 : Temps} {s1 : St} {a' : Act} {w w' : World} {xs : List AV} {r : AV} {o : Out} (hxs : resultsA P t1 s1 fn.results.toList = some xs) (hx : packA xs = some r)
    (hg : Goes b n μ w t1 s1 μ' a' w') (ho : o = .normal ∨ o = .ret) : bodyPost P fn (fun e w' => ∃ y μ', e = .returned y ∧ Post b μ w s1 r y μ' w') o.to a' w' := by
  obtain ⟨ys, e1, e2⟩ := resultsA_sound hg.here.tr hg.here.rel hxs
  have e3 : (results fn a'.tmps).run P w' = .ok (if h : ys.toArray.size = 1 then ys.toArray[0] else .tuple ys.toArray) w' := by
    unfold results
    rw [Array.mapM_eq_mapM_toList]
    simp only [map_eq_pure_bind, Sem.run_bind]
    rw [show ∀ X : Sem (List Value), X.run P w' = .ok ys w' → (X.run P w').andThen = fun k => k ys w' from fun X hX => by rw [hX]; rfl]
    · simp
    · exact e1
  have e4 := packA_sound hx (vs := ys.toArray) (by simpa using e2)
  have fin : a'.defers = [] ∧ ∃ v, (results fn a'.tmps).run P w' = .ok v w' ∧ ∃ y μ', Ending.returned v = .returned y ∧ Post b μ w s1 r y μ' w' :=
    ⟨hg.here.defers, _, e3, _, μ', rfl, hg.ext, hg.here.rel, e4, hg.kept⟩
  rcases ho with rfl | rfl
  · exact fin
  · exact fin

theorem evBody_sound (hm : P.follows .mixedOrders = true) {call : Bar → FuncId → List AV → St → Option (AV × St)} (hc : CallL call) (hcall : CallS P call) {b : Bar} {f : FuncId} {fn : Func} {fuel : Nat} {args : List AV} {s s' : St} {r : AV}
    (hfn : P.funcs[f]? = some fn) (h : evBody P call b fuel fn args s = some (r, s')) {μ : Mu} {w : World} {vs : List Value} (hR : R μ s w) (hv : All2 (VR μ) args vs) :
    Calls P f vs.toArray w (fun e w' => ∃ y μ', e = .returned y ∧ Post b μ w s' r y μ' w') := by
  unfold evBody at h
  split at h
  · cases h
  · rename_i c hbd
    rw [cond_eq_ite] at h
    split at h
    · rename_i hok
      simp only [Bool.and_eq_true] at hok
      have hlen := Nat.le_of_ble_eq_true hok.2
      split at h
      · rename_i t1 s1 hcd
        have key : ∃ o, evCode P call b fuel c (enterT args 0 .leaf) s = some (o, t1, s1) ∧ (o = .normal ∨ o = .ret) := by
          split at hcd
          · rename_i h1; cases hcd; exact ⟨_, h1, .inl rfl⟩
          · rename_i h1; cases hcd; exact ⟨_, h1, .inr rfl⟩
          · cases hcd
        obtain ⟨o, h1, ho⟩ := key
        split at h
        · rename_i xs hxs
          split at h
          · rename_i x hx
            cases h
            have hsz : vs.length = args.length := hv.length.symm
            refine calls_of_wp hfn hbd (evCode_sound hm hc hcall c h1 hok.1 (μ := μ) ⟨?_, ?_, rfl, hR⟩ fun μ' a' w' hg => ?_)
            · exact enter_TR hv _
            · simp; omega
            · exact body_end hxs hx hg ho
          · cases h
        · cases h
      · cases h
    · cases h

/-- Of answers of their own: they are right. -/
def PrimsS (P : Program) (pr : Prims) : Prop := ∀ call, CallL call → CallS P call → ∀ f p, pr call f = some p → ∀ b args s r s', p b args s = some (r, s') →
  ∀ (μ : Mu) (w : World) (vs : List Value), R μ s w → All2 (VR μ) args vs → Calls P f vs.toArray w (fun e w' => ∃ y μ', e = .returned y ∧ Post b μ w s' r y μ' w')

theorem evCall_sound (hm : P.follows .mixedOrders = true) {pr : Prims} (hl : PrimsL pr) (hs : PrimsS P pr) (loops : Nat) : ∀ n, CallS P (evCall P pr loops n)
  | 0 => fun _ _ _ _ _ _ h => by simp [evCall] at h
  | n + 1 => by
    have ih := evCall_sound hm hl hs loops n
    have il := evCall_eff (P := P) hl loops n
    intro b f args s r s' h μ w vs hR hv
    simp only [evCall] at h
    split at h
    · rename_i p hpr
      exact hs _ il ih f p hpr b args s r s' h μ w vs hR hv
    · split at h
      · rename_i fn hfn
        exact evBody_sound hm il ih hfn h hR hv
      · cases h

end Go.Ab
