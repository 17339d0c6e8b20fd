/- Regions in the text's order. -/
import Derived.Test.YtphkigpngblniaaGreatAbH
namespace Go.Ab
set_option linter.unusedSectionVars false
variable [Rho] {P : Program} {μ : Mu}

theorem TR.mono {μ' : Mu} {t : Temps} {tmps : Array Value} (he : ∀ o v g, μ o v = some g → μ' o v = some g) (h : TR μ t tmps) : TR μ' t tmps := fun i => (h i).mono he

theorem TR.put {t : Temps} {a : Act} {r : AV} {y : Value} (h : TR μ t a.tmps) (hv : VR μ r y) (dst : Option Tmp) (hd : ∀ d, dst = some d → d < a.tmps.size) : TR μ (putT t dst r) (a.put dst y).tmps := by
  cases dst with
  | none => exact h
  | some d =>
    intro i
    have hlt := hd d rfl
    simp only [putT, tget, Act.put]
    rw [Tr.get_set]
    by_cases e : i = d
    · subst e
      rw [if_pos rfl]
      simpa [hlt] using hv
    · rw [if_neg e]
      have := h i
      unfold tget at this
      have e2 : (a.tmps.setIfInBounds d y).getD i undef = a.tmps.getD i undef := by
        simp only [Array.getD_eq_getD_getElem?]
        rw [Array.getElem?_setIfInBounds_ne (fun x => e x.symm)]
      rw [e2]; exact this

theorem put_size (a : Act) (dst : Option Tmp) (y : Value) : (a.put dst y).tmps.size = a.tmps.size := by cases dst <;> simp [Act.put]

theorem put_defers (a : Act) (dst : Option Tmp) (y : Value) : (a.put dst y).defers = a.defers := by cases dst <;> rfl

theorem guardA_eq {ops : Array Oper} {t : Temps} {a : Act} (h : TR μ t a.tmps) (j : Nat) : guardA ops t j = yielded ops a.tmps j := by
  unfold guardA yielded
  cases hj : ops[j]? with
  | none => simp
  | some o =>
    cases hd : o.dst with
    | none => simp [hd]
    | some d =>
      have hv := h d
      unfold tget at hv
      simp only [Option.bind_some, hd]
      have key : ∀ (x : AV), VR μ x (a.tmps.getD d undef) → (∀ b, x ≠ .bool b) → ∀ b, a.tmps[d]? ≠ some (.bool b) := by
        intro x hx hnb b hb
        have e : a.tmps.getD d undef = .bool b := by simp [Array.getD_eq_getD_getElem?, hb]
        rw [e] at hx
        cases x <;> simp [VR, VR0, CR] at hx
        exact hnb _ rfl
      have none' : ∀ (x : AV), VR μ x (a.tmps.getD d undef) → (∀ b, x ≠ .bool b) → (match a.tmps[d]? with | some (.bool b) => some b | _ => none) = none := by
        intro x hx hnb
        split
        · rename_i b hb; exact absurd hb (key x hx hnb b)
        · rfl
      cases hg : t.get d with
      | none =>
        rw [hg] at hv
        exact (none' _ hv (fun b e => by cases e)).symm
      | some x =>
        rw [hg] at hv
        cases x with
        | bool b =>
          have e := VR.bool hv
          have : a.tmps[d]? = some (.bool b) := by
            cases hc : a.tmps[d]? with
            | none => simp [Array.getD_eq_getD_getElem?, hc, undef] at e
            | some u => simp [Array.getD_eq_getD_getElem?, hc] at e; rw [e]
          simp [this]
        | _ => exact (none' _ hv (fun b e => by cases e)).symm

theorem wantedA_eq {ops : Array Oper} {t : Temps} {a : Act} (h : TR μ t a.tmps) (o : Oper) : wantedA ops t o = Region.wanted o (yielded ops a.tmps) := by
  unfold wantedA Region.wanted
  cases o.guard with
  | none => rfl
  | some p =>
    obtain ⟨j, want⟩ := p
    simp only [guardA_eq h]
    cases yielded ops a.tmps j with
    | none => rfl
    | some b => simp only [boolEq_eq]; cases b <;> cases want <;> rfl

/-- The frame, and the world, that an abstract state stands for. -/
structure At (n : Nat) (μ : Mu) (t : Temps) (s : St) (a : Act) (w : World) : Prop where
  tr : TR μ t a.tmps
  size : a.tmps.size = n
  defers : a.defers = []
  rel : R μ s w

structure Goes (b : Bar) (n : Nat) (μ : Mu) (w : World) (t' : Temps) (s' : St) (μ' : Mu) (a' : Act) (w' : World) : Prop where
  ext : Ext μ μ' w
  here : At n μ' t' s' a' w'
  kept : Kept b μ w w'

theorem Goes.refl {b : Bar} {n : Nat} {t : Temps} {s : St} {a : Act} {w : World} (h : At n μ t s a w) : Goes b n μ w t s μ a w := ⟨Ext.refl _ _, h, Kept.refl _ _ _⟩

theorem Goes.trans {b : Bar} {n : Nat} {μ1 μ2 : Mu} {t1 t2 : Temps} {s1 s2 : St} {a1 a2 : Act} {w w1 w2 : World} (h : Goes b n μ w t1 s1 μ1 a1 w1) (h1 : Goes b n μ1 w1 t2 s2 μ2 a2 w2) : Goes b n μ w t2 s2 μ2 a2 w2 :=
  ⟨h.ext.trans h1.ext h.kept.size, h1.here, h.kept.trans h.ext h1.kept⟩

/-- One operation that is wanted. -/
theorem evOp_sound {call : Bar → FuncId → List AV → St → Option (AV × St)} (hcall : CallS P call) {b : Bar} {n : Nat} {s s' : St} {t : Temps} {a : Act} {o : Oper} {r : AV} {w : World}
    (h : evOp P call b t s o.op = some (r, s')) (hA : At n μ t s a w) (hd : ∀ d, o.dst = some d → d < n) {next : Act → World → Prop} {Q : Exit → Act → World → Prop}
    (hn : ∀ μ' a' w', Goes b n μ w (putT t o.dst r) s' μ' a' w' → next a' w') : o.wp P a w next Q := by
  have hd' : ∀ d, o.dst = some d → d < a.tmps.size := fun d e => by rw [hA.size]; exact hd d e
  have fin : ∀ {y μ' w'}, Post b μ w s' r y μ' w' → next (a.put o.dst y) w' := fun {y μ' w'} hp =>
    hn μ' _ w' ⟨hp.ext, ⟨(hA.tr.mono hp.ext.old).put hp.val _ hd', by rw [put_size]; exact hA.size, by rw [put_defers]; exact hA.defers, hp.rel⟩, hp.kept⟩
  unfold evOp at h
  split at h
  · split at h
    · rename_i v hv
      cases h
      obtain ⟨y, e, hr⟩ := evP_sound hv hA.tr w
      exact wp_value e (fin ⟨Ext.refl _ _, hA.rel, hr, Kept.refl _ _ _⟩)
    · cases h
  · split at h
    · rename_i q v hv
      cases h
      obtain ⟨y, e, hr⟩ := evL_sound hv hA.rel hA.tr
      exact wp_value e (fin ⟨Ext.refl _ _, hA.rel, hr, Kept.refl _ _ _⟩)
    · cases h
  · split at h
    · rename_i ob mk hv
      cases h
      obtain ⟨y, μ', w', e, hp⟩ := evAl_sound hv hA.rel hA.tr (hA.rel.next _ (Nat.le_refl _)) (Nat.lt_succ_self s.n) (Nat.le_succ _) b
      exact wp_value e (fin hp)
    · cases h
  · exact evE_sound hcall h hA.rel hA.tr fun y μ' w' hp => fin hp

/-- One that is not. -/
theorem skip_sound {b : Bar} {n : Nat} {s : St} {t : Temps} {a : Act} {o : Oper} {w : World} (hA : At n μ t s a w) (hd : ∀ d, o.dst = some d → d < n) :
    Goes b n μ w (putT t o.dst undefA) s μ (a.put o.dst undef) w :=
  ⟨Ext.refl _ _, ⟨hA.tr.put VR.undefA _ fun d e => by rw [hA.size]; exact hd d e, by rw [put_size]; exact hA.size, by rw [put_defers]; exact hA.defers, hA.rel⟩, Kept.refl _ _ _⟩

theorem evOps_sound {call : Bar → FuncId → List AV → St → Option (AV × St)} (hcall : CallS P call) {b : Bar} {n : Nat} {ops : Array Oper} {Q : Exit → Act → World → Prop} :
    ∀ (os : List Oper) (k : Nat) {μ : Mu} {s s' : St} {t t' : Temps} {a : Act} {w : World}, ops.toList.drop k = os → evOps P call b ops os t s = some (t', s') → At n μ t s a w → (∀ o ∈ os, ∀ d, o.dst = some d → d < n) →
      (∀ μ' a' w', Goes b n μ w t' s' μ' a' w' → Q .normal a' w') → wpOps P ops Q ((List.range ops.size).drop k) a w
  | [], k, μ, s, s', t, t', a, w, hk, h, hA, _, hQ => by
    have hlen : ops.size ≤ k := by simpa using hk
    have : (List.range ops.size).drop k = [] := by simpa using hlen
    rw [this]
    simp only [evOps] at h
    cases h
    exact hQ μ a w (Goes.refl hA)
  | o :: os, k, μ, s, s', t, t', a, w, hk, h, hA, hd, hQ => by
    have hlt : k < ops.size := by
      rcases Nat.lt_or_ge k ops.size with h1 | h1
      · exact h1
      · have : ops.toList.drop k = [] := by simpa using h1
        rw [this] at hk; cases hk
    have hko : ops[k]? = some o := by
      have := congrArg List.head? hk
      simpa [List.head?_drop] using this
    have hk' : ops.toList.drop (k + 1) = os := by
      have := congrArg List.tail hk
      simpa [List.tail_drop] using this
    have hr : (List.range ops.size).drop k = k :: (List.range ops.size).drop (k + 1) := by
      rw [List.drop_eq_getElem_cons (by simpa using hlt)]; simp
    rw [hr]
    simp only [wpOps, hko]
    simp only [evOps] at h
    rw [wantedA_eq hA.tr, cond_eq_ite] at h
    split at h
    · rename_i hw
      rw [if_pos hw]
      split at h
      · rename_i v s1 hv
        left
        refine evOp_sound hcall hv hA (hd o (by simp)) fun μ1 a1 w1 hg => ?_
        exact evOps_sound hcall os (k + 1) hk' h hg.here (fun o' ho' => hd o' (by simp [ho'])) fun μ2 a2 w2 hg2 => hQ _ _ _ (hg.trans hg2)
      · cases h
    · rename_i hw
      rw [if_neg hw]
      have hg := skip_sound (b := b) (o := o) hA (hd o (by simp))
      exact evOps_sound hcall os (k + 1) hk' h hg.here (fun o' ho' => hd o' (by simp [ho'])) fun μ2 a2 w2 hg2 => hQ _ _ _ (hg.trans hg2)

end Go.Ab
