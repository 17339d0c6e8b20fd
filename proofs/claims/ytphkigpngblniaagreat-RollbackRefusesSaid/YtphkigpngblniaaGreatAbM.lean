/- What an operation does hangs on the temporaries that it looks at, no more. -/
import Derived.Test.YtphkigpngblniaaGreatAbK
namespace Go.Ab
set_option linter.unusedSectionVars false
variable [Rho] {P : Program}

theorem evX_put {t : Temps} {d : Option Tmp} {v : AV} {x : Operand} (h : ∀ e, d = some e → x ≠ .tmp e) : evX (putT t d v) x = evX t x := by
  cases d with
  | none => rfl
  | some d =>
    cases x with
    | tmp i =>
      have : i ≠ d := fun e => h d rfl (e ▸ rfl)
      simp only [evX, putT]
      rw [Tr.get_set_other _ _ _ _ this]
    | _ => rfl

theorem evXs_congr {t t' : Temps} : ∀ {xs : List Operand}, (∀ x ∈ xs, evX t x = evX t' x) → evXs t xs = evXs t' xs
  | [], _ => rfl
  | x :: xs, h => by
    simp only [evXs]
    rw [h x (by simp), evXs_congr (xs := xs) fun y hy => h y (by simp [hy])]

theorem evParts_congr {t t' : Temps} : ∀ {ps : List (Nat × Operand)}, (∀ p ∈ ps, evX t p.2 = evX t' p.2) → evParts t ps = evParts t' ps
  | [], _ => rfl
  | (i, x) :: xs, h => by
    simp only [evParts]
    rw [h (i, x) (by simp), evParts_congr (ps := xs) fun y hy => h y (by simp [hy])]

theorem optX_congr {t t' : Temps} {x : Option Operand} (h : ∀ y, x = some y → evX t y = evX t' y) : optX t x = optX t' x := by
  cases x with
  | none => rfl
  | some y => simp only [optX]; rw [h y rfl]

theorem evP_congr {t t' : Temps} {o : Op} (h : ∀ x ∈ o.operands, evX t x = evX t' x) : evP P t o = evP P t' o := by
  cases o <;> simp only [Op.operands] at h <;> simp only [evP]
  case build ty ps => rw [evParts_congr (t := t) (t' := t') fun p hp => h p.2 (by simp only [List.mem_toArray, List.mem_map]; exact ⟨p, hp, rfl⟩)]
  case makeFunc fn first captured => rw [evXs_congr (t := t) (t' := t') fun x hx => h x (by simp at hx ⊢; exact .inr hx)]
  case slice ty x lo hi mx =>
    rw [h x (by simp), optX_congr (t := t) (t' := t') (x := lo) fun y e => h y (by simp [e]), optX_congr (t := t) (t' := t') (x := hi) fun y e => h y (by simp [e]), optX_congr (t := t) (t' := t') (x := mx) fun y e => h y (by simp [e])]
  case call c =>
    have hargs := evXs_congr (t := t) (t' := t') (xs := c.args.toList) fun x hx => h x (by simp only [Call.operands]; simp at hx ⊢; exact .inr hx)
    rw [hargs]
  all_goals first | rfl | (simp at h; done) | (simp at h; simp only [h]; done) | skip

theorem argsCongr {t t' : Temps} {c : Call} (h : ∀ x ∈ c.operands, evX t x = evX t' x) : evXs t c.args.toList = evXs t' c.args.toList :=
  evXs_congr fun x hx => h x (by simp only [Call.operands]; simp at hx ⊢; exact .inr hx)

theorem evL_congr {t t' : Temps} {s : St} {o : Op} (h : ∀ x ∈ o.operands, evX t x = evX t' x) : evL P t s o = evL P t' s o := by
  cases o <;> simp only [Op.operands] at h <;> simp only [evL]
  case call c => rw [argsCongr h]
  all_goals first | rfl | (simp at h; done) | (simp at h; simp only [h]; done) | skip

theorem evAl_congr {t t' : Temps} {o : Op} (h : ∀ x ∈ o.operands, evX t x = evX t' x) : evAl P t o = evAl P t' o := by
  cases o <;> simp only [Op.operands] at h <;> simp only [evAl]
  case buildSlice ty n ps => rw [evParts_congr (t := t) (t' := t') fun p hp => h p.2 (by simp only [List.mem_toArray, List.mem_map]; exact ⟨p, hp, rfl⟩)]
  case makeMap ty r =>
    cases r with
    | none => rfl
    | some x => simp only [h x (by simp)]
  all_goals first | rfl | (simp at h; done) | (simp at h; simp only [h]; done) | skip

theorem evE_congr {call : Bar → FuncId → List AV → St → Option (AV × St)} {b : Bar} {t t' : Temps} {s : St} {o : Op} (h : ∀ x ∈ o.operands, evX t x = evX t' x) : evE P call b t s o = evE P call b t' s o := by
  cases o <;> simp only [Op.operands] at h <;> simp only [evE]
  case call c =>
    rw [argsCongr h]
    cases hc : c.callee with
    | value f => simp only [h f (by simp [Call.operands, hc])]
    | invoke r m => rfl
    | builtin f => rfl
  all_goals first | rfl | (simp at h; done) | (simp at h; simp only [h]; done) | skip

/-- The temporaries that it looks at. -/
def sees (ops : Array Oper) (o : Oper) (d : Option Tmp) : Prop := ∃ e, d = some e ∧ e ∈ o.looksAt ops

theorem operand_put {ops : Array Oper} {o : Oper} {t : Temps} {d : Option Tmp} {v : AV} (h : ∀ e, d = some e → e ∉ o.looksAt ops) : ∀ x ∈ o.op.operands, evX (putT t d v) x = evX t x := fun x hx =>
  evX_put fun e he hxe => h e he (by
    subst hxe
    exact List.mem_append_left _ (List.mem_filterMap.2 ⟨.tmp e, by simpa using hx, rfl⟩))

theorem wantedA_put {ops : Array Oper} {o : Oper} {t : Temps} {d : Option Tmp} {v : AV} (h : ∀ e, d = some e → e ∉ o.looksAt ops) : wantedA ops (putT t d v) o = wantedA ops t o := by
  cases d with
  | none => rfl
  | some d =>
    unfold wantedA
    cases hg : o.guard with
    | none => rfl
    | some gw =>
      obtain ⟨g, want⟩ := gw
      have hy : guardA ops (putT t (some d) v) g = guardA ops t g := by
        unfold guardA
        cases ho : ops[g]? with
        | none => rfl
        | some q =>
          cases hq : q.dst with
          | none => simp only [hq]
          | some e =>
            have hne : e ≠ d := fun x => h d rfl (by subst x; simp [Oper.looksAt, hg, ho, hq])
            simp only [putT, hq]
            rw [Tr.get_set_other _ _ _ _ hne]
      simp only [hy]

theorem putT_comm (t : Temps) {d e : Option Tmp} (v u : AV) (h : ∀ x, d = some x → e ≠ some x) : putT (putT t d v) e u = putT (putT t e u) d v := by
  cases d with
  | none => rfl
  | some d =>
    cases e with
    | none => rfl
    | some e =>
      simp only [putT]
      exact Tr.set_comm _ _ _ _ _ (fun x => h d rfl (x ▸ rfl))

end Go.Ab
