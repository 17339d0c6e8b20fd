/- Operations on numbers, and '=='. -/
import Derived.Test.YtdfdmlbgmmklcaaGreatAbV
namespace Go.Ab
variable {P : Program} {μ : Mu}

/-! ### integers -/

theorem kindEq_eq {a b : IntKind} : kindEq a b = true ↔ a = b := by cases a <;> cases b <;> simp [kindEq]

theorem intEq_eq (a b : Int) : intEq a b = (a == b) := by
  cases a <;> cases b <;> simp only [intEq] <;> rw [Bool.eq_iff_iff] <;> simp <;> omega

theorem intLe_eq (a b : Int) : intLe a b = decide (a ≤ b) := by
  cases a <;> cases b <;> simp only [intLe] <;> rw [Bool.eq_iff_iff] <;> simp <;> omega

theorem intLt_eq (a b : Int) : intLt a b = decide (a < b) := by
  unfold intLt
  rw [intLe_eq, Bool.eq_iff_iff]
  simp

theorem boolEq_eq (a b : Bool) : boolEq a b = (a == b) := by cases a <;> cases b <;> rfl

theorem wrapA_eq (k : IntKind) (n : Int) : wrapA k n = k.wrap n := by
  have e1 : Int.negSucc 9223372036854775807 = -9223372036854775808 := rfl
  have e2 : Int.ofNat 9223372036854775807 = 9223372036854775807 := rfl
  have e3 : Int.ofNat 0 = 0 := rfl
  have e4 : Int.ofNat 18446744073709551615 = 18446744073709551615 := rfl
  have e5 : Int.ofNat 255 = 255 := rfl
  unfold wrapA
  rw [cond_eq_ite]
  split
  · rename_i h
    cases k <;> simp only [inK, intLe_eq, Bool.and_eq_true, decide_eq_true_eq, Bool.false_eq_true, e1, e2, e3, e4, e5] at h <;> unfold IntKind.wrap IntKind.bits IntKind.signed <;> simp <;>
      first | omega | (split <;> omega)
  · rfl

theorem run_intBin {op : BinOp} {k : IntKind} {x y : Int} {r : AV} (h : intBin op k x y = some r) (t : TypeId) (w : World)
    (hs : op ≠ .shl ∧ op ≠ .shr) : ∃ v, (binOp op t (.int k x) (.int k y)).run P w = .ok v w ∧ CR μ r v := by
  cases op <;> simp only [intBin, cond_eq_ite, intEq_eq] at h
  all_goals first
    | (cases h; refine ⟨_, by simp [binOp, Op.intArith]; rfl, ?_⟩; simp [CR, wrapA_eq]; done)
    | (split at h
       · cases h
       · rename_i hy
         cases h
         have hy' : ¬ y = 0 := by simpa using hy
         refine ⟨_, by simp [binOp, Op.intDiv, hy']; rfl, ?_⟩
         simp [CR, wrapA_eq]
         done)
    | (cases h; refine ⟨_, by simp [binOp, Op.intBits]; rfl, ?_⟩; simp [CR, bitsA]; done)
    | (cases h; refine ⟨_, by simp [binOp, Op.intCmp]; rfl, ?_⟩; simp [CR, intLt_eq, intLe_eq, bne]; done)
    | (exact absurd rfl hs.1)
    | (exact absurd rfl hs.2)
    | cases h

/-! ### '==' -/

theorem run_eqFields {d : Nat} (ih : ∀ {t : TypeId} {x y : AV} {b : Bool} {vx vy : Value} (w : World), eqA P d t x y = some b → VR μ x vx → VR μ y vy → (Op.equalIn d t vx vy).run P w = .ok b w)
    {xs ys : Array Value} {as bs : List AV} (hx : All2 (CR μ) as xs.toList) (hy : All2 (CR μ) bs ys.toList) (w : World) :
    ∀ {fs : List Field} {b : Bool}, eqFields P (eqA P d) fs as bs = some b →
      (forIn fs ((none, ()) : Option Bool × Unit) (fun f _ => (
        if f.name ≠ "_" then do
          let x ← part f.type xs f.offset
          let y ← part f.type ys f.offset
          let e ← Op.equalIn d f.type x y
          if (!e) = true then pure (ForInStep.done (some false, ())) else pure (ForInStep.yield (none, ()))
        else pure (ForInStep.yield (none, ())) : Sem (ForInStep (Option Bool × Unit))))).run P w = .ok (if b then (none, ()) else (some false, ())) w
  | [], b, h => by
    simp only [eqFields] at h; cases h
    simp
  | f :: fs, b, h => by
    simp only [eqFields, cond_eq_ite] at h
    split at h
    · cases h
    · rename_i hn
      split at h
      · rename_i x y hxp hyp
        obtain ⟨vx, e1, r1⟩ := partA_sound hxp hx w
        obtain ⟨vy, e2, r2⟩ := partA_sound hyp hy w
        have hn' : f.name ≠ "_" := by simpa using hn
        split at h
        · rename_i he
          have e3 := ih w he (VR.of0 r1) (VR.of0 r2)
          have e4 := run_eqFields ih hx hy w h
          simp only [List.forIn_cons, Sem.run_bind, hn', ne_eq, not_false_eq_true, if_true, e1, e2, e3, Result.andThen_ok, Bool.not_true, Bool.false_eq_true, if_false, Sem.run_pure]
          exact e4
        · rename_i he
          cases h
          have e3 := ih w he (VR.of0 r1) (VR.of0 r2)
          simp [List.forIn_cons, hn', e1, e2, e3]
        · cases h
      · cases h

theorem eqA_sound : ∀ (d : Nat) {t : TypeId} {x y : AV} {b : Bool} {vx vy : Value} (w : World), eqA P d t x y = some b → VR μ x vx → VR μ y vy → (Op.equalIn d t vx vy).run P w = .ok b w
  | 0, _, _, _, _, _, _, _, h, _, _ => by simp [eqA] at h
  | d + 1, t, x, y, b, vx, vy, w, h, hx, hy => by
    simp only [eqA] at h
    split at h
    · rename_i hu
      split at h
      · cases h; rw [hx.bool, hy.bool]; simp [Op.equalIn, run_und hu, boolEq_eq]
      · cases h
    · rename_i k hu
      split at h
      · rw [cond_eq_ite] at h
        split at h
        · rename_i hk; rw [kindEq_eq] at hk; subst hk; cases h; rw [hx.int, hy.int]; simp [Op.equalIn, run_und hu, intEq_eq]
        · cases h
      · cases h
    · rename_i hu
      split at h
      · cases h; rw [hx.str, hy.str]; simp [Op.equalIn, run_und hu]
      · cases h
    · rename_i e hu
      split at h
      · rename_i q
        cases h; rw [hx.nil]
        cases q with
        | none => rw [hy.nil]; simp [Op.equalIn, run_und hu]
        | some l => obtain ⟨a, rfl, _⟩ := hy.ptr; simp [Op.equalIn, run_und hu]
      · cases h; obtain ⟨a, rfl, _⟩ := hx.ptr; rw [hy.nil]; simp [Op.equalIn, run_und hu]
      · cases h
    · rename_i e hu
      split at h
      · rename_i q _ _ _
        cases h; rw [hx.slice_nil.1]
        cases q with
        | none => rw [hy.slice_nil.1]; simp [Op.equalIn, run_und hu]
        | some l => obtain ⟨a, c, rfl, _⟩ := hy.slice; simp [Op.equalIn, run_und hu]
      · cases h; obtain ⟨a, c, rfl, _⟩ := hx.slice; rw [hy.slice_nil.1]; simp [Op.equalIn, run_und hu]
      · cases h
    · rename_i k e hu
      split at h
      · rename_i q
        obtain ⟨r1, rfl, h1, _⟩ := hx.map
        obtain ⟨r2, rfl, h2, h3⟩ := hy.map
        rw [h1 rfl]
        cases h
        cases q with
        | none => rw [h2 rfl]; simp [Op.equalIn, run_und hu]
        | some o => obtain ⟨g, _, hg⟩ := h3 o rfl; rw [hg]; simp [Op.equalIn, run_und hu]
      · obtain ⟨r1, rfl, _, h1⟩ := hx.map
        obtain ⟨r2, rfl, h2, _⟩ := hy.map
        obtain ⟨g, _, hg⟩ := h1 _ rfl
        rw [h2 rfl, hg]
        cases h
        simp [Op.equalIn, run_und hu]
      · cases h
    · rename_i k1 k2 k3 hu
      split at h
      · have e1 := hx.toC rfl
        have e2 := hy.toC rfl
        cases vx <;> simp only [CR] at e1
        cases vy <;> simp only [CR] at e2
        cases h; simp [Op.equalIn, run_und hu]
      · have e1 := hx.toC rfl
        obtain ⟨c, rfl, _⟩ := hy.func
        cases vx <;> simp only [CR] at e1
        cases h; simp [Op.equalIn, run_und hu]
      · have e2 := hy.toC rfl
        obtain ⟨c, rfl, _⟩ := hx.func
        cases vy <;> simp only [CR] at e2
        cases h; simp [Op.equalIn, run_und hu]
      · cases h
    · rename_i fs hu
      split at h
      · rename_i as bs
        rw [cond_eq_ite] at h
        split at h
        · cases h
        · rename_i hst
          obtain ⟨xs, rfl, h1⟩ := hx.agg
          obtain ⟨ys, rfl, h2⟩ := hy.agg
          have key := run_eqFields (fun w => eqA_sound d w) h1 h2 w h
          have hst' : P.stoodInHeld t = false := by simpa using hst
          simp only [Op.equalIn, Sem.run_bind, run_und hu, Result.andThen_ok, run_program, hst', Bool.false_eq_true, if_false]
          rw [← Array.forIn_toList, key]
          cases b <;> simp
      · cases h
    · cases h

end Go.Ab
