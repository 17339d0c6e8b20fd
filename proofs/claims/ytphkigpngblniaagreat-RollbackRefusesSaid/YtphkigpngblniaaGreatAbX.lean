/- Operations without memory: two operands, one operand, bounds, slices, literals of structs. -/
import Derived.Test.YtphkigpngblniaaGreatAbW
namespace Go.Ab
set_option linter.unusedSectionVars false
variable [Rho] {P : Program} {μ : Mu}

theorem eqable_shape {x : AV} {v : Value} (h : eqable x = true) (hx : VR μ x v) :
    (∃ b, v = .bool b) ∨ (∃ p, v = .pointer p) ∨ (∃ a n c, v = .slice a n c) ∨ (∃ m, v = .map m) ∨ (∃ f a c, v = .func f a c) ∨ v = .nilFunc := by
  have h1 : x.one = true := by cases x <;> simp [eqable] at h <;> rfl
  have := hx.toC h1
  cases x <;> simp [eqable] at h <;> cases v <;> simp only [CR] at this <;> simp

theorem run_eq_other {t : TypeId} {vx vy : Value} (hv : (∃ b, vx = .bool b) ∨ (∃ p, vx = .pointer p) ∨ (∃ a n c, vx = .slice a n c) ∨ (∃ m, vx = .map m) ∨ (∃ f a c, vx = .func f a c) ∨ vx = .nilFunc)
    {b : Bool} {w : World} (h : (Op.equal t vx vy).run P w = .ok b w) (x y : Operand) (n : Bool) :
    (do eqGuard (if n then .neq else .eql) t x y vx vy; binOp (if n then .neq else .eql) t vx vy : Sem Value).run P w = .ok (.bool (if n then !b else b)) w := by
  have hg : eqGuard (if n then .neq else .eql) t x y vx vy = pure () := by
    rcases hv with ⟨_, rfl⟩ | ⟨_, rfl⟩ | ⟨_, _, _, rfl⟩ | ⟨_, rfl⟩ | ⟨_, _, _, rfl⟩ | rfl <;> cases n <;> rfl
  rw [hg]
  have e : (binOp (if n then .neq else .eql) t vx vy).run P w = .ok (.bool (if n then !b else b)) w := by
    rcases hv with ⟨_, rfl⟩ | ⟨_, rfl⟩ | ⟨_, _, _, rfl⟩ | ⟨_, rfl⟩ | ⟨_, _, _, rfl⟩ | rfl <;> cases n <;> cases vy <;> simp [binOp, h]
  simpa using e

theorem evBin0_sound {op : BinOp} {t : TypeId} {x y r : AV} {vx vy : Value} (h : evBin0 P op t x y = some r) (hx : VR μ x vx) (hy : VR μ y vy) (xo yo : Operand) (w : World) :
    ∃ v, (do eqGuard op t xo yo vx vy; binOp op t vx vy : Sem Value).run P w = .ok v w ∧ VR μ r v := by
  unfold evBin0 at h
  split at h
  · rename_i k a k' c
    rw [hx.int, hy.int]
    have hg : eqGuard op t xo yo (.int k a) (.int k' c) = pure () := by cases op <;> rfl
    rw [hg]
    simp only [pure_bind]
    split at h
    · rw [cond_eq_ite] at h
      split at h
      · cases h
      · rename_i hc
        cases h
        have hc' : ¬ c < 0 := by simpa [intLt_eq] using hc
        exact ⟨_, by simp [binOp, Op.shift, hc']; rfl, VR.ofC (by simp [CR, wrapA_eq])⟩
    · rw [cond_eq_ite] at h
      split at h
      · cases h
      · rename_i hc
        cases h
        have hc' : ¬ c < 0 := by simpa [intLt_eq] using hc
        exact ⟨_, by simp [binOp, Op.shift, hc']; rfl, VR.ofC (by simp [CR])⟩
    · rename_i h1 h2
      rw [cond_eq_ite] at h
      split at h
      · rename_i hk
        rw [kindEq_eq] at hk
        subst hk
        obtain ⟨v, e, hr⟩ := run_intBin (P := P) (μ := μ) h t w ⟨h1, h2⟩
        exact ⟨v, e, VR.ofC hr⟩
      · cases h
  · rename_i a c
    rw [hx.str, hy.str]
    have hg : eqGuard op t xo yo (.string a) (.string c) = pure () := by cases op <;> rfl
    rw [hg]
    simp only [pure_bind]
    split at h
    · cases h; exact ⟨_, by simp [binOp, Op.stringOp]; rfl, VR.ofC (by simp [CR])⟩
    · cases h; exact ⟨_, by simp [binOp, Op.stringOp]; rfl, VR.ofC (by simp [CR])⟩
    · rw [cond_eq_ite] at h
      split at h
      · rename_i hs
        cases h
        rw [Nat.ble_eq] at hs
        have : ¬ ((a.size + c.size : Nat) : Int) > IntKind.i64.max := by
          have : IntKind.i64.max = 9223372036854775807 := by decide
          rw [this]; unfold limit at hs; omega
        refine ⟨.string (a ++ c), ?_, VR.ofC (by simp [CR])⟩
        simp only [binOp, Op.stringOp]
        rw [if_neg this]; rfl
      · cases h
    · cases h
  · rename_i as cs
    obtain ⟨us, rfl, _⟩ := hx.agg
    obtain ⟨vs, rfl, _⟩ := hy.agg
    rw [cond_eq_ite] at h
    split at h
    · cases h
    · rename_i hgd
      have hgd' : P.eqGuardType P.depth t = false := by simpa using hgd
      split at h
      · split at h
        · rename_i b hb
          cases h
          have := eqA_sound (μ := μ) Op.maxDepth w hb hx hy
          refine ⟨.bool b, ?_, VR.ofC (by simp [CR])⟩
          simp [eqGuard, binOp, Op.equal, hgd', this]
        · cases h
      · split at h
        · rename_i b hb
          cases h
          have := eqA_sound (μ := μ) Op.maxDepth w hb hx hy
          refine ⟨.bool !b, ?_, VR.ofC (by simp [CR])⟩
          simp [eqGuard, binOp, Op.equal, hgd', this]
        · cases h
      · cases h
  · rw [cond_eq_ite] at h
    split at h
    · rename_i he
      have hsh := eqable_shape he hx
      split at h
      · split at h
        · rename_i b hb
          cases h
          exact ⟨_, run_eq_other hsh (eqA_sound Op.maxDepth w hb hx hy) xo yo false, VR.ofC (by simp [CR])⟩
        · cases h
      · split at h
        · rename_i b hb
          cases h
          exact ⟨_, run_eq_other hsh (eqA_sound Op.maxDepth w hb hx hy) xo yo true, VR.ofC (by simp [CR])⟩
        · cases h
      · cases h
    · cases h

theorem evBin_sound {op : BinOp} {t : TypeId} {x y r : AV} {vx vy : Value} (h : evBin P op t x y = some r) (hx : VR μ x vx) (hy : VR μ y vy) (xo yo : Operand) (w : World) :
    ∃ v, (do eqGuard op t xo yo vx vy; binOp op t vx vy : Sem Value).run P w = .ok v w ∧ VR μ r v := by
  unfold evBin at h
  rw [cond_eq_ite] at h
  split at h
  · obtain ⟨k, a, c, r0, rfl, rfl, e1, e2, e3⟩ := symBin_sound h hx hy
    have hg : eqGuard op t xo yo (.int k a) (.int k c) = pure () := by cases op <;> rfl
    rw [hg]
    simp only [pure_bind]
    obtain ⟨v, e, hr⟩ := run_intBin (P := P) (μ := μ) e1 t w e3
    exact ⟨v, e, VR.ofC (e2 v hr)⟩
  · exact evBin0_sound h hx hy xo yo w

theorem evUn_sound {op : UnOp} {x r : AV} {vx : Value} (h : evUn op x = some r) (hx : VR μ x vx) (w : World) : ∃ v, (Op.unary op vx).run P w = .ok v w ∧ VR μ r v := by
  unfold evUn at h
  split at h
  · cases h; rw [hx.int]; exact ⟨_, by simp [Op.unary, Op.intArith]; rfl, VR.ofC (by simp [CR, wrapA_eq])⟩
  · cases h; rw [hx.int]; exact ⟨_, by simp [Op.unary, Op.intBits]; rfl, VR.ofC (by simp [CR, bitsA])⟩
  · cases h; rw [hx.bool]; exact ⟨_, by simp [Op.unary]; rfl, VR.ofC (by simp [CR])⟩
  · cases h

/-! ### slices -/

theorem optX_sound {t : Temps} {a : Act} (ht : TR μ t a.tmps) {x : Option Operand} {v : Option AV} (h : optX t x = some v) :
    (v = none ∧ x.map a.eval = none) ∨ (∃ u c, v = some u ∧ x.map a.eval = some c ∧ VR μ u c) := by
  cases x with
  | none => simp [optX] at h; exact .inl ⟨h.symm, rfl⟩
  | some x =>
    simp only [optX] at h
    split at h
    · rename_i u hu; cases h; exact .inr ⟨u, _, rfl, rfl, evX_sound hu ht⟩
    · cases h

theorem run_sliceBound {u : AV} {c : Value} {hi d n : Nat} (h : bound (some u) hi d = some n) (hu : VR μ u c) {y : Nat} (hy : hi ≤ y) (code : BoundsCode) (w : World) :
    (Instr.sliceBound c y code).run P w = .ok n w ∧ n ≤ hi := by
  unfold bound at h
  split at h
  · rename_i e; cases e
  · rename_i k m e
    cases e
    rw [cond_eq_ite] at h
    split at h
    · rename_i hle
      cases h
      rw [Nat.ble_eq] at hle
      rw [hu.int]
      refine ⟨?_, hle⟩
      have h1 : (0 : Int) ≤ Int.ofNat n := by simp
      have h2 : (Int.ofNat n) ≤ (y : Int) := by simp; omega
      simp [Instr.sliceBound, asIntOf]
      omega
    · cases h
  · cases h

end Go.Ab
