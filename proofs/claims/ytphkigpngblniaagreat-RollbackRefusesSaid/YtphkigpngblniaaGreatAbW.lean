/- Operations on numbers, and '=='. -/
import Derived.Test.YtphkigpngblniaaGreatAbV
namespace Go.Ab
set_option linter.unusedSectionVars false
variable [Rho] {P : Program} {μ : Mu}

/-! ### integers -/

theorem kindEq_eq {a b : IntKind} : kindEq a b = true ↔ a = b := by cases a <;> cases b <;> simp [kindEq]

theorem intEq_eq (a b : Int) : intEq a b = (a == b) := by
  cases a <;> cases b <;> simp only [intEq] <;> rw [Bool.eq_iff_iff] <;> simp <;> omega

theorem intLe_eq (a b : Int) : intLe a b = decide (a ≤ b) := by
  cases a <;> cases b <;> simp only [intLe] <;> rw [Bool.eq_iff_iff] <;> simp <;> omega

theorem intLt_eq (a b : Int) : intLt a b = decide (a < b) := by
  unfold intLt
  rw [intLe_eq, Bool.eq_iff_iff]
  simp

theorem boolEq_eq (a b : Bool) : boolEq a b = (a == b) := by cases a <;> cases b <;> rfl

theorem wrapA_eq (k : IntKind) (n : Int) : wrapA k n = k.wrap n := by
  have e1 : Int.negSucc 9223372036854775807 = -9223372036854775808 := rfl
  have e2 : Int.ofNat 9223372036854775807 = 9223372036854775807 := rfl
  have e3 : Int.ofNat 0 = 0 := rfl
  have e4 : Int.ofNat 18446744073709551615 = 18446744073709551615 := rfl
  have e5 : Int.ofNat 255 = 255 := rfl
  unfold wrapA
  rw [cond_eq_ite]
  split
  · rename_i h
    cases k <;> simp only [inK, intLe_eq, Bool.and_eq_true, decide_eq_true_eq, Bool.false_eq_true, e1, e2, e3, e4, e5] at h <;> unfold IntKind.wrap IntKind.bits IntKind.signed <;> simp <;>
      first | omega | (split <;> omega)
  · rfl

theorem run_intBin {op : BinOp} {k : IntKind} {x y : Int} {r : AV} (h : intBin op k x y = some r) (t : TypeId) (w : World)
    (hs : op ≠ .shl ∧ op ≠ .shr) : ∃ v, (binOp op t (.int k x) (.int k y)).run P w = .ok v w ∧ CR μ r v := by
  cases op <;> simp only [intBin, cond_eq_ite, intEq_eq] at h
  all_goals first
    | (cases h; refine ⟨_, by simp [binOp, Op.intArith]; rfl, ?_⟩; simp [CR, wrapA_eq]; done)
    | (split at h
       · cases h
       · rename_i hy
         cases h
         have hy' : ¬ y = 0 := by simpa using hy
         refine ⟨_, by simp [binOp, Op.intDiv, hy']; rfl, ?_⟩
         simp [CR, wrapA_eq]
         done)
    | (cases h; refine ⟨_, by simp [binOp, Op.intBits]; rfl, ?_⟩; simp [CR, bitsA]; done)
    | (cases h; refine ⟨_, by simp [binOp, Op.intCmp]; rfl, ?_⟩; simp [CR, intLt_eq, intLe_eq, bne]; done)
    | (exact absurd rfl hs.1)
    | (exact absurd rfl hs.2)
    | cases h

/-! ### numbers that are not known -/

theorem SE.beq_eq : ∀ {e f : SE}, SE.beq e f = true → e = f
  | .var i, .var j, h => by simp only [SE.beq, Nat.beq_eq] at h; rw [h]
  | .add e o, .add f p, h => by
    simp only [SE.beq, Bool.and_eq_true, intEq_eq, beq_iff_eq] at h
    rw [SE.beq_eq h.1, h.2]
  | .wrap e, .wrap f, h => by simp only [SE.beq] at h; rw [SE.beq_eq h]
  | .rem e m, .rem f n, h => by
    simp only [SE.beq, Bool.and_eq_true, intEq_eq, beq_iff_eq] at h
    rw [SE.beq_eq h.1, h.2]
  | .var _, .add _ _, h | .var _, .wrap _, h | .var _, .rem _ _, h | .add _ _, .var _, h | .add _ _, .wrap _, h | .add _ _, .rem _ _, h => by simp [SE.beq] at h
  | .wrap _, .var _, h | .wrap _, .add _ _, h | .wrap _, .rem _ _, h | .rem _ _, .var _, h | .rem _ _, .add _ _, h | .rem _ _, .wrap _, h => by simp [SE.beq] at h

theorem intBin_cmp {op : BinOp} {k : IntKind} {x y : Int} {b : Bool} (h : symCmp op x y = some b) : intBin op k x y = some (.bool b) := by
  cases op <;> simp only [symCmp] at h <;> cases h <;> rfl

theorem symCmp_shift {op : BinOp} {a b : Int} (e : Int) {r : Bool} (h : symCmp op a b = some r) : symCmp op (e + a) (e + b) = some r := by
  have h1 : intEq (e + a) (e + b) = intEq a b := by rw [intEq_eq, intEq_eq, Bool.eq_iff_iff]; simp
  have h2 : ∀ x y : Int, intLt (e + x) (e + y) = intLt x y := fun x y => by rw [intLt_eq, intLt_eq, Bool.eq_iff_iff]; simp
  have h3 : ∀ x y : Int, intLe (e + x) (e + y) = intLe x y := fun x y => by rw [intLe_eq, intLe_eq, Bool.eq_iff_iff]; simp
  cases op <;> simp only [symCmp, h1, h2, h3] at h ⊢ <;> exact h

theorem symRange_sound {op : BinOp} {lo hi lo' hi' x y : Int} {b : Bool} (h : symRange op lo hi lo' hi' = some b) (h1 : lo ≤ x) (h2 : x ≤ hi) (h3 : lo' ≤ y) (h4 : y ≤ hi') : symCmp op x y = some b := by
  cases op <;> simp only [symRange, cond_eq_ite, intLt_eq, intLe_eq, Bool.or_eq_true, decide_eq_true_eq] at h
  all_goals first
    | cases h
    | (repeat' split at h)
      all_goals first
        | cases h; done
        | (cases h
           simp only [symCmp, intEq_eq, intLt_eq, intLe_eq, Option.some.injEq]
           first
             | (simp; omega)
             | (rw [Bool.eq_iff_iff]; simp; omega))

theorem wrap_in {k : IntKind} {n : Int} (h : inK k n = true) : k.wrap n = n := by
  have := wrapA_eq k n
  unfold wrapA at this
  rw [h] at this
  exact this.symm

theorem inK_mid {k : IntKind} {lo hi n : Int} (h1 : inK k lo = true) (h2 : inK k hi = true) (h3 : lo ≤ n) (h4 : n ≤ hi) : inK k n = true := by
  have e1 : Int.negSucc 9223372036854775807 = -9223372036854775808 := rfl
  have e2 : Int.ofNat 9223372036854775807 = 9223372036854775807 := rfl
  have e3 : Int.ofNat 0 = 0 := rfl
  have e4 : Int.ofNat 18446744073709551615 = 18446744073709551615 := rfl
  have e5 : Int.ofNat 255 = 255 := rfl
  cases k <;> simp only [inK, intLe_eq, Bool.and_eq_true, decide_eq_true_eq, Bool.false_eq_true, e1, e2, e3, e4, e5] at h1 h2 ⊢ <;> omega

theorem symAdd_sound {k : IntKind} {e : SE} {lo hi o : Int} {r : AV} (h : symAdd k e lo hi o = some r) (h1 : lo ≤ e.val) (h2 : e.val ≤ hi) {n : Int} (hn : n = e.val + o) : CR μ r (.int k (wrapA k n)) := by
  unfold symAdd at h
  rw [cond_eq_ite] at h
  split at h
  · rename_i hc
    rw [Bool.and_eq_true] at hc
    cases h
    rw [wrapA_eq, wrap_in (inK_mid hc.1 hc.2 (n := n) (by omega) (by omega)), hn]
    simp [CR, h1, h2]
  · cases h

theorem CR.intKind {x : AV} {v : Value} (h : CR μ x v) (hs : x.isSym = true) : ∃ k e lo hi o, x = .sym k e lo hi o ∧ v = .int k (e.val + o) ∧ lo ≤ e.val ∧ e.val ≤ hi := by
  cases x <;> simp only [AV.isSym] at hs <;> first | cases hs; done | skip
  cases v <;> simp only [CR] at h
  obtain ⟨rfl, rfl, h⟩ := h
  exact ⟨_, _, _, _, _, rfl, rfl, h⟩

/-- What is told of numbers that are not known is right of what they are. -/
theorem symBin_sound {op : BinOp} {x y r : AV} (h : symBin op x y = some r) {vx vy : Value} (hx : VR μ x vx) (hy : VR μ y vy) :
    ∃ k a c r0, vx = .int k a ∧ vy = .int k c ∧ intBin op k a c = some r0 ∧ (∀ v, CR μ r0 v → CR μ r v) ∧ op ≠ .shl ∧ op ≠ .shr := by
  have cmp : ∀ {k : IntKind} {a c : Int} {o : Option Bool}, (∀ b, o = some b → symCmp op a c = some b) → boolO o = some r → ∃ r0, intBin op k a c = some r0 ∧ (∀ v, CR μ r0 v → CR μ r v) ∧ op ≠ .shl ∧ op ≠ .shr := by
    intro k a c o ho hb
    unfold boolO at hb
    split at hb
    · rename_i b
      cases hb
      have := ho b rfl
      refine ⟨_, intBin_cmp this, fun _ h => h, ?_, ?_⟩ <;> (rintro rfl; simp [symCmp] at this)
    · cases hb
  unfold symBin at h
  split at h
  · rename_i k e lo hi o k' c
    rw [cond_eq_ite] at h
    split at h
    · rename_i hk
      rw [kindEq_eq] at hk
      subst hk
      obtain ⟨rfl, h1, h2⟩ := hx.sym
      rw [hy.int]
      refine ⟨k, e.val + o, c, ?_⟩
      split at h
      · exact ⟨_, rfl, rfl, rfl, fun v hv => by
          cases v <;> simp only [CR] at hv
          obtain ⟨rfl, rfl⟩ := hv
          exact symAdd_sound h h1 h2 (by omega), by simp, by simp⟩
      · exact ⟨_, rfl, rfl, rfl, fun v hv => by
          cases v <;> simp only [CR] at hv
          obtain ⟨rfl, rfl⟩ := hv
          exact symAdd_sound h h1 h2 (by omega), by simp, by simp⟩
      · rw [cond_eq_ite] at h
        split at h
        · rename_i hc
          simp only [Bool.and_eq_true, intLe_eq, intLt_eq, decide_eq_true_eq] at hc
          cases h
          refine ⟨_, rfl, rfl, by simp only [intBin, cond_eq_ite, intEq_eq]; rw [if_neg (by simp; omega)], fun v hv => ?_, by simp, by simp⟩
          cases v <;> simp only [CR] at hv
          obtain ⟨rfl, rfl⟩ := hv
          simp only [CR, SE.val, Int.add_zero, true_and]
          exact ⟨Int.tmod_nonneg _ (by omega), by have := Int.tmod_lt_of_pos (e.val + o) hc.2; omega⟩
        · cases h
      · obtain ⟨r0, g⟩ := cmp (k := k) (a := e.val + o) (c := c) (fun b hb => symRange_sound hb (by omega) (by omega) (Int.le_refl _) (Int.le_refl _)) h
        exact ⟨r0, rfl, rfl, g⟩
    · cases h
  · rename_i k' c k e lo hi o
    rw [cond_eq_ite] at h
    split at h
    · rename_i hk
      rw [kindEq_eq] at hk
      subst hk
      obtain ⟨rfl, h1, h2⟩ := hy.sym
      rw [hx.int]
      refine ⟨k, c, e.val + o, ?_⟩
      split at h
      · exact ⟨_, rfl, rfl, rfl, fun v hv => by
          cases v <;> simp only [CR] at hv
          obtain ⟨rfl, rfl⟩ := hv
          exact symAdd_sound h h1 h2 (by omega), by simp, by simp⟩
      · obtain ⟨r0, g⟩ := cmp (k := k) (a := c) (c := e.val + o) (fun b hb => symRange_sound hb (Int.le_refl _) (Int.le_refl _) (by omega) (by omega)) h
        exact ⟨r0, rfl, rfl, g⟩
    · cases h
  · rename_i k e lo hi o k' e' lo' hi' o'
    rw [cond_eq_ite] at h
    split at h
    · rename_i hk
      rw [kindEq_eq] at hk
      subst hk
      obtain ⟨rfl, h1, h2⟩ := hx.sym
      obtain ⟨rfl, h3, h4⟩ := hy.sym
      refine ⟨k, e.val + o, e'.val + o', ?_⟩
      rw [cond_eq_ite] at h
      split at h
      · rename_i he
        have := SE.beq_eq he
        subst this
        obtain ⟨r0, g⟩ := cmp (k := k) (a := e.val + o) (c := e.val + o') (fun b hb => by
          exact symCmp_shift _ hb) h
        exact ⟨r0, rfl, rfl, g⟩
      · obtain ⟨r0, g⟩ := cmp (k := k) (a := e.val + o) (c := e'.val + o') (fun b hb => symRange_sound hb (by omega) (by omega) (by omega) (by omega)) h
        exact ⟨r0, rfl, rfl, g⟩
    · cases h
  · cases h

theorem symConv_sound {k : IntKind} {e : SE} {lo hi o : Int} {r : AV} (h : symConv k e lo hi o = some r) (h1 : lo ≤ e.val) (h2 : e.val ≤ hi) : CR μ r (.int k (k.wrap (e.val + o))) := by
  unfold symConv at h
  rw [cond_eq_ite] at h
  split at h
  · rename_i hc
    rw [Bool.and_eq_true] at hc
    cases h
    rw [wrap_in (inK_mid hc.1 hc.2 (n := e.val + o) (by omega) (by omega))]
    simp [CR, h1, h2]
  · rw [cond_eq_ite] at h
    split at h
    · rename_i hk
      rw [kindEq_eq] at hk
      subst hk
      cases h
      have : (0 : Int) ≤ (e.val + o) % 2 ^ 64 := Int.emod_nonneg _ (by decide)
      have h' : (e.val + o) % 2 ^ 64 < 2 ^ 64 := Int.emod_lt_of_pos _ (by decide)
      simp only [CR, SE.val, true_and, Int.add_zero]
      simp only [IntKind.wrap, IntKind.signed, IntKind.bits]
      exact ⟨by simpa using this, by simp at h' ⊢; omega⟩
    · cases h

/-! ### '==' -/

theorem run_eqFields {d : Nat} (ih : ∀ {t : TypeId} {x y : AV} {b : Bool} {vx vy : Value} (w : World), eqA P d t x y = some b → VR μ x vx → VR μ y vy → (Op.equalIn d t vx vy).run P w = .ok b w)
    {xs ys : Array Value} {as bs : List AV} (hx : All2 (CR μ) as xs.toList) (hy : All2 (CR μ) bs ys.toList) (w : World) :
    ∀ {fs : List Field} {b : Bool}, eqFields P (eqA P d) fs as bs = some b →
      (forIn fs ((none, ()) : Option Bool × Unit) (fun f _ => (
        if f.name ≠ "_" then do
          let x ← part f.type xs f.offset
          let y ← part f.type ys f.offset
          let e ← Op.equalIn d f.type x y
          if (!e) = true then pure (ForInStep.done (some false, ())) else pure (ForInStep.yield (none, ()))
        else pure (ForInStep.yield (none, ())) : Sem (ForInStep (Option Bool × Unit))))).run P w = .ok (if b then (none, ()) else (some false, ())) w
  | [], b, h => by
    simp only [eqFields] at h; cases h
    simp
  | f :: fs, b, h => by
    simp only [eqFields, cond_eq_ite] at h
    split at h
    · cases h
    · rename_i hn
      split at h
      · rename_i x y hxp hyp
        obtain ⟨vx, e1, r1⟩ := partA_sound hxp hx w
        obtain ⟨vy, e2, r2⟩ := partA_sound hyp hy w
        have hn' : f.name ≠ "_" := by simpa using hn
        split at h
        · rename_i he
          have e3 := ih w he (VR.of0 r1) (VR.of0 r2)
          have e4 := run_eqFields ih hx hy w h
          simp only [List.forIn_cons, Sem.run_bind, hn', ne_eq, not_false_eq_true, if_true, e1, e2, e3, Result.andThen_ok, Bool.not_true, Bool.false_eq_true, if_false, Sem.run_pure]
          exact e4
        · rename_i he
          cases h
          have e3 := ih w he (VR.of0 r1) (VR.of0 r2)
          simp [List.forIn_cons, hn', e1, e2, e3]
        · cases h
      · cases h

theorem eqA_sound : ∀ (d : Nat) {t : TypeId} {x y : AV} {b : Bool} {vx vy : Value} (w : World), eqA P d t x y = some b → VR μ x vx → VR μ y vy → (Op.equalIn d t vx vy).run P w = .ok b w
  | 0, _, _, _, _, _, _, _, h, _, _ => by simp [eqA] at h
  | d + 1, t, x, y, b, vx, vy, w, h, hx, hy => by
    simp only [eqA] at h
    split at h
    · rename_i hu
      split at h
      · cases h; rw [hx.bool, hy.bool]; simp [Op.equalIn, run_und hu, boolEq_eq]
      · cases h
    · rename_i k hu
      split at h
      · rw [cond_eq_ite] at h
        split at h
        · rename_i hk; rw [kindEq_eq] at hk; subst hk; cases h; rw [hx.int, hy.int]; simp [Op.equalIn, run_und hu, intEq_eq]
        · cases h
      · split at h
        · rename_i hs
          cases h
          obtain ⟨k, a, c, r0, rfl, rfl, e1, e2, _⟩ := symBin_sound hs hx hy
          simp only [intBin] at e1
          cases e1
          have := e2 (.bool (intEq a c)) (by simp [CR])
          simp only [CR] at this
          simp [Op.equalIn, run_und hu, this, intEq_eq]
        · cases h
    · rename_i hu
      split at h
      · cases h; rw [hx.str, hy.str]; simp [Op.equalIn, run_und hu]
      · cases h
    · rename_i e hu
      split at h
      · rename_i q
        cases h; rw [hx.nil]
        cases q with
        | none => rw [hy.nil]; simp [Op.equalIn, run_und hu]
        | some l => obtain ⟨a, rfl, _⟩ := hy.ptr; simp [Op.equalIn, run_und hu]
      · cases h; obtain ⟨a, rfl, _⟩ := hx.ptr; rw [hy.nil]; simp [Op.equalIn, run_und hu]
      · rename_i l1 l2
        split at h
        · rename_i n hsz
          rw [cond_eq_ite] at h
          split at h
          · rename_i hc
            cases h
            simp only [Bool.and_eq_true, Nat.beq_eq] at hc
            obtain ⟨a, rfl, g, hg, rfl⟩ := hx.ptr
            obtain ⟨a', rfl, g', hg', rfl⟩ := hy.ptr
            rw [hc.1.1, hc.1.2, hg'] at hg
            cases hg
            rw [hc.2]
            simp [Op.equalIn, run_und hu, run_size hsz, sameAddr]
          · cases h
        · cases h
      · cases h
    · rename_i e hu
      split at h
      · rename_i q _ _ _
        cases h; rw [hx.slice_nil.1]
        cases q with
        | none => rw [hy.slice_nil.1]; simp [Op.equalIn, run_und hu]
        | some l => obtain ⟨a, c, rfl, _⟩ := hy.slice; simp [Op.equalIn, run_und hu]
      · cases h; obtain ⟨a, c, rfl, _⟩ := hx.slice; rw [hy.slice_nil.1]; simp [Op.equalIn, run_und hu]
      · cases h
    · rename_i k e hu
      split at h
      · rename_i q
        obtain ⟨r1, rfl, h1, _⟩ := hx.map
        obtain ⟨r2, rfl, h2, h3⟩ := hy.map
        rw [h1 rfl]
        cases h
        cases q with
        | none => rw [h2 rfl]; simp [Op.equalIn, run_und hu]
        | some o => obtain ⟨g, _, hg⟩ := h3 o rfl; rw [hg]; simp [Op.equalIn, run_und hu]
      · obtain ⟨r1, rfl, _, h1⟩ := hx.map
        obtain ⟨r2, rfl, h2, _⟩ := hy.map
        obtain ⟨g, _, hg⟩ := h1 _ rfl
        rw [h2 rfl, hg]
        cases h
        simp [Op.equalIn, run_und hu]
      · cases h
    · rename_i k1 k2 k3 hu
      split at h
      · have e1 := hx.toC rfl
        have e2 := hy.toC rfl
        cases vx <;> simp only [CR] at e1
        cases vy <;> simp only [CR] at e2
        cases h; simp [Op.equalIn, run_und hu]
      · have e1 := hx.toC rfl
        obtain ⟨c, rfl, _⟩ := hy.func
        cases vx <;> simp only [CR] at e1
        cases h; simp [Op.equalIn, run_und hu]
      · have e2 := hy.toC rfl
        obtain ⟨c, rfl, _⟩ := hx.func
        cases vy <;> simp only [CR] at e2
        cases h; simp [Op.equalIn, run_und hu]
      · cases h
    · rename_i fs hu
      split at h
      · rename_i as bs
        rw [cond_eq_ite] at h
        split at h
        · cases h
        · rename_i hst
          obtain ⟨xs, rfl, h1⟩ := hx.agg
          obtain ⟨ys, rfl, h2⟩ := hy.agg
          have key := run_eqFields (fun w => eqA_sound d w) h1 h2 w h
          have hst' : P.stoodInHeld t = false := by simpa using hst
          simp only [Op.equalIn, Sem.run_bind, run_und hu, Result.andThen_ok, run_program, hst', Bool.false_eq_true, if_false]
          rw [← Array.forIn_toList, key]
          cases b <;> simp
      · cases h
    · cases h

end Go.Ab
