/- The same of regions, code, calls. -/
import Derived.Test.YtphkigpngblniaaGreatAbJ
namespace Go.Ab
set_option linter.unusedSectionVars false
variable [Rho] {P : Program}

theorem entriesA_frame {s : St} {q : Nat} {m : Option Nat} {es : List (AV × AV)} (x : AObj) (hq : s.h.get q = none) (h : entriesA s m = some es) : entriesA (s.put q x) m = some es := by
  cases m with
  | none => exact h
  | some m =>
    simp only [entriesA] at h ⊢
    split at h
    · rename_i es' hg; rw [get_frame hq hg]; exact h
    · cases h

theorem evL_frame {t : Temps} {s : St} {o : Op} {r : Option Nat × AV} {q : Nat} (x : AObj) (hq : s.h.get q = none) (h : evL P t s o = some r) : evL P t (s.put q x) o = some r := by
  unfold evL at h
  split at h
  · split at h
    · rename_i l hx
      split at h
      · rename_i hag
        split at h
        · rename_i n hsz
          split at h
          · rename_i cs hcs; simp only [evL, hx, hag, hsz, readCells_frame x hq hcs]; exact h
          · cases h
        · cases h
      · rename_i hag
        split at h
        · rename_i c hcs; simp only [evL, hx, hag, readCells_frame x hq hcs]; exact h
        · cases h
      · cases h
    · cases h
  · split at h
    · rename_i kt e m n hu hx hk
      split at h
      · rename_i K es z hku hes hz
        simp only [evL, hu, hx, hk, hku, entriesA_frame x hq hes, hz]
        exact h
      · cases h
    · cases h
  · split at h
    · rename_i e q' len c ex hs hd hx
      split at h
      · rename_i he
        split at h
        · simp only [evL, hs, hd, hx, he]; exact h
        · rename_i l
          split at h
          · rename_i cs hcs
            simp only [evL, hs, hd, hx, he, readCells_frame x hq hcs]; exact h
          · cases h
      · cases h
    · cases h
  · rename_i c
    split at h
    · rename_i hcal
      rw [cond_eq_ite] at h
      split at h
      · rename_i hsz
        split at h
        · rename_i hu hargs; simp only [evL, hcal, hsz, cond_true, hu, hargs]; exact h
        · rename_i hu hargs; simp only [evL, hcal, hsz, cond_true, hu, hargs]; exact h
        · rename_i k e m hu hargs
          split at h
          · rename_i es hes; simp only [evL, hcal, hsz, cond_true, hu, hargs, entriesA_frame x hq hes]; exact h
          · cases h
        · cases h
      · cases h
    · cases h
  · cases h

/-- What is read does not hang on objects but the one that is told. -/
theorem evL_at {t : Temps} {s s' : St} {o : Op} {q : Option Nat} {v : AV} (h : evL P t s o = some (q, v)) (hs : ∀ k, q = some k → s'.h.get k = s.h.get k) : evL P t s' o = some (q, v) := by
  have rd : ∀ {l : Loc} {n : Nat}, s'.h.get l.o = s.h.get l.o → readCells s' l n = readCells s l n := fun {l n} e => by unfold readCells; rw [e]
  have en : ∀ {m : Option Nat}, (∀ k, m = some k → s'.h.get k = s.h.get k) → entriesA s' m = entriesA s m := fun {m} e => by
    cases m with
    | none => rfl
    | some k => simp only [entriesA, e k rfl]
  unfold evL at h
  split at h
  · split at h
    · rename_i l hx
      split at h
      · rename_i hag
        split at h
        · rename_i n hsz
          split at h
          · rename_i cs hcs; cases h; simp only [evL, hx, hag, hsz, rd (hs _ rfl), hcs]
          · cases h
        · cases h
      · rename_i hag
        split at h
        · rename_i c hcs; cases h; simp only [evL, hx, hag, rd (hs _ rfl), hcs]
        · cases h
      · cases h
    · cases h
  · split at h
    · rename_i kt e m n hu hx hk
      split at h
      · rename_i K es z hku hes hz
        split at h
        · rename_i u hf; cases h; simp only [evL, hu, hx, hk, hku, en hs, hes, hz, hf]
        · rename_i hf; cases h; simp only [evL, hu, hx, hk, hku, en hs, hes, hz, hf]
        · cases h
      · cases h
    · cases h
  · split at h
    · rename_i e q' len c ex hss hd hx
      split at h
      · rename_i he
        split at h
        · cases h; simp only [evL, hss, hd, hx, he]
        · rename_i l
          split at h
          · rename_i cs hcs
            split at h
            · rename_i bs hbs; cases h; simp only [evL, hss, hd, hx, he, rd (hs _ rfl), hcs, hbs]
            · cases h
          · cases h
      · cases h
    · cases h
  · rename_i c
    split at h
    · rename_i hcal
      rw [cond_eq_ite] at h
      split at h
      · rename_i hsz
        split at h
        · rename_i hu hargs; cases h; simp only [evL, hcal, hsz, cond_true, hu, hargs]
        · rename_i hu hargs; cases h; simp only [evL, hcal, hsz, cond_true, hu, hargs]
        · rename_i k e m hu hargs
          split at h
          · rename_i es hes; cases h; simp only [evL, hcal, hsz, cond_true, hu, hargs, en hs, hes]
          · cases h
        · cases h
      · cases h
    · cases h
  · cases h

/-- It is there. -/
theorem evL_there {t : Temps} {s : St} {o : Op} {q : Nat} {v : AV} (h : evL P t s o = some (some q, v)) : ∃ x, s.h.get q = some x := by
  have en : ∀ {k : Nat} {es}, entriesA s (some k) = some es → ∃ x, s.h.get k = some x := fun {k es} e => by
    simp only [entriesA] at e
    split at e
    · rename_i es' hg; exact ⟨_, hg⟩
    · cases e
  have rd : ∀ {l : Loc} {n : Nat} {cs}, readCells s l n = some cs → ∃ x, s.h.get l.o = some x := fun e => let ⟨_, _, _, h, _⟩ := readCells_spec e; ⟨_, h⟩
  unfold evL at h
  split at h
  · split at h
    · split at h
      · split at h
        · split at h
          · rename_i cs hcs; cases h; exact rd hcs
          · cases h
        · cases h
      · split at h
        · rename_i c hcs; cases h; exact rd hcs
        · cases h
      · cases h
    · cases h
  · split at h
    · split at h
      · rename_i K es z hku hes hz
        split at h <;> cases h <;> exact en hes
      · cases h
    · cases h
  · split at h
    · split at h
      · split at h
        · cases h
        · split at h
          · rename_i cs hcs
            split at h
            · cases h; exact rd hcs
            · cases h
          · cases h
      · cases h
    · cases h
  · split at h
    · rw [cond_eq_ite] at h
      split at h
      · split at h
        · cases h
        · cases h
        · split at h
          · rename_i es hes; cases h; exact en hes
          · cases h
        · cases h
      · cases h
    · cases h
  · cases h

theorem evOp_eff {call : Bar → FuncId → List AV → St → Option (AV × St)} (hc : CallL call) {b : Bar} {t : Temps} {s s' : St} {o : Op} {r : AV} (h : evOp P call b t s o = some (r, s')) :
    Eff b s s' ∧ ∀ q x, q < s.n → s.h.get q = none → evOp P call b t (s.put q x) o = some (r, s'.put q x) := by
  unfold evOp at h
  split at h
  · rename_i hk
    split at h
    · rename_i v hv
      cases h
      exact ⟨Eff.refl _ _, fun q x _ _ => by simp only [evOp, hk, hv]⟩
    · cases h
  · rename_i hk
    split at h
    · rename_i q' v hv
      cases h
      exact ⟨Eff.refl _ _, fun q x _ hq => by simp only [evOp, hk, evL_frame x hq hv]⟩
    · cases h
  · rename_i hk
    split at h
    · rename_i ob mk hv
      cases h
      exact ⟨Eff.new, fun q x hqn hq => by simp only [evOp, hk, hv]; rw [new_comm hqn]; rfl⟩
    · cases h
  · rename_i hk
    obtain ⟨k1, k2⟩ := evE_eff hc h
    exact ⟨k1, fun q x hqn hq => by simp only [evOp, hk]; exact k2 q x hqn hq⟩

theorem evOps_eff {call : Bar → FuncId → List AV → St → Option (AV × St)} (hc : CallL call) {b : Bar} {ops : Array Oper} : ∀ {os : List Oper} {t t' : Temps} {s s' : St}, evOps P call b ops os t s = some (t', s') →
    Eff b s s' ∧ ∀ q x, q < s.n → s.h.get q = none → evOps P call b ops os t (s.put q x) = some (t', s'.put q x)
  | [], t, t', s, s', h => by simp only [evOps] at h; cases h; exact ⟨Eff.refl _ _, fun q x _ _ => by simp only [evOps]⟩
  | o :: os, t, t', s, s', h => by
    simp only [evOps, cond_eq_ite] at h
    split at h
    · rename_i hw
      split at h
      · rename_i v s1 hv
        obtain ⟨k1, k2⟩ := evOp_eff hc hv
        obtain ⟨k3, k4⟩ := evOps_eff hc h
        exact ⟨k1.trans k3, fun q x hqn hq => by
          simp only [evOps, hw, cond_true, k2 q x hqn hq]
          exact k4 q x (Nat.lt_of_lt_of_le hqn k1.n) (k1.off q hqn hq)⟩
      · cases h
    · rename_i hw
      obtain ⟨k3, k4⟩ := evOps_eff hc h
      exact ⟨k3, fun q x hqn hq => by
        simp only [evOps, eq_false_of_ne_true hw, cond_false]
        exact k4 q x hqn hq⟩

theorem Bar.more {b : Bar} {l : List Nat} {o : Nat} (h : b.ok o = false) : ({ lim := b.lim, no := l ++ b.no } : Bar).ok o = false := by
  unfold Bar.ok at *
  simp only [Bool.and_eq_false_iff, Bool.not_eq_false', List.any_append, Bool.or_eq_true] at *
  rcases h with h | h
  · exact .inl h
  · exact .inr (.inr h)

theorem evDraw_eff {call : Bar → FuncId → List AV → St → Option (AV × St)} (hc : CallL call) {b : Bar} {ops : Array Oper} {base : Nat} :
    ∀ {pl : List (Nat × List Nat)} {ld : List (Nat × Nat)} {t t' : Temps} {s s' : St}, base ≤ s.n → evDraw P call b ops base pl ld t s = some (t', s') →
    s.n ≤ s'.n ∧ (∀ q, q < base → b.ok q = false → s'.h.get q = s.h.get q) ∧ (∀ q x, s.h.get q = some x → ∃ y, s'.h.get q = some y) ∧ (∀ q, q < base → s.h.get q = none → s'.h.get q = none) ∧
      ∀ q x, q < base → s.h.get q = none → evDraw P call b ops base pl ld t (s.put q x) = some (t', s'.put q x)
  | [], ld, t, t', s, s', hb, h => by
    simp only [evDraw] at h
    cases h
    exact ⟨Nat.le_refl _, fun _ _ _ => rfl, fun _ x hx => ⟨x, hx⟩, fun _ _ hx => hx, fun q x _ _ => by simp only [evDraw]⟩
  | (i, us) :: rest, ld, t, t', s, s', hb, h => by
    simp only [evDraw] at h
    split at h
    · cases h
    · rename_i o ho
      rw [cond_eq_ite] at h
      split at h
      · rename_i hw
        split at h
        · rename_i hk
          split at h
          · rename_i v hv
            obtain ⟨k1, k2, k3, k4, k5⟩ := evDraw_eff hc hb h
            exact ⟨k1, k2, k3, k4, fun q x hqb hq => by simp only [evDraw, ho, hw, cond_true, hk, hv]; exact k5 q x hqb hq⟩
          · cases h
        · rename_i hk
          split at h
          · rename_i q' v hv
            rw [cond_eq_ite] at h
            split at h
            · cases h
            · rename_i hus
              obtain ⟨k1, k2, k3, k4, k5⟩ := evDraw_eff hc hb h
              exact ⟨k1, k2, k3, k4, fun q x hqb hq => by
                have hus2 : (Nat.ble (s.put q x).n q' || us.any fun k => Nat.beq (base + k) q') = false := eq_false_of_ne_true hus
                simp only [evDraw, ho, hw, cond_true, hk, evL_frame x hq hv, hus2, cond_false]
                exact k5 q x hqb hq⟩
          · rename_i v hv
            obtain ⟨k1, k2, k3, k4, k5⟩ := evDraw_eff hc hb h
            exact ⟨k1, k2, k3, k4, fun q x hqb hq => by simp only [evDraw, ho, hw, cond_true, hk, evL_frame x hq hv]; exact k5 q x hqb hq⟩
          · cases h
        · rename_i hk
          split at h
          · rename_i ob mk hv
            split at h
            · rename_i hnone
              obtain ⟨k1, k2, k3, k4, k5⟩ := evDraw_eff hc (s := s.put (base + i) ob) hb h
              refine ⟨k1, fun q hqb hq => ?_, fun q x hx => ?_, fun q hqb hq => ?_, fun q x hqb hq => ?_⟩
              · rw [k2 q hqb hq, get_put_other (by omega)]
              · exact k3 q x (get_frame hnone hx)
              · exact k4 q hqb (by rw [get_put_other (by omega)]; exact hq)
              · simp only [evDraw, ho, hw, cond_true, hk, hv]
                rw [get_put_other (by omega), hnone]
                simp only
                rw [put_comm (by omega)]
                exact k5 q x hqb (by rw [get_put_other (by omega)]; exact hq)
            · cases h
          · cases h
        · rename_i hk
          split at h
          · rename_i v s1 hv
            obtain ⟨e1, e2⟩ := evE_eff hc hv
            have e1 := Eff.weaken (b := b) (fun o ho => Bar.more ho) e1
            obtain ⟨k1, k2, k3, k4, k5⟩ := evDraw_eff hc (s := s1) (Nat.le_trans hb e1.n) h
            refine ⟨Nat.le_trans e1.n k1, fun q hqb hq => ?_, fun q x hx => ?_, fun q hqb hq => ?_, fun q x hqb hq => ?_⟩
            · rw [k2 q hqb hq, e1.bar q (by omega) hq]
            · obtain ⟨y, hy⟩ := e1.stay q x hx; exact k3 q y hy
            · exact k4 q hqb (e1.off q (by omega) hq)
            · simp only [evDraw, ho, hw, cond_true, hk, e2 q x (by omega) hq]
              exact k5 q x hqb (e1.off q (by omega) hq)
          · cases h
      · rename_i hw
        obtain ⟨k1, k2, k3, k4, k5⟩ := evDraw_eff hc hb h
        exact ⟨k1, k2, k3, k4, fun q x hqb hq => by simp only [evDraw, ho, eq_false_of_ne_true hw, cond_false]; exact k5 q x hqb hq⟩

theorem evLoop_eff {b : Bar} {body : Temps → St → Option (Out × Temps × St)}
    (hb : ∀ (t t' : Temps) (s s' : St) (o : Out), body t s = some (o, t', s') → Eff b s s' ∧ ∀ q x, q < s.n → s.h.get q = none → body t (s.put q x) = some (o, t', s'.put q x)) :
    ∀ {fuel : Nat} {t t' : Temps} {s s' : St} {o : Out}, evLoop body fuel t s = some (o, t', s') → Eff b s s' ∧ ∀ q x, q < s.n → s.h.get q = none → evLoop body fuel t (s.put q x) = some (o, t', s'.put q x)
  | 0, _, _, _, _, _, h => by simp [evLoop] at h
  | fuel + 1, t, t', s, s', o, h => by
    simp only [evLoop] at h
    split at h
    · rename_i t1 s1 hbd
      obtain ⟨k1, k2⟩ := hb _ _ _ _ _ hbd
      obtain ⟨k3, k4⟩ := evLoop_eff hb h
      exact ⟨k1.trans k3, fun q x hqn hq => by
        simp only [evLoop, k2 q x hqn hq]
        exact k4 q x (Nat.lt_of_lt_of_le hqn k1.n) (k1.off q hqn hq)⟩
    · rename_i hne
      obtain ⟨k1, k2⟩ := hb _ _ _ _ _ h
      refine ⟨k1, fun q x hqn hq => ?_⟩
      simp only [evLoop, k2 q x hqn hq]
      split
      · rename_i e; cases e; exact absurd h (hne _ _)
      · rfl

theorem evCode_eff {call : Bar → FuncId → List AV → St → Option (AV × St)} (hc : CallL call) {b : Bar} {fuel : Nat} : ∀ {c : Code} {t t' : Temps} {s s' : St} {o : Out}, evCode P call b fuel c t s = some (o, t', s') →
    Eff b s s' ∧ ∀ q x, q < s.n → s.h.get q = none → evCode P call b fuel c t (s.put q x) = some (o, t', s'.put q x) := by
  intro c
  induction c with
  | skip => intro t t' s s' o h; simp only [evCode] at h; cases h; exact ⟨Eff.refl _ _, fun q x _ _ => by simp only [evCode]⟩
  | label l => intro t t' s s' o h; simp only [evCode] at h; cases h; exact ⟨Eff.refl _ _, fun q x _ _ => by simp only [evCode]⟩
  | exit l => intro t t' s s' o h; simp only [evCode] at h; cases h; exact ⟨Eff.refl _ _, fun q x _ _ => by simp only [evCode]⟩
  | ret => intro t t' s s' o h; simp only [evCode] at h; cases h; exact ⟨Eff.refl _ _, fun q x _ _ => by simp only [evCode]⟩
  | region id ops draw =>
    intro t t' s s' o h
    simp only [evCode, cond_eq_ite] at h
    split at h
    · rename_i hd
      split at h
      · rename_i pl hpl
        split at h
        · rename_i t1 s1 hdr
          cases h
          obtain ⟨k1, k2, k3, k4, k5⟩ := evDraw_eff hc (base := s.n) (s := { h := s.h, n := s.n + ops.size }) (Nat.le_add_right _ _) hdr
          refine ⟨⟨Nat.le_trans (Nat.le_add_right _ _) k1, k2, k3, k4⟩, fun q x hqn hq => ?_⟩
          have := k5 q x hqn hq
          simp only [evCode, hd, cond_true, hpl]
          simp only [St.put] at this ⊢
          rw [this]
        · cases h
      · cases h
    · rename_i hd
      split at h
      · rename_i t1 s1 hos
        cases h
        obtain ⟨k1, k2⟩ := evOps_eff hc hos
        exact ⟨k1, fun q x hqn hq => by simp only [evCode, eq_false_of_ne_true hd, cond_false, k2 q x hqn hq]⟩
      · cases h
  | seq x y ihx ihy =>
    intro t t' s s' o h
    simp only [evCode] at h
    split at h
    · rename_i t1 s1 h1
      obtain ⟨k1, k2⟩ := ihx h1
      obtain ⟨k3, k4⟩ := ihy h
      exact ⟨k1.trans k3, fun q z hqn hq => by
        simp only [evCode, k2 q z hqn hq]
        exact k4 q z (Nat.lt_of_lt_of_le hqn k1.n) (k1.off q hqn hq)⟩
    · rename_i hne
      obtain ⟨k1, k2⟩ := ihx h
      refine ⟨k1, fun q z hqn hq => ?_⟩
      simp only [evCode, k2 q z hqn hq]
      split
      · rename_i e; cases e; exact absurd h (hne _ _)
      · rfl
  | cond c x y ihx ihy =>
    intro t t' s s' o h
    simp only [evCode] at h
    split at h
    · rename_i hcc
      obtain ⟨k1, k2⟩ := ihx h
      exact ⟨k1, fun q z hqn hq => by simp only [evCode, hcc]; exact k2 q z hqn hq⟩
    · rename_i hcc
      obtain ⟨k1, k2⟩ := ihy h
      exact ⟨k1, fun q z hqn hq => by simp only [evCode, hcc]; exact k2 q z hqn hq⟩
    · cases h
  | block id x ih =>
    intro t t' s s' o h
    simp only [evCode] at h
    split at h
    · rename_i i t1 s1 h1
      obtain ⟨k1, k2⟩ := ih h1
      rw [cond_eq_ite] at h
      split at h
      · rename_i he
        cases h
        exact ⟨k1, fun q z hqn hq => by simp only [evCode, k2 q z hqn hq, he, cond_true]⟩
      · rename_i he
        cases h
        exact ⟨k1, fun q z hqn hq => by simp only [evCode, k2 q z hqn hq, eq_false_of_ne_true he, cond_false]⟩
    · rename_i hne
      obtain ⟨k1, k2⟩ := ih h
      refine ⟨k1, fun q z hqn hq => ?_⟩
      simp only [evCode, k2 q z hqn hq]
      split
      · rename_i e; cases e; exact absurd h (hne _ _ _)
      · rfl
  | loop x ih =>
    intro t t' s s' o h
    simp only [evCode] at h ⊢
    exact evLoop_eff (fun _ _ _ _ _ h => ih h) h
  | scope x ih => intro t t' s s' o h; simp [evCode] at h
  | goto l => intro t t' s s' o h; simp [evCode] at h
  | refuse w => intro t t' s s' o h; simp [evCode] at h
  | rangeFunc f p a b _ _ => intro t t' s s' o h; simp [evCode] at h

theorem resultA_frame {t : Temps} {s : St} {q : Nat} {v : ResultVar} {r : AV} (x : AObj) (hq : s.h.get q = none) (h : resultA P t s v = some r) : resultA P t (s.put q x) v = some r := by
  cases v with
  | tmp i => exact h
  | cell a ty =>
    simp only [resultA] at h ⊢
    split at h
    · split at h
      · split at h
        · split at h
          · rename_i cs hcs; rw [readCells_frame x hq hcs]; exact h
          · cases h
        · cases h
      · split at h
        · rename_i c hcs; rw [readCells_frame x hq hcs]; exact h
        · cases h
      · cases h
    · cases h

theorem resultsA_frame {t : Temps} {s : St} {q : Nat} (x : AObj) (hq : s.h.get q = none) : ∀ {vs : List ResultVar} {rs : List AV}, resultsA P t s vs = some rs → resultsA P t (s.put q x) vs = some rs
  | [], rs, h => h
  | v :: vs, rs, h => by
    simp only [resultsA] at h ⊢
    split at h
    · rename_i r hr
      split at h
      · rename_i rs' hrs
        rw [resultA_frame x hq hr, resultsA_frame x hq hrs]; exact h
      · cases h
    · cases h

theorem evBody_eff {call : Bar → FuncId → List AV → St → Option (AV × St)} (hc : CallL call) {b : Bar} {fuel : Nat} {fn : Func} {args : List AV} {s s' : St} {r : AV} (h : evBody P call b fuel fn args s = some (r, s')) :
    Eff b s s' ∧ ∀ q x, q < s.n → s.h.get q = none → evBody P call b fuel fn args (s.put q x) = some (r, s'.put q x) := by
  unfold evBody at h
  split at h
  · cases h
  · rename_i c hbd
    rw [cond_eq_ite] at h
    split at h
    · rename_i hok
      split at h
      · rename_i t1 s1 hcd
        have key : ∃ o, evCode P call b fuel c (enterT args 0 .leaf) s = some (o, t1, s1) ∧ (o = .normal ∨ o = .ret) := by
          split at hcd
          · rename_i h1; cases hcd; exact ⟨_, h1, .inl rfl⟩
          · rename_i h1; cases hcd; exact ⟨_, h1, .inr rfl⟩
          · cases hcd
        obtain ⟨o, h1, ho⟩ := key
        obtain ⟨k1, k2⟩ := evCode_eff hc h1
        split at h
        · rename_i vs hvs
          split at h
          · rename_i v hv
            cases h
            refine ⟨k1, fun q x hqn hq => ?_⟩
            unfold evBody
            rw [hbd]
            simp only [hok, cond_true]
            rw [k2 q x hqn hq]
            have hoff := k1.off q hqn hq
            rcases ho with rfl | rfl
            · simp only [resultsA_frame x hoff hvs, hv]
            · simp only [resultsA_frame x hoff hvs, hv]
          · cases h
        · cases h
      · cases h
    · cases h

/-- Of answers of their own. -/
def PrimsL (pr : Prims) : Prop := ∀ call, CallL call → ∀ f p, pr call f = some p → ∀ b args s r s', p b args s = some (r, s') →
  Eff b s s' ∧ ∀ q x, q < s.n → s.h.get q = none → p b args (s.put q x) = some (r, s'.put q x)

theorem evCall_eff {pr : Prims} (hp : PrimsL pr) (loops : Nat) : ∀ n, CallL (evCall P pr loops n)
  | 0 => ⟨fun _ _ _ _ _ _ h => by simp [evCall] at h, fun _ _ _ _ _ _ h => by simp [evCall] at h⟩
  | n + 1 => by
    have ih := evCall_eff hp loops n
    have key : ∀ b f args s r s', evCall P pr loops (n + 1) b f args s = some (r, s') → Eff b s s' ∧ ∀ q x, q < s.n → s.h.get q = none → evCall P pr loops (n + 1) b f args (s.put q x) = some (r, s'.put q x) := by
      intro b f args s r s' h
      simp only [evCall] at h
      split at h
      · rename_i p hpr
        obtain ⟨k1, k2⟩ := hp _ ih f p hpr b args s r s' h
        exact ⟨k1, fun q x hqn hq => by simp only [evCall, hpr]; exact k2 q x hqn hq⟩
      · rename_i hpr
        split at h
        · rename_i fn hfn
          obtain ⟨k1, k2⟩ := evBody_eff ih h
          exact ⟨k1, fun q x hqn hq => by simp only [evCall, hpr, hfn]; exact k2 q x hqn hq⟩
        · cases h
    exact ⟨fun b f args s r s' h => (key b f args s r s' h).1, fun b f args s r s' h => (key b f args s r s' h).2⟩

end Go.Ab
