/- What an evaluation does not look at does not matter; what it may not write stays. -/
import Derived.Test.YtphkigpngblniaaGreatAbI
namespace Go.Ab
set_option linter.unusedSectionVars false
variable [Rho] {P : Program}

/-- From one abstract state to another one. -/
structure Eff (b : Bar) (s s' : St) : Prop where
  n : s.n ≤ s'.n
  bar : ∀ q, q < s.n → b.ok q = false → s'.h.get q = s.h.get q
  stay : ∀ q x, s.h.get q = some x → ∃ y, s'.h.get q = some y
  off : ∀ q, q < s.n → s.h.get q = none → s'.h.get q = none

theorem Eff.refl (b : Bar) (s : St) : Eff b s s := ⟨Nat.le_refl _, fun _ _ _ => rfl, fun _ x h => ⟨x, h⟩, fun _ _ h => h⟩

theorem Eff.trans {b : Bar} {s s1 s2 : St} (h : Eff b s s1) (h1 : Eff b s1 s2) : Eff b s s2 where
  n := Nat.le_trans h.n h1.n
  bar q hq hb := (h1.bar q (Nat.lt_of_lt_of_le hq h.n) hb).trans (h.bar q hq hb)
  stay q x hx := let ⟨y, hy⟩ := h.stay q x hx; h1.stay q y hy
  off q hq hx := h1.off q (Nat.lt_of_lt_of_le hq h.n) (h.off q hq hx)

theorem Eff.weaken {b b' : Bar} {s s' : St} (hb : ∀ o, b.ok o = false → b'.ok o = false) (h : Eff b' s s') : Eff b s s' := ⟨h.n, fun q hq hx => h.bar q hq (hb q hx), h.stay, h.off⟩

theorem Eff.put {b : Bar} {s : St} {o : Nat} {x : AObj} (hb : b.ok o = true) (hx : ∃ y, s.h.get o = some y) : Eff b s (s.put o x) where
  n := Nat.le_refl _
  bar q _ hq := by
    simp only [St.put]
    rw [Tr.get_set_other]
    intro e; subst e; rw [hb] at hq; cases hq
  stay q y hy := by
    simp only [St.put, Tr.get_set]
    split
    · exact ⟨_, rfl⟩
    · exact ⟨y, hy⟩
  off q _ hq := by
    simp only [St.put]
    rw [Tr.get_set_other]
    · exact hq
    · intro e; subst e; obtain ⟨y, hy⟩ := hx; rw [hq] at hy; cases hy

theorem Eff.new {b : Bar} {s : St} {x : AObj} : Eff b s { h := s.h.set s.n x, n := s.n + 1 } where
  n := Nat.le_succ _
  bar q hq _ := by simp only; rw [Tr.get_set_other]; omega
  stay q y hy := by
    simp only [Tr.get_set]
    split
    · exact ⟨_, rfl⟩
    · exact ⟨y, hy⟩
  off q hq h := by simp only; rw [Tr.get_set_other]; exact h; omega

theorem get_put_other {s : St} {q o : Nat} {x : AObj} (h : o ≠ q) : (s.put q x).h.get o = s.h.get o := by
  simp only [St.put]; exact Tr.get_set_other _ _ _ _ h

theorem get_frame {s : St} {q o : Nat} {x y : AObj} (hq : s.h.get q = none) (h : s.h.get o = some y) : (s.put q x).h.get o = some y := by
  rw [get_put_other]
  · exact h
  · intro e; subst e; rw [hq] at h; cases h

theorem put_comm {s : St} {q o : Nat} {x y : AObj} (h : o ≠ q) : (s.put q x).put o y = (s.put o y).put q x := by
  simp only [St.put]
  rw [Tr.set_comm _ _ _ _ _ (fun e => h e.symm)]

theorem new_comm {s : St} {q : Nat} {x y : AObj} (h : q < s.n) : ({ h := (s.put q x).h.set (s.put q x).n y, n := (s.put q x).n + 1 } : St) = ({ h := s.h.set s.n y, n := s.n + 1 } : St).put q x := by
  simp only [St.put]
  rw [Tr.set_comm _ _ _ _ _ (by omega)]

theorem readCells_frame {s : St} {q n : Nat} {l : Loc} {cs : List AV} (x : AObj) (hq : s.h.get q = none) (h : readCells s l n = some cs) : readCells (s.put q x) l n = some cs := by
  obtain ⟨ds, lo, ro, hg, _⟩ := readCells_spec h
  unfold readCells at h ⊢
  rw [hg] at h
  rw [get_frame hq hg]
  exact h

theorem writeCells_eff {b : Bar} {s s' : St} {l : Loc} {vs : List AV} (h : writeCells b s l vs = some s') :
    Eff b s s' ∧ ∀ q x, s.h.get q = none → writeCells b (s.put q x) l vs = some (s'.put q x) := by
  unfold writeCells at h
  split at h
  · cases h
    exact ⟨Eff.refl _ _, fun q x _ => by simp [writeCells]⟩
  · split at h
    · rename_i v vs cs lo hg
      rw [cond_eq_ite] at h
      split at h
      · rename_i hc
        cases h
        refine ⟨Eff.put (by simp only [Bool.and_eq_true] at hc; exact hc.1.1.1) ⟨_, hg⟩, fun q x hq => ?_⟩
        unfold writeCells
        rw [get_frame hq hg]
        simp only [hc, cond_true]
        rw [put_comm]
        intro e; rw [e, hq] at hg; cases hg
      · cases h
    · cases h

theorem srcCells_frame {s : St} {q size n : Nat} {v : AV} {cs : List AV} (x : AObj) (hq : s.h.get q = none) (h : srcCells s size v = some (n, cs)) : srcCells (s.put q x) size v = some (n, cs) := by
  unfold srcCells at h ⊢
  split at h
  · exact h
  · rw [cond_eq_ite] at h
    simp only [cond_eq_ite]
    split at h
    · rename_i h0; rw [if_pos h0]; exact h
    · rename_i h0
      rw [if_neg h0]
      split at h
      · rename_i cs' hcs; rw [readCells_frame x hq hcs]; exact h
      · cases h
  · exact h
  · cases h

theorem appendA_eff {b : Bar} {s s' : St} {size len cap n : Nat} {base : Option Loc} {ex : Bool} {new : List AV} {r : AV} (h : appendA b s size base len cap ex n new = some (r, s')) :
    Eff b s s' ∧ ∀ q x, q < s.n → s.h.get q = none → appendA b (s.put q x) size base len cap ex n new = some (r, s'.put q x) := by
  unfold appendA at h
  rw [cond_eq_ite] at h
  split at h
  · rename_i h1
    cases base with
    | none =>
      simp only [cond_eq_ite] at h
      split at h
      · rename_i h2
        cases h
        exact ⟨Eff.refl _ _, fun q x _ _ => by unfold appendA; simp [h1, h2]⟩
      · cases h
    | some l =>
      simp only at h
      split at h
      · rename_i s1 hw
        cases h
        obtain ⟨k1, k2⟩ := writeCells_eff hw
        refine ⟨k1, fun q x _ hq => ?_⟩
        unfold appendA
        rw [h1]
        simp only [cond_true]
        rw [k2 q x hq]
      · cases h
  · rename_i h1
    have h1' : (Nat.ble (len + n) cap) = false := eq_false_of_ne_true h1
    rw [cond_eq_ite] at h
    split at h
    · rename_i h2
      cases base with
      | none =>
        cases h
        refine ⟨Eff.new, fun q x hqn _ => ?_⟩
        unfold appendA
        rw [h1', h2]
        simp only [cond_true, cond_false, newArr]
        rw [new_comm hqn]
        rfl
      | some l =>
        simp only [cond_eq_ite] at h
        split at h
        · rename_i hex
          split at h
          · rename_i old hold
            cases h
            refine ⟨Eff.new, fun q x hqn hq => ?_⟩
            unfold appendA
            rw [h1', h2]
            simp only [cond_true, cond_false, hex, newArr]
            rw [readCells_frame x hq hold]
            simp only
            rw [new_comm hqn]
            rfl
          · cases h
        · rename_i hex
          split at h
          · rename_i cs lo hg
            split at h
            · rename_i hc
              cases h
              refine ⟨Eff.put (by simp only [Bool.and_eq_true] at hc; exact hc.2) ⟨_, hg⟩, fun q x _ hq => ?_⟩
              unfold appendA
              rw [h1', h2]
              have hex' : ex = false := by simpa using hex
              simp only [cond_true, cond_false, hex']
              rw [get_frame hq hg]
              simp only [hc, cond_true]
              rw [put_comm]
              intro e; rw [e, hq] at hg; cases hg
            · cases h
          · cases h
    · cases h

/-- Of calls. -/
structure CallL (call : Bar → FuncId → List AV → St → Option (AV × St)) : Prop where
  eff : ∀ b f args s r s', call b f args s = some (r, s') → Eff b s s'
  frame : ∀ b f args s r s', call b f args s = some (r, s') → ∀ q x, q < s.n → s.h.get q = none → call b f args (s.put q x) = some (r, s'.put q x)

theorem evE_eff {call : Bar → FuncId → List AV → St → Option (AV × St)} (hc : CallL call) {b : Bar} {t : Temps} {s s' : St} {o : Op} {r : AV} (h : evE P call b t s o = some (r, s')) :
    Eff b s s' ∧ ∀ q x, q < s.n → s.h.get q = none → evE P call b t (s.put q x) o = some (r, s'.put q x) := by
  unfold evE at h
  split at h
  -- store
  · split at h
    · rename_i l v hx hv
      split at h
      · rename_i n hsz
        rw [cond_eq_ite] at h
        split at h
        · rename_i hlen
          split at h
          · rename_i s1 hw
            cases h
            obtain ⟨k1, k2⟩ := writeCells_eff hw
            refine ⟨k1, fun q x _ hq => ?_⟩
            simp only [evE, hx, hv, hsz, hlen, cond_true, k2 q x hq]
          · cases h
        · cases h
      · cases h
    · cases h
  -- mapUpdate
  · split at h
    · rename_i kt e m n v hu hm hk hv
      split at h
      · rename_i K es hku hg
        split at h
        · rename_i y hf
          rw [cond_eq_ite] at h
          split at h
          · rename_i hcnd
            cases h
            refine ⟨Eff.put (by simp only [Bool.and_eq_true] at hcnd; exact hcnd.1) ⟨_, hg⟩, fun q x _ hq => ?_⟩
            simp only [evE, hu, hm, hk, hv, hku, get_frame hq hg, hf, hcnd, cond_true]
            rw [put_comm]
            intro e; rw [e, hq] at hg; cases hg
          · cases h
        · cases h
      · cases h
    · cases h
  -- calls
  · rename_i c
    split at h
    · rename_i f hcal
      split at h
      · rename_i g cap vs hf hargs
        rw [cond_eq_ite] at h
        split at h
        · rename_i hcb
          refine ⟨hc.eff _ _ _ _ _ _ h, fun q x hqn hq => ?_⟩
          simp only [evE, hcal, hf, hargs, hcb, cond_true]
          exact hc.frame _ _ _ _ _ _ h q x hqn hq
        · cases h
      · cases h
    · rename_i f hcal
      split at h
      · rename_i base len cap ex y hargs
        rw [cond_eq_ite] at h
        split at h
        · rename_i hsz2
          split at h
          · cases h
          · rename_i e d hdn hu hd
            split at h
            · rename_i size by' z hsz hby hz
              split at h
              · rename_i n new hsrc
                rw [cond_eq_ite] at h
                split at h
                · rename_i hcnd
                  obtain ⟨k1, k2⟩ := appendA_eff h
                  refine ⟨k1, fun q x hqn hq => ?_⟩
                  simp only [evE, hcal, hargs, hsz2, cond_true, hu, hd]
                  cases d <;> first
                    | exact absurd rfl (hdn _)
                    | (simp only [hsz, hby, hz, srcCells_frame x hq hsrc, hcnd, cond_true]; exact k2 q x hqn hq)
                · cases h
              · cases h
            · cases h
          · cases h
        · cases h
      · rename_i base len cap ex y hargs
        rw [cond_eq_ite] at h
        split at h
        · rename_i hsz1
          split at h
          · rename_i e hu
            split at h
            · rename_i size hsz
              split at h
              · rename_i n cs hsrc
                split at h
                · rename_i l
                  split at h
                  · rename_i s1 hw
                    cases h
                    obtain ⟨k1, k2⟩ := writeCells_eff hw
                    refine ⟨k1, fun q x hqn hq => ?_⟩
                    simp only [evE, hcal, hargs, hsz1, cond_true, hu, hsz, srcCells_frame x hq hsrc, k2 q x hq]
                  · cases h
                · cases h
                  refine ⟨Eff.refl _ _, fun q x hqn hq => ?_⟩
                  simp only [evE, hcal, hargs, hsz1, cond_true, hu, hsz, srcCells_frame x hq hsrc]
              · cases h
            · cases h
          · cases h
        · cases h
      · rename_i base n cap ex hargs
        rw [cond_eq_ite] at h
        split at h
        · rename_i hsz1
          split at h
          · rename_i e hu
            split at h
            · cases h
              refine ⟨Eff.refl _ _, fun q x hqn hq => ?_⟩
              simp only [evE, hcal, hargs, hsz1, cond_true, hu]
            · rename_i l
              split at h
              · rename_i z hz
                split at h
                · rename_i s1 hw
                  cases h
                  obtain ⟨k1, k2⟩ := writeCells_eff hw
                  refine ⟨k1, fun q x hqn hq => ?_⟩
                  simp only [evE, hcal, hargs, hsz1, cond_true, hu, hz, k2 q x hq]
                · cases h
              · cases h
          · cases h
        · cases h
      · rename_i m n hargs
        rw [cond_eq_ite] at h
        split at h
        · rename_i hsz1
          split at h
          · rename_i kt e hu
            split at h
            · rename_i K hku
              cases h
              refine ⟨Eff.refl _ _, fun q x hqn hq => ?_⟩
              simp only [evE, hcal, hargs, hsz1, cond_true, hu, hku]
            · rename_i K o hku
              split at h
              · rename_i es hg
                split at h
                · rename_i y hf
                  rw [cond_eq_ite] at h
                  split at h
                  · rename_i hb
                    cases h
                    refine ⟨Eff.put hb ⟨_, hg⟩, fun q x _ hq => ?_⟩
                    simp only [evE, hcal, hargs, hsz1, cond_true, hu, hku, get_frame hq hg, hf, hb]
                    rw [put_comm]
                    intro e; rw [e, hq] at hg; cases hg
                  · cases h
                · cases h
              · cases h
            · cases h
          · cases h
        · cases h
      · cases h
    · cases h
  · cases h

end Go.Ab
