/- Slice expressions, literals of structs, places of fields and elements. -/
import Derived.Test.YtphkigpngblniaaGreatAbX
namespace Go.Ab
set_option linter.unusedSectionVars false
variable [Rho] {P : Program} {μ : Mu}

/-- What is known of the bounds, in the world: the capacity there is cap', at least the known one. -/
theorem run_sliceBounds {t : Temps} {a : Act} (ht : TR μ t a.tmps) {lo hi mx : Option Operand} {vlo vhi vmx : Option AV} (h1 : optX t lo = some vlo) (h2 : optX t hi = some vhi) (h3 : optX t mx = some vmx)
    {len cap l h m : Nat} (hb : bounds len cap vlo vhi vmx = some (l, h, m)) (hlen : len ≤ cap) {cap' : Nat} (hcap : cap ≤ cap') (w : World) (sl : Bool) :
    (Instr.sliceBounds sl len cap' (lo.map a.eval) (hi.map a.eval) (mx.map a.eval)).run P w = .ok (l, h, if vmx.isSome then m else cap') w ∧ l ≤ h ∧ h ≤ m ∧ m ≤ cap ∧ (vmx = none → m = cap) := by
  unfold bounds at hb
  split at hb
  · rename_i m' hm hmh
    split at hb
    · rename_i h' hh
      split at hb
      · rename_i l' hl
        cases hb
        have hmx : m ≤ cap ∧ (vmx = none → m = cap) := by
          unfold bound at hm
          split at hm
          · cases hm; exact ⟨Nat.le_refl _, fun _ => rfl⟩
          · rw [cond_eq_ite] at hm
            split at hm
            · rename_i hc; cases hm; exact ⟨by simpa using hc, fun e => by cases e⟩
            · cases hm
          · cases hm
        have hhi : h ≤ m := by
          unfold bound at hh
          split at hh
          · cases hh
            cases vmx with
            | none => rw [hmx.2 rfl]; exact hlen
            | some u => simp at hmh
          · rw [cond_eq_ite] at hh
            split at hh
            · rename_i hc; cases hh; simpa using hc
            · cases hh
          · cases hh
        have hlo : l ≤ h := by
          unfold bound at hl
          split at hl
          · cases hl; exact Nat.zero_le _
          · rw [cond_eq_ite] at hl
            split at hl
            · rename_i hc; cases hl; simpa using hc
            · cases hl
          · cases hl
        refine ⟨?_, hlo, hhi, hmx.1, hmx.2⟩
        unfold Instr.sliceBounds
        rcases optX_sound ht h3 with ⟨rfl, e3⟩ | ⟨u3, c3, rfl, e3, r3⟩
        · rw [e3]
          have hm' : m = cap := hmx.2 rfl
          rcases optX_sound ht h2 with ⟨rfl, e2⟩ | ⟨u2, c2, rfl, e2, r2⟩
          · rw [e2]
            simp only [bound] at hh; cases hh
            rcases optX_sound ht h1 with ⟨rfl, e1⟩ | ⟨u1, c1, rfl, e1, r1⟩
            · rw [e1]; simp only [bound] at hl; cases hl; simp
            · rw [e1]; simp [(run_sliceBound hl r1 (Nat.le_refl _) _ w).1]
          · rw [e2]
            have k2 := (run_sliceBound (P := P) hh r2 (y := cap') (by omega) (if sl then .sliceAcap else .sliceAlen) w).1
            rcases optX_sound ht h1 with ⟨rfl, e1⟩ | ⟨u1, c1, rfl, e1, r1⟩
            · rw [e1]; simp only [bound] at hl; cases hl; simp [k2]
            · rw [e1]; simp [k2, (run_sliceBound hl r1 (Nat.le_refl _) _ w).1]
        · rw [e3]
          have k3 := (run_sliceBound (P := P) hm r3 (y := cap') hcap (if sl then .slice3Acap else .slice3Alen) w).1
          rcases optX_sound ht h2 with ⟨rfl, e2⟩ | ⟨u2, c2, rfl, e2, r2⟩
          · simp at hmh
          · rw [e2]
            have k2 := (run_sliceBound (P := P) hh r2 (y := m) (Nat.le_refl _) .slice3B w).1
            rcases optX_sound ht h1 with ⟨rfl, e1⟩ | ⟨u1, c1, rfl, e1, r1⟩
            · rw [e1]; simp only [bound] at hl; cases hl; simp [k3, k2]
            · rw [e1]; simp [k3, k2, (run_sliceBound hl r1 (Nat.le_refl _) _ w).1]
      · cases hb
    · cases hb
  · cases hb

theorem ite_some {α : Type} (c : Prop) [Decidable c] (x y : α) : ∃ z, (if c then some x else some y) = some z := by split <;> exact ⟨_, rfl⟩

theorem addr_add (b i n : Nat) : Addr.add ⟨b, i, none⟩ n = ⟨b, i + n, none⟩ := by unfold Addr.add; split <;> simp_all

theorem sliceA_sound {t : Temps} {a : Act} (ht : TR μ t a.tmps) {lo hi mx : Option Operand} {vlo vhi vmx : Option AV} (h1 : optX t lo = some vlo) (h2 : optX t hi = some vhi) (h3 : optX t mx = some vmx)
    {ty e : TypeId} {size : Nat} (hu : P.underlying ty = some (.slice e)) (hsz : sizeT P e = some size) {q : Option Loc} {len cap : Nat} {ex : Bool} {r : AV} {v : Value}
    (hs : sliceA size q len cap ex vlo vhi vmx = some r) (hv : VR μ (.slice q len cap ex) v) (w : World) :
    ∃ y, (Instr.sliceAt ty v (lo.map a.eval) (hi.map a.eval) (mx.map a.eval)).run P w = .ok y w ∧ VR μ r y := by
  unfold sliceA at hs
  split at hs
  · rename_i l h m hb
    cases q with
    | none =>
      cases hs
      obtain ⟨rfl, rfl, rfl⟩ := hv.slice_nil
      obtain ⟨k1, k2, k3, k4, _⟩ := run_sliceBounds (P := P) ht h1 h2 h3 hb (Nat.le_refl _) (Nat.le_refl 0) w true
      have e1 : m = 0 := by omega
      have e2 : h = 0 := by omega
      have e3 : l = 0 := by omega
      subst e1; subst e2; subst e3
      refine ⟨.slice none 0 0, ?_, VR.ofC (by simp [CR])⟩
      simp [Instr.sliceAt, Instr.slice, run_und hu, run_size hsz, k1]
    | some q =>
      obtain ⟨ad, c', rfl, hr⟩ := hv.slice
      simp only [cond_eq_ite] at hs
      -- what is known of the slice
      have hkind : (ex = true ∧ LR μ q ad ∧ c' = cap ∧ len ≤ cap) ∨ (ex = false ∧ cap = 0 ∧ len = 0) ∨
          (ex = false ∧ ∃ g sz, μ q.o q.v = some g ∧ ad = ⟨g.b, g.off + q.i, none⟩ ∧ len ≤ cap ∧ cap ≤ c' ∧ 0 < cap ∧ 0 < sz ∧ q.i + cap * sz = q.v ∧ q.i + c' * sz = g.fin) := by
        have := hr.2
        cases ex with
        | true => simp only [if_true] at this; exact .inl ⟨rfl, this⟩
        | false =>
          simp only [Bool.false_eq_true, if_false] at this
          rcases this with h | h
          · exact .inr (.inl ⟨rfl, h⟩)
          · exact .inr (.inr ⟨rfl, h⟩)
      have hlen : len ≤ cap := by rcases hkind with ⟨_, _, _, h⟩ | ⟨_, h, h'⟩ | ⟨_, _, _, _, _, h, _⟩ <;> omega
      have hcap : cap ≤ c' := by rcases hkind with ⟨_, _, h, _⟩ | ⟨_, h, h'⟩ | ⟨_, _, _, _, _, _, h, _⟩ <;> omega
      obtain ⟨k1, k2, k3, k4, k5⟩ := run_sliceBounds (P := P) ht h1 h2 h3 hb hlen hcap w true
      refine ⟨.slice (if (if vmx.isSome then m else c') = l then some ad else some (ad.add (l * size))) (h - l) ((if vmx.isSome then m else c') - l), ?_, ?_⟩
      · simp [Instr.sliceAt, Instr.slice, run_und hu, run_size hsz, k1]
      · by_cases hml : m = l
        · subst hml
          rw [if_pos (by simp)] at hs
          have hh : h = m := by omega
          subst hh
          rw [Nat.sub_self]
          by_cases hex : (ex || vmx.isSome && Nat.blt 0 cap) = true
          · rw [if_pos hex] at hs
            cases hs
            have hkn : (if vmx.isSome then h else c') = h ∧ LR μ q ad := by
              rcases hkind with ⟨_, h1, h2, _⟩ | ⟨h1, h2, _⟩ | ⟨h1, g, sz, h2, h3, _⟩
              · refine ⟨?_, h1⟩
                split
                · rfl
                · rename_i hn; rw [h2]; exact (k5 (by cases vmx <;> simp_all)).symm
              · simp [h1, h2, Nat.blt, Nat.ble] at hex
              · simp [h1] at hex
                refine ⟨by simp [hex.1], g, h2, h3⟩
            rw [hkn.1]
            refine VR.ofC ?_
            simp only [CR, SR, if_true, Nat.sub_self, true_and]
            exact ⟨hkn.2, by simp⟩
          · rw [if_neg hex] at hs
            cases hs
            have hx : ∃ ad2, (if (if vmx.isSome then h else c') = h then some ad else some (ad.add (h * size))) = some ad2 := ite_some _ _ _
            obtain ⟨ad2, hx⟩ := hx
            rw [hx]
            exact VR.ofC (by simp [CR, SR])
        · rw [if_neg (by simpa using hml)] at hs
          split at hs
          · rename_i hc
            cases hs
            have hm0 : 0 < m := by omega
            have hgb : ∃ g, μ q.o q.v = some g ∧ ad = ⟨g.b, g.off + q.i, none⟩ := by
              rcases hkind with ⟨_, h1, _⟩ | ⟨_, h2, _⟩ | ⟨_, g, sz, h2, h3, _⟩
              · exact h1
              · omega
              · exact ⟨g, h2, h3⟩
            obtain ⟨g, hg, rfl⟩ := hgb
            have hmv : ¬ (if vmx.isSome then m else c') = l := by
              split
              · exact hml
              · rename_i hn; have := k5 (by cases vmx <;> simp_all); omega
            rw [if_neg hmv, addr_add]
            refine VR.ofC ?_
            simp only [CR, SR, true_and]
            by_cases hex : (ex || vmx.isSome && Nat.blt 0 cap) = true
            · rw [if_pos hex]
              refine ⟨⟨g, hg, by rw [Nat.add_assoc]⟩, ?_, by omega⟩
              rcases hkind with ⟨_, _, h2, _⟩ | ⟨_, h2, _⟩ | ⟨h1, _⟩
              · split
                · rfl
                · rename_i hn; rw [h2, k5 (by cases vmx <;> simp_all)]
              · omega
              · simp [h1] at hex; simp [hex.1]
            · rw [if_neg hex]
              right
              simp only [hex, Bool.false_or] at hc
              rcases hkind with ⟨h1, _⟩ | ⟨_, h2, _⟩ | ⟨h1, g', sz, h2, h3, h4, h5, h6, h7, h8, h9⟩
              · simp [h1] at hex
              · omega
              · rw [hg] at h2; cases h2
                have hvm : vmx = none := by
                  cases vmx with
                  | none => rfl
                  | some u => simp [h6] at hex
                have hmc := k5 hvm
                have hsz' : sz = size := by
                  have hc' : q.i + cap * size = q.v := by simpa using hc
                  have : cap * sz = cap * size := by omega
                  exact Nat.eq_of_mul_eq_mul_left h6 this
                subst hsz'
                subst hmc
                refine ⟨g, sz, hg, by rw [Nat.add_assoc], by omega, ?_, by omega, h7, ?_, ?_⟩
                · simp [hvm]; omega
                · have : l * sz + (m - l) * sz = m * sz := by rw [← Nat.add_mul]; congr 1; omega
                  omega
                · simp only [hvm, Option.isSome_none, Bool.false_eq_true, if_false]
                  have : l * sz + (c' - l) * sz = c' * sz := by rw [← Nat.add_mul]; congr 1; omega
                  omega
          · cases hs
  · cases hs

end Go.Ab
