/- Operations that make an object. -/
import Derived.Test.YtphkigpngblniaaGreatAbL
namespace Go.Ab
set_option linter.unusedSectionVars false
variable [Rho] {P : Program} {μ : Mu}

/-- Behind an operation or a call. -/
structure Post (b : Bar) (μ : Mu) (w : World) (s' : St) (r : AV) (y : Value) (μ' : Mu) (w' : World) : Prop where
  ext : Ext μ μ' w
  rel : R μ' s' w'
  val : VR μ' r y
  kept : Kept b μ w w'

theorem repeatA_length (z : List AV) : ∀ n, (repeatA z n).length = n * z.length
  | 0 => by simp [repeatA]
  | n + 1 => by simp [repeatA, repeatA_length z n, Nat.succ_mul]; omega

theorem repeatA_get (z : List AV) : ∀ (n k : Nat), k < n * z.length → (repeatA z n)[k]? = z[k % z.length]?
  | 0, k, h => by simp at h
  | n + 1, k, h => by
    simp only [repeatA]
    by_cases hk : k < z.length
    · rw [List.getElem?_append_left hk, Nat.mod_eq_of_lt hk]
    · rw [List.getElem?_append_right (by omega), repeatA_get z n (k - z.length) (by rw [Nat.succ_mul] at h; omega)]
      rw [Nat.mod_eq_sub_mod (a := k) (by omega)]

theorem rep_sound {z : List AV} {zc : Array Value} (h : All2 (CR μ) z zc.toList) (n : Nat) (zr : Array Value) (hz : zr = zc ∨ n * zc.size = 0) :
    All2 (CR μ) (repeatA z n) ((Array.range (n * zc.size)).map (zr[· % zr.size]!)).toList := by
  have hl : z.length = zc.size := by simpa using h.length
  refine All2.of_get (by simp [repeatA_length, hl]) ?_
  intro i x hx
  have hi : i < n * z.length := by
    have := (List.getElem?_eq_some_iff.1 hx).1
    rwa [repeatA_length] at this
  rw [repeatA_get z n i hi] at hx
  rcases hz with rfl | h0
  · obtain ⟨y, hy, hr⟩ := h.get hx
    refine ⟨y, ?_, hr⟩
    have hpos : 0 < zr.size := by
      rcases Nat.eq_zero_or_pos zr.size with h1 | h1
      · rw [hl, h1] at hi; simp at hi
      · exact h1
    have hlt : i % zr.size < zr.size := Nat.mod_lt _ hpos
    simp only [hl, Array.getElem?_toList] at hy
    rw [Array.getElem?_eq_getElem hlt] at hy
    cases hy
    simp [hl ▸ hi, hlt]
  · rw [hl] at hi; omega

theorem take_all {as : List AV} {bs : List Value} (h : All2 (CR μ) as bs) : All2 (CR μ) as (bs.take as.length) := by
  have := h.length
  rw [this, List.take_length]; exact h

/-- A new array object, and its address. -/
theorem new_arr_post {s : St} {w : World} (hR : R μ s w) {q n : Nat} (hq : s.h.get q = none) (hqn : q < n) (hn : s.n ≤ n) {cs : List AV} {c : Array Value} {e : TypeId}
    (hc : All2 (CR μ) cs c.toList) (b : Bar) :
    ∃ μ', Ext μ μ' w ∧ R μ' { h := s.h.set q (.arr cs cs.length false), n := n } (w.alloc (.cells c e)) ∧ LR μ' ⟨q, cs.length, 0⟩ ⟨w.heap.size, 0, none⟩ ∧ Kept b μ w (w.alloc (.cells c e)) :=
  ⟨_, Ext.add (hR.unmapped hq _) (.inl (Nat.le_refl _)), hR.new_arr hq hqn hn (take_all hc) (by have := hc.length; simp at this; omega), ⟨_, Mu.add_same _ _ _ _, rfl⟩, Kept.alloc _ _ _ _⟩

theorem i64_wrap_nat {n : Nat} (h : n ≤ limit) : IntKind.i64.wrap (Int.ofNat n) = n := by
  have hl : n ≤ 4294967296 := h
  unfold IntKind.wrap
  simp [IntKind.bits, IntKind.signed]
  omega

theorem evAl_sound {s : St} {t : Temps} {a : Act} {o : Oper} {ob : AObj} {mk : Nat → AV} {w : World} (h : evAl P t o.op = some (ob, mk)) (hR : R μ s w) (ht : TR μ t a.tmps)
    {q n : Nat} (hq : s.h.get q = none) (hqn : q < n) (hn : s.n ≤ n) (b : Bar) :
    ∃ y μ' w', (execOp a.eval o).run P w = .ok (.value y) w' ∧ Post b μ w { h := s.h.set q ob, n := n } (mk q) y μ' w' := by
  obtain ⟨dst, op, type, pos, after, guard⟩ := o
  unfold evAl at h
  simp only at h
  split at h
  -- alloc
  · split at h
    · rename_i z hz
      cases h
      obtain ⟨zv, e0, e1⟩ := run_zero_cells hz w
      obtain ⟨μ', k1, k2, k3, k4⟩ := new_arr_post (e := ‹TypeId›) hR hq hqn hn (e1 μ) b
      exact ⟨.pointer (some ⟨w.heap.size, 0, none⟩), μ', _, by simp [execOp, Instr.alloc, e0, newVar, newRow], k1, k2, VR.ofC k3, k4⟩
    · cases h
  -- box
  · split at h
    · rename_i v hx
      rw [cond_eq_ite] at h
      split at h
      · rename_i hone
        cases h
        have hv := (evX_sound hx ht).cells hone
        obtain ⟨μ', k1, k2, k3, k4⟩ := new_arr_post (e := ‹TypeId›) hR hq hqn hn hv b
        exact ⟨.pointer (some ⟨w.heap.size, 0, none⟩), μ', _, by simp [execOp, Instr.box, newVar, newRow], k1, k2, VR.ofC k3, k4⟩
      · cases h
    · cases h
  -- buildSlice
  · rename_i ty len ps
    split at h
    · rename_i vs e hps hu
      split at h
      · rename_i n' z hsz hz
        rw [cond_eq_ite] at h
        split at h
        · rename_i hc
          simp only [Bool.and_eq_true, Nat.ble_eq, Nat.beq_eq] at hc
          split at h
          · rename_i cs hf
            cases h
            obtain ⟨zv, e0, e1⟩ := run_zero_cells hz w
            have hzs : zv.cells.size = n' := by have := (e1 μ).length; simp at this; omega
            have h24 : ¬ len * n' > 2 ^ 24 := by omega
            by_cases h0 : len * n' = 0
            · obtain ⟨c', f1, f2⟩ := fillA_sound (μ := μ) (fun i => rfl) hf (rep_sound (e1 μ) len #[] (.inr (by rw [hzs]; exact h0))) (evParts_sound ht hps)
              rw [hzs] at f1
              obtain ⟨μ', k1, k2, k3, k4⟩ := new_arr_post (e := e) hR hq hqn hn f2 b
              refine ⟨.slice (some ⟨w.heap.size, 0, none⟩) len len, μ', _, ?_, k1, k2, VR.ofC ?_, k4⟩
              · simp only [execOp, Instr.buildSlice, Sem.run_bind, run_und hu, Result.andThen_ok, run_size hsz, if_neg h24, if_pos h0, Sem.run_pure]
                rw [Array.toList_map, f1]
                simp [newRow]
              · simp only [CR, SR, if_true, true_and]; exact ⟨k3, by simp⟩
            · obtain ⟨c', f1, f2⟩ := fillA_sound (μ := μ) (fun i => rfl) hf (rep_sound (e1 μ) len zv.cells (.inl rfl)) (evParts_sound ht hps)
              rw [hzs] at f1
              obtain ⟨μ', k1, k2, k3, k4⟩ := new_arr_post (e := e) hR hq hqn hn f2 b
              refine ⟨.slice (some ⟨w.heap.size, 0, none⟩) len len, μ', _, ?_, k1, k2, VR.ofC ?_, k4⟩
              · simp only [execOp, Instr.buildSlice, Sem.run_bind, run_und hu, Result.andThen_ok, run_size hsz, if_neg h24, if_neg h0, Sem.run_pure, e0]
                rw [hzs, Array.toList_map, f1]
                simp [newRow]
              · simp only [CR, SR, if_true, true_and]; exact ⟨k3, by simp⟩
          · cases h
        · cases h
      · cases h
    · cases h
  -- makeSlice
  · split at h
    · rename_i e kl l kc c hu hl hc
      split at h
      · rename_i n' z by' hsz hz hby
        rw [cond_eq_ite] at h
        split at h
        · rename_i hcond
          simp only [Bool.and_eq_true, Nat.ble_eq, Nat.beq_eq] at hcond
          obtain ⟨⟨⟨hlc, hcl⟩, hb4⟩, hzl⟩ := hcond
          cases h
          obtain ⟨zv, e0, e1⟩ := run_zero_cells hz w
          have hzs : zv.cells.size = n' := by have := (e1 μ).length; simp at this; omega
          have hlim : limit = 4294967296 := rfl
          have el := (evX_sound hl ht).int
          have ec := (evX_sound hc ht).int
          have wl : IntKind.i64.wrap (Int.ofNat l) = (l : Int) := i64_wrap_nat (by omega)
          have wc : IntKind.i64.wrap (Int.ofNat c) = (c : Int) := i64_wrap_nat (by omega)
          have hinfo : ∃ i, P.info? e = some i ∧ i.bytes = by' := by
            unfold bytesT at hby
            split at hby
            · rename_i i hi; exact ⟨i, hi, by cases hby; rfl⟩
            · cases hby
          obtain ⟨i, hi, hib⟩ := hinfo
          have hmul : (by' : Int) * (c : Int) ≤ 2 ^ 48 := by
            have : by' * c ≤ 4096 * 4294967296 := Nat.mul_le_mul hb4 (by omega)
            have h2 : ((by' * c : Nat) : Int) ≤ ((4096 * 4294967296 : Nat) : Int) := by exact_mod_cast this
            simp at h2; omega
          have hcs : (repeatA z.cells c).length = c * n' := by rw [repeatA_length, hzl]
          have g : ¬ (((decide ((c : Int) < 0) || decide ((by' : Int) * (c : Int) > 2 ^ 48)) || decide ((l : Int) < 0) || decide ((l : Int) > (c : Int))) = true) := by
            simp; omega
          by_cases h0 : c * n' = 0
          · have f2 := rep_sound (e1 μ) c #[] (.inr (by rw [hzs]; exact h0))
            obtain ⟨μ', k1, k2, k3, k4⟩ := new_arr_post (e := e) hR hq hqn hn f2 b
            rw [hcs] at k2 k3
            refine ⟨.slice (some ⟨w.heap.size, 0, none⟩) l c, μ', _, ?_, k1, k2, VR.ofC ?_, k4⟩
            · simp only [execOp, Instr.makeSlice, el, ec, asInt, asIntOf, typeInfo, Sem.run_bind, run_und hu, Result.andThen_ok, Sem.run_pure, run_program, hi, hib, wl, wc, if_neg g, run_askRoom, run_size hsz,
                Int.toNat_natCast, if_pos h0, newRow, run_newObj, hzs]
              simp
            · simp only [CR, SR, if_true, true_and]; exact ⟨k3, hlc⟩
          · have f2 := rep_sound (e1 μ) c zv.cells (.inl rfl)
            obtain ⟨μ', k1, k2, k3, k4⟩ := new_arr_post (e := e) hR hq hqn hn f2 b
            rw [hcs] at k2 k3
            refine ⟨.slice (some ⟨w.heap.size, 0, none⟩) l c, μ', _, ?_, k1, k2, VR.ofC ?_, k4⟩
            · simp only [execOp, Instr.makeSlice, el, ec, asInt, asIntOf, typeInfo, Sem.run_bind, run_und hu, Result.andThen_ok, Sem.run_pure, run_program, hi, hib, wl, wc, if_neg g, run_askRoom, run_size hsz,
                Int.toNat_natCast, if_neg h0, newRow, run_newObj, e0, hzs]
              simp
            · simp only [CR, SR, if_true, true_and]; exact ⟨k3, hlc⟩
        · cases h
      · cases h
    · cases h
  -- makeMap
  · have hm : MapR μ [] #[] 0 := ⟨[], [], rfl, by simp, .refl _, trivial, by simp, by simp⟩
    have hpost : ∀ (x : Value) (hx : (Instr.makeMap ‹TypeId› ((‹Option Operand› : Option Operand).map a.eval)).run P w = .ok (.map (some w.heap.size)) (w.alloc (.map #[] 0))), True := fun _ _ => trivial
    split at h
    · cases h
      refine ⟨.map (some w.heap.size), _, w.alloc (.map #[] 0), by simp [execOp, Instr.makeMap], Ext.add (hR.unmapped hq _) (.inl (Nat.le_refl _)), hR.new_map hq hqn hn hm, VR.ofC ?_, Kept.alloc _ _ _ _⟩
      exact ⟨_, Mu.add_same _ _ _ _, rfl⟩
    · split at h
      · rename_i hu hx
        cases h
        have e := (evX_sound hx ht).int
        refine ⟨.map (some w.heap.size), _, w.alloc (.map #[] 0), by simp [execOp, Instr.makeMap, run_und hu, e, asInt, asIntOf], Ext.add (hR.unmapped hq _) (.inl (Nat.le_refl _)), hR.new_map hq hqn hn hm, VR.ofC ?_, Kept.alloc _ _ _ _⟩
        exact ⟨_, Mu.add_same _ _ _ _, rfl⟩
      · cases h
  · cases h

end Go.Ab
