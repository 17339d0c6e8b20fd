/- A range over a map of at most one entry: the parts. -/
import Derived.Test.YtphkigpngblniaaGreatAbC
namespace Go.Ab
set_option linter.unusedSectionVars false
variable [Rho] {P : Program}

/-- A block that nothing is mapped to becomes a new array object. -/
theorem R.lay_arr {μ : Mu} {s : St} {w : World} (hR : R μ s w) {q n : Nat} (hq : s.h.get q = none) (hqn : q < n) (hn : s.n ≤ n) {cs : List AV} {ro : Bool} {gb fin : Nat}
    (hgb : gb < w.heap.size) (hfree : ∀ o v g, μ o v = some g → g.b ≠ gb) (ha : ArrR μ cs cs.length ro cs.length ⟨gb, fin, 0⟩ w) :
    R (μ.add q cs.length ⟨gb, fin, 0⟩) { h := s.h.set q (.arr cs cs.length ro), n := n } w where
  fresh o v g h := by
    rcases Mu.add_inv h with ⟨rfl, rfl, rfl⟩ | h'
    · exact ⟨hqn, ⟨_, Tr.get_set_same _ _ _⟩, hgb⟩
    · obtain ⟨a, ⟨x, b⟩, d⟩ := hR.fresh o v g h'
      refine ⟨Nat.lt_of_lt_of_le a hn, ?_, d⟩
      simp only [Tr.get_set]
      split
      · exact ⟨_, rfl⟩
      · exact ⟨x, b⟩
  next o ho := by
    simp only at ho
    simp only
    rw [Tr.get_set_other _ _ _ _ (by omega)]; exact hR.next o (Nat.le_trans hn ho)
  inj o v g o' v' g' h h' hb := by
    rcases Mu.add_inv h with ⟨rfl, rfl, rfl⟩ | h1 <;> rcases Mu.add_inv h' with ⟨rfl, rfl, rfl⟩ | h2
    · rfl
    · exact absurd hb.symm (hfree _ _ _ h2)
    · exact absurd hb (hfree _ _ _ h1)
    · exact hR.inj _ _ _ _ _ _ h1 h2 hb
  offs o v g o' v' g' h h' hb := by
    rcases Mu.add_inv h with ⟨rfl, rfl, rfl⟩ | h1 <;> rcases Mu.add_inv h' with ⟨rfl, rfl, rfl⟩ | h2
    · rfl
    · exact absurd hb.symm (hfree _ _ _ h2)
    · exact absurd hb (hfree _ _ _ h1)
    · exact hR.offs _ _ _ _ _ _ h1 h2 hb
  ext o es lo ro' v g h h' := by
    simp only [Tr.get_set] at h
    split at h
    · rename_i e1; subst e1; cases h
      rcases Mu.add_inv h' with ⟨_, rfl, _⟩ | h2
      · exact Nat.le_refl _
      · rw [hR.unmapped hq] at h2; cases h2
    · rename_i e1
      rcases Mu.add_inv h' with ⟨rfl, _, _⟩ | h2
      · exact absurd rfl e1
      · exact hR.ext _ _ _ _ _ _ h h2
  arr o es lo ro' v g h h' hlo := by
    simp only [Tr.get_set] at h
    split at h
    · rename_i e1; subst e1; cases h
      rcases Mu.add_inv h' with ⟨_, rfl, rfl⟩ | h2
      · exact ha.of_block (Mu.add_old (hR.unmapped hq _)) rfl
      · rw [hR.unmapped hq] at h2; cases h2
    · rename_i e1
      rcases Mu.add_inv h' with ⟨rfl, _, _⟩ | h2
      · exact absurd rfl e1
      · exact (hR.arr _ _ _ _ _ _ h h2 hlo).of_block (Mu.add_old (hR.unmapped hq _)) rfl
  map o es v g h h' := by
    simp only [Tr.get_set] at h
    split at h
    · cases h
    · rename_i e1
      rcases Mu.add_inv h' with ⟨rfl, _, _⟩ | h2
      · exact absurd rfl e1
      · obtain ⟨z, x, y, k1, k2⟩ := hR.map _ _ _ _ h h2
        exact ⟨z, x, y, k1, k2.mono (Mu.add_old (hR.unmapped hq _))⟩

/-- An object without cells stands for a block of whatever kind. -/
theorem ArrR.void {μ : Mu} {w : World} (b : Nat) : ArrR μ [] 0 true 0 ⟨b, 0, 0⟩ w where
  fin := Nat.le_refl _
  cell i x hi := absurd hi (Nat.not_lt_zero _)
  there i hi := absurd hi (Nat.not_lt_zero _)
  free h := by cases h

/-- The block of such an object may turn. -/
theorem R.turn {μ : Mu} {s : St} {w w' : World} (hR : R μ s w) {q I : Nat} (hq : s.h.get q = some (.arr [] 0 true)) (hm : μ q 0 = some ⟨I, 0, 0⟩) (hs : w'.heap.size = w.heap.size) (hh : ∀ B, B ≠ I → w'.heap[B]? = w.heap[B]?) : R μ s w' where
  fresh o v g h := by rw [hs]; exact hR.fresh o v g h
  next := hR.next
  inj := hR.inj
  offs := hR.offs
  ext := hR.ext
  arr o cs lo ro v g h h' hlo := by
    by_cases e : g.b = I
    · have : o = q := hR.inj o v g q 0 ⟨I, 0, 0⟩ h' hm e
      subst this
      rw [hq] at h; cases h
      have hv := hR.ext _ _ _ _ _ _ hq h'
      have hv : v = 0 := by simpa using hv
      subst hv
      rw [hm] at h'; cases h'
      exact ArrR.void I
    · exact (hR.arr _ _ _ _ _ _ h h' hlo).of_block (fun _ _ _ h => h) (hh _ e)
  map o es v g h h' := by
    have : g.b ≠ I := fun e => by
      have : o = q := hR.inj o v g q 0 ⟨I, 0, 0⟩ h' hm e
      subst this
      rw [hq] at h; cases h
    rw [hh _ this]
    exact hR.map _ _ _ _ h h'

/-! ### the iterator's steps -/

theorem next_nil {w : World} {I : Nat} {c l : Nat} {sn : Array Nat} {ty : TypeId} (h : w.heap[I]? = some (.mapIter none c sn l)) :
    (Instr.next (.pointer (some ⟨I, 0, none⟩)) false ty).run P w = .ok (.tuple #[.bool false]) w := by
  simp [Instr.next, run_getObj (P := P) h (fun _ _ _ e => by cases e)]

theorem next_none {w : World} {I M clock : Nat} {ty : TypeId} (h : w.heap[I]? = some (.mapIter (some M) clock #[] clock)) (hm : w.heap[M]? = some (.map #[] clock)) :
    (Instr.next (.pointer (some ⟨I, 0, none⟩)) false ty).run P w = .ok (.tuple #[.bool false]) w := by
  simp [Instr.next, run_getObj (P := P) h (fun _ _ _ e => by cases e), run_getObj (P := P) hm (fun _ _ _ e => by cases e), Question.forced]

theorem next_one {w : World} {I M clock : Nat} {e : MapEntry} {ty : TypeId} (h : w.heap[I]? = some (.mapIter (some M) clock #[] clock)) (hm : w.heap[M]? = some (.map #[e] clock)) (hb : e.born < clock) :
    (Instr.next (.pointer (some ⟨I, 0, none⟩)) false ty).run P w = .ok (.tuple #[.bool true, e.key, e.val]) { w with heap := w.heap.setIfInBounds I (.mapIter (some M) clock #[e.born] clock) } := by
  have hb' : ¬ clock ≤ e.born := by omega
  have hset := run_setObj (P := P) (x := .mapIter (some M) clock #[e.born] clock) h (fun _ _ _ e => by cases e)
  simp [Instr.next, run_getObj (P := P) h (fun _ _ _ e => by cases e), run_getObj (P := P) hm (fun _ _ _ e => by cases e), Question.forced, hb, hb', hset]

theorem next_over {w : World} {I M clock : Nat} {e : MapEntry} {ty : TypeId} (h : w.heap[I]? = some (.mapIter (some M) clock #[e.born] clock)) (hm : w.heap[M]? = some (.map #[e] clock)) (hb : e.born < clock) :
    (Instr.next (.pointer (some ⟨I, 0, none⟩)) false ty).run P w = .ok (.tuple #[.bool false]) w := by
  have hb' : ¬ clock ≤ e.born := by omega
  simp [Instr.next, run_getObj (P := P) h (fun _ _ _ e => by cases e), run_getObj (P := P) hm (fun _ _ _ e => by cases e), Question.forced, hb']

theorem entry_one {w : World} {I M clock : Nat} {e : MapEntry} (h : w.heap[I]? = some (.mapIter (some M) clock #[e.born] clock)) (hm : w.heap[M]? = some (.map #[e] clock)) :
    (Instr.entry (.pointer (some ⟨I, 0, none⟩))).run P w = .ok (.tuple #[e.key, e.val]) w := by
  simp [Instr.entry, run_getObj (P := P) h (fun _ _ _ e => by cases e), run_getObj (P := P) hm (fun _ _ _ e => by cases e)]

end Go.Ab
