/- An array that grows: in its place, or in a new block. -/
import Derived.Test.YtphkigpngblniaaGreatAbT
namespace Go.Ab
set_option linter.unusedSectionVars false
variable [Rho] {P : Program}

/-- A block holds the cells of an array that has grown. -/
theorem R.grow {μ : Mu} {s : St} {w w' : World} {o : Nat} {cs new : List AV} {lo : Nat} {g' : Tgt} (hR : R μ s w) (hg : s.h.get o = some (.arr cs lo false)) (hnew : 0 < new.length)
    (hs : w.heap.size ≤ w'.heap.size) (hb : g'.b < w'.heap.size)
    (hown : w.heap.size ≤ g'.b ∨ ∃ g0, μ o cs.length = some g0 ∧ g0.b = g'.b ∧ g0.off = g'.off)
    (hother : ∀ B, B < w.heap.size → (∃ v g, μ o v = some g ∧ g.b = B) ∨ w'.heap[B]? = w.heap[B]?)
    (hold : ∀ v g, μ o v = some g → lo ≤ v → v ≤ cs.length → ArrR μ cs lo false v g w')
    (hA : ∀ μ' : Mu, (∀ o v g, μ o v = some g → μ' o v = some g) → ArrR μ' (cs ++ new) lo false (cs.length + new.length) g' w') :
    R (μ.add o (cs.length + new.length) g') (s.put o (.arr (cs ++ new) lo false)) w' := by
  have hnone : μ o (cs.length + new.length) = none := by
    cases h : μ o (cs.length + new.length) with
    | none => rfl
    | some g => have := hR.ext _ _ _ _ _ _ hg h; omega
  have hmono : ∀ v g, ArrR μ cs lo false v g w' → v ≤ cs.length → ArrR (μ.add o (cs.length + new.length) g') (cs ++ new) lo false v g w' := by
    intro v g h hv
    refine ⟨h.fin, fun i x hi hx => ?_, h.there, h.free⟩
    rw [List.getElem?_append_left (by omega)] at hx
    obtain ⟨y, h1, h2⟩ := h.cell i x hi hx
    exact ⟨y, h1, h2.mono (Mu.add_old hnone)⟩
  exact {
    fresh := fun q v g h => by
      rcases Mu.add_inv h with ⟨rfl, rfl, rfl⟩ | h'
      · refine ⟨?_, ⟨_, Tr.get_set_same _ _ _⟩, hb⟩
        rcases Nat.lt_or_ge q s.n with h1 | h1
        · exact h1
        · rw [hR.next q h1] at hg; cases hg
      · obtain ⟨a, ⟨x, b⟩, d⟩ := hR.fresh q v g h'
        refine ⟨a, ?_, Nat.lt_of_lt_of_le d hs⟩
        simp only [St.put, Tr.get_set]
        split
        · exact ⟨_, rfl⟩
        · exact ⟨x, b⟩
    next := fun q hq => by
      simp only [St.put] at hq ⊢
      rw [Tr.get_set_other]
      · exact hR.next q hq
      · intro e; subst e; rw [hR.next q hq] at hg; cases hg
    inj := fun q v g q' v' h' k k' hb' => by
      have key : ∀ q v g, μ q v = some g → g.b = g'.b → q = o := by
        intro q v g k hq
        rcases hown with h1 | ⟨g0, h1, h2, _⟩
        · have := (hR.fresh _ _ _ k).2.2; omega
        · exact hR.inj _ _ _ _ _ _ k h1 (hq.trans h2.symm)
      rcases Mu.add_inv k with ⟨rfl, rfl, rfl⟩ | h1 <;> rcases Mu.add_inv k' with ⟨rfl, rfl, rfl⟩ | h2
      · rfl
      · exact (key _ _ _ h2 hb'.symm).symm
      · exact key _ _ _ h1 hb'
      · exact hR.inj _ _ _ _ _ _ h1 h2 hb'
    offs := fun q v g q' v' h' k k' hb' => by
      have key : ∀ q v g, μ q v = some g → g.b = g'.b → g.off = g'.off := by
        intro q v g k hq
        rcases hown with h1 | ⟨g0, h1, h2, h3⟩
        · have := (hR.fresh _ _ _ k).2.2; omega
        · rw [← h3]; exact hR.offs _ _ _ _ _ _ k h1 (hq.trans h2.symm)
      rcases Mu.add_inv k with ⟨rfl, rfl, rfl⟩ | h1 <;> rcases Mu.add_inv k' with ⟨rfl, rfl, rfl⟩ | h2
      · rfl
      · exact (key _ _ _ h2 hb'.symm).symm
      · exact key _ _ _ h1 hb'
      · exact hR.offs _ _ _ _ _ _ h1 h2 hb'
    ext := fun q es l r v g h h' => by
      simp only [St.put, Tr.get_set] at h
      split at h
      · rename_i e; subst e; cases h
        rcases Mu.add_inv h' with ⟨_, rfl, _⟩ | h2
        · simp
        · have := hR.ext _ _ _ _ _ _ hg h2; simp; omega
      · rename_i e
        rcases Mu.add_inv h' with ⟨rfl, _, _⟩ | h2
        · exact absurd rfl e
        · exact hR.ext _ _ _ _ _ _ h h2
    arr := fun q es l r v g h h' hl => by
      simp only [St.put, Tr.get_set] at h
      split at h
      · rename_i e; subst e; cases h
        rcases Mu.add_inv h' with ⟨_, rfl, rfl⟩ | h2
        · exact hA _ (Mu.add_old hnone)
        · have hle := hR.ext _ _ _ _ _ _ hg h2
          exact hmono _ _ (hold v g h2 hl hle) hle
      · rename_i e
        rcases Mu.add_inv h' with ⟨rfl, _, _⟩ | h2
        · exact absurd rfl e
        · refine (hR.arr _ _ _ _ _ _ h h2 hl).of_block (Mu.add_old hnone) ?_
          rcases hother g.b (hR.fresh _ _ _ h2).2.2 with ⟨v1, g1, k1, k2⟩ | k
          · exact absurd (hR.inj _ _ _ _ _ _ h2 k1 k2.symm) e
          · exact k
    map := fun q es v g h h' => by
      simp only [St.put, Tr.get_set] at h
      split at h
      · cases h
      · rename_i e
        rcases Mu.add_inv h' with ⟨rfl, _, _⟩ | h2
        · exact absurd rfl e
        · obtain ⟨z, x, y, k1, k2⟩ := hR.map _ _ _ _ h h2
          refine ⟨z, x, y, ?_, k2.mono (Mu.add_old hnone)⟩
          rcases hother g.b (hR.fresh _ _ _ h2).2.2 with ⟨v1, g1, k3, k4⟩ | k
          · exact absurd (hR.inj _ _ _ _ _ _ h2 k3 k4.symm) e
          · rw [k]; exact k1 }

theorem all_one {μ : Mu} : ∀ {vs : List AV} {ws : List Value}, All2 (CR μ) vs ws → ∀ x ∈ ws, x.oneCell' = true
  | [], [], _, x, hx => by simp at hx
  | _ :: _, _ :: _, ⟨h1, h2⟩, x, hx => by
    rcases List.mem_cons.1 hx with rfl | hx
    · exact h1.oneCell
    · exact all_one h2 x hx
  | [], _ :: _, h, _, _ => h.elim
  | _ :: _, [], h, _, _ => h.elim

/-- In its place. -/
theorem R.grow_here {μ : Mu} {s : St} {w : World} {o : Nat} {cs new : List AV} {ws : List Value} {lo : Nat} {g : Tgt} (hR : R μ s w) (hg : s.h.get o = some (.arr cs lo false)) (hlo : lo ≤ cs.length) (hnew : 0 < new.length)
    (hm : μ o cs.length = some g) (hfit : cs.length + new.length ≤ g.fin) (hv : All2 (CR μ) new ws) :
    (storeCells ⟨g.b, g.off + cs.length, none⟩ ws).run P w = .ok () (setCells w g.b (g.off + cs.length) ws) ∧
    R (μ.add o (cs.length + new.length) g) (s.put o (.arr (cs ++ new) lo false)) (setCells w g.b (g.off + cs.length) ws) := by
  have hA := hR.arr _ _ _ _ _ _ hg hm hlo
  have hlen := hv.length
  have hth : ∀ j, j < ws.length → (w.cell? ⟨g.b, g.off + cs.length + j, none⟩).isSome = true := fun j hj => by
    rw [Nat.add_assoc]; exact hA.there _ (by omega)
  constructor
  · have := run_storeCells (P := P) g.b ws (g.off + cs.length) 0 w (all_one hv) (fun j hj => by simpa using hth j hj) (fun k => hA.free rfl k)
    simpa using this
  · refine R.grow (g' := g) hR hg hnew (by rw [setCells_size]; exact Nat.le_refl _) (by rw [setCells_size]; exact (hR.fresh _ _ _ hm).2.2) (.inr ⟨g, hm, rfl, rfl⟩) ?_ ?_ ?_
    · intro B _
      by_cases hB : B = g.b
      · exact .inl ⟨_, _, hm, hB.symm⟩
      · exact .inr (setCells_heap _ _ _ _ _ hB)
    · intro v g1 hm1 hl hle
      have hA1 := hR.arr _ _ _ _ _ _ hg hm1 hl
      by_cases hB : g1.b = g.b
      · have ho : g1.off = g.off := hR.offs _ _ _ _ _ _ hm1 hm hB
        have e : ∀ i, i < v → (setCells w g.b (g.off + cs.length) ws).cell? ⟨g1.b, g1.off + i, none⟩ = w.cell? ⟨g1.b, g1.off + i, none⟩ := fun i hi => by
          rw [hB, ho]; exact setCells_cell_other _ _ _ _ _ (.inl (by omega))
        refine ⟨hA1.fin, fun i x hi hx => ?_, fun i hi => ?_, fun _ i => by rw [setCells_frozen]; exact hA1.free rfl i⟩
        · rw [e i hi]; exact hA1.cell i x hi hx
        · have := hA1.there i hi
          rw [hB] at this ⊢
          exact setCells_there _ _ _ _ hth _ this
      · exact hA1.of_block (fun _ _ _ h => h) (setCells_heap _ _ _ _ _ hB)
    · intro μ' he
      refine ⟨hfit, fun i x hi hx => ?_, fun i hi => setCells_there _ _ _ _ hth _ (hA.there i hi), fun _ i => by rw [setCells_frozen]; exact hA.free rfl i⟩
      by_cases h1 : i < cs.length
      · rw [List.getElem?_append_left h1] at hx
        obtain ⟨y, k1, k2⟩ := hA.cell i x h1 hx
        exact ⟨y, by rw [setCells_cell_other _ _ _ _ _ (.inl (by omega))]; exact k1, k2.mono he⟩
      · rw [List.getElem?_append_right (by omega)] at hx
        obtain ⟨y, hy, hyr⟩ := hv.get hx
        have := setCells_cell g.b ws (g.off + cs.length) w hth (i - cs.length) y hy
        rw [show g.off + cs.length + (i - cs.length) = g.off + i from by omega] at this
        exact ⟨y, this, hyr.mono he⟩

/-- In a new block. -/
theorem R.grow_there {μ : Mu} {s : St} {w : World} {o : Nat} {cs new : List AV} {c : Array Value} {e : TypeId} {lo : Nat} (hR : R μ s w) (hg : s.h.get o = some (.arr cs lo false)) (_hlo : lo ≤ cs.length) (hnew : 0 < new.length)
    (hc : All2 (CR μ) (cs ++ new) (c.toList.take (cs.length + new.length))) (hf : cs.length + new.length ≤ c.size) :
    R (μ.add o (cs.length + new.length) ⟨w.heap.size, c.size, 0⟩) (s.put o (.arr (cs ++ new) lo false)) (w.alloc (.cells c e)) := by
  refine R.grow (g' := ⟨w.heap.size, c.size, 0⟩) hR hg hnew (by simp) (by simp) (.inl (Nat.le_refl _)) (fun B hB => .inr (alloc_heap _ _ _ hB)) ?_ ?_
  · intro v g hm hl hle
    exact (hR.arr _ _ _ _ _ _ hg hm hl).of_block (fun _ _ _ h => h) (alloc_heap _ _ _ (hR.fresh _ _ _ hm).2.2)
  · intro μ' he
    refine ⟨hf, fun i x hi hx => ?_, fun i hi => by simp only [Nat.zero_add]; rw [World.cell?_alloc_new]; simpa using hi, fun _ i => World.frozen?_alloc_new w c e i⟩
    obtain ⟨y, hy, hr⟩ := hc.get hx
    rw [List.getElem?_take_of_lt hi] at hy
    exact ⟨y, by simp only [Nat.zero_add]; rw [World.cell?_alloc_new]; simpa using hy, hr.mono he⟩

end Go.Ab
