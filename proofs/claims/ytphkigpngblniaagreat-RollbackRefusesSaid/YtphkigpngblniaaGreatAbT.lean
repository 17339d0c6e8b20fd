/- Reading, writing and making cells: what the abstract state tells, the world does. -/
import Derived.Test.YtphkigpngblniaaGreatAbS
namespace Go.Ab
set_option linter.unusedSectionVars false
variable [Rho] {P : Program}

/-! ### reading -/

theorem run_loadCellsFrom (w : World) (b off : Nat) : ∀ (ys : List Value) (i : Nat) (acc : Array Value),
    (∀ (j : Nat) (y : Value), ys[j]? = some y → w.cell? ⟨b, off + (i + j), none⟩ = some y) →
    (loadCellsFrom ⟨b, off, none⟩ i ys.length acc).run P w = .ok (acc ++ ys.toArray) w
  | [], _, acc, _ => by simp [loadCellsFrom]
  | y :: ys, i, acc, h => by
    have h0 := h 0 y (by simp)
    have h1 := run_loadCellsFrom w b off ys (i + 1) (acc.push y) fun j z hz => by
      have := h (j + 1) z (by simpa using hz)
      rw [show i + 1 + j = i + (j + 1) from by omega]; exact this
    have ha : Addr.add ⟨b, off, none⟩ i = ⟨b, off + i, none⟩ := by unfold Addr.add; split <;> simp_all
    simp only [List.length_cons, loadCellsFrom, Sem.run_bind, run_load, ha]
    rw [show off + (i + 0) = off + i from by omega] at h0
    rw [h0]
    simp only [Result.andThen_ok]
    rw [h1]
    simp

theorem run_loadCells (w : World) (b off : Nat) (ys : List Value) (h : ∀ (j : Nat) (y : Value), ys[j]? = some y → w.cell? ⟨b, off + j, none⟩ = some y) :
    (loadCells ⟨b, off, none⟩ ys.length).run P w = .ok ys.toArray w := by
  have := run_loadCellsFrom (P := P) w b off ys 0 #[] fun j y hy => by simpa using h j y hy
  simpa [loadCells] using this

theorem readCells_spec {s : St} {l : Loc} {n : Nat} {cs : List AV} (h : readCells s l n = some cs) :
    ∃ ds lo ro, s.h.get l.o = some (.arr ds lo ro) ∧ lo ≤ l.v ∧ l.i + n ≤ l.v ∧ l.v ≤ ds.length ∧ cs = (ds.drop l.i).take n := by
  unfold readCells at h
  split at h
  · rename_i ds lo ro hg
    rw [cond_eq_ite] at h
    split at h
    · rename_i hc
      simp only [Bool.and_eq_true, Nat.ble_eq] at hc
      exact ⟨ds, lo, ro, hg, hc.1.1, hc.1.2, hc.2, by simpa using h.symm⟩
    · cases h
  · cases h

theorem readCells_length {s : St} {l : Loc} {n : Nat} {cs : List AV} (h : readCells s l n = some cs) : cs.length = n := by
  obtain ⟨ds, lo, ro, _, _, h1, h2, rfl⟩ := readCells_spec h
  simp; omega

theorem readCells_sound' {μ : Mu} {s : St} {w : World} {l : Loc} {n : Nat} {cs : List AV} {a : Addr} (h : readCells s l n = some cs) (hR : R μ s w) (hl : LR μ l a) :
    ∃ ys, (∀ w' : World, w'.heap = w.heap → (loadCells a n).run P w' = .ok ys w') ∧ All2 (CR μ) cs ys.toList ∧ ys.size = n := by
  obtain ⟨ds, lo, ro, hg, h1, h2, h3, rfl⟩ := readCells_spec h
  obtain ⟨g, hm, rfl⟩ := hl
  have hA := hR.arr _ _ _ _ _ _ hg hm h1
  have key : ∀ (k m : Nat), m + k ≤ l.v → ∃ ys : List Value, ys.length = k ∧ (∀ (j : Nat) (y : Value), ys[j]? = some y → w.cell? ⟨g.b, g.off + m + j, none⟩ = some y) ∧ All2 (CR μ) ((ds.drop m).take k) ys := by
    intro k
    induction k with
    | zero => exact fun m _ => ⟨[], rfl, by simp, by simp [All2]⟩
    | succ k ih =>
      intro m hm
      obtain ⟨ys, e1, e2, e3⟩ := ih (m + 1) (by omega)
      have hlt : m < ds.length := by omega
      obtain ⟨y, hy, hc⟩ := hA.cell m ds[m] (by omega) (by simp [hlt])
      refine ⟨y :: ys, by simp [e1], ?_, ?_⟩
      · intro j z hz
        cases j with
        | zero => simp at hz; subst hz; simpa using hy
        | succ j => rw [show g.off + m + (j + 1) = g.off + (m + 1) + j from by omega]; exact e2 j z (by simpa using hz)
      · rw [List.drop_eq_getElem_cons hlt, List.take_succ_cons]
        exact ⟨hc, e3⟩
  obtain ⟨ys, e1, e2, e3⟩ := key n l.i h2
  refine ⟨ys.toArray, fun w' hw => ?_, by simpa using e3, by simpa using e1⟩
  have := run_loadCells (P := P) w' g.b (g.off + l.i) ys fun j y hj => by
    have := e2 j y hj
    unfold World.cell? at this ⊢
    rw [hw]; exact this
  rw [e1] at this; exact this

theorem readCells_sound {μ : Mu} {s : St} {w : World} {l : Loc} {n : Nat} {cs : List AV} {a : Addr} (h : readCells s l n = some cs) (hR : R μ s w) (hl : LR μ l a) :
    ∃ ys, (loadCells a n).run P w = .ok ys w ∧ All2 (CR μ) cs ys.toList ∧ ys.size = n :=
  let ⟨ys, h1, h2⟩ := readCells_sound' h hR hl; ⟨ys, h1 w rfl, h2⟩

theorem readCells_one_cell {μ : Mu} {s : St} {w : World} {l : Loc} {c : AV} {a : Addr} (h : readCells s l 1 = some [c]) (hR : R μ s w) (hl : LR μ l a) :
    ∃ y, (load a).run P w = .ok y w ∧ CR μ c y := by
  obtain ⟨ds, lo, ro, hg, h1, h2, h3, h4⟩ := readCells_spec h
  obtain ⟨g, hm, rfl⟩ := hl
  have hA := hR.arr _ _ _ _ _ _ hg hm h1
  have hlt : l.i < ds.length := by omega
  rw [List.drop_eq_getElem_cons hlt, List.take_succ_cons] at h4
  simp at h4
  obtain ⟨y, hy, hc⟩ := hA.cell l.i ds[l.i] (by omega) (by simp [hlt])
  exact ⟨y, by simp [run_load, hy], by rw [h4]; exact hc⟩

/-! ### writing -/

def setCells (w : World) (b off : Nat) : List Value → World
  | [] => w
  | v :: vs => setCells (w.setCell ⟨b, off, none⟩ v) b (off + 1) vs

theorem setCells_size (w : World) (b off : Nat) (vs : List Value) : (setCells w b off vs).heap.size = w.heap.size := by
  induction vs generalizing w off with
  | nil => rfl
  | cons v vs ih => simp [setCells, ih]

theorem setCells_os (w : World) (b off : Nat) (vs : List Value) : (setCells w b off vs).os = w.os ∧ (setCells w b off vs).output = w.output := by
  induction vs generalizing w off with
  | nil => exact ⟨rfl, rfl⟩
  | cons v vs ih => exact ⟨(ih _ _).1, (ih _ _).2⟩

theorem setCell_heap_other (w : World) (a : Addr) (v : Value) (B : Nat) (h : B ≠ a.block) : (w.setCell a v).heap[B]? = w.heap[B]? := by
  simp only [World.setCell, Array.getElem?_modify]
  rw [if_neg (fun e => h e.symm)]

theorem setCells_heap (w : World) (b off : Nat) (vs : List Value) (B : Nat) (h : B ≠ b) : (setCells w b off vs).heap[B]? = w.heap[B]? := by
  induction vs generalizing w off with
  | nil => rfl
  | cons v vs ih => rw [setCells, ih, setCell_heap_other _ _ _ _ h]

theorem setCells_frozen (w : World) (b off : Nat) (vs : List Value) (c : Addr) : (setCells w b off vs).frozen? c = w.frozen? c := by
  induction vs generalizing w off with
  | nil => rfl
  | cons v vs ih => rw [setCells, ih]; simp

theorem setCells_cell_other (w : World) (b off : Nat) (vs : List Value) (i : Nat) (h : i < off ∨ off + vs.length ≤ i) :
    (setCells w b off vs).cell? ⟨b, i, none⟩ = w.cell? ⟨b, i, none⟩ := by
  induction vs generalizing w off with
  | nil => rfl
  | cons v vs ih =>
    simp at h
    rw [setCells, ih _ _ (by omega), World.cell?_setCell_other]
    intro e; simp at e; omega

theorem setCells_cell (b : Nat) (vs : List Value) : ∀ (off : Nat) (w : World), (∀ j, j < vs.length → (w.cell? ⟨b, off + j, none⟩).isSome = true) → ∀ j v, vs[j]? = some v →
    (setCells w b off vs).cell? ⟨b, off + j, none⟩ = some v := by
  induction vs with
  | nil => intro off w _ j v h; simp at h
  | cons x vs ih =>
    intro off w hw j v h
    have h0 : ∃ u, w.cell? ⟨b, off, none⟩ = some u := Option.isSome_iff_exists.1 (by simpa using hw 0 (by simp))
    obtain ⟨u, hu⟩ := h0
    cases j with
    | zero =>
      simp at h; subst h
      rw [setCells, Nat.add_zero, setCells_cell_other _ _ _ _ _ (by omega)]
      exact World.cell?_setCell_same _ _ _ hu
    | succ j =>
      rw [setCells, show off + (j + 1) = off + 1 + j from by omega]
      refine ih (off + 1) _ (fun k hk => ?_) j v (by simpa using h)
      rw [World.cell?_setCell_other _ _ _ _ (by intro e; simp at e; omega), show off + 1 + k = off + (k + 1) from by omega]
      exact hw (k + 1) (by simpa using hk)

theorem setCells_there (w : World) (b off : Nat) (vs : List Value) (hw : ∀ j, j < vs.length → (w.cell? ⟨b, off + j, none⟩).isSome = true) (i : Nat) (h : (w.cell? ⟨b, i, none⟩).isSome = true) :
    ((setCells w b off vs).cell? ⟨b, i, none⟩).isSome = true := by
  by_cases hi : i < off ∨ off + vs.length ≤ i
  · rw [setCells_cell_other _ _ _ _ _ hi]; exact h
  · have : ∃ v, vs[i - off]? = some v := ⟨_, List.getElem?_eq_getElem (by omega)⟩
    obtain ⟨v, hv⟩ := this
    have := setCells_cell b vs off w hw (i - off) v hv
    rw [show off + (i - off) = i from by omega] at this
    rw [this]; rfl

theorem CR.oneCell {μ : Mu} {x : AV} {v : Value} (h : CR μ x v) : v.oneCell' = true := by
  unfold CR at h
  split at h <;> first | rfl | exact h.elim

theorem CR.one {μ : Mu} {x : AV} {v : Value} (h : CR μ x v) : x.one = true := by
  unfold CR at h
  split at h <;> first | rfl | exact h.elim

theorem run_storeCells (b : Nat) : ∀ (vs : List Value) (off i : Nat) (w : World), (∀ v ∈ vs, v.oneCell' = true) → (∀ j, j < vs.length → (w.cell? ⟨b, off + (i + j), none⟩).isSome = true) →
    (∀ k, w.frozen? ⟨b, k, none⟩ = false) → (storeCells ⟨b, off, none⟩ vs i).run P w = .ok () (setCells w b (off + i) vs)
  | [], _, _, _, _, _, _ => by simp [storeCells, setCells]
  | v :: vs, off, i, w, h1, h2, h3 => by
    have ha : Addr.add ⟨b, off, none⟩ i = ⟨b, off + i, none⟩ := by unfold Addr.add; split <;> simp_all
    obtain ⟨u, hu⟩ := Option.isSome_iff_exists.1 (h2 0 (by simp))
    rw [Nat.add_zero] at hu
    have := run_storeCells b vs off (i + 1) (w.setCell ⟨b, off + i, none⟩ v) (fun x hx => h1 x (by simp [hx])) (fun j hj => by
      rw [World.cell?_setCell_other _ _ _ _ (by intro e; simp at e; omega), show off + (i + 1 + j) = off + (i + (j + 1)) from by omega]
      exact h2 (j + 1) (by simpa using hj)) (fun k => by simp [h3])
    simp only [storeCells, Sem.run_bind, ha]
    rw [run_store P w _ v _ (h1 v (by simp)), hu]
    simp only [h3, Bool.false_eq_true, if_false, Result.andThen_ok]
    rw [this]
    rfl

theorem splice_length {cs vs : List AV} {i : Nat} (h : i + vs.length ≤ cs.length) : (splice cs i vs).length = cs.length := by
  simp [splice]; omega

theorem splice_get {cs vs : List AV} {i : Nat} (h : i + vs.length ≤ cs.length) (k : Nat) :
    (splice cs i vs)[k]? = if k < i then cs[k]? else if k < i + vs.length then vs[k - i]? else cs[k]? := by
  unfold splice
  have hl : (cs.take i).length = i := by simp; omega
  by_cases h1 : k < i
  · rw [if_pos h1, List.append_assoc, List.getElem?_append_left (by omega), List.getElem?_take_of_lt h1]
  · rw [if_neg h1]
    by_cases h2 : k < i + vs.length
    · rw [if_pos h2, List.append_assoc, List.getElem?_append_right (by omega), hl, List.getElem?_append_left (by omega)]
    · rw [if_neg h2, List.getElem?_append_right (by simp; omega), List.getElem?_drop]
      congr 1
      simp; omega

theorem R.set_arr {μ : Mu} {s : St} {w w' : World} {o : Nat} {cs ds : List AV} {lo lo' : Nat} {ro ro' : Bool} (hR : R μ s w) (hg : s.h.get o = some (.arr cs lo ro)) (hlen : ds.length = cs.length)
    (hs : w'.heap.size = w.heap.size) (ho : ∀ B, (∃ v g, μ o v = some g ∧ g.b = B) ∨ w'.heap[B]? = w.heap[B]?)
    (hA : ∀ v g, μ o v = some g → lo' ≤ v → v ≤ cs.length → ArrR μ ds lo' ro' v g w') : R μ (s.put o (.arr ds lo' ro')) w' where
  fresh q v g h := by
    obtain ⟨a, ⟨x, b⟩, c⟩ := hR.fresh q v g h
    refine ⟨a, ?_, by omega⟩
    simp only [St.put, Tr.get_set]
    split
    · exact ⟨_, rfl⟩
    · exact ⟨x, b⟩
  next q hq := by
    simp only [St.put] at hq ⊢
    rw [Tr.get_set_other]
    · exact hR.next q hq
    · intro e; subst e; rw [hR.next q hq] at hg; cases hg
  inj := hR.inj
  offs := hR.offs
  ext q es l r v g h1 h2 := by
    simp only [St.put, Tr.get_set] at h1
    split at h1
    · rename_i e; subst e; cases h1; rw [hlen]; exact hR.ext _ _ _ _ _ _ hg h2
    · exact hR.ext _ _ _ _ _ _ h1 h2
  arr q es l r v g h1 h2 h3 := by
    simp only [St.put, Tr.get_set] at h1
    split at h1
    · rename_i e; subst e; cases h1; exact hA v g h2 h3 (hR.ext _ _ _ _ _ _ hg h2)
    · rename_i e
      refine (hR.arr _ _ _ _ _ _ h1 h2 h3).of_block (fun _ _ _ h => h) ?_
      rcases ho g.b with ⟨v1, g1, k1, k2⟩ | h
      · exact absurd (hR.inj _ _ _ _ _ _ k1 h2 k2) (fun x => e x.symm)
      · exact h
  map q es v g h1 h2 := by
    simp only [St.put, Tr.get_set] at h1
    split at h1
    · cases h1
    · rename_i e
      obtain ⟨z, a, b, c, d⟩ := hR.map _ _ _ _ h1 h2
      refine ⟨z, a, b, ?_, d⟩
      rcases ho g.b with ⟨v1, g1, k1, k2⟩ | h
      · exact absurd (hR.inj _ _ _ _ _ _ k1 h2 k2) (fun x => e x.symm)
      · rw [h]; exact c

theorem writeCells_sound {μ : Mu} {s s' : St} {w : World} {b : Bar} {l : Loc} {vs : List AV} {ws : List Value} {a : Addr} (h : writeCells b s l vs = some s') (hR : R μ s w) (hl : LR μ l a)
    (hv : All2 (CR μ) vs ws) : ∃ w', (storeCells a ws).run P w = .ok () w' ∧ R μ s' w' ∧ Kept b μ w w' := by
  have hlen := hv.length
  unfold writeCells at h
  split at h
  · cases h
    have : ws = [] := by cases ws with | nil => rfl | cons => exact hv.elim
    subst this
    exact ⟨w, by simp [storeCells], hR, Kept.refl _ _ _⟩
  · rename_i v vs
    split at h
    · rename_i cs lo hg
      rw [cond_eq_ite] at h
      split at h
      · rename_i hc
        simp only [Bool.and_eq_true, Nat.ble_eq, Nat.beq_eq] at hc
        obtain ⟨⟨⟨hb, hver⟩, hle⟩, hlo⟩ := hc
        cases h
        obtain ⟨g, hm, rfl⟩ := hl
        generalize hvs : v :: vs = us at *
        have hle' := hR.ext _ _ _ _ _ _ hg hm
        have hA := hR.arr _ _ _ _ _ _ hg hm hlo
        have hfin := hA.fin
        have hth : ∀ j, j < ws.length → (w.cell? ⟨g.b, g.off + l.i + j, none⟩).isSome = true := fun j hj => by
          rw [Nat.add_assoc]; exact hA.there _ (by omega)
        refine ⟨setCells w g.b (g.off + l.i) ws, ?_, ?_, ?_⟩
        · have hone : ∀ x ∈ ws, x.oneCell' = true := by
            intro x hx
            obtain ⟨i, hi, hxi⟩ := List.mem_iff_getElem.1 hx
            obtain ⟨y, hy, hyr⟩ := hv.get (i := i) (a := us[i]'(by omega)) (List.getElem?_eq_getElem (by omega))
            rw [List.getElem?_eq_getElem hi] at hy
            cases hy
            rw [← hxi]; exact hyr.oneCell
          have := run_storeCells (P := P) g.b ws (g.off + l.i) 0 w hone (fun j hj => by simpa using hth j hj) (fun k => hA.free rfl k)
          simpa using this
        · refine hR.set_arr hg (splice_length (by omega)) (setCells_size _ _ _ _) (fun B => ?_) ?_
          · by_cases hB : B = g.b
            · exact .inl ⟨_, _, hm, hB.symm⟩
            · exact .inr (setCells_heap _ _ _ _ _ hB)
          · intro v' g' hm' hlo' hle'
            have : v' = l.v := by omega
            subst this
            rw [hm] at hm'; cases hm'
            refine ⟨hfin, ?_, fun i hi => setCells_there _ _ _ _ hth _ (hA.there i hi), fun _ i => by rw [setCells_frozen]; exact hA.free rfl i⟩
            intro i x hi hx
            rw [splice_get (by omega)] at hx
            by_cases h1 : i < l.i
            · rw [if_pos h1] at hx
              rw [setCells_cell_other _ _ _ _ _ (.inl (by omega))]
              exact hA.cell i x hi hx
            · rw [if_neg h1] at hx
              by_cases h2 : i < l.i + us.length
              · rw [if_pos h2] at hx
                obtain ⟨y, hy, hyr⟩ := hv.get hx
                have := setCells_cell g.b ws (g.off + l.i) w hth (i - l.i) y hy
                rw [show g.off + l.i + (i - l.i) = g.off + i from by omega] at this
                exact ⟨y, this, hyr⟩
              · rw [if_neg h2] at hx
                rw [setCells_cell_other _ _ _ _ _ (.inr (by omega))]
                exact hA.cell i x hi hx
        · refine ⟨by rw [setCells_size]; exact Nat.le_refl _, fun B _ hn => ?_, (setCells_os _ _ _ _).1, (setCells_os _ _ _ _).2⟩
          by_cases hB : B = g.b
          · have := hn _ _ _ hm hB.symm
            rw [hb] at this; cases this
          · exact setCells_heap _ _ _ _ _ hB
      · cases h
    · cases h

/-! ### making -/

/-- One more version. -/
def Mu.add (μ : Mu) (o v : Nat) (g : Tgt) : Mu := fun o' v' => if o' = o ∧ v' = v then some g else μ o' v'

theorem Mu.add_same (μ : Mu) (o v : Nat) (g : Tgt) : μ.add o v g o v = some g := by simp [Mu.add]

theorem Mu.add_old {μ : Mu} {o v : Nat} {g : Tgt} (h : μ o v = none) : ∀ o' v' g', μ o' v' = some g' → μ.add o v g o' v' = some g' := by
  intro o' v' g' h'
  unfold Mu.add
  split
  · rename_i e; rw [e.1, e.2, h] at h'; cases h'
  · exact h'

theorem Mu.add_inv {μ : Mu} {o v : Nat} {g : Tgt} {o' v' : Nat} {g' : Tgt} (h : μ.add o v g o' v' = some g') : (o' = o ∧ v' = v ∧ g' = g) ∨ μ o' v' = some g' := by
  unfold Mu.add at h
  split at h
  · rename_i e; cases h; exact .inl ⟨e.1, e.2, rfl⟩
  · exact .inr h

theorem alloc_heap (w : World) (o : Obj) (B : Nat) (h : B < w.heap.size) : (w.alloc o).heap[B]? = w.heap[B]? := by
  simp only [World.alloc, Array.getElem?_push]
  rw [if_neg (by omega)]

theorem alloc_heap_new (w : World) (o : Obj) : (w.alloc o).heap[w.heap.size]? = some o := by
  simp only [World.alloc, Array.getElem?_push, if_true]

theorem Kept.alloc (b : Bar) (μ : Mu) (w : World) (o : Obj) : Kept b μ w (w.alloc o) := ⟨by simp, fun B hB _ => alloc_heap w o B hB, rfl, rfl⟩

theorem R.unmapped {μ : Mu} {s : St} {w : World} (hR : R μ s w) {q : Nat} (hq : s.h.get q = none) (v : Nat) : μ q v = none := by
  cases h : μ q v with
  | none => rfl
  | some g => obtain ⟨_, ⟨x, hx⟩, _⟩ := hR.fresh q v g h; rw [hq] at hx; cases hx

theorem Ext.add {μ : Mu} {w : World} {o v : Nat} {g : Tgt} (h : μ o v = none) (hg : w.heap.size ≤ g.b ∨ ∃ v0 g0, μ o v0 = some g0 ∧ g0.b = g.b) : Ext μ (μ.add o v g) w where
  old := Mu.add_old h
  new o' v' g' hn hs := by
    rcases Mu.add_inv hs with ⟨rfl, rfl, rfl⟩ | h'
    · exact hg
    · rw [hn] at h'; cases h'

/-- A new array object. -/
theorem R.new_arr {μ : Mu} {s : St} {w : World} (hR : R μ s w) {q n : Nat} (hq : s.h.get q = none) (hqn : q < n) (hn : s.n ≤ n) {cs : List AV} {c : Array Value} {e : TypeId}
    (hc : All2 (CR μ) cs (c.toList.take cs.length)) (hf : cs.length ≤ c.size) :
    R (μ.add q cs.length ⟨w.heap.size, c.size, 0⟩) { h := s.h.set q (.arr cs cs.length false), n := n } (w.alloc (.cells c e)) where
  fresh o v g h := by
    rcases Mu.add_inv h with ⟨rfl, rfl, rfl⟩ | h'
    · exact ⟨hqn, ⟨_, Tr.get_set_same _ _ _⟩, by simp⟩
    · obtain ⟨a, ⟨x, b⟩, d⟩ := hR.fresh o v g h'
      refine ⟨Nat.lt_of_lt_of_le a hn, ?_, by simp; omega⟩
      simp only [Tr.get_set]
      split
      · exact ⟨_, rfl⟩
      · exact ⟨x, b⟩
  next o ho := by
    simp only at ho
    simp only
    rw [Tr.get_set_other _ _ _ _ (by omega)]; exact hR.next o (Nat.le_trans hn ho)
  inj o v g o' v' g' h h' hb := by
    rcases Mu.add_inv h with ⟨rfl, rfl, rfl⟩ | h1 <;> rcases Mu.add_inv h' with ⟨rfl, rfl, rfl⟩ | h2
    · rfl
    · have := (hR.fresh _ _ _ h2).2.2; simp at hb; omega
    · have := (hR.fresh _ _ _ h1).2.2; simp at hb; omega
    · exact hR.inj _ _ _ _ _ _ h1 h2 hb
  offs o v g o' v' g' h h' hb := by
    rcases Mu.add_inv h with ⟨rfl, rfl, rfl⟩ | h1 <;> rcases Mu.add_inv h' with ⟨rfl, rfl, rfl⟩ | h2
    · rfl
    · have := (hR.fresh _ _ _ h2).2.2; simp at hb; omega
    · have := (hR.fresh _ _ _ h1).2.2; simp at hb; omega
    · exact hR.offs _ _ _ _ _ _ h1 h2 hb
  ext o es lo ro v g h h' := by
    simp only [Tr.get_set] at h
    split at h
    · rename_i e1; subst e1; cases h
      rcases Mu.add_inv h' with ⟨_, rfl, _⟩ | h2
      · exact Nat.le_refl _
      · rw [hR.unmapped hq] at h2; cases h2
    · rename_i e1
      rcases Mu.add_inv h' with ⟨rfl, _, _⟩ | h2
      · exact absurd rfl e1
      · exact hR.ext _ _ _ _ _ _ h h2
  arr o es lo ro v g h h' hlo := by
    simp only [Tr.get_set] at h
    split at h
    · rename_i e1; subst e1; cases h
      rcases Mu.add_inv h' with ⟨_, rfl, rfl⟩ | h2
      · refine ⟨hf, ?_, ?_, fun _ i => World.frozen?_alloc_new w c e i⟩
        · intro i x hi hx
          obtain ⟨y, hy, hr⟩ := hc.get hx
          rw [List.getElem?_take_of_lt hi] at hy
          exact ⟨y, by simp only [Nat.zero_add]; rw [World.cell?_alloc_new]; simpa using hy, hr.mono (Mu.add_old (hR.unmapped hq _))⟩
        · intro i hi; simp only [Nat.zero_add]; rw [World.cell?_alloc_new]; simpa using hi
      · rw [hR.unmapped hq] at h2; cases h2
    · rename_i e1
      rcases Mu.add_inv h' with ⟨rfl, _, _⟩ | h2
      · exact absurd rfl e1
      · exact (hR.arr _ _ _ _ _ _ h h2 hlo).of_block (Mu.add_old (hR.unmapped hq _)) (alloc_heap _ _ _ (hR.fresh _ _ _ h2).2.2)
  map o es v g h h' := by
    simp only [Tr.get_set] at h
    split at h
    · cases h
    · rename_i e1
      rcases Mu.add_inv h' with ⟨rfl, _, _⟩ | h2
      · exact absurd rfl e1
      · obtain ⟨z, x, y, k1, k2⟩ := hR.map _ _ _ _ h h2
        exact ⟨z, x, y, by rw [alloc_heap _ _ _ (hR.fresh _ _ _ h2).2.2]; exact k1, k2.mono (Mu.add_old (hR.unmapped hq _))⟩

/-- A new map object. -/
theorem R.new_map {μ : Mu} {s : St} {w : World} (hR : R μ s w) {q n : Nat} (hq : s.h.get q = none) (hqn : q < n) (hn : s.n ≤ n) {es : List (AV × AV)} {ents : Array MapEntry} {clock : Nat}
    (hm : MapR μ es ents clock) :
    R (μ.add q 0 ⟨w.heap.size, 0, 0⟩) { h := s.h.set q (.map es), n := n } (w.alloc (.map ents clock)) where
  fresh o v g h := by
    rcases Mu.add_inv h with ⟨rfl, rfl, rfl⟩ | h'
    · exact ⟨hqn, ⟨_, Tr.get_set_same _ _ _⟩, by simp⟩
    · obtain ⟨a, ⟨x, b⟩, d⟩ := hR.fresh o v g h'
      refine ⟨Nat.lt_of_lt_of_le a hn, ?_, by simp; omega⟩
      simp only [Tr.get_set]
      split
      · exact ⟨_, rfl⟩
      · exact ⟨x, b⟩
  next o ho := by
    simp only at ho
    simp only
    rw [Tr.get_set_other _ _ _ _ (by omega)]; exact hR.next o (Nat.le_trans hn ho)
  inj o v g o' v' g' h h' hb := by
    rcases Mu.add_inv h with ⟨rfl, rfl, rfl⟩ | h1 <;> rcases Mu.add_inv h' with ⟨rfl, rfl, rfl⟩ | h2
    · rfl
    · have := (hR.fresh _ _ _ h2).2.2; simp at hb; omega
    · have := (hR.fresh _ _ _ h1).2.2; simp at hb; omega
    · exact hR.inj _ _ _ _ _ _ h1 h2 hb
  offs o v g o' v' g' h h' hb := by
    rcases Mu.add_inv h with ⟨rfl, rfl, rfl⟩ | h1 <;> rcases Mu.add_inv h' with ⟨rfl, rfl, rfl⟩ | h2
    · rfl
    · have := (hR.fresh _ _ _ h2).2.2; simp at hb; omega
    · have := (hR.fresh _ _ _ h1).2.2; simp at hb; omega
    · exact hR.offs _ _ _ _ _ _ h1 h2 hb
  ext o es' lo ro v g h h' := by
    simp only [Tr.get_set] at h
    split at h
    · cases h
    · rename_i e1
      rcases Mu.add_inv h' with ⟨rfl, _, _⟩ | h2
      · exact absurd rfl e1
      · exact hR.ext _ _ _ _ _ _ h h2
  arr o es' lo ro v g h h' hlo := by
    simp only [Tr.get_set] at h
    split at h
    · cases h
    · rename_i e1
      rcases Mu.add_inv h' with ⟨rfl, _, _⟩ | h2
      · exact absurd rfl e1
      · exact (hR.arr _ _ _ _ _ _ h h2 hlo).of_block (Mu.add_old (hR.unmapped hq _)) (alloc_heap _ _ _ (hR.fresh _ _ _ h2).2.2)
  map o es' v g h h' := by
    simp only [Tr.get_set] at h
    split at h
    · rename_i e1; subst e1; cases h
      rcases Mu.add_inv h' with ⟨_, rfl, rfl⟩ | h2
      · exact ⟨rfl, ents, clock, alloc_heap_new _ _, hm.mono (Mu.add_old (hR.unmapped hq _))⟩
      · rw [hR.unmapped hq] at h2; cases h2
    · rename_i e1
      rcases Mu.add_inv h' with ⟨rfl, _, _⟩ | h2
      · exact absurd rfl e1
      · obtain ⟨z, x, y, k1, k2⟩ := hR.map _ _ _ _ h h2
        exact ⟨z, x, y, by rw [alloc_heap _ _ _ (hR.fresh _ _ _ h2).2.2]; exact k1, k2.mono (Mu.add_old (hR.unmapped hq _))⟩

end Go.Ab
