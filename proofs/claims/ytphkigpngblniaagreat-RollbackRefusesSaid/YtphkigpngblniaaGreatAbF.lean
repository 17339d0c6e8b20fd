/- Maps that are written. -/
import Derived.Test.YtphkigpngblniaaGreatAbE
namespace Go.Ab
set_option linter.unusedSectionVars false
variable [Rho] {P : Program} {μ : Mu}

/-- A map object is another one. -/
theorem R.set_map {s : St} {w : World} {o : Nat} {es es' : List (AV × AV)} {g : Tgt} {ents' : Array MapEntry} {clock' : Nat} (hR : R μ s w) (hg : s.h.get o = some (.map es)) (hm : μ o 0 = some g)
    (hM : MapR μ es' ents' clock') :
    R μ (s.put o (.map es')) { w with heap := w.heap.setIfInBounds g.b (.map ents' clock') } := by
  have hb := (hR.fresh _ _ _ hm).2.2
  have hother : ∀ B, B ≠ g.b → (w.heap.setIfInBounds g.b (.map ents' clock'))[B]? = w.heap[B]? := fun B hB => by
    rw [Array.getElem?_setIfInBounds, if_neg (fun e => hB e.symm)]
  exact {
    fresh := fun q v g' h => by
      obtain ⟨a, ⟨x, b⟩, d⟩ := hR.fresh q v g' h
      refine ⟨a, ?_, by simpa using d⟩
      simp only [St.put, Tr.get_set]
      split
      · exact ⟨_, rfl⟩
      · exact ⟨x, b⟩
    next := fun q hq => by
      simp only [St.put] at hq ⊢
      rw [Tr.get_set_other]
      · exact hR.next q hq
      · intro e; subst e; rw [hR.next q hq] at hg; cases hg
    inj := hR.inj
    offs := hR.offs
    ext := fun q cs l r v g' h h' => by
      simp only [St.put, Tr.get_set] at h
      split at h
      · cases h
      · exact hR.ext _ _ _ _ _ _ h h'
    arr := fun q cs l r v g' h h' hl => by
      simp only [St.put, Tr.get_set] at h
      split at h
      · cases h
      · rename_i e
        exact (hR.arr _ _ _ _ _ _ h h' hl).of_block (fun _ _ _ h => h) (hother _ fun e2 => e (hR.inj _ _ _ _ _ _ h' hm e2))
    map := fun q es1 v g' h h' => by
      simp only [St.put, Tr.get_set] at h
      split at h
      · rename_i e; subst e; cases h
        obtain ⟨rfl, x, y, k1, k2⟩ := hR.map _ _ _ _ hg h'
        rw [hm] at h'; cases h'
        exact ⟨rfl, ents', clock', by simp [hb], hM⟩
      · rename_i e
        obtain ⟨z, x, y, k1, k2⟩ := hR.map _ _ _ _ h h'
        exact ⟨z, x, y, by simp only; rw [hother _ fun e2 => e (hR.inj _ _ _ _ _ _ h' hm e2)]; exact k1, k2⟩ }

theorem Kept.set_map {b : Bar} {w : World} {o : Nat} {g : Tgt} {x : Obj} (hm : μ o 0 = some g) (hb : b.ok o = true) : Kept b μ w { w with heap := w.heap.setIfInBounds g.b x } where
  size := by simp
  heap B _ hn := by
    simp only
    rw [Array.getElem?_setIfInBounds, if_neg]
    intro e
    have := hn _ _ _ hm e
    rw [hb] at this; cases this
  os := rfl
  out := rfl

theorem run_setObj {w : World} {r : Nat} {o x : Obj} (h : w.heap[r]? = some o) (ho : ∀ c e f, o ≠ .cells c e f) : (setObj r x).run P w = .ok () { w with heap := w.heap.setIfInBounds r x } := by
  cases o <;> first | exact absurd rfl (ho _ _ _) | simp only [setObj, Sem.run, h]

/-! ### entries -/

theorem nodup_key {xs : List (Int × AV)} (h : (xs.map (·.1)).Nodup) {p q : Int × AV} (hp : p ∈ xs) (hq : q ∈ xs) (e : p.1 = q.1) : p = q := by
  induction xs with
  | nil => cases hp
  | cons x xs ih =>
    simp only [List.map_cons, List.nodup_cons] at h
    rcases List.mem_cons.1 hp with rfl | hp' <;> rcases List.mem_cons.1 hq with rfl | hq'
    · rfl
    · exact absurd (e ▸ List.mem_map_of_mem (f := (·.1)) hq') h.1
    · exact absurd (e ▸ List.mem_map_of_mem (f := (·.1)) hp') h.1
    · exact ih h.2 hp' hq'

abbrev upd (n : Int) (v : AV) (p : Int × AV) : Int × AV := if p.1 = n then (n, v) else p

theorem putA_enc (n : Int) (v : AV) : ∀ {xs : List (Int × AV)}, (xs.map (·.1)).Nodup →
    putA n v (xs.map enc) = (if (lk n xs).isSome then xs.map (upd n v) else xs ++ [(n, v)]).map enc
  | [], _ => rfl
  | p :: ps, h => by
    simp only [List.map_cons, List.nodup_cons] at h
    simp only [List.map_cons, putA, lk, cond_eq_ite, intEq_eq, beq_iff_eq]
    by_cases e : n = p.1
    · subst e
      have : ps.map (upd p.1 v) = ps := by
        conv => rhs; rw [← List.map_id ps]
        refine List.map_congr_left fun q hq => ?_
        have : q.1 ≠ p.1 := fun e => h.1 (e ▸ List.mem_map_of_mem (f := (·.1)) hq)
        simp [upd, this]
      simp [this, upd]
    · have e' : ¬ p.1 = n := fun x => e x.symm
      rw [if_neg e, if_neg e, putA_enc n v h.2]
      split
      · simp
      · simp

theorem delA_enc (n : Int) : ∀ {xs : List (Int × AV)}, (xs.map (·.1)).Nodup → delA n (xs.map enc) = (xs.filter fun p => decide (p.1 ≠ n)).map enc
  | [], _ => rfl
  | p :: ps, h => by
    simp only [List.map_cons, List.nodup_cons] at h
    simp only [List.map_cons, delA, cond_eq_ite, intEq_eq, beq_iff_eq]
    by_cases e : n = p.1
    · subst e
      have : ps.filter (fun q => decide (q.1 ≠ p.1)) = ps := by
        rw [List.filter_eq_self]
        intro q hq
        have : q.1 ≠ p.1 := fun e => h.1 (e ▸ List.mem_map_of_mem (f := (·.1)) hq)
        simpa using this
      rw [if_pos rfl, List.filter_cons_of_neg (by simp), this]
    · have e' : p.1 ≠ n := fun x => e x.symm
      rw [if_neg e, delA_enc n h.2]
      simp [e']

theorem All2.set {α β : Type} {R : α → β → Prop} : ∀ {as : List α} {bs : List β} (j : Nat) {x : α} {y : β}, All2 R as bs → R x y → All2 R (as.set j x) (bs.set j y)
  | [], [], _, _, _, _, _ => trivial
  | _ :: _, _ :: _, 0, _, _, ⟨_, h2⟩, h => ⟨h, h2⟩
  | _ :: _, _ :: _, j + 1, _, _, ⟨h1, h2⟩, h => ⟨h1, All2.set j h2 h⟩
  | [], _ :: _, _, _, _, h, _ => h.elim
  | _ :: _, [], _, _, _, h, _ => h.elim

theorem All2.eraseIdx {α β : Type} {R : α → β → Prop} : ∀ {as : List α} {bs : List β} (j : Nat), All2 R as bs → All2 R (as.eraseIdx j) (bs.eraseIdx j)
  | [], [], _, _ => trivial
  | _ :: _, _ :: _, 0, ⟨_, h2⟩ => h2
  | _ :: _, _ :: _, j + 1, ⟨h1, h2⟩ => ⟨h1, All2.eraseIdx j h2⟩
  | [], _ :: _, _, h => h.elim
  | _ :: _, [], _, h => h.elim

theorem set_same {α : Type} : ∀ {l : List α} {j : Nat} {x : α}, l[j]? = some x → l.set j x = l
  | [], j, x, h => by simp at h
  | y :: ys, 0, x, h => by simp at h; simp [h]
  | y :: ys, j + 1, x, h => by simp [set_same (l := ys) (j := j) (x := x) (by simpa using h)]

theorem set_upd {n : Int} {v : AV} : ∀ {ys : List (Int × AV)} {j : Nat} {x : AV}, (ys.map (·.1)).Nodup → ys[j]? = some (n, x) → ys.set j (n, v) = ys.map (upd n v)
  | [], j, x, _, h => by simp at h
  | p :: ps, 0, x, h, hj => by
    simp only [List.map_cons, List.nodup_cons] at h
    simp at hj
    subst hj
    have : ps.map (upd n v) = ps := by
      conv => rhs; rw [← List.map_id ps]
      refine List.map_congr_left fun q hq => ?_
      have : q.1 ≠ n := fun e => h.1 (e ▸ List.mem_map_of_mem (f := (·.1)) hq)
      simp [upd, this]
    simp [this]
  | p :: ps, j + 1, x, h, hj => by
    simp only [List.map_cons, List.nodup_cons] at h
    have hj' : ps[j]? = some (n, x) := by simpa using hj
    have : p.1 ≠ n := fun e => h.1 (by rw [e]; exact List.mem_map_of_mem (f := (·.1)) (List.mem_of_getElem? hj'))
    simp [set_upd h.2 hj', upd, this]

theorem erase_filter {n : Int} : ∀ {ys : List (Int × AV)} {j : Nat} {x : AV}, (ys.map (·.1)).Nodup → ys[j]? = some (n, x) → ys.eraseIdx j = ys.filter fun p => decide (p.1 ≠ n)
  | [], j, x, _, h => by simp at h
  | p :: ps, 0, x, h, hj => by
    simp only [List.map_cons, List.nodup_cons] at h
    simp at hj
    subst hj
    have : ps.filter (fun q => decide (q.1 ≠ n)) = ps := by
      rw [List.filter_eq_self]
      intro q hq
      have : q.1 ≠ n := fun e => h.1 (e ▸ List.mem_map_of_mem (f := (·.1)) hq)
      simpa using this
    simpa using this.symm
  | p :: ps, j + 1, x, h, hj => by
    simp only [List.map_cons, List.nodup_cons] at h
    have hj' : ps[j]? = some (n, x) := by simpa using hj
    have : p.1 ≠ n := fun e => h.1 (by rw [e]; exact List.mem_map_of_mem (f := (·.1)) (List.mem_of_getElem? hj'))
    simp [erase_filter h.2 hj', this]

theorem map_upd_fst (n : Int) (v : AV) (xs : List (Int × AV)) : (xs.map (upd n v)).map (·.1) = xs.map (·.1) := by
  rw [List.map_map]
  refine List.map_congr_left fun p _ => ?_
  simp only [Function.comp, upd]
  split <;> simp_all

theorem MapR.put {es : List (AV × AV)} {ents : Array MapEntry} {clock : Nat} (h : MapR μ es ents clock) {n : Int} {v : AV} {u : Value} (hv : VR0 μ v u) (w : World) {t : TypeId} {K : IntKind} (hu : P.underlying t = some (.int K)) :
    (∃ ents', (Instr.findKey t (.int .i64 n) ents.toList).run P w = .ok none w ∧ ents' = ents.push { key := .int .i64 n, val := u, born := clock } ∧ MapR μ (putA n v es) ents' (clock + 1)) ∨
    (∃ i x, (Instr.findKey t (.int .i64 n) ents.toList).run P w = .ok (some (i, x)) w ∧ (∃ m, ents[i]? = some m ∧ m.key = .int .i64 n) ∧
      MapR μ (putA n v es) (ents.modify i fun e => { e with key := .int .i64 n, val := u }) clock) := by
  obtain ⟨xs, ys, rfl, hnd, hperm, hall, hb, hc⟩ := h
  have hnd' : (ys.map (·.1)).Nodup := (hperm.map (·.1)).nodup_iff.2 hnd
  rw [show (xs.map fun p => ((.int .i64 p.1 : AV), p.2)) = xs.map enc from rfl, putA_enc n v hnd]
  rcases run_findKey (P := P) hu (n := n) hall w with ⟨k1, k2⟩ | ⟨j, x, me, k1, k2, k3, k4, k5, k6⟩
  · left
    rw [lk_perm hnd hperm] at k1
    refine ⟨_, k2, rfl, xs ++ [(n, v)], ys ++ [(n, v)], by simp [k1], ?_, hperm.append_right _, ?_, ?_, ?_⟩
    · rw [List.map_append, List.nodup_append]
      refine ⟨hnd, by simp, ?_⟩
      intro a ha b hb' e
      simp at hb'
      rw [lk_none] at k1
      exact k1 (by rw [← hb', ← e]; exact ha)
    · simp only [Array.toList_push]
      exact hall.append ⟨⟨rfl, hv⟩, trivial⟩
    · simp only [Array.toList_push, List.map_append, List.map_cons, List.map_nil]
      rw [List.nodup_append]
      refine ⟨hb, by simp, ?_⟩
      intro a ha b hb' e
      simp at hb'
      obtain ⟨m, hm, rfl⟩ := List.mem_map.1 ha
      have := hc m hm
      omega
    · intro m hm
      simp only [Array.toList_push, List.mem_append, List.mem_singleton] at hm
      rcases hm with hm | rfl
      · have := hc m hm; omega
      · simp
  · right
    rw [lk_perm hnd hperm] at k1
    have hget : ents[j]? = some me := by simpa using k3
    have hlt : j < ents.size := by
      rcases Nat.lt_or_ge j ents.size with h | h
      · exact h
      · rw [Array.getElem?_eq_none h] at hget; cases hget
    have hmod : (ents.modify j fun e => { e with key := .int .i64 n, val := u }).toList = ents.toList.set j { me with key := .int .i64 n, val := u } := by
      apply List.ext_getElem?
      intro i
      rw [List.getElem?_set]
      simp only [Array.getElem?_toList, Array.getElem?_modify]
      by_cases e : j = i
      · subst e
        have hme : ents[j] = me := by rw [Array.getElem?_eq_getElem hlt] at hget; exact Option.some.inj hget
        simp [hlt, hme]
      · simp [e]
    refine ⟨j, me.val, k6, ⟨me, hget, k4⟩, xs.map (upd n v), ys.map (upd n v), by simp [k1], by rw [map_upd_fst]; exact hnd, hperm.map _, ?_, ?_, ?_⟩
    · rw [hmod, ← set_upd (v := v) hnd' k2]
      exact hall.set j ⟨rfl, hv⟩
    · rw [hmod]
      have : (ents.toList.set j { me with key := .int .i64 n, val := u }).map (·.born) = ents.toList.map (·.born) := by
        rw [List.map_set]
        have h2 : (ents.toList.map (·.born))[j]? = some me.born := by simp [hget]
        exact set_same h2
      rw [this]; exact hb
    · rw [hmod]
      intro m hm
      rcases List.mem_or_eq_of_mem_set hm with hm | rfl
      · exact hc m hm
      · exact hc me (List.mem_of_getElem? k3)

theorem MapR.del {es : List (AV × AV)} {ents : Array MapEntry} {clock : Nat} (h : MapR μ es ents clock) (n : Int) (w : World) {t : TypeId} {K : IntKind} (hu : P.underlying t = some (.int K)) :
    ((Instr.findKey t (.int .i64 n) ents.toList).run P w = .ok none w ∧ MapR μ (delA n es) ents clock) ∨
    (∃ i x, (Instr.findKey t (.int .i64 n) ents.toList).run P w = .ok (some (i, x)) w ∧ MapR μ (delA n es) (ents.eraseIdxIfInBounds i) clock) := by
  obtain ⟨xs, ys, rfl, hnd, hperm, hall, hb, hc⟩ := h
  have hnd' : (ys.map (·.1)).Nodup := (hperm.map (·.1)).nodup_iff.2 hnd
  rw [show (xs.map fun p => ((.int .i64 p.1 : AV), p.2)) = xs.map enc from rfl, delA_enc n hnd]
  rcases run_findKey (P := P) hu (n := n) hall w with ⟨k1, k2⟩ | ⟨j, x, me, k1, k2, k3, k4, k5, k6⟩
  · left
    rw [lk_perm hnd hperm, lk_none] at k1
    have : xs.filter (fun p => decide (p.1 ≠ n)) = xs := by
      rw [List.filter_eq_self]
      intro q hq
      have : q.1 ≠ n := fun e => k1 (e ▸ List.mem_map_of_mem (f := (·.1)) hq)
      simpa using this
    rw [this]
    exact ⟨k2, xs, ys, rfl, hnd, hperm, hall, hb, hc⟩
  · right
    have hlt : j < ents.size := by
      have hget : ents[j]? = some me := by simpa using k3
      rcases Nat.lt_or_ge j ents.size with h | h
      · exact h
      · rw [Array.getElem?_eq_none h] at hget; cases hget
    have herase : (ents.eraseIdxIfInBounds j).toList = ents.toList.eraseIdx j := by
      simp [Array.eraseIdxIfInBounds, hlt]
    refine ⟨j, me.val, k6, xs.filter _, ys.filter fun p => decide (p.1 ≠ n), rfl, ?_, hperm.filter _, ?_, ?_, ?_⟩
    · exact (List.filter_sublist.map _).nodup hnd
    · rw [herase, ← erase_filter hnd' k2]
      exact hall.eraseIdx j
    · rw [herase]
      exact ((List.eraseIdx_sublist _ _).map _).nodup hb
    · rw [herase]
      intro m hm
      exact hc m (List.mem_of_mem_eraseIdx hm)

end Go.Ab
