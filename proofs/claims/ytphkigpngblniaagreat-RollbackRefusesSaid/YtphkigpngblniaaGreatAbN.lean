/- Drawn regions are sound. -/
import Derived.Test.YtphkigpngblniaaGreatAbQ
namespace Go.Ab
set_option linter.unusedSectionVars false
variable [Rho] {P : Program} {call : Bar → FuncId → List AV → St → Option (AV × St)} {b : Bar} {ops : Array Oper} {base : Nat}

theorem coreA_fresh (hc : CallL call) {x : It} {o : Oper} {t : Temps} {s s1 : St} {v : AV} {q : Option Nat} (hn : base + ops.size ≤ s.n) (h : coreA P call b ops base x o t s = some (v, q, s1)) : base + ops.size ≤ s1.n :=
  Nat.le_trans hn (coreA_n hc h)

/-- One operation, at its turn. -/
theorem coreA_sound (hcall : CallS P call) {n : Nat} {μ : Mu} {s s' : St} {t : Temps} {a : Act} {x : It} {o : Oper} {r : AV} {q : Option Nat} {w : World} {Q : Exit → Act → World → Prop}
    (hx : ops[x.j]? = some o) (hb : base + ops.size ≤ s.n) (h : coreA P call b ops base x o t s = some (r, q, s')) (hA : At n μ t s a w) (hd : ∀ d, o.dst = some d → d < n) {K : Act → World → Prop}
    (hn : ∀ μ' a' w', Goes b n μ w (putT t o.dst r) s' μ' a' w' → K a' w') : wpOp P ops Q x.j K a w := by
  have hlt := lt_of_some hx
  have hd' : ∀ d, o.dst = some d → d < a.tmps.size := fun d e => by rw [hA.size]; exact hd d e
  have fin : ∀ {y μ' w'}, Post b μ w s' r y μ' w' → K (a.put o.dst y) w' := fun {y μ' w'} hp =>
    hn μ' _ w' ⟨hp.ext, ⟨(hA.tr.mono hp.ext.old).put hp.val _ hd', by rw [put_size]; exact hA.size, by rw [put_defers]; exact hA.defers, hp.rel⟩, hp.kept⟩
  unfold wpOp
  simp only [hx]
  unfold coreA at h
  rw [wantedA_eq hA.tr] at h
  split at h
  · rename_i hw
    rw [if_pos hw]
    left
    split at h
    · split at h
      · rename_i v hv
        cases h
        obtain ⟨y, e, hr⟩ := evP_sound hv hA.tr w
        exact wp_value e (fin ⟨Ext.refl _ _, hA.rel, hr, Kept.refl _ _ _⟩)
      · cases h
    · split at h
      · rename_i q' v hv
        cases h
        obtain ⟨y, e, hr⟩ := evL_sound hv hA.rel hA.tr
        exact wp_value e (fin ⟨Ext.refl _ _, hA.rel, hr, Kept.refl _ _ _⟩)
      · cases h
    · split at h
      · rename_i ob mk hv
        split at h
        · rename_i hnone
          cases h
          obtain ⟨y, μ', w', e, hp⟩ := evAl_sound (n := s.n) hv hA.rel hA.tr hnone (by omega) (Nat.le_refl _) b
          exact wp_value e (fin hp)
        · cases h
      · cases h
    · split at h
      · rename_i v s1 hv
        cases h
        exact evE_sound hcall hv hA.rel hA.tr fun y μ' w' hp => fin ⟨hp.ext, hp.rel, hp.val, hp.kept.weaken fun o ho => Bar.more ho⟩
      · cases h
  · rename_i hw
    rw [if_neg hw]
    cases h
    exact hn _ _ _ (skip_sound hA hd)

theorem getD_set {listed : Array Bool} {i k : Nat} (hi : i < listed.size) : (listed.setIfInBounds i true).getD k false = true ↔ k = i ∨ listed.getD k false = true := by
  rw [Array.getD_eq_getD_getElem?, Array.getD_eq_getD_getElem?]
  by_cases e : i = k
  · subst e; simp [hi]
  · rw [Array.getElem?_setIfInBounds_ne e]; 
    have e' : k ≠ i := fun x => e x.symm
    simp [e']

theorem any_sound (hc : CallL call) (hcall : CallS P call) {n : Nat} {t' : Temps} {s' : St} {Q : Exit → Act → World → Prop} (hdst : ∀ o ∈ ops.toList, ∀ d, o.dst = some d → d < n) :
    ∀ (k : Nat) {L : List It} {listed : Array Bool} {done : List Nat} {t : Temps} {s : St} {μ : Mu} {a : Act} {w : World}, L.length = k → Chain P call b ops base L t s t' s' → L.Pairwise (Ok P ops base) → Wait ops done (L.map (·.j)) →
      Closed ops done → listed.size = ops.size → (∀ i, listed.getD i false = true ↔ i ∈ done) → (∀ i, i < ops.size → i ∈ done ∨ i ∈ L.map (·.j)) → base + ops.size ≤ s.n → At n μ t s a w →
      (∀ μ' a' w', Goes b n μ w t' s' μ' a' w' → Q .normal a' w') → wpAny P .any ops Q k listed a w
  | 0, L, listed, done, t, s, μ, a, w, hk, hch, hok, hwt, hcl, hsz, hld, hall, hb, hA, hQ => by
    cases L with
    | cons _ _ => simp at hk
    | nil =>
    obtain ⟨rfl, rfl⟩ := hch
    refine ⟨?_, hQ _ _ _ (Goes.refl hA)⟩
    unfold Region.ready
    rw [List.filter_eq_nil_iff]
    intro i hi
    have hi : i < ops.size := by simpa using hi
    have : listed.getD i false = true := (hld i).2 ((hall i hi).resolve_right (by simp))
    have : listed.getD i true = true := by
      rw [Array.getD_eq_getD_getElem?] at this ⊢
      rw [Array.getElem?_eq_getElem (by omega)] at this ⊢
      exact this
    simp [this]
  | k + 1, L, listed, done, t, s, μ, a, w, hk, hch, hok, hwt, hcl, hsz, hld, hall, hb, hA, hQ => by
    have ready_iff : ∀ i, i ∈ Region.ready .any ops listed ↔ i < ops.size ∧ i ∉ done ∧ ∀ o, ops[i]? = some o → waitsIn done o = true := by
      intro i
      unfold Region.ready
      rw [List.mem_filter, List.mem_range]
      constructor
      · rintro ⟨hi, h⟩
        rw [Bool.and_eq_true] at h
        refine ⟨hi, fun hd => ?_, fun o ho => ?_⟩
        · have := (hld i).2 hd
          rw [Array.getD_eq_getD_getElem?, Array.getElem?_eq_getElem (by omega)] at this
          have h1 := h.1
          rw [Array.getD_eq_getD_getElem?, Array.getElem?_eq_getElem (by omega)] at h1
          simp only [Option.getD_some] at this h1
          rw [this] at h1; cases h1
        · have h2 := h.2
          rw [ho] at h2
          simp only [Option.map_some, Option.getD_some] at h2
          rw [Array.all_eq_true'] at h2
          refine waitsIn_spec.2 fun e he hb => ?_
          have := h2 e he
          rw [hb] at this
          exact (hld _).1 (by simpa using this)
      · rintro ⟨hi, hnd, h⟩
        refine ⟨hi, ?_⟩
        rw [Bool.and_eq_true]
        constructor
        · have : listed.getD i false = false := by
            cases hx : listed.getD i false with
            | false => rfl
            | true => exact absurd ((hld i).1 hx) hnd
          rw [Array.getD_eq_getD_getElem?, Array.getElem?_eq_getElem (by omega)] at this ⊢
          simp only [Option.getD_some] at this ⊢
          rw [this]; rfl
        · have ho : ops[i]? = some ops[i] := by simp [hi]
          rw [ho]
          simp only [Option.map_some, Option.getD_some]
          rw [Array.all_eq_true']
          intro e he
          cases hb : Region.binds .any e with
          | false => rfl
          | true => simpa using (hld _).2 (waitsIn_spec.1 (h _ ho) e he hb)
    refine ⟨fun hnil => ?_, fun i hi => ?_⟩
    · exfalso
      cases L with
      | nil => simp at hk
      | cons x L =>
        obtain ⟨⟨o, ho, h1⟩, h2, _⟩ := hwt
        have : x.j ∈ Region.ready .any ops listed := (ready_iff _).2 ⟨lt_of_some ho, h2, fun o' ho' => by rw [ho] at ho'; cases ho'; exact h1⟩
        rw [hnil] at this; cases this
    · obtain ⟨hlt, hnd, hw⟩ := (ready_iff i).1 hi
      have hmem := (hall i hlt).resolve_left hnd
      obtain ⟨y, hy, hyj⟩ := List.mem_map.1 hmem
      obtain ⟨pre, post, rfl⟩ := List.append_of_mem hy
      subst hyj
      simp only [List.map_append, List.map_cons] at hwt hall
      have hfree : ∀ x ∈ pre, ∀ ox oy, ops[x.j]? = some ox → ops[y.j]? = some oy → Free P ops base x y ox oy := by
        intro x hx ox oy hox hoy
        have := (List.pairwise_append.1 hok).2.2 x hx y (by simp)
        rcases this with h | h
        · have hd := h.done hcl hw
          exact absurd hd (Wait.nodup hwt x.j (by simp; exact .inl ⟨x, hx, rfl⟩))
        · exact h ox oy hox hoy
      obtain ⟨o, v, s1, ho, _, hcore, hrest⟩ := bubble hc hch hb hfree
      refine coreA_sound hcall ho hb hcore hA (hdst o (by rw [← Array.mem_def]; exact Array.mem_of_getElem? ho)) fun μ1 a1 w1 hg => ?_
      refine any_sound hc hcall hdst k (L := pre ++ post) (done := y.j :: done) (by simp at hk ⊢; omega) hrest ?_ (by rw [List.map_append]; exact hwt.first hw) ?_ (by simp [hsz]) ?_ ?_ (coreA_fresh hc hb hcore) hg.here fun μ2 a2 w2 hg2 => hQ _ _ _ (hg.trans hg2)
      · refine hok.sublist ?_
        exact List.Sublist.append_left (List.sublist_cons_self _ _) _
      · intro j hj o' ho'
        refine waitsIn_mono (d := done) (fun x hx => by simp [hx]) ?_
        rcases List.mem_cons.1 hj with rfl | hj
        · exact hw o' ho'
        · exact hcl j hj o' ho'
      · intro j
        rw [getD_set (by omega), hld j]; simp
      · intro j hj
        rcases hall j hj with h | h
        · exact .inl (by simp [h])
        · rcases List.mem_append.1 h with h | h
          · exact .inr (by rw [List.map_append]; exact List.mem_append_left _ h)
          · rcases List.mem_cons.1 h with h | h
            · exact .inl (by simp [h])
            · exact .inr (by rw [List.map_append]; exact List.mem_append_right _ h)

theorem R.more {μ : Mu} {s : St} {w : World} (h : R μ s w) {n : Nat} (hn : s.n ≤ n) : R μ { h := s.h, n := n } w where
  fresh o v g hg := let ⟨a, b, c⟩ := h.fresh o v g hg; ⟨Nat.lt_of_lt_of_le a hn, b, c⟩
  next o ho := h.next o (Nat.le_trans hn ho)
  inj := h.inj
  offs := h.offs
  ext := h.ext
  arr := h.arr
  map := h.map

theorem len_le : ∀ (n : Nat) {l : List Nat}, l.Nodup → (∀ j ∈ l, j < n) → l.length ≤ n
  | 0, l, _, h => by
    cases l with
    | nil => simp
    | cons j l => exact absurd (h j (by simp)) (Nat.not_lt_zero _)
  | n + 1, l, hn, h => by
    by_cases hm : n ∈ l
    · have h1 := len_le n (hn.erase n) fun j hj => by
        have hne : j ≠ n := fun e => by subst e; exact (List.Nodup.not_mem_erase hn) hj
        have := h j (List.mem_of_mem_erase hj)
        omega
      rw [List.length_erase_of_mem hm] at h1
      omega
    · have := len_le n hn fun j hj => by
        have hne : j ≠ n := fun e => by subst e; exact hm hj
        have := h j hj
        omega
      omega

theorem all_in {n : Nat} {l : List Nat} (hn : l.Nodup) (h : ∀ j ∈ l, j < n) (hl : l.length = n) (i : Nat) (hi : i < n) : i ∈ l := by
  by_cases hm : i ∈ l
  · exact hm
  · have := len_le n (l := i :: l) (List.nodup_cons.2 ⟨hm, hn⟩) fun j hj => by
      rcases List.mem_cons.1 hj with rfl | hj
      · exact hi
      · exact h j hj
    simp at this
    omega

/-- A drawn region. -/
theorem evDraw_sound (hm : P.follows .mixedOrders = true) (hc : CallL call) (hcall : CallS P call) {id n : Nat} {pl : List (Nat × List Nat)} {t t' : Temps} {s s' : St} {μ : Mu} {a : Act} {w : World} {Q : Exit → Act → World → Prop}
    (hpl : planOf P ops = some pl) (h : evDraw P call b ops s.n pl [] t { h := s.h, n := s.n + ops.size } = some (t', s')) (hA : At n μ t s a w) (hdst : ∀ o ∈ ops.toList, ∀ d, o.dst = some d → d < n)
    (hQ : ∀ μ' a' w', Goes b n μ w t' s' μ' a' w' → Q .normal a' w') : (Code.region id ops true).wp P Q a w := by
  refine wp_region_any hm ?_
  unfold planOf at hpl
  simp only [cond_eq_ite] at hpl
  split at hpl
  · rename_i hlen
    obtain ⟨hw, hfst⟩ := planGo_wait hpl
    obtain ⟨L, k1, k2, k3, k4⟩ := chain_of_evDraw (D := []) hc hpl h rfl (by simp)
    have hlen := Nat.eq_of_beq_eq_true hlen
    have hL : L.length = ops.size := by rw [← hlen, ← k1, List.length_map]
    rw [← k1] at hw
    have hnodup : ∀ (l d : List Nat), Wait ops d l → l.Nodup := by
      intro l
      induction l with
      | nil => intro d _; exact .nil
      | cons j l ih =>
        intro d hwt
        exact List.nodup_cons.2 ⟨fun hj => Wait.nodup hwt.2.2 j hj (by simp), ih _ hwt.2.2⟩
    have hsub : ∀ j ∈ L.map (·.j), j < ops.size := fun j hj => let ⟨o, ho⟩ := Wait.valid hw j hj; lt_of_some ho
    have hperm : (List.range ops.size).Subset (L.map (·.j)) := by
      have hnd := hnodup _ _ hw
      exact fun i hi => all_in hnd hsub (by simp [hL]) i (by simpa using hi)
    have hA' : At n μ t { h := s.h, n := s.n + ops.size } a { w with drawn := w.drawn + 1 } := ⟨hA.tr, hA.size, hA.defers, by
      exact (hA.rel.more (Nat.le_add_right s.n ops.size)).of_heap (Nat.le_refl _) fun _ _ => rfl⟩
    refine any_sound hc hcall hdst ops.size hL k2 k4 hw (by intro i hi; cases hi) (by simp) (fun i => ?_) (fun i hi => .inr (hperm (by simpa using hi))) (Nat.le_refl _) hA' fun μ' a' w' hg => ?_
    · constructor
      · intro h
        rw [Array.getD_eq_getD_getElem?, Array.getElem?_replicate] at h
        split at h <;> simp at h
      · intro h; cases h
    · refine hQ μ' a' w' ⟨⟨hg.ext.old, hg.ext.new⟩, hg.here, ⟨hg.kept.size, hg.kept.heap, hg.kept.os, hg.kept.out⟩⟩
  · cases hpl

end Go.Ab
