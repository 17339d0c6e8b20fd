/- A range over a map of at most one entry is sound. -/
import Derived.Test.YtphkigpngblniaaGreatAcA
namespace Go.Ab
set_option linter.unusedSectionVars false
variable [Rho] {P : Program}

theorem isRange_spec {x y : Code} {rl : RL} (h : isRange x y = some rl) : ∃ i0 i1 i2, x = .region i0 rl.ops0 false ∧
    y = .block rl.b0 (.loop (.seq (.region i1 rl.ops1 false) (.seq (.cond (.tmp rl.g) .skip (.exit rl.b0)) (.block rl.b1 (.seq (.region i2 rl.ops2 false) rl.body))))) := by
  unfold isRange at h
  split at h
  · rename_i i0 ops0 b0 i1 ops1 g b2 b1 i2 ops2 body
    rw [cond_eq_ite] at h
    split at h
    · rename_i hb
      cases h
      exact ⟨i0, i1, i2, rfl, by rw [← Nat.eq_of_beq_eq_true hb]⟩
    · cases h
  · cases h

theorem lastOp_spec {os : List Oper} {d : Tmp} {ty : TypeId} {x : Operand} (h : lastOp os = some (d, ty, x)) : ∃ o, os = os.dropLast ++ [o] ∧ o.dst = some d ∧ o.op = .range ty x ∧ o.guard = none := by
  unfold lastOp at h
  cases hl : os.getLast? with
  | none => rw [hl] at h; cases h
  | some o =>
    rw [hl] at h
    have hne : os ≠ [] := fun e => by rw [e] at hl; cases hl
    have hlast : os = os.dropLast ++ [o] := by
      rw [List.getLast?_eq_some_getLast hne] at hl
      have e : os.getLast hne = o := by simpa using hl
      rw [← e, List.dropLast_concat_getLast]
    refine ⟨o, hlast, ?_⟩
    split at h
    · rename_i e; cases e; cases h; exact ⟨rfl, rfl, rfl⟩
    · cases h

theorem firstNext_spec {os rest : List Oper} {dn d : Tmp} (h : firstNext os = some (dn, d, rest)) : ∃ o, os = o :: rest ∧ o.dst = some dn ∧ o.op = .next (.tmp d) false ∧ o.guard = none := by
  unfold firstNext at h
  split at h
  · cases h; exact ⟨_, rfl, rfl, rfl, rfl⟩
  · cases h

theorem firstEntry_spec {os rest : List Oper} {de d : Tmp} (h : firstEntry os = some (de, d, rest)) : ∃ o, os = o :: rest ∧ o.dst = some de ∧ o.op = .entry (.tmp d) ∧ o.guard = none := by
  unfold firstEntry at h
  split at h
  · cases h; exact ⟨_, rfl, rfl, rfl, rfl⟩
  · cases h

/-- A first part of a region. -/
theorem evOps_pre {call : Bar → FuncId → List AV → St → Option (AV × St)} (hcall : CallS P call) {b : Bar} {n : Nat} {ops : Array Oper} {Q : Exit → Act → World → Prop} {rest : List Oper} :
    ∀ (os : List Oper) (k : Nat) {μ : Mu} {s s' : St} {t t' : Temps} {a : Act} {w : World}, ops.toList.drop k = os ++ rest → evOps P call b ops os t s = some (t', s') → At n μ t s a w → (∀ o ∈ os, ∀ d, o.dst = some d → d < n) →
      (∀ μ' a' w', Goes b n μ w t' s' μ' a' w' → wpOps P ops Q ((List.range ops.size).drop (k + os.length)) a' w') → wpOps P ops Q ((List.range ops.size).drop k) a w
  | [], k, μ, s, s', t, t', a, w, hk, h, hA, _, hQ => by
    simp only [evOps] at h
    cases h
    exact hQ μ a w (Goes.refl hA)
  | o :: os, k, μ, s, s', t, t', a, w, hk, h, hA, hd, hQ => by
    have hlt : k < ops.size := by
      rcases Nat.lt_or_ge k ops.size with h1 | h1
      · exact h1
      · have : ops.toList.drop k = [] := by simpa using h1
        rw [this] at hk; cases hk
    have hko : ops[k]? = some o := by
      have := congrArg List.head? hk
      simpa [List.head?_drop] using this
    have hk' : ops.toList.drop (k + 1) = os ++ rest := by
      have := congrArg List.tail hk
      simpa [List.tail_drop] using this
    have hr : (List.range ops.size).drop k = k :: (List.range ops.size).drop (k + 1) := by
      rw [List.drop_eq_getElem_cons (by simpa using hlt)]; simp
    have hlen : k + (o :: os).length = k + 1 + os.length := by simp; omega
    rw [hlen] at hQ
    rw [hr]
    simp only [wpOps, hko]
    simp only [evOps] at h
    rw [wantedA_eq hA.tr, cond_eq_ite] at h
    split at h
    · rename_i hw
      rw [if_pos hw]
      split at h
      · rename_i v s1 hv
        left
        refine evOp_sound hcall hv hA (hd o (by simp)) fun μ1 a1 w1 hg => ?_
        exact evOps_pre hcall os (k + 1) hk' h hg.here (fun o' ho' => hd o' (by simp [ho'])) fun μ2 a2 w2 hg2 => hQ _ _ _ (hg.trans hg2)
      · cases h
    · rename_i hw
      rw [if_neg hw]
      have hg := skip_sound (b := b) (o := o) hA (hd o (by simp))
      exact evOps_pre hcall os (k + 1) hk' h hg.here (fun o' ho' => hd o' (by simp [ho'])) fun μ2 a2 w2 hg2 => hQ _ _ _ (hg.trans hg2)

/-- The first operation of a region is done by hand. -/
theorem wp_first {ops : Array Oper} {o : Oper} {os : List Oper} {Q : Exit → Act → World → Prop} {a : Act} {w w' : World} {y : Value} {id : Nat} (ho : ops.toList = o :: os) (hg : o.guard = none) (hr : (execOp a.eval o).run P w = .ok (.value y) w')
    (h : wpOps P ops Q ((List.range ops.size).drop 1) (a.put o.dst y) w') : (Code.region id ops false).wp P Q a w := by
  refine wp_region ?_
  have hlt : 0 < ops.size := by
    have := congrArg List.length ho
    simp at this; omega
  have hko : ops[0]? = some o := by
    have := congrArg List.head? ho
    simpa [List.head?_eq_getElem?] using this
  have hr' : List.range ops.size = 0 :: (List.range ops.size).drop 1 := by
    have := List.drop_eq_getElem_cons (l := List.range ops.size) (i := 0) (by simpa using hlt)
    simpa using this
  rw [hr']
  simp only [wpOps, hko]
  rw [if_pos (by unfold Region.wanted; rw [hg])]
  exact .inl (wp_value hr h)

theorem isIt_spec {μ : Mu} {t : Temps} {d : Tmp} {q I : Nat} {a : Act} (h : isIt t d q = true) (ht : TR μ t a.tmps) (hq : μ q 0 = some ⟨I, 0, 0⟩) : a.eval (.tmp d) = .pointer (some ⟨I, 0, none⟩) := by
  unfold isIt at h
  split at h
  · rename_i l hl
    simp only [Bool.and_eq_true, Nat.beq_eq] at h
    have hv := ht d
    unfold tget at hv
    rw [hl] at hv
    obtain ⟨ad, e, g, hg, rfl⟩ := VR.ptr hv
    rw [h.1.1, h.1.2, hq] at hg
    cases hg
    rw [h.2] at e
    simpa [Act.eval, Array.getD_eq_getD_getElem?] using e
  · cases h

theorem At.put {n : Nat} {μ : Mu} {t : Temps} {s : St} {a : Act} {w : World} (h : At n μ t s a w) {r : AV} {y : Value} (hv : VR μ r y) {d : Tmp} (hd : d < n) : At n μ (t.set d r) s (a.put (some d) y) w :=
  ⟨h.tr.put hv (some d) fun e he => by cases he; rw [h.size]; exact hd, by rw [put_size]; exact h.size, by rw [put_defers]; exact h.defers, h.rel⟩

/-- 'next' hands back false: the loop is left. -/
theorem evOver_sound {call : Bar → FuncId → List AV → St → Option (AV × St)} (hcall : CallS P call) {b : Bar} {n : Nat} {ops1 : Array Oper} {rest : List Oper} {dn d g : Tmp} {q I b0 id : Nat} {t t' : Temps} {s s' : St} {μ : Mu} {a : Act} {w : World}
    {y : Code} {Q : Exit → Act → World → Prop} (hf : firstNext ops1.toList = some (dn, d, rest)) (h : evOver P call b ops1 rest dn d g q t s = some (t', s')) (hA : At n μ t s a w) (hdst : ∀ o ∈ ops1.toList, ∀ d, o.dst = some d → d < n)
    (hq : μ q 0 = some ⟨I, 0, 0⟩) (hn : ∀ ty, (Instr.next (.pointer (some ⟨I, 0, none⟩)) false ty).run P w = .ok (.tuple #[.bool false]) w) (hQ : ∀ μ' a' w', Goes b n μ w t' s' μ' a' w' → Q (.exit b0) a' w') :
    (Code.seq (.region id ops1 false) (.seq (.cond (.tmp g) .skip (.exit b0)) y)).wp P Q a w := by
  obtain ⟨o, ho, h1, h2, h3⟩ := firstNext_spec hf
  unfold evOver at h
  rw [cond_eq_ite] at h
  split at h
  · rename_i hit
    have hev := isIt_spec hit hA.tr hq
    split at h
    · rename_i t1 s1 hos
      split at h
      · rename_i hg
        cases h
        refine wp_seq (wp_first (y := .tuple #[.bool false]) (w' := w) ho h3 ?_ ?_)
        · obtain ⟨dst, op, type, pos, after, guard⟩ := o
          simp only at h2
          subst h2
          simp only [execOp, hev, Sem.run_bind, hn, Result.andThen_ok, Sem.run_pure]
        · rw [h1]
          have hA1 := hA.put (r := .tup [.bool false]) (y := .tuple #[.bool false]) (by simp [VR, All2, VR0, CR]) (hdst o (by rw [ho]; simp) dn h1)
          have hdrop : ops1.toList.drop 1 = rest := by rw [ho]; rfl
          refine evOps_sound hcall rest 1 hdrop hos hA1 (fun o' ho' => hdst o' (by rw [ho]; simp [ho'])) fun μ2 a2 w2 hg2 => ?_
          have hfl : a2.eval (.tmp g) = .bool false := VR.bool (evX_sound (x := .tmp g) (by simp only [evX, hg]) hg2.here.tr)
          refine wp_seq (wp_cond_false hfl (wp_exit ?_))
          exact hQ _ _ _ ⟨hg2.ext, hg2.here, hg2.kept⟩
      · cases h
    · cases h
  · cases h

theorem MapR.nil {μ : Mu} {ents : Array MapEntry} {clock : Nat} (h : MapR μ [] ents clock) : ents = #[] := by
  have := h.length
  exact Array.eq_empty_of_size_eq_zero (by simpa using this.symm)

theorem MapR.single {μ : Mu} {k v : AV} {ents : Array MapEntry} {clock : Nat} (h : MapR μ [(k, v)] ents clock) : ∃ e, ents = #[e] ∧ VR0 μ k e.key ∧ VR0 μ v e.val ∧ e.born < clock := by
  obtain ⟨xs, ys, h1, _, h3, h4, _, h6⟩ := h
  cases xs with
  | nil => simp at h1
  | cons x xs =>
    cases xs with
    | cons _ _ => simp at h1
    | nil =>
      simp only [List.map_cons, List.map_nil, List.cons.injEq, Prod.mk.injEq, and_true] at h1
      obtain ⟨rfl, rfl⟩ := h1
      have hy : ys = [x] := List.perm_singleton.1 h3
      subst hy
      obtain ⟨ents⟩ := ents
      cases ents with
      | nil => exact h4.elim
      | cons e es =>
        cases es with
        | cons _ _ => exact h4.2.elim
        | nil =>
          obtain ⟨⟨k1, k2⟩, _⟩ := h4
          exact ⟨e, rfl, by rw [k1]; simp [VR0, CR], k2, h6 e (by simp)⟩

theorem Goes.block {b : Bar} {n : Nat} {μ μ' : Mu} {s s' : St} {t' : Temps} {a' : Act} {w w' : World} (h : Goes b n μ w t' s' μ' a' w') (hR : R μ s w) {o v : Nat} {g : Tgt} (hm : μ o v = some g) (hb : b.ok o = false) :
    w'.heap[g.b]? = w.heap[g.b]? :=
  h.kept.heap g.b (hR.fresh _ _ _ hm).2.2 fun o' v' g' hg' e => by
    have : o' = o := hR.inj _ _ _ _ _ _ hg' hm e
    rw [this]; exact hb

theorem Goes.weaken {b b' : Bar} {n : Nat} {μ μ' : Mu} {s' : St} {t' : Temps} {a' : Act} {w w' : World} (hb : ∀ o, b.ok o = false → b'.ok o = false) (h : Goes b' n μ w t' s' μ' a' w') : Goes b n μ w t' s' μ' a' w' :=
  ⟨h.ext, h.here, h.kept.weaken hb⟩

/-- The iterator is laid: an object without cells. -/
theorem lay_iter {b : Bar} {n : Nat} {μ : Mu} {t : Temps} {s : St} {a : Act} {w : World} (hA : At n μ t s a w) {d : Tmp} (hd : d < n) (o : Obj) :
    Goes b n μ w (t.set d (.ptr (some ⟨s.n, 0, 0⟩))) { h := s.h.set s.n (.arr [] 0 true), n := s.n + 1 } (μ.add s.n 0 ⟨w.heap.size, 0, 0⟩) (a.put (some d) (.pointer (some ⟨w.heap.size, 0, none⟩))) (w.alloc o) := by
  have hnone := hA.rel.next s.n (Nat.le_refl _)
  have hun := hA.rel.unmapped hnone
  have hR : R μ s (w.alloc o) := hA.rel.of_heap (by simp) fun B hB => alloc_heap w o B hB
  have hR' := hR.lay_arr (cs := []) (ro := true) (gb := w.heap.size) (fin := 0) (n := s.n + 1) hnone (Nat.lt_succ_self _) (Nat.le_succ _) (by simp) (fun o' v g hg e => by have := (hA.rel.fresh _ _ _ hg).2.2; omega) (ArrR.void _)
  refine ⟨Ext.add (hun 0) (.inl (Nat.le_refl _)), ?_, Kept.alloc b μ w o⟩
  have hA2 : At n (μ.add s.n 0 ⟨w.heap.size, 0, 0⟩) t { h := s.h.set s.n (.arr [] 0 true), n := s.n + 1 } a (w.alloc o) := ⟨hA.tr.mono (Mu.add_old (hun 0)), hA.size, hA.defers, hR'⟩
  exact hA2.put (by simp only [VR, VR0, CR, LR]; exact ⟨_, Mu.add_same _ _ _ _, rfl⟩) hd

theorem heap_turn {w : World} {I : Nat} {o o' : Obj} (h : w.heap[I]? = some o) : ({ w with heap := w.heap.setIfInBounds I o' } : World).heap[I]? = some o' := by
  have : I < w.heap.size := (Array.getElem?_eq_some_iff.1 h).1
  simp [this]

theorem heap_turn_other {w : World} {I B : Nat} {o' : Obj} (h : B ≠ I) : ({ w with heap := w.heap.setIfInBounds I o' } : World).heap[B]? = w.heap[B]? := by
  show (w.heap.setIfInBounds I o')[B]? = w.heap[B]?
  rw [Array.getElem?_setIfInBounds, if_neg (fun e => h e.symm)]

/-- The one round. -/
theorem evRound_sound (hm : P.follows .mixedOrders = true) {call : Bar → FuncId → List AV → St → Option (AV × St)} (hc : CallL call) (hcall : CallS P call) {b : Bar} {n fuel : Nat} {rl : RL} {rest1 rest2 : List Oper} {dn de d : Tmp} {q I i1 i2 M clock : Nat} {k v : AV} {e : MapEntry} {mo : Nat} {gm : Tgt}
    {t t' : Temps} {s s' : St} {μ : Mu} {a : Act} {w : World} {Q : Exit → Act → World → Prop} (hf1 : firstNext rl.ops1.toList = some (dn, d, rest1)) (hf2 : firstEntry rl.ops2.toList = some (de, d, rest2))
    (h : evRound P call { lim := b.lim, no := q :: mo :: b.no } fuel rl rest1 rest2 dn de d q k v t s = some (t', s')) (hA : At n μ t s a w) (hit : isIt t d q = true) (hd1 : ∀ o ∈ rl.ops1.toList, ∀ d, o.dst = some d → d < n) (hd2 : ∀ o ∈ rl.ops2.toList, ∀ d, o.dst = some d → d < n) (hdb : dstsOk n rl.body = true)
    (hq : μ q 0 = some ⟨I, 0, 0⟩) (hqo : s.h.get q = some (.arr [] 0 true)) (hmo : μ mo 0 = some gm) (hM : gm.b = M) (hiter : w.heap[I]? = some (.mapIter (some M) clock #[] clock)) (hmap : w.heap[M]? = some (.map #[e] clock)) (hk : VR0 μ k e.key) (hv : VR0 μ v e.val) (hbn : e.born < clock)
    (hQ : ∀ μ' a' w' W, At n μ (t.set dn (.tup [.bool true, k, v])) s (a.put (some dn) (.tuple #[.bool true, e.key, e.val])) W → W = { w with heap := w.heap.setIfInBounds I (.mapIter (some M) clock #[e.born] clock) } → Goes { lim := b.lim, no := q :: mo :: b.no } n μ W t' s' μ' a' w' →
      w'.heap[I]? = some (.mapIter (some M) clock #[e.born] clock) → w'.heap[M]? = some (.map #[e] clock) → Q .normal a' w') :
    (Code.seq (.region i1 rl.ops1 false) (.seq (.cond (.tmp rl.g) .skip (.exit rl.b0)) (.block rl.b1 (.seq (.region i2 rl.ops2 false) rl.body)))).wp P Q a w := by
  obtain ⟨o1, ho1, h11, h12, h13⟩ := firstNext_spec hf1
  obtain ⟨o2, ho2, h21, h22, h23⟩ := firstEntry_spec hf2
  have hev := isIt_spec hit hA.tr hq
  have hMI : M ≠ I := fun e => by
    have := hA.rel.inj mo 0 gm q 0 ⟨I, 0, 0⟩ hmo hq (by rw [hM]; exact e)
    subst this
    rw [hq] at hmo
    cases hmo
    rw [e] at hmap
    rw [hiter] at hmap
    cases hmap
  unfold evRound at h
  split at h
  · rename_i t1 s1 hos1
    split at h
    · rename_i hg
      rw [cond_eq_ite] at h
      split at h
      · rename_i hit1
        split at h
        · rename_i t2 s2 hos2
          split at h
          · rename_i oo t3 s3 hcd
            rw [cond_eq_ite] at h
            split at h
            · rename_i hdone
              cases h
              generalize hW : ({ w with heap := w.heap.setIfInBounds I (.mapIter (some M) clock #[e.born] clock) } : World) = W at hQ
              have hRW : R μ s W := by
                rw [← hW]
                exact hA.rel.turn hqo hq (by simp) fun B hB => heap_turn_other hB
              have hWI : W.heap[I]? = some (.mapIter (some M) clock #[e.born] clock) := by rw [← hW]; exact heap_turn hiter
              have hWM : W.heap[M]? = some (.map #[e] clock) := by rw [← hW, heap_turn_other hMI]; exact hmap
              have hAW : At n μ t s a W := ⟨hA.tr, hA.size, hA.defers, hRW⟩
              have hA1 := hAW.put (r := .tup [.bool true, k, v]) (y := .tuple #[.bool true, e.key, e.val]) (by simp [VR, All2, VR0, CR]; exact ⟨hk, hv⟩) (hd1 o1 (by rw [ho1]; simp) dn h11)
              have bq : ({ lim := b.lim, no := q :: mo :: b.no } : Bar).ok q = false := no_ok (b := b) (no := [q, mo]) (by simp)
              have bm : ({ lim := b.lim, no := q :: mo :: b.no } : Bar).ok mo = false := no_ok (b := b) (no := [q, mo]) (by simp)
              refine wp_seq (wp_first (y := .tuple #[.bool true, e.key, e.val]) (w' := W) ho1 h13 ?_ ?_)
              · obtain ⟨dst, op, type, pos, after, guard⟩ := o1
                simp only at h12
                subst h12
                have := next_one (P := P) (ty := type) hiter hmap hbn
                rw [hW] at this
                simp only [execOp, hev, Sem.run_bind, this, Result.andThen_ok, Sem.run_pure]
              · rw [h11]
                refine evOps_sound hcall rest1 1 (by rw [ho1]; rfl) hos1 hA1 (fun o' ho' => hd1 o' (by rw [ho1]; simp [ho'])) fun μ1 a1 w1 hg1 => ?_
                have q1 := hg1.ext.old _ _ _ hq
                have m1 := hg1.ext.old _ _ _ hmo
                have I1 : w1.heap[I]? = some (.mapIter (some M) clock #[e.born] clock) := (hg1.block hRW hq bq).trans hWI
                have M1 : w1.heap[M]? = some (.map #[e] clock) := by rw [← hM, hg1.block hRW hmo bm, hM]; exact hWM
                have htr : a1.eval (.tmp rl.g) = .bool true := VR.bool (evX_sound (x := .tmp rl.g) (by simp only [evX, hg]) hg1.here.tr)
                have hev1 := isIt_spec hit1 hg1.here.tr q1
                refine wp_seq (wp_cond_true htr (wp_skip ?_))
                refine wp_block (wp_seq (wp_first (y := .tuple #[e.key, e.val]) (w' := w1) ho2 h23 ?_ ?_))
                · obtain ⟨dst, op, type, pos, after, guard⟩ := o2
                  simp only at h22
                  subst h22
                  simp only [execOp, hev1, Sem.run_bind, entry_one I1 M1, Result.andThen_ok, Sem.run_pure]
                · rw [h21]
                  have hA2 := hg1.here.put (r := .tup [k, v]) (y := .tuple #[e.key, e.val]) (by simp [VR, All2]; exact ⟨hk.mono hg1.ext.old, hv.mono hg1.ext.old⟩) (hd2 o2 (by rw [ho2]; simp) de h21)
                  refine evOps_sound hcall rest2 1 (by rw [ho2]; rfl) hos2 hA2 (fun o' ho' => hd2 o' (by rw [ho2]; simp [ho'])) fun μ2 a2 w2 hg2 => ?_
                  have q2 := hg2.ext.old _ _ _ q1
                  have m2 := hg2.ext.old _ _ _ m1
                  have I2 : w2.heap[I]? = some (.mapIter (some M) clock #[e.born] clock) := (hg2.block hg1.here.rel q1 bq).trans I1
                  have M2 : w2.heap[M]? = some (.map #[e] clock) := by rw [← hM, hg2.block hg1.here.rel m1 bm, hM]; exact M1
                  refine evCode_sound hm hc hcall rl.body hcd hdb hg2.here fun μ3 a3 w3 hg3 => ?_
                  have I3 : w3.heap[I]? = some (.mapIter (some M) clock #[e.born] clock) := (hg3.block hg2.here.rel q2 bq).trans I2
                  have M3 : w3.heap[M]? = some (.map #[e] clock) := by rw [← hM, hg3.block hg2.here.rel m2 bm, hM]; exact M2
                  have hgo : Goes { lim := b.lim, no := q :: mo :: b.no } n μ1 w1 t' s' μ3 a3 w3 := (Goes.mk hg2.ext hg2.here hg2.kept).trans hg3
                  have fin := hQ μ3 a3 w3 W hA1 rfl ((Goes.mk hg1.ext hg1.here hg1.kept).trans hgo) I3 M3
                  cases oo with
                  | normal => exact fin
                  | ret => cases hdone
                  | exit i =>
                    have : i = rl.b1 := Nat.eq_of_beq_eq_true hdone
                    subst this
                    simpa [Exit.inBlock, Out.to] using fin
            · cases h
          · cases h
        · cases h
      · cases h
    · cases h
  · cases h

end Go.Ab
