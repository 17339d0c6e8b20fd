/- Functions with ranges over maps of at most one entry are sound. -/
import Derived.Test.YtphkigpngblniaaGreatAcB
namespace Go.Ab
set_option linter.unusedSectionVars false
variable [Rho] {P : Program}

theorem alloc_self (w : World) (o : Obj) : (w.alloc o).heap[w.heap.size]? = some o := by
  show (w.heap.push o)[w.heap.size]? = some o
  simp

theorem run_lay (w : World) (o : Obj) : (newObj o).run P w = .ok w.heap.size (w.alloc o) := rfl

theorem range_it {w : World} {it it' : Obj} {v v' : Value} (h : (Result.ok v (w.alloc it) : Result Value) = .ok v' (w.alloc it')) : it = it' := by
  have := congrArg (fun r : Result Value => match r with | .ok _ w' => w'.heap[w.heap.size]? | _ => none) h
  simp only [alloc_self] at this
  exact Option.some.inj this

theorem evRange_sound (hm : P.follows .mixedOrders = true) {call : Bar → FuncId → List AV → St → Option (AV × St)} (hc : CallL call) (hcall : CallS P call) {b : Bar} {n fuel : Nat} {rl : RL} {i0 i1 i2 : Nat} {t t' : Temps} {s s' : St} {μ : Mu} {a : Act} {w : World}
    {Q : Exit → Act → World → Prop} (h : evRange P call b fuel rl t s = some (t', s')) (hd0 : ∀ o ∈ rl.ops0.toList, ∀ d, o.dst = some d → d < n) (hd1 : ∀ o ∈ rl.ops1.toList, ∀ d, o.dst = some d → d < n) (hd2 : ∀ o ∈ rl.ops2.toList, ∀ d, o.dst = some d → d < n) (hdb : dstsOk n rl.body = true)
    (hA : At n μ t s a w) (hQ : ∀ μ' a' w', Goes b n μ w t' s' μ' a' w' → Q .normal a' w') :
    (Code.seq (.region i0 rl.ops0 false) (.block rl.b0 (.loop (.seq (.region i1 rl.ops1 false) (.seq (.cond (.tmp rl.g) .skip (.exit rl.b0)) (.block rl.b1 (.seq (.region i2 rl.ops2 false) rl.body))))))).wp P Q a w := by
  unfold evRange at h
  split at h
  · rename_i d ty x dn d1 rest1 de d2 rest2 e0 e1 e2
    rw [cond_eq_ite] at h
    split at h
    · rename_i hdd
      simp only [Bool.and_eq_true, Nat.beq_eq, Bool.not_eq_true'] at hdd
      obtain ⟨⟨r1, r2⟩, hnd⟩ := hdd
      subst r1
      subst r2
      have hnd : dn ≠ d2 := fun e => by rw [e] at hnd; simp at hnd
      obtain ⟨o, ho, o1, o2, o3⟩ := lastOp_spec e0
      split at h
      · rename_i t1 s1 hpre
        split at h
        · rename_i kt et m hu hx
          have hlen : rl.ops0.toList.dropLast.length + 1 = rl.ops0.size := by
            have := congrArg List.length ho
            simp at this ⊢; omega
          have hdo : d2 < n := hd0 o (by rw [ho]; simp) d2 o1
          -- the region that lays the iterator
          have lay : ∀ (K : Exit → Act → World → Prop), (∀ μ1 a1 w1 it, Goes b n μ w t1 s1 μ1 a1 w1 → (Instr.range ty (a1.eval x)).run P w1 = .ok (.pointer (some ⟨w1.heap.size, 0, none⟩)) (w1.alloc it) → 
              K .normal (a1.put (some d2) (.pointer (some ⟨w1.heap.size, 0, none⟩))) (w1.alloc it)) → (∀ μ1 a1 w1, Goes b n μ w t1 s1 μ1 a1 w1 → ∃ it, (Instr.range ty (a1.eval x)).run P w1 = .ok (.pointer (some ⟨w1.heap.size, 0, none⟩)) (w1.alloc it)) → (Code.region i0 rl.ops0 false).wp P K a w := by
            intro K hK hit
            refine wp_region ?_
            have hpre' := evOps_pre (Q := K) (rest := [o]) hcall rl.ops0.toList.dropLast 0 (by simpa using ho) hpre hA (fun o' ho' => hd0 o' (List.dropLast_subset _ ho')) fun μ1 a1 w1 hg => ?_
            · simpa using hpre'
            · obtain ⟨it, hrun⟩ := hit μ1 a1 w1 hg
              have hr : (List.range rl.ops0.size).drop (0 + rl.ops0.toList.dropLast.length) = [rl.ops0.toList.dropLast.length] := by
                rw [Nat.zero_add, List.drop_eq_getElem_cons (by simp at hlen ⊢; omega)]
                simp at hlen ⊢; omega
              have hko : rl.ops0[rl.ops0.toList.dropLast.length]? = some o := by
                have := congrArg (fun l => l[rl.ops0.toList.dropLast.length]?) ho
                simpa using this
              rw [hr]
              simp only [wpOps, hko]
              rw [if_pos (by unfold Region.wanted; rw [o3])]
              left
              refine wp_value (y := .pointer (some ⟨w1.heap.size, 0, none⟩)) (w' := w1.alloc it) ?_ ?_
              · obtain ⟨dst, op, type, pos, after, guard⟩ := o
                simp only at o2
                subst o2
                simp only [execOp, Sem.run_bind, hrun, Result.andThen_ok, Sem.run_pure]
              · rw [o1]
                exact hK μ1 a1 w1 it hg hrun
          split at h
          · rename_i hes
            -- no entry
            refine wp_seq (lay _ (fun μ1 a1 w1 it hg hrun => ?_) (fun μ1 a1 w1 hg => ?_))
            · simp only [Exit.then]
              have hl := lay_iter (b := b) hg.here hdo it
              refine wp_block (wp_loop_rounds 1 ?_)
              rw [rounds_succ]
              refine evOver_sound hcall e1 h hl.here hd1 (Mu.add_same _ _ _ _) (fun ty' => ?_) fun μ2 a2 w2 hg2 => ?_
              · rcases entriesA_sound hg.here.rel hes (evX_sound hx hg.here.tr) with ⟨rfl, ev, _⟩ | ⟨o', g, ents, clock, rfl, ev, hmo, hmap, hM⟩
                · rw [ev] at hrun
                  simp only [Instr.range, Sem.run_bind, run_und hu, Result.andThen_ok, Sem.run_pure, run_lay] at hrun
                  have hit := range_it hrun
                  subst hit
                  exact next_nil (alloc_self _ _)
                · rw [ev] at hrun
                  simp only [Instr.range, Sem.run_bind, run_und hu, Result.andThen_ok, Sem.run_pure, run_getObj (P := P) hmap (fun _ _ _ e => by cases e), run_lay] at hrun
                  have hit := range_it hrun
                  subst hit
                  rw [MapR.nil hM] at hmap
                  exact next_none (alloc_self _ _) (by rw [alloc_heap _ _ _ (hg.here.rel.fresh _ _ _ hmo).2.2]; exact hmap)
              · simp only [Exit.then, Exit.inBlock, if_true]
                exact hQ _ _ _ ((hg.trans hl).trans hg2)
            · rcases entriesA_sound hg.here.rel hes (evX_sound hx hg.here.tr) with ⟨rfl, ev, _⟩ | ⟨o', g, ents, clock, rfl, ev, hmo, hmap, hM⟩
              · rw [ev]
                exact ⟨_, by simp only [Instr.range, Sem.run_bind, run_und hu, Result.andThen_ok, Sem.run_pure, run_lay]; rfl⟩
              · rw [ev]
                exact ⟨_, by simp only [Instr.range, Sem.run_bind, run_und hu, Result.andThen_ok, Sem.run_pure, run_getObj (P := P) hmap (fun _ _ _ e => by cases e), run_lay]; rfl⟩
          · rename_i k v hes
            split at h
            · rename_i mo
              split at h
              · rename_i t2 s2 hro
                refine wp_seq (lay _ (fun μ1 a1 w1 it hg hrun => ?_) (fun μ1 a1 w1 hg => ?_))
                · simp only [Exit.then]
                  rcases entriesA_sound hg.here.rel hes (evX_sound hx hg.here.tr) with ⟨hmn, _, _⟩ | ⟨o', g, ents, clock, hmoo, ev, hmo, hmap, hM⟩
                  · cases hmn
                  · cases hmoo
                    rw [ev] at hrun
                    simp only [Instr.range, Sem.run_bind, run_und hu, Result.andThen_ok, Sem.run_pure, run_getObj (P := P) hmap (fun _ _ _ e => by cases e), run_lay] at hrun
                    have hit := range_it hrun
                    subst hit
                    obtain ⟨e, rfl, hk, hv, hbn⟩ := MapR.single hM
                    have hl := lay_iter (b := b) hg.here hdo (.mapIter (some g.b) clock #[] clock)
                    have hold := hl.ext.old
                    have hIn : (w1.alloc (.mapIter (some g.b) clock #[] clock)).heap[w1.heap.size]? = some (.mapIter (some g.b) clock #[] clock) := alloc_self _ _
                    have hMn : (w1.alloc (.mapIter (some g.b) clock #[] clock)).heap[g.b]? = some (.map #[e] clock) := by
                      rw [alloc_heap _ _ _ (hg.here.rel.fresh _ _ _ hmo).2.2]; exact hmap
                    refine wp_block (wp_loop_rounds 2 ?_)
                    rw [rounds_succ]
                    refine evRound_sound hm hc hcall (M := g.b) (I := w1.heap.size) e1 e2 hro hl.here ?_ hd1 hd2 hdb (Mu.add_same _ _ _ _) (Tr.get_set_same _ _ _) (hold _ _ _ hmo) rfl hIn hMn (hk.mono hold) (hv.mono hold) hbn fun μ3 a3 w3 W hAW hW hg3 hI3 hM3 => ?_
                    · simp [isIt, Tr.get_set_same]
                    · simp only [Exit.then]
                      rw [rounds_succ]
                      have hg3' := hg3.weaken (b := b) fun o ho => Bar.more (l := [s1.n, mo]) ho
                      refine evOver_sound hcall e1 h hg3.here hd1 (hg3.ext.old _ _ _ (Mu.add_same _ _ _ _)) (fun ty' => next_over hI3 hM3 hbn) fun μ4 a4 w4 hg4 => ?_
                      simp only [Exit.then, Exit.inBlock, if_true]
                      -- from the laying of the iterator to the round's first world
                      have hW2 : Goes b n μ1 w1 (t1.set d2 (.ptr (some ⟨s1.n, 0, 0⟩))) { h := s1.h.set s1.n (.arr [] 0 true), n := s1.n + 1 } (μ1.add s1.n 0 ⟨w1.heap.size, 0, 0⟩) (a1.put (some d2) (.pointer (some ⟨w1.heap.size, 0, none⟩))) W := by
                        refine ⟨hl.ext, ⟨hl.here.tr, hl.here.size, hl.here.defers, hAW.rel⟩, ⟨?_, fun B hB hno => ?_, ?_, ?_⟩⟩
                        · rw [hW]; simp
                        · rw [hW, heap_turn_other (by omega)]; exact hl.kept.heap B hB hno
                        · rw [hW]; exact hl.kept.os
                        · rw [hW]; exact hl.kept.out
                      exact hQ _ _ _ (((hg.trans hW2).trans ⟨hg3'.ext, hg3'.here, hg3'.kept⟩).trans hg4)
                · rcases entriesA_sound hg.here.rel hes (evX_sound hx hg.here.tr) with ⟨hmn, _, _⟩ | ⟨o', g, ents, clock, hmoo, ev, hmo, hmap, hM⟩
                  · cases hmn
                  · rw [ev]
                    exact ⟨_, by simp only [Instr.range, Sem.run_bind, run_und hu, Result.andThen_ok, Sem.run_pure, run_getObj (P := P) hmap (fun _ _ _ e => by cases e), run_lay]; rfl⟩
              · cases h
            · cases h
          · cases h
        · cases h
      · cases h
    · cases h
  · cases h

theorem evCodeR_sound (hm : P.follows .mixedOrders = true) {call : Bar → FuncId → List AV → St → Option (AV × St)} (hc : CallL call) (hcall : CallS P call) {b : Bar} {n fuel : Nat} :
    ∀ (c : Code) {t t' : Temps} {s s' : St} {o : Out} {μ : Mu} {a : Act} {w : World} {Q : Exit → Act → World → Prop}, evCodeR P call b fuel c t s = some (o, t', s') → dstsOk n c = true → At n μ t s a w →
      (∀ μ' a' w', Goes b n μ w t' s' μ' a' w' → Q o.to a' w') → c.wp P Q a w := by
  intro c
  induction c with
  | seq x y ihx ihy =>
    intro t t' s s' o μ a w Q h hd hA hQ
    simp only [evCodeR] at h
    split at h
    · rename_i rl hrl
      obtain ⟨i0, i1, i2, rfl, rfl⟩ := isRange_spec hrl
      split at h
      · rename_i t1 s1 h1
        cases h
        simp only [dstsOk, Bool.and_eq_true, Bool.and_true, Bool.true_and] at hd
        have key : ∀ ops : Array Oper, (ops.toList.all fun o => match o.dst with | some d => Nat.blt d n | none => true) = true → ∀ o ∈ ops.toList, ∀ d, o.dst = some d → d < n := by
          intro ops h o ho d e
          have := List.all_eq_true.1 h o ho
          rw [e] at this
          simpa [Nat.blt_eq] using this
        exact evRange_sound hm hc hcall h1 (key _ hd.1) (key _ hd.2.1) (key _ hd.2.2.1) hd.2.2.2 hA hQ
      · cases h
    · simp only [dstsOk, Bool.and_eq_true] at hd
      refine wp_seq ?_
      split at h
      · rename_i t1 s1 h1
        exact ihx h1 hd.1 hA fun μ1 a1 w1 hg => ihy h hd.2 hg.here fun μ2 a2 w2 hg2 => hQ _ _ _ (hg.trans hg2)
      · rename_i hne
        refine ihx h hd.1 hA fun μ1 a1 w1 hg => ?_
        have := hQ _ _ _ hg
        cases o with
        | normal => exact absurd h (hne _ _)
        | ret => exact this
        | exit id => exact this
  | _ => intro t t' s s' o μ a w Q h hd hA hQ; simp only [evCodeR] at h; exact evCode_sound hm hc hcall _ h hd hA hQ

theorem evBodyR_sound (hm : P.follows .mixedOrders = true) {call : Bar → FuncId → List AV → St → Option (AV × St)} (hc : CallL call) (hcall : CallS P call) {b : Bar} {f : FuncId} {fn : Func} {fuel : Nat} {args : List AV} {s s' : St} {r : AV}
    (hfn : P.funcs[f]? = some fn) (h : evBodyR P call b fuel fn args s = some (r, s')) {μ : Mu} {w : World} {vs : List Value} (hR : R μ s w) (hv : All2 (VR μ) args vs) :
    Calls P f vs.toArray w (fun e w' => ∃ y μ', e = .returned y ∧ Post b μ w s' r y μ' w') := by
  unfold evBodyR at h
  split at h
  · cases h
  · rename_i c hbd
    rw [cond_eq_ite] at h
    split at h
    · rename_i hok
      simp only [Bool.and_eq_true] at hok
      have hlen := Nat.le_of_ble_eq_true hok.2
      split at h
      · rename_i t1 s1 hcd
        have key : ∃ o, evCodeR P call b fuel c (enterT args 0 .leaf) s = some (o, t1, s1) ∧ (o = .normal ∨ o = .ret) := by
          split at hcd
          · rename_i h1; cases hcd; exact ⟨_, h1, .inl rfl⟩
          · rename_i h1; cases hcd; exact ⟨_, h1, .inr rfl⟩
          · cases hcd
        obtain ⟨o, h1, ho⟩ := key
        split at h
        · rename_i xs hxs
          split at h
          · rename_i x hx
            cases h
            have hsz : vs.length = args.length := hv.length.symm
            refine calls_of_wp hfn hbd (evCodeR_sound hm hc hcall c h1 hok.1 (μ := μ) ⟨?_, ?_, rfl, hR⟩ fun μ' a' w' hg => ?_)
            · exact enter_TR hv _
            · simp; omega
            · exact body_end hxs hx hg ho
          · cases h
        · cases h
      · cases h
    · cases h

end Go.Ab
