/- All other operations: put together. -/
import Derived.Test.YtphkigpngblniaaGreatAbG
namespace Go.Ab
set_option linter.unusedSectionVars false
variable [Rho] {P : Program} {μ : Mu}

theorem args_one {t : Temps} {a : Act} (ht : TR μ t a.tmps) {c : Call} {v : AV} (h : evXs t c.args.toList = some [v]) : ∃ x, c.args = #[x] ∧ VR μ v (a.eval x) := by
  have h1 := evXs_sound ht h
  obtain ⟨x, hx⟩ : ∃ x, c.args.toList = [x] := by
    have := h1.length
    simp at this
    match hh : c.args.toList with
    | [x] => exact ⟨x, rfl⟩
    | [] => simp at hh; simp [hh] at this
    | _ :: _ :: _ => have h2 := congrArg List.length hh; simp at h2; omega
  refine ⟨x, by rw [← Array.toArray_toList (xs := c.args), hx], ?_⟩
  rw [hx] at h1
  exact h1.1

theorem args_two {t : Temps} {a : Act} (ht : TR μ t a.tmps) {c : Call} {u v : AV} (h : evXs t c.args.toList = some [u, v]) : ∃ x y, c.args = #[x, y] ∧ VR μ u (a.eval x) ∧ VR μ v (a.eval y) := by
  have h1 := evXs_sound ht h
  obtain ⟨x, y, hx⟩ : ∃ x y, c.args.toList = [x, y] := by
    have := h1.length
    simp at this
    match hh : c.args.toList with
    | [x, y] => exact ⟨x, y, rfl⟩
    | [] => simp at hh; simp [hh] at this
    | [_] => have h2 := congrArg List.length hh; simp at h2; omega
    | _ :: _ :: _ :: _ => have h2 := congrArg List.length hh; simp at h2; omega
  refine ⟨x, y, by rw [← Array.toArray_toList (xs := c.args), hx], ?_⟩
  rw [hx] at h1
  exact ⟨h1.1, h1.2.1⟩

theorem All2.map_left {α β γ : Type} {R : γ → β → Prop} {f : α → γ} : ∀ {as : List α} {bs : List β}, All2 (fun a b => R (f a) b) as bs → All2 R (as.map f) bs
  | [], [], _ => trivial
  | _ :: _, _ :: _, ⟨h1, h2⟩ => ⟨h1, All2.map_left h2⟩
  | [], _ :: _, h => h.elim
  | _ :: _, [], h => h.elim

theorem getD0 {ts : Array TypeId} (h : 0 < ts.size) : ts[0]? = some ts[0] ∧ ts.getD 0 0 = ts[0] := ⟨by simp [h], by simp [Array.getD, h]⟩

/-- An operation's run, and what the walk asks of it. -/
theorem wp_value {o : Oper} {a : Act} {w w' : World} {y : Value} {next : Act → World → Prop} {Q : Exit → Act → World → Prop} (h : (execOp a.eval o).run P w = .ok (.value y) w') (hn : next (a.put o.dst y) w') :
    o.wp P a w next Q := by
  unfold Oper.wp; rw [h]; exact hn

theorem wp_skip' {o : Oper} {a : Act} {w w' : World} {next : Act → World → Prop} {Q : Exit → Act → World → Prop} (h : (execOp a.eval o).run P w = .ok .skip w') (hn : next (a.put o.dst undef) w') :
    o.wp P a w next Q := by
  unfold Oper.wp; rw [h]; exact hn

theorem VR.undefA : VR μ undefA undef := by simp [VR, Ab.undefA, undef, All2]

theorem run_bytes {t : TypeId} {n : Nat} (h : bytesT P t = some n) : ∃ i, P.info? t = some i ∧ i.bytes = n := by
  unfold bytesT at h
  split at h
  · rename_i i hi; exact ⟨i, hi, by cases h; rfl⟩
  · cases h

theorem evE_sound {call : Bar → FuncId → List AV → St → Option (AV × St)} (hcall : CallS P call) {b : Bar} {s s' : St} {t : Temps} {a : Act} {o : Oper} {r : AV} {w : World}
    (h : evE P call b t s o.op = some (r, s')) (hR : R μ s w) (ht : TR μ t a.tmps) {next : Act → World → Prop} {Q : Exit → Act → World → Prop}
    (hn : ∀ y μ' w', Post b μ w s' r y μ' w' → next (a.put o.dst y) w') : o.wp P a w next Q := by
  obtain ⟨dst, op, type, pos, after, guard⟩ := o
  unfold evE at h
  simp only at h hn
  split at h
  -- store
  · split at h
    · rename_i l v hx hv
      split at h
      · rename_i n hsz
        rw [cond_eq_ite] at h
        split at h
        · rename_i hlen
          split at h
          · rename_i s1 hw
            cases h
            simp only [Bool.and_eq_true, Nat.beq_eq] at hlen
            obtain ⟨ad, e, hl⟩ := (evX_sound hx ht).ptr
            have hvv := (evX_sound hv ht).cells hlen.2
            obtain ⟨w', e1, e2, e3⟩ := writeCells_sound (P := P) hw hR hl hvv
            refine wp_skip' (w' := w') ?_ (hn _ μ _ ⟨Ext.refl _ _, e2, VR.undefA, e3⟩)
            have hl2 := hvv.length
            have hsz2 : (a.eval ‹Operand›).cells.size = n := by
              have := hl2
              simp only [Array.length_toList] at this
              exact this.symm.trans hlen.1
            simp only [execOp, Instr.storeAt, e, Instr.sureAddr, storeVar, Sem.run_bind, Sem.run_pure, Result.andThen_ok, run_size hsz, hsz2, ne_eq, not_true_eq_false, if_false, e1]
          · cases h
        · cases h
      · cases h
    · cases h
  -- mapUpdate
  · split at h
    · rename_i kt e m n v hu hm hk hv
      split at h
      · rename_i K es hku hg
        split at h
        · rename_i x hf
          rw [cond_eq_ite] at h
          split at h
          · rename_i hc
            simp only [Bool.and_eq_true] at hc
            cases h
            have ek := (evX_sound hk ht).int
            obtain ⟨rr, em, _, h2⟩ := (evX_sound hm ht).map
            obtain ⟨g, hg0, rfl⟩ := h2 m rfl
            have hvv := evX_sound hv ht
            obtain ⟨_, ents, clock, hheap, hMR⟩ := hR.map _ _ _ _ hg hg0
            have hgo := run_getObj (P := P) hheap (fun _ _ _ e => by cases e)
            have hck := run_checkKey (P := P) (e := false) hku (.int .i64 n) w ⟨n, rfl⟩
            have hv0 := hvv.to0' hc.2
            rcases hMR.put (P := P) (n := n) hv0 w hku with ⟨ents', k1, rfl, k3⟩ | ⟨i, x, k1, ⟨me, k2, k2'⟩, k3⟩
            · refine wp_skip' (w' := { w with heap := w.heap.setIfInBounds g.b (.map (ents.push { key := .int .i64 n, val := _, born := clock }) (clock + 1)) }) ?_
                (hn _ μ _ ⟨Ext.refl _ _, hR.set_map hg hg0 k3, VR.undefA, Kept.set_map hg0 hc.1⟩)
              simp only [execOp, Instr.mapUpdate, Sem.run_bind, run_und hu, Result.andThen_ok, em, hgo, hck, ek, k1, run_setObj hheap (fun _ _ _ e => by cases e), Sem.run_pure]
            · refine wp_skip' (w' := { w with heap := w.heap.setIfInBounds g.b (.map (ents.modify i fun e => { e with key := .int .i64 n, val := _ }) clock) }) ?_
                (hn _ μ _ ⟨Ext.refl _ _, hR.set_map hg hg0 k3, VR.undefA, Kept.set_map hg0 hc.1⟩)
              have hks : (Instr.keyThatStays (.int .i64 n) (.int .i64 n)).run P w = .ok (.int .i64 n) w := by simp [Instr.keyThatStays, Instr.sameBits]
              simp only [execOp, Instr.mapUpdate, Sem.run_bind, run_und hu, Result.andThen_ok, em, hgo, hck, ek, k1, k2, k2', Option.map_some, Option.getD_some, hks, run_setObj hheap (fun _ _ _ e => by cases e), Sem.run_pure]
          · cases h
        · cases h
      · cases h
    · cases h
  -- calls
  · rename_i c
    split at h
    · -- a function
      rename_i f hcal
      split at h
      · rename_i g cap vs hf hargs
        rw [cond_eq_ite] at h
        split at h
        · rename_i hcb
          obtain ⟨cv, ef, hcap⟩ := (evX_sound hf ht).func
          have hav := evXs_sound ht hargs
          have hall : All2 (VR μ) (vs ++ cap.map fun l => .ptr (some l)) (c.args.toList.map a.eval ++ cv.toList) :=
            hav.append (All2.map_left (hcap.mono fun l v ⟨ad, h1, h2⟩ => by rw [h1]; exact VR.ofC (by simpa [CR] using h2)))
          have hC := hcall _ _ _ _ _ _ h μ w _ hR hall
          unfold callable at hcb
          split at hcb
          · rename_i fn hfn
            simp only [Bool.and_eq_true, Bool.not_eq_true', beq_eq_false_iff_ne, ne_eq] at hcb
            have hrun : (execOp a.eval ⟨dst, .call c, type, pos, after, guard⟩).run P w = .ok (.enter g (c.args.toList.map a.eval ++ cv.toList).toArray) w := by
              have hb : ¬ fn.body = none := by cases hh : fn.body <;> simp_all
              have he : (c.args.toList.map a.eval ++ cv.toList).toArray = c.args.map a.eval ++ cv := by simp
              rw [he]
              simp [execOp, resolve, hcal, ef, Deferred.ofValue, invoke, callFunc, hfn, hcb.2, hb]
            unfold Oper.wp
            rw [hrun]
            simp only [Oper.upon]
            refine hC.mono ?_
            rintro e w' ⟨y, μ', rfl, hp⟩
            exact hn y μ' w' hp
          · cases hcb
        · cases h
      · cases h
    · -- a builtin
      rename_i f hcal
      split at h
      · -- append
        rename_i base len cap ex x hargs
        rw [cond_eq_ite] at h
        split at h
        · rename_i hsz2
          have hsz2' : c.argTypes.size = 2 := by simpa using hsz2
          obtain ⟨xo, yo, hxy, hv, hxv⟩ := args_two ht hargs
          have ht2 : c.argTypes = #[c.argTypes[0], c.argTypes[1]] := by
            apply Array.ext
            · simp [hsz2']
            · intro i h1 h2
              match i, h2 with
              | 0, _ => rfl
              | 1, _ => rfl
              | n + 2, h2 => simp at h2; omega
          have e0 : c.argTypes.getD 0 0 = c.argTypes[0] := by simp [Array.getD, hsz2']
          have e1 : c.argTypes.getD 1 0 = c.argTypes[1] := by simp [Array.getD, hsz2']
          rw [e0, e1] at h
          split at h
          · cases h
          · rename_i e d hdn hu hd
            split at h
            · rename_i size by' z hsz hby hz
              split at h
              · rename_i n new hsrc
                rw [cond_eq_ite] at h
                split at h
                · rename_i hc
                  simp only [Bool.and_eq_true, Nat.ble_eq, Nat.beq_eq, Nat.blt_eq] at hc
                  obtain ⟨⟨⟨h1, h2⟩, h3⟩, h4⟩ := hc
                  obtain ⟨i, hi, hib⟩ := run_bytes hby
                  obtain ⟨k1, k2, k3⟩ := srcCells_sound (P := P) hR hsrc hxv
                  obtain ⟨ys, k4, k5⟩ := k3 n (Nat.le_refl _)
                  obtain ⟨zv, hzall, k7⟩ := run_zero_all hz
                  rw [List.take_of_length_le (by omega)] at k5
                  obtain ⟨y, μ', w', r1, r2⟩ := appendA_sound (P := P) type h hR hv hu hsz ⟨d, hd, fun k hk => hdn k hk⟩ hi (by omega) (by omega) h4 hzall (by have := (k7 μ).cells.length; simp at this; omega) k1 k2 ⟨ys, k4, k5⟩
                  refine wp_value (w' := w') (y := y) ?_ (hn _ _ _ r2)
                  rw [← ht2] at r1
                  simp [execOp, resolve, hcal, hxy, invoke, builtin, r1]
                · cases h
              · cases h
            · cases h
          · cases h
        · cases h
      · -- copy
        rename_i base len cap ex x hargs
        rw [cond_eq_ite] at h
        split at h
        · rename_i hsz1
          obtain ⟨g0, g1⟩ := getD0 (ts := c.argTypes) (by simpa using hsz1)
          rw [g1] at h
          obtain ⟨xo, yo, hxy, hv, hxv⟩ := args_two ht hargs
          split at h
          · rename_i e hu
            split at h
            · rename_i size hsz
              split at h
              · rename_i n cs hsrc
                obtain ⟨k1, k2, k3⟩ := srcCells_sound (P := P) hR hsrc hxv
                obtain ⟨ys, k4, k5⟩ := k3 (Nat.min n len) (Nat.min_le_left _ _)
                split at h
                · rename_i l
                  split at h
                  · rename_i s1 hw
                    cases h
                    obtain ⟨ad, c', hve, hr⟩ := hv.slice
                    have hst : ∃ w', (storeCells ad ys.toList).run P w = .ok () w' ∧ R μ s' w' ∧ Kept b μ w w' := by
                      have hlr : LR μ l ad ∨ len = 0 := by
                        have := hr.2
                        split at this
                        · exact .inl this.1
                        · rcases this with ⟨_, h0⟩ | ⟨g, sz, hg, ha, _⟩
                          · exact .inr h0
                          · exact .inl ⟨g, hg, ha⟩
                      rcases hlr with hlr | h0
                      · exact writeCells_sound hw hR hlr k5
                      · subst h0
                        have hm0 : Nat.min n 0 = 0 := Nat.min_eq_right (Nat.zero_le _)
                        rw [hm0, Nat.zero_mul, List.take_zero] at hw k5
                        simp only [writeCells] at hw
                        cases hw
                        have : ys.toList = [] := by cases hy : ys.toList with | nil => rfl | cons => rw [hy] at k5; exact k5.elim
                        rw [this]
                        exact ⟨w, by simp [storeCells], hR, Kept.refl _ _ _⟩
                    obtain ⟨w', e1, e2, e3⟩ := hst
                    refine wp_value (w' := w') (y := .int .i64 (Nat.min n len)) ?_ (hn _ μ _ ⟨Ext.refl _ _, e2, VR.ofC (by simp [CR]), e3⟩)
                    have k4' := k4 w rfl
                    simp only [execOp, Sem.run_bind, resolve, hcal, Sem.run_pure, Result.andThen_ok, hxy, List.map_toArray, List.map_cons, List.map_nil, invoke, builtin, Builtin.copy_, g0, List.getElem?_toArray, List.getElem?_cons_zero,
                      List.getElem?_cons_succ, run_und hu, hve, k1, run_size hsz, k4', e1, goInt]
                  · cases h
                · cases h
                  obtain ⟨hve, rfl, rfl⟩ := hv.slice_nil
                  refine wp_value (w' := w) (y := .int .i64 (Nat.min n 0)) ?_ (hn _ μ _ ⟨Ext.refl _ _, hR, VR.ofC (by simp [CR]), Kept.refl _ _ _⟩)
                  have k4' := k4 w rfl
                  simp only [execOp, Sem.run_bind, resolve, hcal, Sem.run_pure, Result.andThen_ok, hxy, List.map_toArray, List.map_cons, List.map_nil, invoke, builtin, Builtin.copy_, g0, List.getElem?_toArray, List.getElem?_cons_zero,
                    List.getElem?_cons_succ, run_und hu, hve, k1, run_size hsz, k4', goInt]
              · cases h
            · cases h
          · cases h
        · cases h
      · -- clear
        rename_i base n cap ex hargs
        rw [cond_eq_ite] at h
        split at h
        · rename_i hsz1
          obtain ⟨g0, g1⟩ := getD0 (ts := c.argTypes) (by simpa using hsz1)
          rw [g1] at h
          obtain ⟨xo, hxy, hv⟩ := args_one ht hargs
          split at h
          · rename_i e hu
            split at h
            · cases h
              obtain ⟨hve, _, _⟩ := hv.slice_nil
              refine wp_value (w' := w) (y := .tuple #[]) ?_ (hn _ μ _ ⟨Ext.refl _ _, hR, VR.undefA, Kept.refl _ _ _⟩)
              simp [execOp, resolve, hcal, hxy, invoke, builtin, Builtin.clear_, g0, run_und hu, hve]
            · rename_i l
              split at h
              · rename_i z hz
                split at h
                · rename_i s1 hw
                  cases h
                  obtain ⟨ad, c', hve, hr⟩ := hv.slice
                  obtain ⟨zv, hzall, k7⟩ := run_zero_all hz
                  by_cases hn0 : n = 0
                  · subst hn0
                    simp only [repeatA, writeCells] at hw
                    cases hw
                    refine wp_value (w' := w) (y := .tuple #[]) ?_ (hn _ μ _ ⟨Ext.refl _ _, hR, VR.undefA, Kept.refl _ _ _⟩)
                    simp [execOp, resolve, hcal, hxy, invoke, builtin, Builtin.clear_, g0, run_und hu, hve]
                  · have hlr : LR μ l ad := by
                      have := hr.2
                      split at this
                      · exact this.1
                      · rcases this with ⟨_, h0⟩ | ⟨g, sz, hg, ha, _⟩
                        · exact absurd h0 hn0
                        · exact ⟨g, hg, ha⟩
                    obtain ⟨w', e1, e2, e3⟩ := writeCells_sound (P := P) hw hR hlr (rep_sound (k7 μ).cells n zv.cells (.inl rfl))
                    refine wp_value (w' := w') (y := .tuple #[]) ?_ (hn _ μ _ ⟨Ext.refl _ _, e2, VR.undefA, e3⟩)
                    obtain ⟨n, rfl⟩ : ∃ k, n = k + 1 := ⟨n - 1, by omega⟩
                    have e1' : (storeCells ad (Builtin.zeroCells zv.cells (n + 1)).toList).run P w = .ok () w' := e1
                    simp [execOp, resolve, hcal, hxy, invoke, builtin, Builtin.clear_, g0, run_und hu, hve, hzall, e1']
                · cases h
              · cases h
          · cases h
        · cases h
      · -- delete
        rename_i m n hargs
        rw [cond_eq_ite] at h
        split at h
        · rename_i hsz1
          obtain ⟨g0, g1⟩ := getD0 (ts := c.argTypes) (by simpa using hsz1)
          rw [g1] at h
          obtain ⟨xo, yo, hxy, hv, hxv⟩ := args_two ht hargs
          have ek := hxv.int
          split at h
          · rename_i kt e hu
            split at h
            · rename_i K hku
              cases h
              obtain ⟨rr, em, h1, _⟩ := hv.map
              rw [h1 rfl] at em
              refine wp_value (w' := w) (y := .tuple #[]) ?_ (hn _ μ _ ⟨Ext.refl _ _, hR, VR.undefA, Kept.refl _ _ _⟩)
              have hck := run_checkKey (P := P) (e := true) hku (.int .i64 n) w ⟨n, rfl⟩
              simp [execOp, resolve, hcal, hxy, invoke, builtin, Builtin.delete_, g0, run_und hu, em, ek, hck]
            · rename_i K o hku
              split at h
              · rename_i es hg
                split at h
                · rename_i x hf
                  rw [cond_eq_ite] at h
                  split at h
                  · rename_i hb
                    cases h
                    obtain ⟨rr, em, _, h2⟩ := hv.map
                    obtain ⟨g, hg0, rfl⟩ := h2 o rfl
                    obtain ⟨_, ents, clock, hheap, hMR⟩ := hR.map _ _ _ _ hg hg0
                    have hgo := run_getObj (P := P) hheap (fun _ _ _ e => by cases e)
                    have hck := run_checkKey (P := P) (e := ents.isEmpty) hku (.int .i64 n) w ⟨n, rfl⟩
                    rcases hMR.del (P := P) n w hku with ⟨k1, k2⟩ | ⟨i, x, k1, k2⟩
                    · refine wp_value (w' := { w with heap := w.heap.setIfInBounds g.b (.map ents clock) }) (y := .tuple #[]) ?_ (hn _ μ _ ⟨Ext.refl _ _, hR.set_map hg hg0 k2, VR.undefA, Kept.set_map hg0 hb⟩)
                      simp [execOp, resolve, hcal, hxy, invoke, builtin, Builtin.delete_, g0, run_und hu, em, ek, hck, hgo, k1, run_setObj hheap (fun _ _ _ e => by cases e)]
                    · refine wp_value (w' := { w with heap := w.heap.setIfInBounds g.b (.map (ents.eraseIdxIfInBounds i) clock) }) (y := .tuple #[]) ?_ (hn _ μ _ ⟨Ext.refl _ _, hR.set_map hg hg0 k2, VR.undefA, Kept.set_map hg0 hb⟩)
                      simp [execOp, resolve, hcal, hxy, invoke, builtin, Builtin.delete_, g0, run_und hu, em, ek, hck, hgo, k1, run_setObj hheap (fun _ _ _ e => by cases e)]
                  · cases h
                · cases h
              · cases h
            · cases h
          · cases h
        · cases h
      · cases h
    · cases h
  · cases h

end Go.Ab
