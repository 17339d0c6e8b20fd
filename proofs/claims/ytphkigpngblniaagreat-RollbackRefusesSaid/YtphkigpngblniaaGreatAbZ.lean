/- Operations without memory: all of them. -/
import Derived.Test.YtphkigpngblniaaGreatAbY
namespace Go.Ab
set_option linter.unusedSectionVars false
variable [Rho] {P : Program} {μ : Mu}

theorem VR0.cells {x : AV} {v : Value} (h : VR0 μ x v) : All2 (CR μ) x.cells v.cells.toList := by
  cases x with
  | agg cs => obtain ⟨vs, rfl, h⟩ := (VR.of0 h).agg; exact h
  | tup vs => cases v <;> simp [VR0, CR] at h
  | _ =>
    have := h.toC (fun _ e => by cases e)
    cases v <;> simp only [CR] at this <;> simp [AV.cells, Value.cells, All2] <;> first | exact this | simpa [CR] using this

theorem foldl_set : ∀ (vs : List Value) (k off : Nat) (cs : Array Value), off + k + vs.length ≤ cs.size →
    ((vs.zipIdx k).foldl (fun (cs : Array Value) (p : Value × Nat) => cs.setIfInBounds (off + p.2) p.1) cs).toList = cs.toList.take (off + k) ++ vs ++ cs.toList.drop (off + k + vs.length)
  | [], k, off, cs, h => by simp
  | v :: vs, k, off, cs, h => by
    simp only [List.length_cons] at h
    rw [List.zipIdx_cons, List.foldl_cons, foldl_set vs (k + 1) off _ (by simp; omega)]
    have hlt : off + k < cs.toList.length := by simp; omega
    rw [Array.toList_setIfInBounds]
    have e1 : (cs.toList.set (off + k) v).take (off + (k + 1)) = cs.toList.take (off + k) ++ [v] := by
      rw [show off + (k + 1) = off + k + 1 from by omega, List.take_succ_eq_append_getElem (by simpa using hlt), List.getElem_set_self, List.take_set_of_le (Nat.le_refl _)]
    have e2 : (cs.toList.set (off + k) v).drop (off + (k + 1) + vs.length) = cs.toList.drop (off + k + (vs.length + 1)) := by
      rw [List.drop_set_of_lt (by omega)]; congr 1; omega
    rw [e1, e2]
    simp

theorem All2.splice {cs vs : List AV} {ds ws : List Value} {i : Nat} (h : All2 (CR μ) cs ds) (hv : All2 (CR μ) vs ws) :
    All2 (CR μ) (splice cs i vs) (ds.take i ++ ws ++ ds.drop (i + ws.length)) := by
  unfold Ab.splice
  rw [← hv.length]
  exact ((h.take i).append hv).append (h.drop _)

theorem fillA_sound {place place' : Nat → Option (Nat × Nat)} (hp : ∀ i, place i = place' i) : ∀ {ps : List (Nat × AV)} {qs : List (Nat × Value)} {cells cs : List AV} {c : Array Value},
    fillA place cells ps = some cs → All2 (CR μ) cells c.toList → All2 (fun (p : Nat × AV) (q : Nat × Value) => p.1 = q.1 ∧ VR μ p.2 q.2) ps qs →
    ∃ c', Instr.fill place' c qs = some c' ∧ All2 (CR μ) cs c'.toList
  | [], [], cells, cs, c, h, hc, _ => by simp only [fillA] at h; cases h; exact ⟨c, rfl, hc⟩
  | (i, v) :: ps, (j, u) :: qs, cells, cs, c, h, hc, ⟨⟨h1, h2⟩, h3⟩ => by
    simp only at h1 h2
    subst h1
    simp only [fillA] at h
    split at h
    · cases h
    · rename_i off size hpl
      rw [cond_eq_ite] at h
      split at h
      · rename_i hcond
        simp only [Bool.and_eq_true, Nat.ble_eq, Nat.beq_eq] at hcond
        obtain ⟨⟨k1, k2⟩, k3⟩ := hcond
        have hvc := h2.cells k3
        have hl := hvc.length
        have hcl := hc.length
        simp only [Instr.fill, ← hp, hpl]
        have hs : u.cells.size = size := by simpa [k1] using hl.symm
        have hno : ¬ (u.cells.size ≠ size || off + u.cells.size > c.size) = true := by
          have : c.size = cells.length := by simpa using hcl.symm
          simp [hs, this]; omega
        rw [if_neg hno]
        refine fillA_sound hp h ?_ h3
        have := foldl_set u.cells.toList 0 off c (by have : c.size = cells.length := by simpa using hcl.symm
                                                     simp [hs]; omega)
        rw [← Array.foldl_toList, Array.toList_zipIdx]
        rw [this]
        exact hc.splice hvc
      · cases h
  | [], _ :: _, _, _, _, _, _, h => h.elim
  | _ :: _, [], _, _, _, _, _, h => h.elim

theorem places_list : ∀ {fs : List Field}, sizesOk P fs = true → ∀ (w : World),
    ∃ ps : List (Nat × Nat), (fs.mapM fun f => do pure (f.offset, ← sizeOf f.type) : Sem (List (Nat × Nat))).run P w = .ok ps w ∧
      ∀ i : Nat, ps[i]? = (match fs[i]? with | some f => (match sizeT P f.type with | some n => some (f.offset, n) | none => none) | none => none)
  | [], _, w => ⟨[], by simp, by simp⟩
  | f :: fs, h, w => by
    simp only [sizesOk] at h
    split at h
    · rename_i n hn
      obtain ⟨ps, h1, h2⟩ := places_list h w
      refine ⟨(f.offset, n) :: ps, ?_, ?_⟩
      · simp only [List.mapM_cons, Sem.run_bind, run_size hn, Result.andThen_ok, Sem.run_pure]
        rw [h1]
        rfl
      · intro i
        cases i with
        | zero => simp [hn]
        | succ i => simpa using h2 i
    · cases h

theorem places_sound {fs : Array Field} (h : sizesOk P fs.toList = true) (w : World) :
    ∃ ps : Array (Nat × Nat), (fs.mapM fun f => do pure (f.offset, ← sizeOf f.type) : Sem (Array (Nat × Nat))).run P w = .ok ps w ∧ ∀ i, placesA P fs i = ps[i]? := by
  obtain ⟨ps, h1, h2⟩ := places_list h w
  refine ⟨ps.toArray, ?_, ?_⟩
  · rw [Array.mapM_eq_mapM_toList]
    simp only [Sem.run_map, h1, Result.andThen_ok]
  · intro i
    have := h2 i
    simp only [List.getElem?_toArray, placesA]
    rw [this]
    simp only [Array.getElem?_toList]
    rfl

theorem capLocs_sound : ∀ {vs : List AV} {ls : List Loc} {us : List Value}, capLocs vs = some ls → All2 (VR μ) vs us → All2 (fun l v => ∃ a, v = .pointer (some a) ∧ LR μ l a) ls us
  | [], ls, [], h, _ => by simp [capLocs] at h; subst h; trivial
  | v :: vs, ls, u :: us, h, ⟨h1, h2⟩ => by
    unfold capLocs at h
    split at h
    · rename_i e; cases e
    · rename_i l vs' e
      cases e
      split at h
      · rename_i ls' hl; cases h; exact ⟨h1.ptr, capLocs_sound hl h2⟩
      · cases h
    · cases h
  | [], _, _ :: _, _, h => h.elim
  | _ :: _, _, [], _, h => h.elim

theorem minmax_sound (mx : Bool) : ∀ {xs : List AV} {x r : AV} {vx : Value} {vs : List Value} (w : World), minmax mx x xs = some r → VR μ x vx → All2 (VR μ) xs vs →
    ∃ y, (vs.foldlM (if mx then Builtin.max2 else Builtin.min2) vx).run P w = .ok y w ∧ VR μ r y
  | [], x, r, vx, [], w, h, hx, _ => by simp only [minmax] at h; cases h; exact ⟨vx, by simp, hx⟩
  | y :: xs, x, r, vx, vy :: vs, w, h, hx, ⟨h1, h2⟩ => by
    unfold minmax at h
    split at h
    · rename_i e; cases e
    · rename_i k a k' b' ys e
      cases e
      rw [hx.int, h1.int]
      simp only [List.foldlM_cons]
      cases mx with
      | true =>
        obtain ⟨y, e1, e2⟩ := minmax_sound true (vx := .int k (if b' > a then b' else a)) w h (VR.ofC (by
          simp only [CR, cond_eq_ite, intLt_eq, true_and, if_true, decide_eq_true_eq])) h2
        exact ⟨y, by simpa [Builtin.max2] using e1, e2⟩
      | false =>
        obtain ⟨y, e1, e2⟩ := minmax_sound false (vx := .int k (if b' < a then b' else a)) w h (VR.ofC (by
          simp only [CR, cond_eq_ite, intLt_eq, true_and, decide_eq_true_eq, Bool.false_eq_true, if_false])) h2
        exact ⟨y, by simpa [Builtin.min2] using e1, e2⟩
    · cases h
  | [], _, _, _, _ :: _, _, _, _, h => h.elim
  | _ :: _, _, _, _, [], _, _, _, h => h.elim

theorem run_zero_cells {t : TypeId} {z : AV} (h : zeroT P t = some z) (w : World) : ∃ v, (zeroValue t).run P w = .ok v w ∧ ∀ μ, All2 (CR μ) z.cells v.cells.toList :=
  let ⟨v, h1, h2⟩ := run_zero h w; ⟨v, h1, fun μ => (h2 μ).cells⟩

theorem evP_sound {t : Temps} {a : Act} {o : Oper} {r : AV} (h : evP P t o.op = some r) (ht : TR μ t a.tmps) (w : World) :
    ∃ y, (execOp a.eval o).run P w = .ok (.value y) w ∧ VR μ r y := by
  obtain ⟨dst, op, type, pos, after, guard⟩ := o
  unfold evP at h
  simp only at h
  split at h
  -- move
  · exact ⟨_, by simp [execOp], evX_sound h ht⟩
  · exact ⟨_, by simp [execOp], evX_sound h ht⟩
  -- pick
  · split at h
    · rename_i hc hx hy
      cases h
      have e := (evX_sound hc ht).bool
      have e1 := evX_sound hx ht
      have e2 := evX_sound hy ht
      rw [cond_eq_ite]
      split
      · rename_i hb; exact ⟨_, by simp [execOp, e, asBool, hb], e1⟩
      · rename_i hb; exact ⟨_, by simp [execOp, e, asBool, hb], e2⟩
    · cases h
  -- build
  · rename_i ty ps
    split at h
    · rename_i vs z hps hz
      have h1 := evParts_sound ht hps
      obtain ⟨zv, e0, e1⟩ := run_zero_cells hz w
      split at h
      · rename_i fs hu
        rw [cond_eq_ite] at h
        split at h
        · rename_i hs
          split at h
          · rename_i cs hf
            cases h
            obtain ⟨pl, e2, e3⟩ := places_sound hs w
            obtain ⟨c', e4, e5⟩ := fillA_sound (μ := μ) (place' := (pl[·]?)) (fun i => e3 i) hf (e1 μ) h1
            refine ⟨.agg c', ?_, VR.of0 (by simpa [VR0] using e5)⟩
            simp only [execOp, Instr.build, Sem.run_bind, e0, run_und hu, Result.andThen_ok, e2]
            rw [Array.toList_map, e4]
            rfl
          · cases h
        · cases h
      · rename_i n e hu
        split at h
        · rename_i size hsz
          split at h
          · rename_i cs hf
            cases h
            obtain ⟨c', e4, e5⟩ := fillA_sound (μ := μ) (fun i => rfl) hf (e1 μ) h1
            refine ⟨.agg c', ?_, VR.of0 (by simpa [VR0] using e5)⟩
            simp only [execOp, Instr.build, Sem.run_bind, e0, run_und hu, Result.andThen_ok, run_size hsz]
            rw [Array.toList_map, e4]
            rfl
          · cases h
        · cases h
      · cases h
    · cases h
  -- nilCheck
  · split at h
    · rename_i l hx; cases h
      obtain ⟨ad, e, hl⟩ := (evX_sound hx ht).ptr
      exact ⟨.pointer (some ad), by simp [execOp, e], VR.ofC (by simpa [CR] using hl)⟩
    · rename_i f ls hx; cases h
      obtain ⟨cap, e, hl⟩ := (evX_sound hx ht).func
      exact ⟨.func (.func f) #[] cap, by simp [execOp, e], VR.ofC (by simpa [CR] using hl)⟩
    · cases h
  -- binOp
  · split at h
    · rename_i hx hy
      obtain ⟨v, e, hr⟩ := evBin_sound h (evX_sound hx ht) (evX_sound hy ht) _ _ w
      exact ⟨v, by simp only [execOp, Sem.run_bind] at e ⊢; rw [e]; rfl, hr⟩
    · cases h
  -- unOp
  · split at h
    · rename_i hx
      obtain ⟨v, e, hr⟩ := evUn_sound (P := P) h (evX_sound hx ht) w
      exact ⟨v, by simp [execOp, e], hr⟩
    · cases h
  -- convert
  · split at h
    · rename_i hs hd hx
      cases h
      have e := (evX_sound hx ht).int
      refine ⟨_, by simp [execOp, convert, e, run_und hs, run_und hd, Conv.intToInt]; rfl, VR.ofC (by simp [CR, wrapA_eq])⟩
    · rename_i hs hd hx
      obtain ⟨e, h1, h2⟩ := (evX_sound hx ht).sym
      exact ⟨_, by simp [execOp, convert, e, run_und hs, run_und hd, Conv.intToInt], VR.ofC (symConv_sound h h1 h2)⟩
    · rename_i hs hd hx
      cases h
      have e := (evX_sound hx ht).str
      refine ⟨_, by simp [execOp, convert, e, run_und hs, run_und hd]; rfl, VR.ofC (by simp [CR])⟩
    · cases h
  -- makeFunc
  · split at h
    · rename_i first captured _ f
      rw [cond_eq_ite] at h
      split at h
      · rename_i h0
        split at h
        · rename_i vs hvs
          split at h
          · rename_i ls hls
            cases h
            have h1 := capLocs_sound hls (evXs_sound ht hvs)
            have hf : first = #[] := by simpa using h0
            subst hf
            refine ⟨_, by simp [execOp, Instr.makeFunc]; rfl, VR.ofC ?_⟩
            simp only [CR, true_and]
            simpa using h1
          · cases h
        · cases h
      · cases h
    · cases h
  -- slice
  · split at h
    · rename_i v vlo vhi vmx hx h1 h2 h3
      split at h
      · rename_i e q len cap ex hu
        split at h
        · rename_i n hsz
          obtain ⟨y, e1, hr⟩ := sliceA_sound (μ := μ) ht h1 h2 h3 hu hsz h (evX_sound hx ht) w
          exact ⟨y, by simp [execOp, e1], hr⟩
        · cases h
      · rename_i b hu
        unfold sliceS at h
        split at h
        · cases h
        · split at h
          · rename_i hh hhb
            split at h
            · rename_i l hlb
              cases h
              have e := (evX_sound hx ht).str
              have hb : bounds b.size b.size vlo vhi none = some (l, hh, b.size) := by
                unfold bounds
                rw [show bound none b.size b.size = some b.size from rfl]
                simp only [hhb, hlb]
              obtain ⟨k1, _⟩ := run_sliceBounds (P := P) (μ := μ) ht h1 h2 h3 hb (Nat.le_refl _) (Nat.le_refl _) w false
              rcases optX_sound ht h3 with ⟨_, e3⟩ | ⟨_, _, e3, _⟩
              · rw [e3] at k1
                refine ⟨_, by simp [execOp, Instr.sliceAt, Instr.slice, run_und hu, e, e3, k1]; rfl, VR.ofC (by simp [CR])⟩
              · cases e3
            · cases h
          · cases h
      · cases h
    · cases h
  -- fieldAddr
  · split at h
    · rename_i fs l hu hx
      split at h
      · rename_i fd hf
        split at h
        · rename_i n hsz
          cases h
          obtain ⟨ad, e, g, hg, rfl⟩ := (evX_sound hx ht).ptr
          refine ⟨.pointer (some ⟨g.b, g.off + l.i + fd.offset, none⟩), ?_, VR.ofC ?_⟩
          · simp [execOp, Instr.fieldAt, run_und hu, hf, e, Instr.sureAddr, fieldPlace, run_size hsz, addr_add]
          · exact ⟨g, hg, by rw [Nat.add_assoc]⟩
        · cases h
      · cases h
    · cases h
  -- field
  · split at h
    · rename_i fs cs hu hx
      split at h
      · rename_i fd hf
        obtain ⟨vs, e, hc⟩ := (evX_sound hx ht).agg
        obtain ⟨y, e1, hr⟩ := partA_sound (μ := μ) h hc w
        exact ⟨y, by simp [execOp, Instr.field, run_und hu, hf, e, asAgg, e1], VR.of0 hr⟩
      · cases h
    · cases h
  -- indexAddr
  · split at h
    · rename_i e l len c x k i hu hx hi
      split at h
      · rename_i n hsz
        rw [cond_eq_ite] at h
        split at h
        · rename_i hlt
          cases h
          obtain ⟨ad, c', ev, hr⟩ := (evX_sound hx ht).slice
          have ei := (evX_sound hi ht).int
          have hlt' : i < len := by simpa using hlt
          have hgl : LR μ l ad := by
            have := hr.2
            split at this
            · exact this.1
            · rcases this with ⟨_, h0⟩ | ⟨g, sz, hg, ha, _⟩
              · omega
              · exact ⟨g, hg, ha⟩
          obtain ⟨g, hg, rfl⟩ := hgl
          refine ⟨.pointer (some ⟨g.b, g.off + l.i + i * (n + 1), none⟩), ?_, VR.ofC ⟨g, hg, by rw [Nat.add_assoc]⟩⟩
          have h0 : (0 : Int) ≤ Int.ofNat i ∧ Int.ofNat i < (len : Int) := ⟨by simp, by simp; omega⟩
          simp [execOp, Instr.indexAt, run_und hu, ev, ei, asIntOf, run_size hsz, hlt', addr_add]
        · cases h
      · cases h
    · rename_i len e l k i hu hx hi
      split at h
      · rename_i n hsz
        rw [cond_eq_ite] at h
        split at h
        · rename_i hlt
          cases h
          obtain ⟨ad, ev, g, hg, rfl⟩ := (evX_sound hx ht).ptr
          have ei := (evX_sound hi ht).int
          have hlt' : i < len := by simpa using hlt
          refine ⟨.pointer (some ⟨g.b, g.off + l.i + i * (n + 1), none⟩), ?_, VR.ofC ⟨g, hg, by rw [Nat.add_assoc]⟩⟩
          simp [execOp, Instr.indexAt, run_und hu, ev, ei, asIntOf, run_size hsz, hlt', addr_add, Instr.sureAddr]
        · cases h
      · cases h
    · cases h
  -- index
  · split at h
    · rename_i len e cs k i hu hx hi
      split at h
      · rename_i n hsz
        rw [cond_eq_ite] at h
        split at h
        · rename_i hlt
          obtain ⟨vs, ev, hc⟩ := (evX_sound hx ht).agg
          have ei := (evX_sound hi ht).int
          have hlt' : i < len := by simpa using hlt
          obtain ⟨y, e1, hr⟩ := partA_sound (μ := μ) h hc w
          exact ⟨y, by simp [execOp, Instr.index, run_und hu, ev, ei, asIntOf, run_size hsz, hlt', e1], VR.of0 hr⟩
        · cases h
      · cases h
    · rename_i b k i hu hx hi
      split at h
      · rename_i x hb
        cases h
        have ev := (evX_sound hx ht).str
        have ei := (evX_sound hi ht).int
        refine ⟨.int .u8 x.toNat, ?_, VR.ofC (by simp [CR])⟩
        simp [execOp, Instr.index, run_und hu, ev, ei, asIntOf, hb]
      · cases h
    · cases h
  -- extract
  · split at h
    · rename_i _ i _ vs hx
      obtain ⟨us, e, hc⟩ := (evX_sound hx ht).tup
      obtain ⟨y, hy, hr⟩ := hc.get h
      have : us[i]? = some y := by simpa using hy
      exact ⟨y, by simp [execOp, Instr.extract, e, this], VR.of0 hr⟩
    · cases h
  -- builtins
  · rename_i c
    split at h
    · rename_i f hcal
      split at h
      · rename_i n hargs
        rw [cond_eq_ite] at h
        split at h
        · rename_i hs
          cases h
          have h1 := evXs_sound ht hargs
          simp only [Bool.and_eq_true] at hs
          obtain ⟨x, hx⟩ : ∃ x, c.args.toList = [x] := by
            have := h1.length
            simp at this
            match hh : c.args.toList with
            | [x] => exact ⟨x, rfl⟩
            | [] => simp at hh; simp [hh] at this
            | _ :: _ :: _ => have h2 := congrArg List.length hh; simp at h2; omega
          have hx' : c.args = #[x] := by rw [← Array.toArray_toList (xs := c.args), hx]
          rw [hx] at h1
          have hv := h1.1
          have hty : ∃ t0, c.argTypes[0]? = some t0 ∧ ∃ e, P.underlying t0 = some (.slice e) := by
            have h0 : 0 < c.argTypes.size := by simpa using hs.2
            refine ⟨c.argTypes[0], by simp [h0], ?_⟩
            have hso := hs.1
            rw [show c.argTypes.getD 0 0 = c.argTypes[0] from by simp [Array.getD, h0]] at hso
            unfold sliceOf at hso
            split at hso
            · rename_i e he; exact ⟨e, he⟩
            · cases hso
          obtain ⟨t0, ht0, e, hu⟩ := hty
          have hval : ∃ base len, a.eval x = .slice base len n := by
            rename_i q len
            cases q with
            | none =>
              obtain ⟨k1, _, k2⟩ := hv.slice_nil
              exact ⟨none, 0, by rw [k1, k2]⟩
            | some q =>
              obtain ⟨ad, c', k1, k2⟩ := hv.slice
              have := k2.2
              simp only [if_true] at this
              exact ⟨some ad, len, by rw [k1, this.2.1]⟩
          obtain ⟨base, len, hval⟩ := hval
          refine ⟨.int .i64 n, ?_, VR.ofC (by simp [CR])⟩
          simp [execOp, resolve, hcal, hx', invoke, builtin, Builtin.cap_, ht0, run_und hu, hval, goInt]
        · cases h
      · rename_i x xs hargs
        have h1 := evXs_sound ht hargs
        obtain ⟨vx, vs, he⟩ : ∃ vx vs, c.args.toList.map a.eval = vx :: vs := by
          cases hh : c.args.toList.map a.eval with
          | nil => rw [hh] at h1; exact h1.elim
          | cons v vs => exact ⟨v, vs, rfl⟩
        rw [he] at h1
        obtain ⟨y, e1, hr⟩ := minmax_sound true (P := P) w h h1.1 h1.2
        refine ⟨y, ?_, hr⟩
        simp only [if_true] at e1
        simp [execOp, resolve, hcal, invoke, builtin, Builtin.max_, he, e1]
      · rename_i x xs hargs
        have h1 := evXs_sound ht hargs
        obtain ⟨vx, vs, he⟩ : ∃ vx vs, c.args.toList.map a.eval = vx :: vs := by
          cases hh : c.args.toList.map a.eval with
          | nil => rw [hh] at h1; exact h1.elim
          | cons v vs => exact ⟨v, vs, rfl⟩
        rw [he] at h1
        obtain ⟨y, e1, hr⟩ := minmax_sound false (P := P) w h h1.1 h1.2
        refine ⟨y, ?_, hr⟩
        simp only [if_false, Bool.false_eq_true] at e1
        simp [execOp, resolve, hcal, invoke, builtin, Builtin.min_, he, e1]
      · cases h
    · cases h
  · cases h

end Go.Ab
