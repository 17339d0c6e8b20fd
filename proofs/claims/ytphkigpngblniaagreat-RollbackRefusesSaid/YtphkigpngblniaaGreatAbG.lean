/- All other operations: stores, maps, calls, append, copy, clear, delete. -/
import Derived.Test.YtphkigpngblniaaGreatAbF
namespace Go.Ab
set_option linter.unusedSectionVars false
variable [Rho] {P : Program} {μ : Mu}

/-- What is known of how functions are called. -/
def CallS (P : Program) (call : Bar → FuncId → List AV → St → Option (AV × St)) : Prop :=
  ∀ b f args s r s', call b f args s = some (r, s') → ∀ (μ : Mu) (w : World) (vs : List Value), R μ s w → All2 (VR μ) args vs →
    Calls P f vs.toArray w (fun e w' => ∃ y μ', e = .returned y ∧ Post b μ w s' r y μ' w')

theorem srcCells_sound {s : St} {w : World} (hR : R μ s w) {size n : Nat} {x : AV} {cs : List AV} {v : Value} (h : srcCells s size x = some (n, cs)) (hx : VR μ x v) :
    (Builtin.lenOf v).run P w = .ok n w ∧ cs.length = n * size ∧
    (∀ m, m ≤ n → ∃ ys, (∀ w' : World, w'.heap = w.heap → (Builtin.firstCells size m v).run P w' = .ok ys w') ∧ All2 (CR μ) (cs.take (m * size)) ys.toList) := by
  unfold srcCells at h
  split at h
  · cases h
    obtain ⟨rfl, _, _⟩ := hx.slice_nil
    refine ⟨by simp [Builtin.lenOf], by simp, fun m hm => ⟨#[], fun _ _ => by simp [Builtin.firstCells], by simp [All2]⟩⟩
  · rename_i l len c ex
    obtain ⟨ad, c', rfl, hr⟩ := hx.slice
    rw [cond_eq_ite] at h
    split at h
    · rename_i h0
      cases h
      have h0' : len = 0 := by simpa using h0
      subst h0'
      refine ⟨by simp [Builtin.lenOf], by simp, fun m hm => ?_⟩
      have : m = 0 := by omega
      subst this
      exact ⟨#[], fun _ _ => by simp [Builtin.firstCells, loadCells, loadCellsFrom], by simp [All2]⟩
    · rename_i h0
      split at h
      · rename_i cs' hcs
        cases h
        have h0' : n ≠ 0 := by simpa using h0
        have hlr : LR μ l ad := by
          have := hr.2
          split at this
          · exact this.1
          · rcases this with ⟨_, h1⟩ | ⟨g, sz, hg, ha, _⟩
            · exact absurd h1 h0'
            · exact ⟨g, hg, ha⟩
        refine ⟨by simp [Builtin.lenOf], readCells_length hcs, fun m hm => ?_⟩
        have hle : m * size ≤ n * size := Nat.mul_le_mul_right _ hm
        obtain ⟨ds, lo, ro, h1, h2, h3, h4, h5⟩ := readCells_spec hcs
        have hrd : readCells s l (m * size) = some (cs.take (m * size)) := by
          unfold readCells
          rw [h1]
          simp only
          have hc : (Nat.ble lo l.v && Nat.ble (l.i + m * size) l.v && Nat.ble l.v ds.length) = true := by
            simp only [Bool.and_eq_true, Nat.ble_eq]; omega
          rw [hc, h5, List.take_take, Nat.min_eq_left hle]
          rfl
        obtain ⟨ys, e1, e2, _⟩ := readCells_sound' (P := P) hrd hR hlr
        exact ⟨ys, fun w' hw => by simpa [Builtin.firstCells] using e1 w' hw, e2⟩
      · cases h
  · rename_i b
    rw [cond_eq_ite] at h
    split at h
    · rename_i h1
      cases h
      have h1' : size = 1 := by simpa using h1
      subst h1'
      rw [hx.str]
      refine ⟨by simp [Builtin.lenOf], by rw [List.length_map, Nat.mul_one]; rfl, fun m hm => ?_⟩
      refine ⟨((b.extract 0 m).data.map fun b => .int .u8 b.toNat), fun _ _ => by simp [Builtin.firstCells], ?_⟩
      rw [Array.toList_map, ByteArray.data_extract, Array.toList_extract, List.extract_eq_take_drop, Nat.mul_one, ← List.map_take]
      simp only [List.drop_zero, Nat.sub_zero]
      generalize b.data.toList.take m = l
      induction l with
      | nil => trivial
      | cons x l ih => exact ⟨⟨rfl, rfl⟩, ih⟩
    · cases h
  · cases h

theorem nextcap_le {n c : Nat} (h : c < n) : Builtin.nextslicecap n c ≤ 2 * n + 1000 := by
  have grow : ∀ r c, c ≤ 2 * n + 1000 → Builtin.growBy n r c ≤ 2 * n + 1000 := by
    intro r
    induction r with
    | zero => intro c hc; exact hc
    | succ r ih =>
      intro c hc
      simp only [Builtin.growBy]
      split
      · exact hc
      · exact ih _ (by omega)
  unfold Builtin.nextslicecap
  split
  · omega
  · split
    · omega
    · exact grow _ _ (by omega)

theorem zeroCells_size (z : Array Value) (n : Nat) : (Builtin.zeroCells z n).size = n * z.size := by simp [Builtin.zeroCells]

/-- The block of an array that has grown. -/
theorem run_append_grows {st xt e : TypeId} {i : TypeInfo} {size n sLen sCap : Nat} {base : Option Addr} {x zv : Value} {old new : Array Value} {w : World} (ty : TypeId)
    (hu : P.underlying st = some (.slice e)) (hsz : sizeT P e = some size) (hx : ∃ d, P.underlying xt = some d ∧ ∀ k, d ≠ .int k) (hi : P.info? e = some i) (hb0 : 0 < i.bytes) (hb : i.bytes ≤ 4096)
    (hlen : (Builtin.lenOf x).run P w = .ok n w) (hgt : ¬ sLen + n ≤ sCap) (hlim : sLen + n ≤ limit) (hzs : zv.cells.size = size)
    (hold : ∀ w' : World, w'.heap = w.heap → (Builtin.firstCells size sLen (.slice base sLen sCap)).run P w' = .ok old w') (hnew : ∀ w' : World, w'.heap = w.heap → (Builtin.firstCells size n x).run P w' = .ok new w')
    (hz' : ∀ w', (zeroValue e).run P w' = .ok zv w') (hos : old.size = sLen * size) (hns : new.size = n * size) :
    ∃ (c : Array Value) (cap : Nat) (w1 : World), (Builtin.append_ #[st, xt] ty #[.slice base sLen sCap, x]).run P w = .ok (.slice (some ⟨w1.heap.size, 0, none⟩) (sLen + n) cap) (w1.alloc (.cells c e)) ∧
      w1.heap = w.heap ∧ w1.os = w.os ∧ w1.output = w.output ∧ sLen + n ≤ cap ∧ c.size = cap * size ∧ c.toList.take ((sLen + n) * size) = old.toList ++ new.toList := by
  have hl : limit = 4294967296 := rfl
  obtain ⟨d, hd, hdn⟩ := hx
  have hzf : (match d with | .int _ => true | _ => false) = false := by cases d <;> first | rfl | exact absurd rfl (hdn _)
  have hnc := nextcap_le (n := sLen + n) (c := sCap) (by omega)
  have hmul : ¬ Builtin.nextslicecap (sLen + n) sCap * i.bytes > 2 ^ 48 := by
    have : Builtin.nextslicecap (sLen + n) sCap * i.bytes ≤ (2 * (sLen + n) + 1000) * 4096 := Nat.mul_le_mul hnc hb
    omega
  let cap := (Question.appendCap (sLen + n) sCap e).cut (w.tape w.drawn (Question.appendCap (sLen + n) sCap e))
  have hcap : sLen + n ≤ cap := by simp only [cap, Question.cut]; omega
  refine ⟨old ++ new ++ Builtin.zeroCells zv.cells (cap - (sLen + n)), cap, w.drew, ?_, rfl, rfl, rfl, hcap, ?_, ?_⟩
  · have hbn : ¬ (((sLen + n : Nat) : Int) > IntKind.i64.max ∧ i.bytes = 0) := by
      rintro ⟨_, h⟩
      omega
    have ht : ∀ w', (typeInfo e).run P w' = .ok i w' := fun w' => by simp [typeInfo, hi]
    have hf : (Question.appendCap (sLen + n) sCap e).forced = false := rfl
    have hold' := hold w.drew rfl
    have hnew' := hnew w.drew rfl
    unfold Builtin.append_
    simp only [List.getElem?_toArray, List.getElem?_cons_zero, List.getElem?_cons_succ, Sem.run_bind, run_und hu, Result.andThen_ok, run_size hsz, run_und hd, Sem.run_pure]
    simp only [Bool.false_eq_true, if_false, Sem.run_bind, hlen, Result.andThen_ok, if_neg hgt, ht, false_or, if_neg hbn, if_neg hmul, run_choose, hf, run_askRoom, World.drew_eq, hold', hnew', hz', Bool.not_false, if_true,
      newRow, run_newObj, Sem.run_pure, World.alloc_eq]
    rfl
  · simp only [Array.size_append, zeroCells_size, hzs, hos, hns]
    rw [← Nat.add_mul, ← Nat.add_mul]; congr 1; omega
  · simp only [Array.toList_append, List.append_assoc]
    rw [← List.append_assoc, List.take_left' (by simp [hos, hns, Nat.add_mul])]

theorem R.same_heap {s : St} {w w' : World} (h : R μ s w) (hh : w'.heap = w.heap) : R μ s w' := h.of_heap (by rw [hh]; exact Nat.le_refl _) fun _ _ => by rw [hh]

theorem Kept.grown {b : Bar} {w w1 : World} {o : Obj} (hh : w1.heap = w.heap) (ho : w1.os = w.os) (ho' : w1.output = w.output) : Kept b μ w (w1.alloc o) :=
  ⟨by simp [hh], fun B hB _ => by rw [alloc_heap _ _ _ (by rw [hh]; exact hB), hh], ho, ho'⟩

set_option maxHeartbeats 2000000 in
theorem appendA_sound {b : Bar} {s s' : St} {w : World} {st xt e : TypeId} {i : TypeInfo} {size n len cap : Nat} {base : Option Loc} {ex : Bool} {new : List AV} {r : AV} {v xv zv : Value} (ty : TypeId)
    (h : appendA b s size base len cap ex n new = some (r, s')) (hR : R μ s w) (hv : VR μ (.slice base len cap ex) v)
    (hu : P.underlying st = some (.slice e)) (hsz : sizeT P e = some size) (hx : ∃ d, P.underlying xt = some d ∧ ∀ k, d ≠ .int k) (hi : P.info? e = some i) (hb0 : 0 < i.bytes) (hb : i.bytes ≤ 4096) (hs0 : 0 < size)
    (hz' : ∀ w', (zeroValue e).run P w' = .ok zv w') (hzs : zv.cells.size = size)
    (hlen : (Builtin.lenOf xv).run P w = .ok n w) (hnl : new.length = n * size)
    (hnew : ∃ ys, (∀ w' : World, w'.heap = w.heap → (Builtin.firstCells size n xv).run P w' = .ok ys w') ∧ All2 (CR μ) new ys.toList) :
    ∃ y μ' w', (Builtin.append_ #[st, xt] ty #[v, xv]).run P w = .ok y w' ∧ Post b μ w s' r y μ' w' := by
  obtain ⟨ys, hys, hall⟩ := hnew
  have hysz : ys.size = n * size := by have := hall.length; simp at this; omega
  obtain ⟨d, hd, hdn⟩ := hx
  -- in its place, and there is room
  have here : ∀ {bs : Option Addr} {sCap : Nat}, v = .slice bs len sCap → len + n ≤ sCap → ∀ {w' : World}, (match bs with | some a => (storeCells (a.add (len * size)) ys.toList).run P w = .ok () w' | none => w' = w) →
      (Builtin.append_ #[st, xt] ty #[v, xv]).run P w = .ok (.slice bs (len + n) sCap) w' := by
    intro bs sCap hve hle w' hst
    subst hve
    unfold Builtin.append_
    simp only [List.getElem?_toArray, List.getElem?_cons_zero, List.getElem?_cons_succ, Sem.run_bind, run_und hu, Result.andThen_ok, run_size hsz, run_und hd, Sem.run_pure]
    cases bs with
    | some a => simp only [Bool.false_eq_true, if_false, Sem.run_bind, hlen, Result.andThen_ok, if_pos hle, Bool.not_false, if_true, hys w rfl, hst, Sem.run_pure]
    | none => simp only [Bool.false_eq_true, if_false, Sem.run_bind, hlen, Result.andThen_ok, if_pos hle, Bool.not_false, if_true, hys w rfl, Sem.run_pure, hst]
  unfold appendA at h
  rw [cond_eq_ite] at h
  split at h
  · rename_i hfit
    have hfit' : len + n ≤ cap := by simpa using hfit
    cases base with
    | none =>
      simp only [cond_eq_ite] at h
      split at h
      · rename_i hn
        cases h
        have hn' : n = 0 := by simpa using hn
        subst hn'
        obtain ⟨hve, rfl, rfl⟩ := hv.slice_nil
        exact ⟨_, μ, w, here hve (by omega) (w' := w) rfl, Ext.refl _ _, hR, VR.ofC (by simp [CR]), Kept.refl _ _ _⟩
      · cases h
    | some l =>
      simp only at h
      split at h
      · rename_i s1 hw
        cases h
        obtain ⟨ad, c', hve, hr⟩ := hv.slice
        by_cases hhole : ex = false ∧ cap = 0
        · obtain ⟨rfl, rfl⟩ := hhole
          have h0 : len = 0 := by omega
          have h1 : n = 0 := by omega
          subst h0; subst h1
          have hnil : new = [] := by simpa using hnl
          subst hnil
          have hynil : ys = #[] := by simpa using hysz
          subst hynil
          simp only [writeCells] at hw
          cases hw
          exact ⟨_, μ, w, here hve (by omega) (w' := w) (by simp [storeCells]), Ext.refl _ _, hR, VR.ofC (by simp [CR, SR]), Kept.refl _ _ _⟩
        · have hk : LR μ l ad ∧ len + n ≤ c' ∧ SR μ l (len + n) cap ex ad (len + n) c' := by
            have h2 := hr.2
            split at h2
            · rename_i hx1
              exact ⟨h2.1, by omega, rfl, by rw [if_pos hx1]; exact ⟨h2.1, h2.2.1, hfit'⟩⟩
            · rename_i hx1
              rcases h2 with ⟨h3, _⟩ | ⟨g, sz, hg, ha, h4, h5, h6⟩
              · exact absurd ⟨by simpa using hx1, h3⟩ hhole
              · exact ⟨⟨g, hg, ha⟩, by omega, rfl, by rw [if_neg hx1]; exact .inr ⟨g, sz, hg, ha, hfit', h5, h6⟩⟩
          obtain ⟨⟨g, hg, rfl⟩, hle, hsr⟩ := hk
          obtain ⟨w', e1, e2, e3⟩ := writeCells_sound (P := P) (a := ⟨g.b, g.off + l.i + len * size, none⟩) hw hR ⟨g, hg, by rw [Nat.add_assoc]⟩ hall
          exact ⟨_, μ, w', here hve hle (w' := w') (by simpa [addr_add] using e1), Ext.refl _ _, e2, VR.ofC hsr, e3⟩
      · cases h
  · rename_i hfit
    have hfit' : ¬ len + n ≤ cap := by simpa using hfit
    rw [cond_eq_ite] at h
    split at h
    · rename_i hlim
      simp only [Bool.and_eq_true, Nat.ble_eq] at hlim
      -- a new object
      have fresh : ∀ {old : List AV} {os : Array Value} {bs : Option Addr} {sCap : Nat}, v = .slice bs len sCap → ¬ len + n ≤ sCap → old.length = len * size → All2 (CR μ) old os.toList →
          (∀ w' : World, w'.heap = w.heap → (Builtin.firstCells size len (.slice bs len sCap)).run P w' = .ok os w') →
          ∃ y μ' w', (Builtin.append_ #[st, xt] ty #[v, xv]).run P w = .ok y w' ∧ Post b μ w (newArr s (old ++ new)).2 (.slice (some (newArr s (old ++ new)).1) (len + n) (len + n) false) y μ' w' := by
        intro old os bs sCap hve hgt hol hao hld
        have hosz : os.size = len * size := by have := hao.length; simp at this; omega
        subst hve
        obtain ⟨c, cap', w1, e1, e2, e3, e4, e5, e6, e7⟩ := run_append_grows (P := P) ty hu hsz ⟨d, hd, hdn⟩ hi hb0 hb hlen hgt hlim.1 hzs hld hys hz' hosz hysz
        have hR1 := hR.same_heap e2
        have hcl : (old ++ new).length = (len + n) * size := by rw [List.length_append, hol, hnl, Nat.add_mul]
        have hc : All2 (CR μ) (old ++ new) (c.toList.take (old ++ new).length) := by rw [hcl, e7]; exact hao.append hall
        have hle : (old ++ new).length ≤ c.size := by rw [hcl, e6]; exact Nat.mul_le_mul_right _ e5
        have hq := hR1.next s.n (Nat.le_refl _)
        refine ⟨_, _, _, e1, Ext.add (hR1.unmapped hq _) (.inl (by rw [e2]; exact Nat.le_refl _)), hR1.new_arr hq (Nat.lt_succ_self _) (Nat.le_succ _) hc hle, VR.ofC ?_, Kept.grown e2 e3 e4⟩
        simp only [newArr, CR, SR, true_and, Bool.false_eq_true, if_false]
        right
        exact ⟨_, size, Mu.add_same _ _ _ _, rfl, Nat.le_refl _, e5, by omega, hs0, by rw [Nat.zero_add, hcl], by rw [Nat.zero_add, e6]⟩
      cases base with
      | none =>
        cases h
        obtain ⟨hve, rfl, rfl⟩ := hv.slice_nil
        have := fresh (old := []) (os := #[]) hve (by omega) (by simp) trivial (fun w' _ => by simp [Builtin.firstCells])
        simpa using this
      | some l =>
        obtain ⟨ad, c', hve, hr⟩ := hv.slice
        simp only [cond_eq_ite] at h
        split at h
        · rename_i hex
          split at h
          · rename_i old hold
            cases h
            have h2 := hr.2
            rw [if_pos hex] at h2
            obtain ⟨h3, rfl, _⟩ := h2
            obtain ⟨os, k1, k2, _⟩ := readCells_sound' (P := P) hold hR h3
            exact fresh hve hfit' (readCells_length hold) k2 (fun w' hw => by simpa [Builtin.firstCells] using k1 w' hw)
          · cases h
        · rename_i hex
          split at h
          · rename_i cs lo hget
            split at h
            · rename_i hc
              simp only [Bool.and_eq_true, Nat.ble_eq, Nat.beq_eq, Nat.blt_eq] at hc
              obtain ⟨⟨⟨⟨⟨⟨h1, h2⟩, h3⟩, h4⟩, h5⟩, h6⟩, h7⟩ := hc
              cases h
              have hex' : ex = false := by simpa using hex
              subst hex'
              have h8 := hr.2
              simp only [Bool.false_eq_true, if_false] at h8
              rcases h8 with ⟨h9, _⟩ | ⟨g, sz, hg, ha, k1, k2, k3, k4, k5, k6⟩
              · omega
              · have hsz' : sz = size := by
                  have : cap * sz = cap * size := by rw [← h1]; rw [← h1] at k5; omega
                  exact Nat.eq_of_mul_eq_mul_left k3 this
                subst hsz'
                have hn0 : 0 < n := by omega
                have hnew0 : 0 < new.length := by rw [hnl]; exact Nat.mul_pos hn0 hs0
                rw [h3] at hg
                rw [h4] at ha k5 k6
                subst ha
                have hvl : l.v + new.length = (len + n) * sz := by rw [hnl, Nat.add_mul]; omega
                by_cases hroom : len + n ≤ c'
                · have hfin : cs.length + new.length ≤ g.fin := by
                    have : (len + n) * sz ≤ c' * sz := Nat.mul_le_mul_right _ hroom
                    omega
                  obtain ⟨e1, e2⟩ := R.grow_here (P := P) hR hget (by omega) hnew0 hg hfin hall
                  refine ⟨_, _, _, here hve hroom (w' := setCells w g.b (g.off + cs.length) ys.toList) ?_, Ext.add ?_ (.inr ⟨cs.length, g, hg, rfl⟩), e2, VR.ofC ?_, ?_⟩
                  · simp only [addr_add]
                    rw [show g.off + 0 + len * sz = g.off + cs.length from by omega]; exact e1
                  · cases hm : μ l.o (cs.length + new.length) with
                    | none => rfl
                    | some g' => have := hR.ext _ _ _ _ _ _ hget hm; omega
                  · simp only [CR, SR, true_and, Bool.false_eq_true, if_false]
                    right
                    refine ⟨g, sz, by rw [h3]; exact Mu.add_same _ _ _ _, rfl, Nat.le_refl _, hroom, by omega, hs0, by omega, by omega⟩
                  · refine ⟨by rw [setCells_size]; exact Nat.le_refl _, fun B _ hn => ?_, (setCells_os _ _ _ _).1, (setCells_os _ _ _ _).2⟩
                    by_cases hB : B = g.b
                    · have := hn _ _ _ hg hB.symm
                      rw [h7] at this; cases this
                    · exact setCells_heap _ _ _ _ _ hB
                · have hrd : readCells s l (len * sz) = some cs := by
                    unfold readCells
                    rw [hget]
                    simp only
                    have hcc : (Nat.ble lo l.v && Nat.ble (l.i + len * sz) l.v && Nat.ble l.v cs.length) = true := by
                      simp only [Bool.and_eq_true, Nat.ble_eq]; omega
                    rw [hcc, h4]
                    simp only [cond_true, List.drop_zero]
                    rw [List.take_of_length_le (by omega)]
                  obtain ⟨os, k7, k8, _⟩ := readCells_sound' (P := P) (a := ⟨g.b, g.off, none⟩) hrd hR ⟨g, by rw [h3]; exact hg, by rw [h4]; rfl⟩
                  subst hve
                  have hosz : os.size = len * sz := by have := k8.length; simp at this; omega
                  obtain ⟨c, cap', w1, e1, e2, e3, e4, e5, e6, e7⟩ := run_append_grows (P := P) (base := some ⟨g.b, g.off, none⟩) ty hu hsz ⟨d, hd, hdn⟩ hi hb0 hb hlen hroom hlim.1 hzs (fun w' hw => by simpa [Builtin.firstCells] using k7 w' hw) hys hz' hosz hysz
                  have hR1 := hR.same_heap e2
                  have hcl : cs.length + new.length = (len + n) * sz := by omega
                  have hcc : All2 (CR μ) (cs ++ new) (c.toList.take (cs.length + new.length)) := by rw [hcl, e7]; exact k8.append hall
                  have hle : cs.length + new.length ≤ c.size := by rw [hcl, e6]; exact Nat.mul_le_mul_right _ e5
                  refine ⟨_, _, _, e1, Ext.add ?_ (.inl (by rw [e2]; exact Nat.le_refl _)), R.grow_there hR1 hget (by omega) hnew0 hcc hle, VR.ofC ?_, Kept.grown e2 e3 e4⟩
                  · cases hm : μ l.o (cs.length + new.length) with
                    | none => rfl
                    | some g' => have := hR.ext _ _ _ _ _ _ hget hm; omega
                  · simp only [CR, SR, true_and, Bool.false_eq_true, if_false]
                    right
                    refine ⟨⟨w1.heap.size, c.size, 0⟩, sz, by rw [h3]; exact Mu.add_same _ _ _ _, rfl, Nat.le_refl _, e5, by omega, hs0, by omega, by rw [Nat.zero_add, e6]⟩
            · cases h
          · cases h
    · cases h

end Go.Ab
