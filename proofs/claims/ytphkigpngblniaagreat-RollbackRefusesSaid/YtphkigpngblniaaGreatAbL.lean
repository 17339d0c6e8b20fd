/- Maps by their entries; operations that look into memory. -/
import Derived.Test.YtphkigpngblniaaGreatAbZ
namespace Go.Ab
set_option linter.unusedSectionVars false
variable [Rho] {P : Program} {μ : Mu}

abbrev enc (p : Int × AV) : AV × AV := (.int .i64 p.1, p.2)

def lk (n : Int) : List (Int × AV) → Option AV
  | [] => none
  | p :: ps => if n = p.1 then some p.2 else lk n ps

theorem findA_enc (n : Int) : ∀ xs : List (Int × AV), findA n (xs.map enc) = some (lk n xs)
  | [] => rfl
  | p :: ps => by
    simp only [List.map_cons, findA, lk, cond_eq_ite, intEq_eq, beq_iff_eq]
    split
    · rfl
    · exact findA_enc n ps

theorem lk_mem {n : Int} {x : AV} : ∀ {xs : List (Int × AV)}, (xs.map (·.1)).Nodup → (lk n xs = some x ↔ (n, x) ∈ xs)
  | [], _ => by simp [lk]
  | p :: ps, h => by
    simp only [List.map_cons, List.nodup_cons] at h
    simp only [lk]
    split
    · rename_i e
      subst e
      constructor
      · intro h1; cases h1; simp
      · intro h1
        rcases List.mem_cons.1 h1 with h2 | h2
        · rw [← h2]
        · exact absurd (List.mem_map_of_mem (f := (·.1)) h2) h.1
    · rename_i e
      rw [lk_mem h.2]
      constructor
      · intro h1; exact List.mem_cons_of_mem _ h1
      · intro h1
        rcases List.mem_cons.1 h1 with h2 | h2
        · rw [← h2] at e; exact absurd rfl e
        · exact h2

theorem lk_none {n : Int} : ∀ {xs : List (Int × AV)}, lk n xs = none ↔ n ∉ xs.map (·.1)
  | [] => by simp [lk]
  | p :: ps => by
    simp only [lk, List.map_cons, List.mem_cons, not_or]
    split
    · rename_i e; simp [e]
    · rename_i e; rw [lk_none]; simp [e]

theorem lk_perm {n : Int} {xs ys : List (Int × AV)} (h : (xs.map (·.1)).Nodup) (hp : ys.Perm xs) : lk n ys = lk n xs := by
  have hy : (ys.map (·.1)).Nodup := (hp.map (·.1)).nodup_iff.2 h
  cases hx : lk n xs with
  | some x => rw [lk_mem hy, hp.mem_iff, ← lk_mem h]; exact hx
  | none => rw [lk_none] at hx ⊢; intro hc; exact hx ((hp.map (·.1)).mem_iff.1 hc)

theorem findNow_sound {n : Int} {K : IntKind} : ∀ {ys : List (Int × AV)} {ms : List MapEntry}, All2 (fun p (m : MapEntry) => m.key = .int .i64 p.1 ∧ VR0 μ p.2 m.val) ys ms → ∀ i0,
    (lk n ys = none ∧ Instr.findNow (.int K) (.int .i64 n) ms i0 = some none) ∨
    (∃ j x m, lk n ys = some x ∧ ys[j]? = some (n, x) ∧ ms[j]? = some m ∧ m.key = .int .i64 n ∧ VR0 μ x m.val ∧ Instr.findNow (.int K) (.int .i64 n) ms i0 = some (some (i0 + j, m.val)))
  | [], [], _, i0 => .inl ⟨rfl, rfl⟩
  | p :: ps, m :: ms, ⟨⟨h1, h2⟩, h3⟩, i0 => by
    simp only [lk, Instr.findNow, h1, Instr.sameNow, if_true]
    by_cases e : n = p.1
    · subst e
      right
      refine ⟨0, p.2, m, by simp, by simp, by simp, h1, h2, by simp⟩
    · rw [if_neg e]
      have hne : (n == p.1) = false := by simpa using e
      simp only [hne]
      rcases findNow_sound (n := n) (K := K) h3 (i0 + 1) with ⟨k1, k2⟩ | ⟨j, x, m', k1, k2, k3, k4, k5, k6⟩
      · exact .inl ⟨k1, k2⟩
      · exact .inr ⟨j + 1, x, m', k1, by simpa using k2, by simpa using k3, k4, k5, by rw [k6]; congr 3; omega⟩
  | [], _ :: _, h, _ => h.elim
  | _ :: _, [], h, _ => h.elim

theorem run_checkKey {e : Bool} {t : TypeId} {K : IntKind} (hu : P.underlying t = some (.int K)) (v : Value) (w : World) (hv : ∃ n, v = .int .i64 n) :
    (Instr.checkKey e 10000 t v).run P w = .ok () w := by
  obtain ⟨n, rfl⟩ := hv
  have key : ∀ N, (Instr.checkKey e (N + 1) t (.int .i64 n)).run P w = .ok () w := by
    intro N
    simp only [Instr.checkKey, Sem.run_bind, run_und hu, Result.andThen_ok, Sem.run_pure]
  exact key 9999

theorem VR.pair {x : AV} {v : Value} (h : VR0 μ x v) (b : Bool) : VR μ (.tup [x, .bool b]) (.tuple #[v, .bool b]) := by
  simp only [VR, All2, and_true]
  exact ⟨h, by simp [VR0, CR]⟩

theorem run_getObj {w : World} {r : Nat} {o : Obj} (h : w.heap[r]? = some o) (ho : ∀ c e f, o ≠ .cells c e f) : (getObj r).run P w = .ok o w := by
  cases o <;> first | exact absurd rfl (ho _ _ _) | simp only [getObj, Sem.run, h]

theorem run_findKey {t : TypeId} {K : IntKind} (hu : P.underlying t = some (.int K)) {n : Int} {ys : List (Int × AV)} {ms : List MapEntry}
    (h : All2 (fun p (m : MapEntry) => m.key = .int .i64 p.1 ∧ VR0 μ p.2 m.val) ys ms) (w : World) :
    (lk n ys = none ∧ (Instr.findKey t (.int .i64 n) ms).run P w = .ok none w) ∨
    (∃ j x m, lk n ys = some x ∧ ys[j]? = some (n, x) ∧ ms[j]? = some m ∧ m.key = .int .i64 n ∧ VR0 μ x m.val ∧ (Instr.findKey t (.int .i64 n) ms).run P w = .ok (some (j, m.val)) w) := by
  rcases findNow_sound (n := n) (K := K) h 0 with ⟨k1, k2⟩ | ⟨j, x, m', k1, k2, k3, k4, k5, k6⟩
  · exact .inl ⟨k1, by simp [Instr.findKey, run_und hu, k2]⟩
  · exact .inr ⟨j, x, m', k1, k2, k3, k4, k5, by simp [Instr.findKey, run_und hu, k6]⟩

theorem entriesA_sound {s : St} {w : World} (hR : R μ s w) {m : Option Nat} {es : List (AV × AV)} (h : entriesA s m = some es) {v : Value} (hv : VR μ (.map m) v) :
    (m = none ∧ v = .map none ∧ es = []) ∨ (∃ o g ents clock, m = some o ∧ v = .map (some g.b) ∧ μ o 0 = some g ∧ w.heap[g.b]? = some (.map ents clock) ∧ MapR μ es ents clock) := by
  obtain ⟨r, rfl, h1, h2⟩ := hv.map
  cases m with
  | none => simp only [entriesA] at h; cases h; rw [h1 rfl]; exact .inl ⟨rfl, rfl, rfl⟩
  | some o =>
    obtain ⟨g, h3, h4⟩ := h2 o rfl
    simp only [entriesA] at h
    split at h
    · rename_i es' hg
      cases h
      obtain ⟨_, ents, clock, h5, h6⟩ := hR.map _ _ _ _ hg h3
      exact .inr ⟨o, g, ents, clock, rfl, by rw [h4], h3, h5, h6⟩
    · cases h

theorem MapR.length {es : List (AV × AV)} {ents : Array MapEntry} {clock : Nat} (h : MapR μ es ents clock) : es.length = ents.size := by
  obtain ⟨xs, ys, h1, _, h3, h4, _⟩ := h
  have := h4.length
  rw [h1, List.length_map, ← h3.length_eq, this]; simp

theorem bytesA_sound {f : Value → ByteArray → Sem (ForInStep ByteArray)} (hf : ∀ n s, f (.int .u8 n) s = pure (ForInStep.yield (s.push (UInt8.ofNat n.toNat)))) :
    ∀ {cs : List AV} {bs : List UInt8} {vs : List Value}, bytesA cs = some bs → All2 (CR μ) cs vs → ∀ (s : ByteArray) (w : World),
    (forIn vs s f).run P w = .ok ⟨s.data ++ bs.toArray⟩ w
  | [], bs, [], h, _, s, w => by simp only [bytesA] at h; cases h; simp
  | c :: cs, bs, v :: vs, h, ⟨h1, h2⟩, s, w => by
    unfold bytesA at h
    split at h
    · rename_i e; cases e
    · rename_i n cs' e
      cases e
      split at h
      · rename_i bs' hb
        cases h
        have hv : v = .int .u8 n := (VR.ofC h1).int
        subst hv
        have := bytesA_sound hf hb h2 (s.push (UInt8.ofNat n.toNat)) w
        simp only [List.forIn_cons, Sem.run_bind, hf, Sem.run_pure, Result.andThen_ok]
        rw [this]
        congr 2
        simp [ByteArray.push]
      · cases h
    · cases h
  | [], _, _ :: _, _, h, _, _ => h.elim
  | _ :: _, _, [], _, h, _, _ => h.elim

theorem evL_sound {s : St} {t : Temps} {a : Act} {o : Oper} {q : Option Nat} {r : AV} {w : World} (h : evL P t s o.op = some (q, r)) (hR : R μ s w) (ht : TR μ t a.tmps) :
    ∃ y, (execOp a.eval o).run P w = .ok (.value y) w ∧ VR μ r y := by
  obtain ⟨dst, op, type, pos, after, guard⟩ := o
  unfold evL at h
  simp only at h
  split at h
  -- load
  · split at h
    · rename_i l hx
      obtain ⟨ad, e, hl⟩ := (evX_sound hx ht).ptr
      split at h
      · rename_i hag
        split at h
        · rename_i n hsz
          split at h
          · rename_i cs hcs
            cases h
            obtain ⟨ys, e1, e2, _⟩ := readCells_sound (P := P) hcs hR hl
            exact ⟨.agg ys, by simp [execOp, Instr.loadAt, e, Instr.sureAddr, loadVar, run_isAgg hag, run_size hsz, e1], VR.of0 (by simpa [VR0] using e2)⟩
          · cases h
        · cases h
      · rename_i hag
        split at h
        · rename_i c hcs
          cases h
          obtain ⟨y, e1, e2⟩ := readCells_one_cell (P := P) hcs hR hl
          refine ⟨y, ?_, VR.ofC e2⟩
          simp only [execOp, Instr.loadAt, e, Instr.sureAddr, loadVar, Sem.run_bind, run_isAgg hag, Sem.run_pure, Result.andThen_ok, Bool.false_eq_true, if_false, e1]
        · cases h
      · cases h
    · cases h
  -- lookup
  · rename_i ty xo ko ok
    split at h
    · rename_i kt e m n hu hx hk
      split at h
      · rename_i K es z hku hes hz
        have hxv := evX_sound hx ht
        have ek := (evX_sound hk ht).int
        obtain ⟨zv, e0, e1⟩ := run_zero hz w
        rcases entriesA_sound hR hes hxv with ⟨rfl, hv, rfl⟩ | ⟨ob, g, ents, clock, rfl, hv, hm, hheap, hMR⟩
        · simp only [findA] at h
          cases h
          have hck := run_checkKey (P := P) (e := true) hku (.int .i64 n) w ⟨n, rfl⟩
          have hfk : (Instr.findKey kt (.int .i64 n) []).run P w = .ok none w := by simp [Instr.findKey, run_und hku, Instr.findNow]
          cases ok with
          | true => exact ⟨.tuple #[zv, .bool false], by simp [execOp, Instr.lookup, run_und hu, hv, ek, hck, hfk, e0], VR.pair (e1 μ) false⟩
          | false => exact ⟨zv, by simp [execOp, Instr.lookup, run_und hu, hv, ek, hck, hfk, e0], VR.of0 (e1 μ)⟩
        · obtain ⟨xs, ys, rfl, hnd, hperm, hall, _⟩ := hMR
          rw [show (xs.map fun p => ((.int .i64 p.1 : AV), p.2)) = xs.map enc from rfl, findA_enc] at h
          have hck := run_checkKey (P := P) (e := ents.toList.isEmpty) hku (.int .i64 n) w ⟨n, rfl⟩
          have hck' := run_checkKey (P := P) (e := ents.isEmpty) hku (.int .i64 n) w ⟨n, rfl⟩
          have hgo := run_getObj (P := P) hheap (fun _ _ _ e => by cases e)
          rcases run_findKey (P := P) hku (n := n) hall w with ⟨k1, k2⟩ | ⟨j, x, me, k1, k2, k3, k4, k5, k6⟩
          · rw [lk_perm hnd hperm] at k1
            rw [k1] at h
            cases h
            cases ok with
            | true => exact ⟨.tuple #[zv, .bool false], by simp [execOp, Instr.lookup, run_und hu, hv, ek, hck', hgo, k2, e0], VR.pair (e1 μ) false⟩
            | false => exact ⟨zv, by simp [execOp, Instr.lookup, run_und hu, hv, ek, hck', hgo, k2, e0], VR.of0 (e1 μ)⟩
          · rw [lk_perm hnd hperm] at k1
            rw [k1] at h
            cases h
            cases ok with
            | true => exact ⟨.tuple #[me.val, .bool true], by simp [execOp, Instr.lookup, run_und hu, hv, ek, hck', hgo, k6], VR.pair k5 true⟩
            | false => exact ⟨me.val, by simp [execOp, Instr.lookup, run_und hu, hv, ek, hck', hgo, k6], VR.of0 k5⟩
      · cases h
    · cases h
  -- convert
  · split at h
    · rename_i e q' len c x hs hd hx
      split at h
      · rename_i he
        split at h
        · cases h
          obtain ⟨e1, _, _⟩ := (evX_sound hx ht).slice_nil
          exact ⟨.string .empty, by simp [execOp, convert, run_und hs, run_und hd, e1, run_und he, Conv.bytesToString], VR.ofC (by simp [CR])⟩
        · rename_i l
          split at h
          · rename_i cs hcs
            split at h
            · rename_i bs hbs
              cases h
              obtain ⟨ad, c', e1, hr⟩ := (evX_sound hx ht).slice
              have hlr : LR μ l ad ∨ len = 0 := by
                have := hr.2
                split at this
                · exact .inl this.1
                · rcases this with ⟨_, h0⟩ | ⟨g, sz, hg, ha, _⟩
                  · exact .inr h0
                  · exact .inl ⟨g, hg, ha⟩
              rcases hlr with hlr | h0
              · obtain ⟨ys, e2, e3, _⟩ := readCells_sound (P := P) hcs hR hlr
                refine ⟨.string ⟨bs.toArray⟩, ?_, VR.ofC (by simp [CR])⟩
                simp only [execOp, convert, run_und hs, run_und hd, e1, run_und he, Conv.bytesToString, Sem.run_bind, Result.andThen_ok, e2]
                rw [← Array.forIn_toList]
                rw [bytesA_sound (P := P) (fun _ _ => rfl) hbs e3 .empty w]
                simp
              · subst h0
                have : cs = [] := by have := readCells_length hcs; simpa using this
                subst this
                simp only [bytesA] at hbs
                cases hbs
                refine ⟨.string ⟨#[]⟩, ?_, VR.ofC (by simp [CR])⟩
                simp [execOp, convert, run_und hs, run_und hd, e1, run_und he, Conv.bytesToString, loadCells, loadCellsFrom]
                rfl
            · cases h
          · cases h
      · cases h
    · cases h
  -- len
  · rename_i c
    split at h
    · rename_i hcal
      rw [cond_eq_ite] at h
      split at h
      · rename_i hsz
        have h0 : 0 < c.argTypes.size := by simpa using hsz
        have ht0 : c.argTypes[0]? = some c.argTypes[0] := by simp [h0]
        rw [show c.argTypes.getD 0 0 = c.argTypes[0] from by simp [Array.getD, h0]] at h
        have one : ∀ {v : AV}, evXs t c.args.toList = some [v] → ∃ x, c.args = #[x] ∧ VR μ v (a.eval x) := by
          intro v hv
          have h1 := evXs_sound ht hv
          obtain ⟨x, hx⟩ : ∃ x, c.args.toList = [x] := by
            have := h1.length
            simp at this
            match hh : c.args.toList with
            | [x] => exact ⟨x, rfl⟩
            | [] => simp at hh; simp [hh] at this
            | _ :: _ :: _ => have h2 := congrArg List.length hh; simp at h2; omega
          refine ⟨x, by rw [← Array.toArray_toList (xs := c.args), hx], ?_⟩
          rw [hx] at h1
          exact h1.1
        split at h
        · rename_i e q' n c' ex hu hargs
          cases h
          obtain ⟨x, hx, hv⟩ := one hargs
          have hval : ∃ base cc, a.eval x = .slice base n cc := by
            cases q' with
            | none => obtain ⟨k1, k2, _⟩ := hv.slice_nil; exact ⟨none, 0, by rw [k1, k2]⟩
            | some l => obtain ⟨ad, cc, k1, _⟩ := hv.slice; exact ⟨some ad, cc, k1⟩
          obtain ⟨base, cc, hval⟩ := hval
          exact ⟨.int .i64 n, by simp [execOp, resolve, hcal, hx, invoke, builtin, Builtin.len_, ht0, run_und hu, hval, goInt], VR.ofC (by simp [CR])⟩
        · rename_i b hu hargs
          cases h
          obtain ⟨x, hx, hv⟩ := one hargs
          exact ⟨.int .i64 b.size, by simp [execOp, resolve, hcal, hx, invoke, builtin, Builtin.len_, ht0, run_und hu, hv.str, goInt], VR.ofC (by simp [CR])⟩
        · rename_i k e m hu hargs
          obtain ⟨x, hx, hv⟩ := one hargs
          split at h
          · rename_i es hes
            cases h
            rcases entriesA_sound hR hes hv with ⟨rfl, hv', rfl⟩ | ⟨ob, g, ents, clock, rfl, hv', hm, hheap, hMR⟩
            · exact ⟨.int .i64 0, by simp [execOp, resolve, hcal, hx, invoke, builtin, Builtin.len_, ht0, run_und hu, hv', goInt], VR.ofC (by simp [CR])⟩
            · have hgo := run_getObj (P := P) hheap (fun _ _ _ e => by cases e)
              exact ⟨.int .i64 ents.size, by simp [execOp, resolve, hcal, hx, invoke, builtin, Builtin.len_, ht0, run_und hu, hv', goInt, hgo], VR.ofC (by simp [CR, hMR.length])⟩
          · cases h
        · cases h
      · cases h
    · cases h
  · cases h

end Go.Ab
