/- Drawn regions: one canonical order stands for all of them. -/
import Derived.Test.YtphkigpngblniaaGreatAbO
namespace Go.Ab
set_option linter.unusedSectionVars false
variable [Rho] {P : Program}

/-! ### what waits for what -/

inductive Reach (ops : Array Oper) : Nat → Nat → Prop
  | edge {i j : Nat} {o : Oper} {e : Edge} (ho : ops[j]? = some o) (he : e ∈ o.after) (hb : Region.binds .any e = true) (hi : i = e.on) : Reach ops i j
  | step {i j : Nat} {o : Oper} {e : Edge} (ho : ops[j]? = some o) (he : e ∈ o.after) (hb : Region.binds .any e = true) (hi : Reach ops i e.on) : Reach ops i j

theorem bits_fold (acc : Array Nat) (i : Nat) : ∀ (es : List Edge) (n : Nat), (es.foldl (fun s e => if Region.binds .any e then s ||| 2 ^ e.on ||| acc.getD e.on 0 else s) n).testBit i = true →
    n.testBit i = true ∨ ∃ e ∈ es, Region.binds .any e = true ∧ (i = e.on ∨ (acc.getD e.on 0).testBit i = true)
  | [], n, h => .inl h
  | e :: es, n, h => by
    rw [List.foldl_cons] at h
    rcases bits_fold acc i es _ h with h1 | ⟨e', he', hb, hx⟩
    · split at h1
      · rename_i hb
        rw [Nat.testBit_or, Nat.testBit_or, Bool.or_eq_true, Bool.or_eq_true, Nat.testBit_two_pow] at h1
        rcases h1 with (h1 | h1) | h1
        · exact .inl h1
        · exact .inr ⟨e, by simp, hb, .inl (of_decide_eq_true h1).symm⟩
        · exact .inr ⟨e, by simp, hb, .inr h1⟩
      · exact .inl h1
    · exact .inr ⟨e', by simp [he'], hb, hx⟩

theorem before_reach {ops : Array Oper} {i j : Nat} (h : ((Region.before ops).getD j 0).testBit i = true) : Reach ops i j := by
  have key : (Region.before ops).size = ops.size ∧ ∀ j, j < ops.size → ((Region.before ops).getD j 0).testBit i = true → Reach ops i j := by
    unfold Region.before
    refine Array.foldl_induction (motive := fun k (acc : Array Nat) => acc.size = k ∧ ∀ j, j < k → (acc.getD j 0).testBit i = true → Reach ops i j) ⟨rfl, fun j hj => absurd hj (Nat.not_lt_zero _)⟩ ?_
    intro k acc ⟨hs, ih⟩
    refine ⟨by simp [hs], fun j hj hb => ?_⟩
    by_cases e : j = k.val
    · have hko : ops[j]? = some ops[k.val] := by simp [e]
      have : (acc.push ((ops[k.val].after).foldl (fun s e => if Region.binds .any e then s ||| 2 ^ e.on ||| acc.getD e.on 0 else s) 0)).getD j 0 = (ops[k.val].after).foldl (fun s e => if Region.binds .any e then s ||| 2 ^ e.on ||| acc.getD e.on 0 else s) 0 := by
        rw [Array.getD_eq_getD_getElem?, Array.getElem?_push]
        simp [e, hs]
      have hb : ((ops[k.val].after).foldl (fun s e => if Region.binds .any e then s ||| 2 ^ e.on ||| acc.getD e.on 0 else s) 0).testBit i = true := by
        rw [← this]; exact hb
      rw [← Array.foldl_toList] at hb
      rcases bits_fold acc i _ _ hb with h0 | ⟨e', he', hbd, hx⟩
      · simp at h0
      · have he' : e' ∈ ops[k.val].after := by simpa using he'
        rcases hx with hx | hx
        · exact .edge hko he' hbd hx
        · by_cases hlt : e'.on < k.val
          · exact .step hko he' hbd (ih _ hlt hx)
          · have : acc.getD e'.on 0 = 0 := by
              rw [Array.getD_eq_getD_getElem?, Array.getElem?_eq_none (by omega)]; rfl
            rw [this] at hx; simp at hx
    · have hlt : j < k.val := by omega
      have : (acc.push ((ops[k.val].after).foldl (fun s e => if Region.binds .any e then s ||| 2 ^ e.on ||| acc.getD e.on 0 else s) 0)).getD j 0 = acc.getD j 0 := by
        rw [Array.getD_eq_getD_getElem?, Array.getD_eq_getD_getElem?, Array.getElem?_push]
        rw [if_neg (by omega)]
      exact ih j hlt (by rw [← this]; exact hb)
  by_cases hj : j < ops.size
  · exact key.2 j hj h
  · have : (Region.before ops).getD j 0 = 0 := by
      rw [Array.getD_eq_getD_getElem?, Array.getElem?_eq_none (by omega)]; rfl
    rw [this] at h; simp at h

/-- All that it waits for is among those that are done. -/
def Closed (ops : Array Oper) (done : List Nat) : Prop := ∀ i ∈ done, ∀ o, ops[i]? = some o → waitsIn done o = true

theorem waitsIn_spec {done : List Nat} {o : Oper} : waitsIn done o = true ↔ ∀ e ∈ o.after, Region.binds .any e = true → e.on ∈ done := by
  unfold waitsIn
  rw [List.all_eq_true]
  constructor
  · intro h e he hb
    have := h e (by simpa using he)
    rw [hb] at this
    simpa using this
  · intro h e he
    cases hb : Region.binds .any e with
    | false => rfl
    | true => simpa using h e (by simpa using he) hb

theorem waitsIn_mono {d d' : List Nat} (h : ∀ i ∈ d, i ∈ d') {o : Oper} (hw : waitsIn d o = true) : waitsIn d' o = true :=
  waitsIn_spec.2 fun e he hb => h _ (waitsIn_spec.1 hw e he hb)

theorem Reach.done {ops : Array Oper} {done : List Nat} (hc : Closed ops done) {i j : Nat} (h : Reach ops i j) : (∀ o, ops[j]? = some o → waitsIn done o = true) → i ∈ done := by
  induction h with
  | edge ho he hb hi => intro hw; rw [hi]; exact waitsIn_spec.1 (hw _ ho) _ he hb
  | step ho he hb _ ih => intro hw; exact ih fun o' ho' => hc _ (waitsIn_spec.1 (hw _ ho) _ he hb) o' ho'

def Wait (ops : Array Oper) : List Nat → List Nat → Prop
  | _, [] => True
  | done, j :: rest => (∃ o, ops[j]? = some o ∧ waitsIn done o = true) ∧ j ∉ done ∧ Wait ops (j :: done) rest

theorem Wait.same {ops : Array Oper} : ∀ {l d d' : List Nat}, (∀ i, i ∈ d ↔ i ∈ d') → Wait ops d l → Wait ops d' l
  | [], _, _, _, _ => trivial
  | j :: l, d, d', h, ⟨⟨o, h1, h2⟩, h3, h4⟩ => ⟨⟨o, h1, waitsIn_mono (fun i hi => (h i).1 hi) h2⟩, fun hj => h3 ((h j).2 hj), Wait.same (fun i => by simp [h i]) h4⟩

theorem Wait.nodup {ops : Array Oper} : ∀ {l d : List Nat}, Wait ops d l → ∀ j ∈ l, j ∉ d
  | j :: l, d, ⟨_, h3, h4⟩, i, hi => by
    rcases List.mem_cons.1 hi with rfl | hi
    · exact h3
    · intro hd; exact Wait.nodup h4 i hi (by simp [hd])

theorem Wait.valid {ops : Array Oper} : ∀ {l d : List Nat}, Wait ops d l → ∀ j ∈ l, ∃ o, ops[j]? = some o
  | j :: l, d, ⟨⟨o, h, _⟩, h3, h4⟩, i, hi => by
    rcases List.mem_cons.1 hi with rfl | hi
    · exact ⟨o, h⟩
    · exact Wait.valid h4 i hi

/-- One that is ready may come first. -/
theorem Wait.first {ops : Array Oper} : ∀ {pre d post : List Nat} {j : Nat}, Wait ops d (pre ++ j :: post) → (∀ o, ops[j]? = some o → waitsIn d o = true) → Wait ops (j :: d) (pre ++ post)
  | [], d, post, j, ⟨_, _, h⟩, _ => h
  | i :: pre, d, post, j, ⟨⟨o, h1, h2⟩, h3, h4⟩, hw => by
    have hne : i ≠ j := fun e => by
      subst e
      exact Wait.nodup h4 i (by simp) (by simp)
    have := Wait.first (j := j) h4 fun o' ho' => waitsIn_mono (fun x hx => by simp [hx]) (hw o' ho')
    exact ⟨⟨o, h1, waitsIn_mono (fun x hx => by simp [hx]) h2⟩, by simp [hne, h3], this.same fun x => by simp; exact or_left_comm⟩

/-! ### the canonical run as a chain -/

variable {call : Bar → FuncId → List AV → St → Option (AV × St)} {b : Bar} {ops : Array Oper} {base : Nat}

def Chain (P : Program) (call : Bar → FuncId → List AV → St → Option (AV × St)) (b : Bar) (ops : Array Oper) (base : Nat) : List It → Temps → St → Temps → St → Prop
  | [], t, s, t', s' => t = t' ∧ s = s'
  | x :: xs, t, s, t', s' => ∃ o v s1, ops[x.j]? = some o ∧ (∀ q, x.q = some q → q < s.n) ∧ coreA P call b ops base x o t s = some (v, x.q, s1) ∧ Chain P call b ops base xs (putT t o.dst v) s1 t' s'

def Ok (P : Program) (ops : Array Oper) (base : Nat) (x y : It) : Prop :=
  Reach ops x.j y.j ∨ ∀ ox oy, ops[x.j]? = some ox → ops[y.j]? = some oy → Free P ops base x y ox oy

theorem coreA_n (hc : CallL call) {x : It} {o : Oper} {t : Temps} {s s1 : St} {v : AV} {q : Option Nat} (h : coreA P call b ops base x o t s = some (v, q, s1)) : s.n ≤ s1.n := by
  rcases coreA_cls hc h with ⟨e, _, _⟩ | ⟨_, e, _, _⟩ | ⟨_, _, ob, e, _, _⟩ | ⟨_, _, e, _⟩
  · rw [e]; exact Nat.le_refl _
  · rw [e]; exact Nat.le_refl _
  · rw [e]; exact Nat.le_refl _
  · exact e.n

theorem lt_of_some {ops : Array Oper} {j : Nat} {o : Oper} (h : ops[j]? = some o) : j < ops.size := by
  obtain ⟨h, _⟩ := Array.getElem?_eq_some_iff.1 h; exact h

theorem bubble (hc : CallL call) : ∀ {pre post : List It} {y : It} {t t' : Temps} {s s' : St}, Chain P call b ops base (pre ++ y :: post) t s t' s' → base + ops.size ≤ s.n →
    (∀ x ∈ pre, ∀ ox oy, ops[x.j]? = some ox → ops[y.j]? = some oy → Free P ops base x y ox oy) → Chain P call b ops base (y :: (pre ++ post)) t s t' s'
  | [], post, y, t, t', s, s', h, _, _ => h
  | x :: pre, post, y, t, t', s, s', ⟨ox, vx, s1, hx, hq, h1, h2⟩, hb, hf => by
    have hn := coreA_n hc h1
    obtain ⟨oy, vy, s2, hy, hyq, h3, h4⟩ := bubble hc h2 (Nat.le_trans hb hn) (fun z hz => hf z (by simp [hz]))
    have hF := hf x (by simp) ox oy hx hy
    have hlt := lt_of_some hy
    obtain ⟨s1', k1, k2⟩ := swapA hc hF (by omega) hq h1 h3
    obtain ⟨a1, a2, a3⟩ := Oper.apart_spec hF.apart
    refine ⟨oy, vy, s1', hy, swapA_q hc hF h1 h3 hyq, k1, ox, vx, s2, hx, fun q hqq => Nat.lt_of_lt_of_le (hq q hqq) (coreA_n hc k1), k2, ?_⟩
    rw [putT_comm _ _ _ fun x hx => ?_]
    · exact h4
    · exact fun e => a2 x e hx |>.elim

/-- What the greedy order's check gives. -/
theorem planGo_wait {bf : Nat → Nat} {kt : Nat → Kd} : ∀ {rest done : List Nat} {pl : List (Nat × List Nat)}, planGo ops bf kt done rest = some pl → Wait ops done rest ∧ pl.map (·.1) = rest
  | [], done, pl, h => by simp only [planGo] at h; cases h; exact ⟨trivial, rfl⟩
  | j :: rest, done, pl, h => by
    simp only [planGo] at h
    split at h
    · cases h
    · rename_i oj hj
      rw [cond_eq_ite] at h
      split at h
      · rename_i hc
        simp only [Bool.and_eq_true, Bool.not_eq_true', List.any_eq_false, Nat.beq_eq] at hc
        split at h
        · rename_i pl' hpl
          cases h
          obtain ⟨k1, k2⟩ := planGo_wait hpl
          refine ⟨⟨⟨oj, hj, hc.1.1⟩, fun hd => hc.1.2 j hd rfl, k1⟩, by simp [k2]⟩
        · cases h
      · cases h

theorem planGo_pair {bf : Nat → Nat} {kt : Nat → Kd} {j : Nat} {rest done us : List Nat} {pl : List (Nat × List Nat)} (h : planGo ops bf kt done (j :: rest) = some ((j, us) :: pl)) :
    planGo ops bf kt (j :: done) rest = some pl ∧ ∀ i ∈ done, (bf j).testBit i = true ∨
      (pairOk (kt i) (kt j) = true ∧ (∀ oi oj, ops[i]? = some oi → ops[j]? = some oj → oi.apart ops oj = true) ∧ (pairSel (kt i) (kt j) = true → i ∈ us)) := by
  simp only [planGo] at h
  split at h
  · cases h
  · rename_i oj hj
    rw [cond_eq_ite] at h
    split at h
    · rename_i hc
      split at h
      · rename_i pl' hpl
        cases h
        refine ⟨hpl, fun i hi => ?_⟩
        cases hb : (bf j).testBit i with
        | true => exact .inl rfl
        | false =>
          right
          have hin : i ∈ done.filter fun i => !(bf j).testBit i := List.mem_filter.2 ⟨hi, by simp [hb]⟩
          simp only [Bool.and_eq_true, List.all_eq_true] at hc
          obtain ⟨k1, k2⟩ := hc.2 i hin
          refine ⟨k1, fun oi oj' hoi hoj => ?_, fun hs => List.mem_filter.2 ⟨hin, hs⟩⟩
          rw [hj] at hoj; cases hoj
          rw [hoi] at k2; exact k2
      · cases h
    · cases h

theorem lookN_mem {ld : List (Nat × Nat)} {i q : Nat} (h : (i, q) ∈ ld) : q ∈ lookN ld i := by
  induction ld with
  | nil => cases h
  | cons e ld ih =>
    obtain ⟨j, r⟩ := e
    simp only [lookN, cond_eq_ite]
    rcases List.mem_cons.1 h with h | h
    · cases h; simp
    · split
      · exact List.mem_cons_of_mem _ (ih h)
      · exact ih h

theorem kindAt_eq {j : Nat} {o : Oper} (h : ops[j]? = some o) : kindAt P ops j = kd P o.op := by simp only [kindAt, h]

theorem chain_of_evDraw (hc : CallL call) : ∀ {rest done : List Nat} {pl : List (Nat × List Nat)} {ld : List (Nat × Nat)} {D : List It} {t t' : Temps} {s s' : St},
    planGo ops (fun i => (Region.before ops).getD i 0) (kindAt P ops) done rest = some pl → evDraw P call b ops base pl ld t s = some (t', s') → D.map (·.j) = done → (∀ x ∈ D, ∀ q, x.q = some q → (x.j, q) ∈ ld) →
    ∃ L : List It, L.map (·.j) = rest ∧ Chain P call b ops base L t s t' s' ∧ (∀ x ∈ D, ∀ y ∈ L, Ok P ops base x y) ∧ L.Pairwise (Ok P ops base)
  | [], done, pl, ld, D, t, t', s, s', hp, h, hD, hld => by
    simp only [planGo] at hp
    cases hp
    simp only [evDraw] at h
    cases h
    exact ⟨[], rfl, ⟨rfl, rfl⟩, by simp, .nil⟩
  | j :: rest, done, pl, ld, D, t, t', s, s', hp, h, hD, hld => by
    obtain ⟨pj, pls⟩ := planGo_wait hp
    cases pl with
    | nil => simp at pls
    | cons p pl =>
    obtain ⟨j', us⟩ := p
    simp only [List.map_cons, List.cons.injEq] at pls
    obtain ⟨rfl, _⟩ := pls
    obtain ⟨hpl, hpair⟩ := planGo_pair hp
    obtain ⟨⟨o, ho, _⟩, hnd, _⟩ := pj
    simp only [evDraw, ho] at h
    -- the rest, once this one is told
    have go : ∀ (x : It) (v : AV) (s1 : St) (ld' : List (Nat × Nat)), x.j = j' → evDraw P call b ops base pl ld' (putT t o.dst v) s1 = some (t', s') → coreA P call b ops base x o t s = some (v, x.q, s1) →
        (∀ q, x.q = some q → q < s.n) → (∀ q, x.q = some q → (j', q) ∈ ld') → (∀ e ∈ ld, e ∈ ld') →
        (∀ i ∈ us, kindAt P ops i = .A → kd P o.op = .L → x.q ≠ some (base + i)) → (kd P o.op = .E → x.no = us.flatMap (lookN ld) ∨ wantedA ops t o = false ∧ ∀ i ∈ us, ∀ q, (i, q) ∈ ld → q ∈ x.no) →
        ∃ L : List It, L.map (·.j) = j' :: rest ∧ Chain P call b ops base L t s t' s' ∧ (∀ x ∈ D, ∀ y ∈ L, Ok P ops base x y) ∧ L.Pairwise (Ok P ops base) := by
      intro x v s1 ld' hxj hrun hcore hxq hxl hsub hmade hseen
      obtain ⟨L, k1, k2, k3, k4⟩ := chain_of_evDraw (D := x :: D) hc hpl hrun (by simp [hD, hxj]) (by
        intro z hz q hq
        rcases List.mem_cons.1 hz with rfl | hz
        · rw [hxj]; exact hxl q hq
        · exact hsub _ (hld z hz q hq))
      refine ⟨x :: L, by simp [k1, hxj], ⟨o, v, s1, by rw [hxj]; exact ho, hxq, hcore, k2⟩, fun z hz y hy => ?_, List.pairwise_cons.2 ⟨fun y hy => k3 x (by simp) y hy, k4⟩⟩
      rcases List.mem_cons.1 hy with rfl | hy
      · have hzd : z.j ∈ done := by rw [← hD]; exact List.mem_map_of_mem hz
        rcases hpair z.j hzd with hb | ⟨h1, h2, h3⟩
        · left; rw [hxj]; exact before_reach hb
        · right
          intro oz oy hoz hoy
          rw [hxj] at hoy
          rw [ho] at hoy; cases hoy
          rw [kindAt_eq ho, kindAt_eq hoz] at h1 h3
          refine ⟨fun e => hnd (by rw [← hxj, ← e]; exact hzd), h2 oz o hoz ho, h1, fun ha hl => ?_, fun hl he q hq => ?_⟩
          · exact hmade z.j (h3 (by rw [ha, hl]; rfl)) (by rw [kindAt_eq hoz]; exact ha) hl
          · have hin := h3 (by rw [hl, he]; rfl)
            rcases hseen he with e | ⟨_, e⟩
            · rw [e]; exact List.mem_flatMap.2 ⟨z.j, hin, lookN_mem (hld z hz q hq)⟩
            · exact e _ hin q (hld z hz q hq)
      · exact k3 z (by simp [hz]) y hy
    rw [cond_eq_ite] at h
    split at h
    · rename_i hw
      split at h
      · rename_i hk
        split at h
        · rename_i v hv
          exact go ⟨j', none, []⟩ v s ld rfl h (by unfold coreA; rw [if_pos hw, hk]; simp only [hv]) (by simp) (by simp) (fun _ h => h) (by simp) (fun e => by rw [hk] at e; cases e)
        · cases h
      · rename_i hk
        split at h
        · rename_i q v hv
          rw [cond_eq_ite] at h
          split at h
          · cases h
          · rename_i hn
            simp only [Bool.or_eq_true, not_or, Bool.not_eq_true, List.any_eq_false, Nat.beq_eq] at hn
            have hlt : q < s.n := by
              rcases Nat.lt_or_ge q s.n with h1 | h1
              · exact h1
              · have := hn.1; rw [Nat.ble_eq_true_of_le h1] at this; cases this
            exact go ⟨j', some q, []⟩ v s _ rfl h (by unfold coreA; rw [if_pos hw, hk]; simp only [hv]) (by simp [hlt]) (by simp) (fun _ h => by simp [h])
              (fun i hi _ _ e => by cases e; exact hn.2 i hi rfl) (fun e => by rw [hk] at e; cases e)
        · rename_i v hv
          exact go ⟨j', none, []⟩ v s ld rfl h (by unfold coreA; rw [if_pos hw, hk]; simp only [hv]) (by simp) (by simp) (fun _ h => h) (by simp) (fun e => by rw [hk] at e; cases e)
        · cases h
      · rename_i hk
        split at h
        · rename_i ob mk hv
          split at h
          · rename_i hn
            exact go ⟨j', none, []⟩ _ _ ld rfl h (by unfold coreA; rw [if_pos hw, hk]; simp only [hv, hn]) (by simp) (by simp) (fun _ h => h) (by simp) (fun e => by rw [hk] at e; cases e)
          · cases h
        · cases h
      · rename_i hk
        split at h
        · rename_i v s1 hv
          exact go ⟨j', none, us.flatMap (lookN ld)⟩ v s1 ld rfl h (by unfold coreA; rw [if_pos hw, hk]; simp only [hv]) (by simp) (by simp) (fun _ h => h) (by simp) (fun _ => .inl rfl)
        · cases h
    · rename_i hw
      exact go ⟨j', none, us.flatMap (lookN ld)⟩ undefA s ld rfl h (by unfold coreA; rw [if_neg hw]) (by simp) (by simp) (fun _ h => h) (by simp) (fun _ => .inl rfl)

end Go.Ab
