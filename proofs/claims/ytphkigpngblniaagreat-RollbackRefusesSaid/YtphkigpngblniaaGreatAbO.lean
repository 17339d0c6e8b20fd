/- Two neighbours that are not ordered may change places. -/
import Derived.Test.YtphkigpngblniaaGreatAbM
namespace Go.Ab
set_option linter.unusedSectionVars false
variable [Rho] {P : Program}

/-- One operation of a drawn region: its number, the object that it looks into, what it may not write. -/
structure It where
  j : Nat
  q : Option Nat
  no : List Nat

/-- What one operation does, but for the temporary that gets its value. -/
def coreA (P : Program) (call : Bar → FuncId → List AV → St → Option (AV × St)) (b : Bar) (ops : Array Oper) (base : Nat) (x : It) (o : Oper) (t : Temps) (s : St) : Option (AV × Option Nat × St) :=
  if wantedA ops t o then
    match kd P o.op with
    | .P => match evP P t o.op with
      | some v => some (v, none, s)
      | none => none
    | .L => match evL P t s o.op with
      | some (q, v) => some (v, q, s)
      | none => none
    | .A => match evAl P t o.op with
      | some (ob, mk) => match s.h.get (base + x.j) with
        | none => some (mk (base + x.j), none, s.put (base + x.j) ob)
        | some _ => none
      | none => none
    | .E => match evE P call { lim := b.lim, no := x.no ++ b.no } t s o.op with
      | some (v, s') => some (v, none, s')
      | none => none
  else some (undefA, none, s)

variable {call : Bar → FuncId → List AV → St → Option (AV × St)} {b : Bar} {ops : Array Oper} {base : Nat}

theorem coreA_put {x : It} {o : Oper} {t : Temps} {s : St} {d : Option Tmp} {v : AV} (h : ∀ e, d = some e → e ∉ o.looksAt ops) :
    coreA P call b ops base x o (putT t d v) s = coreA P call b ops base x o t s := by
  have hx := operand_put (t := t) (v := v) h
  unfold coreA
  rw [wantedA_put h, evP_congr hx, evL_congr hx, evAl_congr hx, evE_congr hx]

/-- What kind of thing it did. -/
inductive Cls (P : Program) (call : Bar → FuncId → List AV → St → Option (AV × St)) (b : Bar) (ops : Array Oper) (base : Nat) (x : It) (o : Oper) (t : Temps) (s : St) (v : AV) (q : Option Nat) (s1 : St) : Prop where
  | quiet (e : s1 = s) (eq : q = none) (h : ∀ s', coreA P call b ops base x o t s' = some (v, none, s'))
  | look (k : kd P o.op = .L) (e : s1 = s) (h : ∀ s', (∀ k, q = some k → s'.h.get k = s.h.get k) → coreA P call b ops base x o t s' = some (v, q, s')) (there : ∀ k, q = some k → ∃ y, s.h.get k = some y)
  | alloc (k : kd P o.op = .A) (eq : q = none) (ob : AObj) (e : s1 = s.put (base + x.j) ob) (new : s.h.get (base + x.j) = none) (h : ∀ s', s'.h.get (base + x.j) = none → coreA P call b ops base x o t s' = some (v, none, s'.put (base + x.j) ob))
  | eff (k : kd P o.op = .E) (eq : q = none) (e : Eff { lim := b.lim, no := x.no ++ b.no } s s1) (h : ∀ k z, k < s.n → s.h.get k = none → coreA P call b ops base x o t (s.put k z) = some (v, none, s1.put k z))

theorem coreA_cls (hc : CallL call) {x : It} {o : Oper} {t : Temps} {s s1 : St} {v : AV} {q : Option Nat} (h : coreA P call b ops base x o t s = some (v, q, s1)) : Cls P call b ops base x o t s v q s1 := by
  unfold coreA at h
  split at h
  · rename_i hw
    split at h
    · rename_i hk
      split at h
      · rename_i u hu
        cases h
        exact .quiet rfl rfl fun s' => by unfold coreA; rw [if_pos hw, hk]; simp only [hu]
      · cases h
    · rename_i hk
      split at h
      · rename_i q' u hu
        cases h
        refine .look hk rfl (fun s' hs' => ?_) (fun k e => by subst e; exact evL_there hu)
        unfold coreA
        rw [if_pos hw, hk]
        simp only [evL_at hu hs']
      · cases h
    · rename_i hk
      split at h
      · rename_i ob mk hu
        split at h
        · rename_i hn
          cases h
          exact .alloc hk rfl ob rfl hn fun s' hs' => by unfold coreA; rw [if_pos hw, hk]; simp only [hu, hs']
        · cases h
      · cases h
    · rename_i hk
      split at h
      · rename_i u s' hu
        cases h
        obtain ⟨k1, k2⟩ := evE_eff hc hu
        exact .eff hk rfl k1 fun k z hkn hkz => by unfold coreA; rw [if_pos hw, hk]; simp only [k2 k z hkn hkz]
      · cases h
  · rename_i hw
    cases h
    exact .quiet rfl rfl fun s' => by unfold coreA; rw [if_neg hw]

/-- x before y, not ordered. -/
structure Free (P : Program) (ops : Array Oper) (base : Nat) (x y : It) (ox oy : Oper) : Prop where
  ne : x.j ≠ y.j
  apart : ox.apart ops oy = true
  pair : pairOk (kd P ox.op) (kd P oy.op) = true
  made : kd P ox.op = .A → kd P oy.op = .L → y.q ≠ some (base + x.j)
  seen : kd P ox.op = .L → kd P oy.op = .E → ∀ q, x.q = some q → q ∈ y.no

theorem no_ok {b : Bar} {no : List Nat} {q : Nat} (h : q ∈ no) : ({ lim := b.lim, no := no ++ b.no } : Bar).ok q = false := by
  unfold Bar.ok
  simp only [Bool.and_eq_false_iff, Bool.not_eq_false', List.any_append, Bool.or_eq_true, List.any_eq_true, Nat.beq_eq]
  exact .inr (.inl ⟨q, h, rfl⟩)

theorem swapA (hc : CallL call) {x y : It} {ox oy : Oper} {t : Temps} {s s1 s2 : St} {vx vy : AV} (hf : Free P ops base x y ox oy)
    (hyn : base + y.j < s.n) (hq : ∀ q, x.q = some q → q < s.n)
    (h1 : coreA P call b ops base x ox t s = some (vx, x.q, s1)) (h2 : coreA P call b ops base y oy (putT t ox.dst vx) s1 = some (vy, y.q, s2)) :
    ∃ s1', coreA P call b ops base y oy t s = some (vy, y.q, s1') ∧ coreA P call b ops base x ox (putT t oy.dst vy) s1' = some (vx, x.q, s2) := by
  obtain ⟨a1, a2, a3⟩ := Oper.apart_spec hf.apart
  rw [coreA_put a1] at h2
  simp only [coreA_put a3]
  rcases coreA_cls hc h1 with ⟨e, eq, c⟩ | ⟨k, e, c, th⟩ | ⟨k, eq, ob, e, new, c⟩ | ⟨k, eq, e, c⟩
  · subst e
    rw [eq]
    exact ⟨s2, h2, c s2⟩
  · subst e
    rcases coreA_cls hc h2 with ⟨e', eq', c'⟩ | ⟨k', e', c', th'⟩ | ⟨k', eq', ob', e', new', c'⟩ | ⟨k', eq', e', c'⟩
    · subst e'; exact ⟨_, h2, h1⟩
    · subst e'; exact ⟨_, h2, h1⟩
    · refine ⟨_, h2, c _ fun q hq => ?_⟩
      rw [e', get_put_other]
      intro e; subst e
      obtain ⟨z, hz⟩ := th _ hq
      rw [new'] at hz; cases hz
    · exact ⟨_, h2, c _ fun q hqq => e'.bar q (hq q hqq) (no_ok (hf.seen k k' q hqq))⟩
  · rcases coreA_cls hc h2 with ⟨e', eq', c'⟩ | ⟨k', e', c', th'⟩ | ⟨k', eq', ob', e', new', c'⟩ | ⟨k', eq', e', c'⟩
    · subst e'; rw [eq']; exact ⟨_, c' _, h1⟩
    · subst e'
      refine ⟨_, c' _ fun q hq => ?_, h1⟩
      rw [e, get_put_other]
      intro e2; subst e2
      exact hf.made k k' hq
    · have hne : base + y.j ≠ base + x.j := fun e => hf.ne (by omega)
      have new2 : s.h.get (base + y.j) = none := by rw [e, get_put_other hne] at new'; exact new'
      rw [eq, eq']
      refine ⟨_, c' _ new2, ?_⟩
      rw [c _ (by rw [get_put_other (fun e => hne e.symm)]; exact new), e', e, put_comm hne]
    · have := hf.pair
      rw [k, k'] at this; simp [pairOk] at this
  · rcases coreA_cls hc h2 with ⟨e', eq', c'⟩ | ⟨k', e', c', th'⟩ | ⟨k', eq', ob', e', new', c'⟩ | ⟨k', eq', e', c'⟩
    · subst e'; rw [eq']; exact ⟨_, c' _, h1⟩
    · have := hf.pair
      rw [k, k'] at this; simp [pairOk] at this
    · have new2 : s.h.get (base + y.j) = none := by
        cases hg : s.h.get (base + y.j) with
        | none => rfl
        | some z => obtain ⟨u, hu⟩ := e.stay _ z hg; rw [new'] at hu; cases hu
      rw [eq, eq']
      exact ⟨_, c' _ new2, by rw [c _ ob' hyn new2, e']⟩
    · have := hf.pair
      rw [k, k'] at this; simp [pairOk] at this

theorem swapA_q (hc : CallL call) {x y : It} {ox oy : Oper} {t : Temps} {s s1 s2 : St} {vx vy : AV} (hf : Free P ops base x y ox oy)
    (h1 : coreA P call b ops base x ox t s = some (vx, x.q, s1)) (h2 : coreA P call b ops base y oy (putT t ox.dst vx) s1 = some (vy, y.q, s2)) (hq : ∀ q, y.q = some q → q < s1.n) :
    ∀ q, y.q = some q → q < s.n := by
  intro q hqq
  have := hq q hqq
  rcases coreA_cls hc h1 with ⟨e, _, _⟩ | ⟨_, e, _, _⟩ | ⟨_, _, ob, e, _, _⟩ | ⟨k, _, e, _⟩
  · rw [e] at this; exact this
  · rw [e] at this; exact this
  · rw [e] at this; exact this
  · rcases coreA_cls hc h2 with ⟨_, eq', _⟩ | ⟨k', _, _, _⟩ | ⟨_, eq', _, _, _, _⟩ | ⟨_, eq', _, _⟩
    · rw [eq'] at hqq; cases hqq
    · have := hf.pair
      rw [k, k'] at this; simp [pairOk] at this
    · rw [eq'] at hqq; cases hqq
    · rw [eq'] at hqq; cases hqq

end Go.Ab
