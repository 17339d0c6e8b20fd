/- A law that begins with closed code, then takes its argument's remainder: the rest is evaluated at each remainder. -/
import Derived.Test.YtphkigpngblniaaGreatAcD
namespace Go.Ab
set_option linter.unusedSectionVars false
variable (P : Program)

def spine : Nat → Code → Option (List Code × Code)
  | 0, c => some ([], c)
  | n + 1, .seq x y => match spine n y with
    | some (l, c) => some (x :: l, c)
    | none => none
  | _ + 1, _ => none

def evList (call : Bar → FuncId → List AV → St → Option (AV × St)) (b : Bar) (fuel : Nat) : List Code → Temps → St → Option (Out × Temps × St)
  | [], t, s => some (.normal, t, s)
  | x :: xs, t, s => match evCode P call b fuel x t s with
    | some (.normal, t, s) => evList call b fuel xs t s
    | r => r

/-- The first region of what is left, and what stands behind it. -/
def headRegion : Code → Option (Array Oper × Code × Code)
  | .seq (.seq (.region _ ops false) y) z => some (ops, y, z)
  | _ => none

def evRest (call : Bar → FuncId → List AV → St → Option (AV × St)) (b : Bar) (fuel : Nat) (y z : Code) (t : Temps) (s : St) : Option (Out × Temps × St) :=
  match evCode P call b fuel y t s with
  | some (.normal, t, s) => evCode P call b fuel z t s
  | r => r

def saysTrue (rs : List ResultVar) : Option (Out × Temps × St) → Bool
  | some (.normal, t, s) => match resultsA P t s rs with
    | some [.bool b] => b
    | _ => false
  | some (.ret, t, s) => match resultsA P t s rs with
    | some [.bool b] => b
    | _ => false
  | _ => false

variable [Rho] {P}

theorem evCode_spine {call : Bar → FuncId → List AV → St → Option (AV × St)} {b : Bar} {fuel : Nat} : ∀ {n : Nat} {c z : Code} {l : List Code}, spine n c = some (l, z) → ∀ t s,
    evCode P call b fuel c t s = match evList P call b fuel l t s with
      | some (.normal, t, s) => evCode P call b fuel z t s
      | r => r
  | 0, c, z, l, h, t, s => by simp only [spine] at h; cases h; rfl
  | n + 1, c, z, l, h, t, s => by
    cases c with
    | seq x y =>
      simp only [spine] at h
      split at h
      · rename_i l' c' hs
        cases h
        simp only [evCode, evList]
        cases hx : evCode P call b fuel x t s with
        | none => rfl
        | some r =>
          obtain ⟨o, t1, s1⟩ := r
          cases o with
          | normal => simp only; exact evCode_spine hs t1 s1
          | ret => rfl
          | exit i => rfl
      · cases h
    | _ => simp [spine] at h

theorem evCode_head {call : Bar → FuncId → List AV → St → Option (AV × St)} {b : Bar} {fuel : Nat} {c y z : Code} {ops : Array Oper} (h : headRegion c = some (ops, y, z)) {t t1 : Temps} {s s1 : St}
    (ho : evOps P call b ops ops.toList t s = some (t1, s1)) : evCode P call b fuel c t s = evRest P call b fuel y z t1 s1 := by
  unfold headRegion at h
  split at h
  · cases h
    simp only [evCode, cond_false, ho, evRest]
    cases evCode P call b fuel y t1 s1 with
    | none => rfl
    | some r =>
      obtain ⟨o, t2, s2⟩ := r
      cases o <;> rfl
  · cases h

theorem saysTrue_body {call : Bar → FuncId → List AV → St → Option (AV × St)} {b : Bar} {fuel : Nat} {fn : Func} {c : Code} {args : List AV} {s : St} (hb : fn.body = some c) (hd : dstsOk fn.ntmps c = true) (ha : Nat.ble args.length fn.ntmps = true)
    (h : saysTrue P fn.results.toList (evCode P call b fuel c (enterT args 0 .leaf) s) = true) : ∃ s', evBody P call b fuel fn args s = some (.bool true, s') := by
  unfold evBody
  rw [hb]
  simp only [hd, ha, Bool.and_self, cond_true]
  unfold saysTrue at h
  split at h
  · rename_i t s1 he
    rw [he]
    simp only
    split at h
    · rename_i b' hr; subst h; exact ⟨s1, by simp only [hr, packA]⟩
    · cases h
  · rename_i t s1 he
    rw [he]
    simp only
    split at h
    · rename_i b' hr; subst h; exact ⟨s1, by simp only [hr, packA]⟩
    · cases h
  · cases h

/-- Of no object, no block. -/
theorem R.start (w : World) : R (fun _ _ => none) ⟨.leaf, 0⟩ w where
  fresh _ _ _ h := by cases h
  next o _ := by simp [Tr.get]
  inj _ _ _ _ _ _ h := by cases h
  offs _ _ _ _ _ _ h := by cases h
  ext _ _ _ _ _ _ h := by simp [Tr.get] at h
  arr _ _ _ _ _ _ h := by simp [Tr.get] at h
  map _ _ _ _ h := by simp [Tr.get] at h

theorem keptBut_of {b : Bar} {w w' : World} (h : Kept b (fun _ _ => none) w w') : w.keptBut w' (fun _ => False) := by
  refine ⟨h.os, h.out, fun i hi => ?_⟩
  rw [h.heap i hi (fun _ _ _ e => by cases e)]
  cases ho : w.heap[i]? with
  | none => rfl
  | some o => cases o <;> first | exact ⟨rfl, rfl, rfl, fun _ _ => rfl⟩ | exact .inr ⟨rfl, rfl⟩ | rfl

/-- A closed call that is evaluated to true. -/
theorem calls_true {call : Bar → FuncId → List AV → St → Option (AV × St)} (hs : CallS P call) {b : Bar} {f : FuncId} {args : List AV} {s' : St} (h : call b f args ⟨.leaf, 0⟩ = some (.bool true, s')) {vs : List Value} (w : World) (hv : All2 (VR fun _ _ => none) args vs) :
    Calls P f vs.toArray w fun e w' => e = .returned (.bool true) ∧ w.keptBut w' (fun _ => False) := by
  refine (hs b f args ⟨.leaf, 0⟩ _ s' h (fun _ _ => none) w vs (R.start w) hv).mono ?_
  rintro e w' ⟨y, μ', rfl, hp⟩
  exact ⟨by rw [VR.bool hp.val], keptBut_of hp.kept⟩

theorem evCall_step {pr : Prims} {loops n : Nat} {b : Bar} {f : FuncId} {args : List AV} {s : St} {fn : Func} {r : AV × St} (hp : pr (evCall P pr loops n) f = none) (hf : P.funcs[f]? = some fn) (h : evBody P (evCall P pr loops n) b loops fn args s = some r) :
    evCall P pr loops (n + 1) b f args s = some r := by
  simp only [evCall, hp, hf, h]

/-! ### the remainder of an int, taken as an unsigned number -/

/-- A body's code: ahead of the region that takes the remainder; the region; what stands behind it. -/
def cutOf (fn : Func) (n : Nat) : Option (List Code × Array Oper × Code × Code) :=
  match fn.body with
  | some c => match spine n c with
    | some (l, z) => match headRegion z with
      | some (ops, y, z) => some (l, ops, y, z)
      | none => none
    | none => none
  | none => none

/-- The temporaries behind that region. -/
def remT (i j l : Nat) (a k : Int) (t : Temps) : Temps := ((t.set i (.int .i64 a)).set j (.int .u64 (wrapA .u64 a))).set l (.int .u64 k)

def allTrue (P : Program) (call : Bar → FuncId → List AV → St → Option (AV × St)) (fn : Func) (n fuel : Nat) (i j l : Nat) (ks : List Int) (a : Int) : Bool :=
  match cutOf fn n with
  | some (cs, _, y, z) => match evList P call ⟨0, []⟩ fuel cs (enterT [.int .i64 a] 0 .leaf) ⟨.leaf, 0⟩ with
    | some (.normal, t, s) => ks.all fun k => saysTrue P fn.results.toList (evRest P call ⟨0, []⟩ fuel y z (remT i j l a k t) s)
    | _ => false
  | none => false

/-- The argument, as it stands ahead of that region. -/
def argThere (P : Program) (call : Bar → FuncId → List AV → St → Option (AV × St)) (fn : Func) (n fuel : Nat) (a : Int) : Option AV :=
  match cutOf fn n with
  | some (cs, _, _, _) => match evList P call ⟨0, []⟩ fuel cs (enterT [.int .i64 a] 0 .leaf) ⟨.leaf, 0⟩ with
    | some (.normal, t, _) => t.get 0
    | _ => none
  | none => none

/-- What the region is: the argument, taken as an unsigned number, and its remainder by m. -/
def isRem (ops : List Oper) (src dst i j l : Nat) (m : Int) : Bool :=
  match ops with
  | [o1, o2, o3] =>
    (match o1.dst, o1.op, o1.guard with | some d, .move (.tmp 0), none => Nat.beq d i | _, _, _ => false) &&
    (match o2.dst, o2.op, o2.guard with | some d, .convert s t (.tmp x), none => Nat.beq d j && Nat.beq x i && Nat.beq s src && Nat.beq t dst | _, _, _ => false) &&
    (match o3.dst, o3.op, o3.guard with | some d, .binOp .rem _ (.tmp x) (.const (.int .u64 c)) _, none => Nat.beq d l && Nat.beq x j && intEq c m | _, _, _ => false)
  | _ => false

def regionOf (fn : Func) (n : Nat) : List Oper :=
  match cutOf fn n with
  | some (_, ops, _, _) => ops.toList
  | none => []

theorem wrapU_nonneg (a : Int) : 0 ≤ wrapA .u64 a := by
  rw [wrapA_eq]
  have h : (0 : Int) ≤ a % 2 ^ 64 := Int.emod_nonneg _ (by decide)
  simpa [IntKind.wrap, IntKind.signed, IntKind.bits] using h

theorem rem_region {call : Bar → FuncId → List AV → St → Option (AV × St)} {b : Bar} {ops : Array Oper} {src dst i j l : Nat} {m a : Int} (h : isRem ops.toList src dst i j l m = true) {d : TypeDesc} (hs : P.underlying src = some d) (hd : P.underlying dst = some (.int .u64)) (hsl : sliceOf (some d) = false) (hm : m ≠ 0)
    {t : Temps} {s : St} (ht : t.get 0 = some (.int .i64 a)) : evOps P call b ops ops.toList t s = some (remT i j l a ((wrapA .u64 a).tmod m) t, s) := by
  unfold isRem at h
  split at h
  · rename_i o1 o2 o3 hops
    simp only [Bool.and_eq_true] at h
    obtain ⟨⟨h1, h2⟩, h3⟩ := h
    rw [hops]
    split at h1
    · rename_i x1 d1 q1 e1 e2 e3
      split at h2
      · rename_i x2 d2 s2 t2 y2 f1 f2 f3
        split at h3
        · rename_i x3 d3 y3 z3 c3 w3 g1 g2 g3
          simp only [Bool.and_eq_true, Nat.beq_eq, intEq_eq, beq_iff_eq] at h1 h2 h3
          obtain ⟨⟨⟨r1, r2⟩, r3⟩, r4⟩ := h2
          obtain ⟨⟨q1', q2'⟩, q3'⟩ := h3
          subst h1 r1 r2 r3 r4 q1' q2' q3'
          have e1' : evOp P call b t s o1.op = some (.int .i64 a, s) := by
            rw [e2]; simp only [evOp, kd, evP, evX, ht]
          have k2 : kd P (Op.convert s2 t2 (.tmp y2)) = .P := by simp only [kd, hs, hsl, cond_false]
          have e2' : evOp P call b (t.set y2 (.int .i64 a)) s o2.op = some (.int .u64 (wrapA .u64 a), s) := by
            rw [f2]; simp only [evOp, k2, evP, hs, hd, evX, Tr.get_set_same]
          have hz : intEq c3 0 = false := by rw [intEq_eq]; simpa using hm
          have e3' : evOp P call b ((t.set y2 (.int .i64 a)).set z3 (.int .u64 (wrapA .u64 a))) s o3.op = some (.int .u64 ((wrapA .u64 a).tmod c3), s) := by
            rw [g2]; simp only [evOp, kd, evP, evX, Tr.get_set_same, absV, absCell, evBin, evBin0, AV.isSym, Bool.or_false, kindEq, cond_true, intBin, hz, cond_false]
          simp only [evOps, wantedA, e3, f3, g3, e1, f1, g1, e1', e2', e3', cond_true, putT, remT]
        · cases h3
      · cases h2
    · cases h1
  · cases h

/-- A law that is true at each remainder is true. -/
theorem true_of_all {call : Bar → FuncId → List AV → St → Option (AV × St)} {fn : Func} {n fuel src dst i j l : Nat} {m a : Int} {ks : List Int} (hrem : isRem (regionOf fn n) src dst i j l m = true) {d : TypeDesc} (hs : P.underlying src = some d) (hd : P.underlying dst = some (.int .u64))
    (hsl : sliceOf (some d) = false) (hm : m ≠ 0) (hks : ((wrapA .u64 a).tmod m) ∈ ks) (hthere : argThere P call fn n fuel a = some (.int .i64 a)) (hall : allTrue P call fn n fuel i j l ks a = true) {c : Code} (hb : fn.body = some c) (hdst : dstsOk fn.ntmps c = true) (ha : Nat.ble 1 fn.ntmps = true) :
    ∃ s', evBody P call ⟨0, []⟩ fuel fn [.int .i64 a] ⟨.leaf, 0⟩ = some (.bool true, s') := by
  refine saysTrue_body hb hdst ha ?_
  unfold allTrue at hall
  unfold argThere at hthere
  unfold regionOf at hrem
  cases hc : cutOf fn n with
  | none => rw [hc] at hall; cases hall
  | some q =>
    obtain ⟨cs, ops, y, z⟩ := q
    rw [hc] at hall hthere hrem
    simp only at hall hthere hrem
    unfold cutOf at hc
    rw [hb] at hc
    simp only at hc
    split at hc
    · rename_i l' z' hsp
      split at hc
      · rename_i ops' y' z'' hh
        cases hc
        rw [evCode_spine hsp]
        split at hall
        · rename_i t s he
          rw [he] at hthere
          simp only at hthere ⊢
          rw [evCode_head hh (rem_region hrem hs hd hsl hm hthere)]
          exact List.all_eq_true.1 hall _ hks
        · cases hall
      · cases hc
    · cases hc

theorem rem_mem (a : Int) (m : Nat) (hm : 0 < m) : ∃ k : Nat, k < m ∧ (wrapA .u64 a).tmod m = k := by
  have h0 := wrapU_nonneg a
  refine ⟨((wrapA .u64 a).tmod m).toNat, ?_, ?_⟩
  · have h1 : (wrapA .u64 a).tmod m < m := Int.tmod_lt_of_pos _ (by omega)
    omega
  · have h2 : 0 ≤ (wrapA .u64 a).tmod m := Int.tmod_nonneg _ h0
    omega

end Go.Ab
