/- A law of several arguments that takes the remainder of one of them: the rest is evaluated at each remainder. -/
import Derived.Test.YtphkigpngblniaaGreatAcF
namespace Go.Ab
namespace Many
set_option linter.unusedSectionVars false
variable [Rho] {P : Program}

def allTrue (P : Program) (call : Bar → FuncId → List AV → St → Option (AV × St)) (fn : Func) (n fuel : Nat) (i j l : Nat) (ks : List Int) (args : List AV) (a : Int) : Bool :=
  match cutOf fn n with
  | some (cs, _, y, z) => match evList P call ⟨0, []⟩ fuel cs (enterT args 0 .leaf) ⟨.leaf, 0⟩ with
    | some (.normal, t, s) => ks.all fun k => saysTrue P fn.results.toList (evRest P call ⟨0, []⟩ fuel y z (remT i j l a k t) s)
    | _ => false
  | none => false

/-- The argument, as it stands ahead of that region. -/
def argThere (P : Program) (call : Bar → FuncId → List AV → St → Option (AV × St)) (fn : Func) (n fuel q : Nat) (args : List AV) : Option AV :=
  match cutOf fn n with
  | some (cs, _, _, _) => match evList P call ⟨0, []⟩ fuel cs (enterT args 0 .leaf) ⟨.leaf, 0⟩ with
    | some (.normal, t, _) => t.get q
    | _ => none
  | none => none

/-- What the region is: the argument, taken as an unsigned number, and its remainder by m. -/
def isRem (q : Nat) (ops : List Oper) (src dst i j l : Nat) (m : Int) : Bool :=
  match ops with
  | [o1, o2, o3] =>
    (match o1.dst, o1.op, o1.guard with | some d, .move (.tmp q'), none => Nat.beq d i && Nat.beq q' q | _, _, _ => false) &&
    (match o2.dst, o2.op, o2.guard with | some d, .convert s t (.tmp x), none => Nat.beq d j && Nat.beq x i && Nat.beq s src && Nat.beq t dst | _, _, _ => false) &&
    (match o3.dst, o3.op, o3.guard with | some d, .binOp .rem _ (.tmp x) (.const (.int .u64 c)) _, none => Nat.beq d l && Nat.beq x j && intEq c m | _, _, _ => false)
  | _ => false

theorem rem_region {call : Bar → FuncId → List AV → St → Option (AV × St)} {b : Bar} {ops : Array Oper} {src dst i j l : Nat} {m a : Int} {q : Nat} (h : isRem q ops.toList src dst i j l m = true) {d : TypeDesc} (hs : P.underlying src = some d) (hd : P.underlying dst = some (.int .u64)) (hsl : sliceOf (some d) = false) (hm : m ≠ 0)
    {t : Temps} {s : St} (ht : t.get q = some (.int .i64 a)) : evOps P call b ops ops.toList t s = some (remT i j l a ((wrapA .u64 a).tmod m) t, s) := by
  unfold isRem at h
  split at h
  · rename_i o1 o2 o3 hops
    simp only [Bool.and_eq_true] at h
    obtain ⟨⟨h1, h2⟩, h3⟩ := h
    rw [hops]
    split at h1
    · rename_i x1 x1' d1 q1 e1 e2 e3
      split at h2
      · rename_i x2 d2 s2 t2 y2 f1 f2 f3
        split at h3
        · rename_i x3 d3 y3 z3 c3 w3 g1 g2 g3
          simp only [Bool.and_eq_true, Nat.beq_eq, intEq_eq, beq_iff_eq] at h1 h2 h3
          obtain ⟨⟨⟨r1, r2⟩, r3⟩, r4⟩ := h2
          obtain ⟨⟨q1', q2'⟩, q3'⟩ := h3
          obtain ⟨h1, h1'⟩ := h1
          subst h1 h1' r1 r2 r3 r4 q1' q2' q3'
          have e1' : evOp P call b t s o1.op = some (.int .i64 a, s) := by
            rw [e2]; simp only [evOp, kd, evP, evX, ht]
          have k2 : kd P (Op.convert s2 t2 (.tmp y2)) = .P := by simp only [kd, hs, hsl, cond_false]
          have e2' : evOp P call b (t.set y2 (.int .i64 a)) s o2.op = some (.int .u64 (wrapA .u64 a), s) := by
            rw [f2]; simp only [evOp, k2, evP, hs, hd, evX, Tr.get_set_same]
          have hz : intEq c3 0 = false := by rw [intEq_eq]; simpa using hm
          have e3' : evOp P call b ((t.set y2 (.int .i64 a)).set z3 (.int .u64 (wrapA .u64 a))) s o3.op = some (.int .u64 ((wrapA .u64 a).tmod c3), s) := by
            rw [g2]; simp only [evOp, kd, evP, evX, Tr.get_set_same, absV, absCell, evBin, evBin0, AV.isSym, Bool.or_false, kindEq, cond_true, intBin, hz, cond_false]
          simp only [evOps, wantedA, e3, f3, g3, e1, f1, g1, e1', e2', e3', cond_true, putT, remT]
        · cases h3
      · cases h2
    · cases h1
  · cases h

/-- A law that is true at each remainder is true. -/
theorem true_of_all {call : Bar → FuncId → List AV → St → Option (AV × St)} {fn : Func} {n fuel src dst i j l : Nat} {m a : Int} {q : Nat} {args : List AV} {ks : List Int} (hrem : isRem q (regionOf fn n) src dst i j l m = true) {d : TypeDesc} (hs : P.underlying src = some d) (hd : P.underlying dst = some (.int .u64))
    (hsl : sliceOf (some d) = false) (hm : m ≠ 0) (hks : ((wrapA .u64 a).tmod m) ∈ ks) (hthere : argThere P call fn n fuel q args = some (.int .i64 a)) (hall : allTrue P call fn n fuel i j l ks args a = true) {c : Code} (hb : fn.body = some c) (hdst : dstsOk fn.ntmps c = true) (ha : Nat.ble args.length fn.ntmps = true) :
    ∃ s', evBody P call ⟨0, []⟩ fuel fn args ⟨.leaf, 0⟩ = some (.bool true, s') := by
  refine saysTrue_body hb hdst ha ?_
  unfold allTrue at hall
  unfold argThere at hthere
  unfold regionOf at hrem
  cases hc : cutOf fn n with
  | none => rw [hc] at hall; cases hall
  | some qq =>
    obtain ⟨cs, ops, y, z⟩ := qq
    rw [hc] at hall hthere hrem
    simp only at hall hthere hrem
    unfold cutOf at hc
    rw [hb] at hc
    simp only at hc
    split at hc
    · rename_i l' z' hsp
      split at hc
      · rename_i ops' y' z'' hh
        cases hc
        rw [evCode_spine hsp]
        split at hall
        · rename_i t s he
          rw [he] at hthere
          simp only at hthere
          rw [he]
          simp only
          rw [evCode_head hh (rem_region hrem hs hd hsl hm hthere)]
          exact List.all_eq_true.1 hall _ hks
        · cases hall
      · cases hc
    · cases hc


/-- Both at once. -/
def allThere (P : Program) (call : Bar → FuncId → List AV → St → Option (AV × St)) (fn : Func) (n fuel q : Nat) (i j l : Nat) (ks : List Int) (args : List AV) (a : Int) : Option (Option AV × Bool) :=
  match cutOf fn n with
  | some (cs, _, y, z) => match evList P call ⟨0, []⟩ fuel cs (enterT args 0 .leaf) ⟨.leaf, 0⟩ with
    | some (.normal, t, s) => some (t.get q, ks.all fun k => saysTrue P fn.results.toList (evRest P call ⟨0, []⟩ fuel y z (remT i j l a k t) s))
    | _ => none
  | none => none

theorem allThere_both {call : Bar → FuncId → List AV → St → Option (AV × St)} {fn : Func} {n fuel q i j l : Nat} {ks : List Int} {args : List AV} {a : Int} {x : AV} (h : allThere P call fn n fuel q i j l ks args a = some (some x, true)) :
    argThere P call fn n fuel q args = some x ∧ allTrue P call fn n fuel i j l ks args a = true := by
  unfold allThere at h
  unfold argThere allTrue
  split at h
  · rename_i cs _ y z hc
    split at h
    · rename_i t s he
      simpa using h
    · cases h
  · cases h

end Many
end Go.Ab
