/- A call whose answer at certain arguments is known: an answer of its own, beside others. -/
import Derived.Test.YtphkigpngblniaaGreatAcG
namespace Go.Ab
set_option linter.unusedSectionVars false
variable [Rho] {P : Program}

mutual
/-- Are two values, of numbers alone, the same? -/
def avEq : AV → AV → Bool
  | .int k n, .int k' n' => kindEq k k' && intEq n n'
  | .sym k e lo hi o, .sym k' e' lo' hi' o' => kindEq k k' && SE.beq e e' && intEq lo lo' && intEq hi hi' && intEq o o'
  | .agg cs, .agg cs' => avEqs cs cs'
  | _, _ => false
def avEqs : List AV → List AV → Bool
  | [], [] => true
  | x :: xs, y :: ys => avEq x y && avEqs xs ys
  | _, _ => false
end

mutual
theorem avEq_eq : ∀ {x y : AV}, avEq x y = true → x = y := by
  intro x y h
  cases x <;> cases y <;> first | (simp [avEq] at h; done) | skip
  · simp only [avEq, Bool.and_eq_true, kindEq_eq, intEq_eq, beq_iff_eq] at h
    rw [h.1, h.2]
  · simp only [avEq, Bool.and_eq_true, kindEq_eq, intEq_eq, beq_iff_eq] at h
    obtain ⟨⟨⟨⟨h1, h2⟩, h3⟩, h4⟩, h5⟩ := h
    rw [h1, SE.beq_eq h2, h3, h4, h5]
  · simp only [avEq] at h
    rw [avEqs_eq h]
theorem avEqs_eq : ∀ {x y : List AV}, avEqs x y = true → x = y := by
  intro x y h
  cases x <;> cases y <;> first | rfl | (simp [avEqs] at h; done) | skip
  simp only [avEqs, Bool.and_eq_true] at h
  rw [avEq_eq h.1, avEqs_eq h.2]
end

/-- It hands back r; nothing that lay before has turned. -/
def KnownCall (P : Program) (f : FuncId) (args : List AV) (r : AV) : Prop :=
  ∀ (w : World) (vs : List Value), All2 (VR fun _ _ => none) args vs → Calls P f vs.toArray w fun e w' => ∃ y, e = .returned y ∧ VR (fun _ _ => none) r y ∧ Kept ⟨0, []⟩ (fun _ _ => none) w w'

def knownC (args0 : List AV) (r : AV) (_ : Bar) (args : List AV) (s : St) : Option (AV × St) :=
  bif avEqs args args0 then some (r, s) else none

/-- Answers with a known call beside others. -/
def withCall (f0 : FuncId) (args : List AV) (r : AV) (pr : Prims) : Prims := fun call f => bif Nat.beq f f0 then some (knownC args r) else pr call f

theorem withCall_L {f0 : FuncId} {args0 : List AV} {r0 : AV} {pr : Prims} (h : PrimsL pr) : PrimsL (withCall f0 args0 r0 pr) := by
  intro call hc f p hp b args s r s' hr
  unfold withCall at hp
  rw [cond_eq_ite] at hp
  split at hp
  · cases hp
    unfold knownC at hr
    rw [cond_eq_ite] at hr
    split at hr
    · rename_i he
      cases hr
      exact ⟨Eff.refl _ _, fun q x _ _ => by unfold knownC; rw [he]; rfl⟩
    · cases hr
  · exact h call hc f p hp b args s r s' hr

/-- Is it of numbers alone? -/
def numOnly : AV → Bool
  | .int _ _ => true
  | .bool _ => true
  | .sym _ _ _ _ _ => true
  | .agg cs => cs.all fun c => match c with | .int _ _ => true | .sym _ _ _ _ _ => true | _ => false
  | _ => false

theorem CR.num {μ μ' : Mu} {x : AV} {v : Value} (hx : (match x with | .int _ _ => true | .sym _ _ _ _ _ => true | _ => false) = true) (h : CR μ x v) : CR μ' x v := by
  cases x <;> simp at hx <;> cases v <;> simp only [CR] at h ⊢ <;> exact h

theorem All2.numC {μ μ' : Mu} : ∀ {xs : List AV} {vs : List Value}, (∀ x ∈ xs, (match x with | .int _ _ => true | .sym _ _ _ _ _ => true | _ => false) = true) → All2 (CR μ) xs vs → All2 (CR μ') xs vs
  | [], [], _, _ => trivial
  | x :: xs, v :: vs, h, ⟨h1, h2⟩ => ⟨CR.num (h x (by simp)) h1, All2.numC (fun y hy => h y (by simp [hy])) h2⟩
  | [], _ :: _, _, h => h.elim
  | _ :: _, [], _, h => h.elim

theorem VR.num {μ μ' : Mu} {x : AV} {v : Value} (hx : numOnly x = true) (h : VR μ x v) : VR μ' x v := by
  cases x <;> simp [numOnly] at hx
  · exact VR.ofC (CR.num rfl (h.toC rfl))
  · exact VR.ofC (CR.num rfl (h.toC rfl))
  · rw [h.bool]; exact VR.ofC (by simp [CR])
  · rename_i cs
    obtain ⟨vs, rfl, h⟩ := h.agg
    exact VR.of0 (All2.numC (fun c hc => by have := hx c hc; cases c <;> simp_all) h)

theorem All2.num {μ μ' : Mu} : ∀ {xs : List AV} {vs : List Value}, xs.all numOnly = true → All2 (VR μ) xs vs → All2 (VR μ') xs vs
  | [], [], _, _ => trivial
  | x :: xs, v :: vs, h, ⟨h1, h2⟩ => by
    simp only [List.all_cons, Bool.and_eq_true] at h
    exact ⟨VR.num h.1 h1, All2.num h.2 h2⟩
  | [], _ :: _, _, h => h.elim
  | _ :: _, [], _, h => h.elim

theorem withCall_S {f0 : FuncId} {args0 : List AV} {r0 : AV} {pr : Prims} (h : PrimsS P pr) (hk : KnownCall P f0 args0 r0) (hn : args0.all numOnly = true) (hr0 : numOnly r0 = true) : PrimsS P (withCall f0 args0 r0 pr) := by
  intro call hl hc f p hp b args s r s' hr μ w vs hR hv
  unfold withCall at hp
  rw [cond_eq_ite] at hp
  split at hp
  · rename_i hf
    cases hp
    rw [Nat.beq_eq] at hf
    subst hf
    unfold knownC at hr
    rw [cond_eq_ite] at hr
    split at hr
    · rename_i he
      cases hr
      have := avEqs_eq he
      subst this
      refine (hk w vs (All2.num hn hv)).mono ?_
      rintro e w' ⟨y, rfl, hy, hkept⟩
      have hh : ∀ B, B < w.heap.size → w'.heap[B]? = w.heap[B]? := fun B hB => hkept.heap B hB fun _ _ _ e => by cases e
      exact ⟨_, μ, rfl, Ext.refl _ _, hR.of_heap hkept.size hh, VR.num hr0 hy, ⟨hkept.size, fun B hB _ => hh B hB, hkept.os, hkept.out⟩⟩
    · cases hr
  · exact h call hl hc f p hp b args s r s' hr μ w vs hR hv

/-- A call that is evaluated, of numbers alone. -/
theorem knownCall_of {call : Bar → FuncId → List AV → St → Option (AV × St)} (hs : CallS P call) {f : FuncId} {args : List AV} {r : AV} {s' : St} (h : call ⟨0, []⟩ f args ⟨.leaf, 0⟩ = some (r, s')) (hr : numOnly r = true) : KnownCall P f args r := fun w vs hv => by
  refine (hs _ f args ⟨.leaf, 0⟩ _ s' h (fun _ _ => none) w vs (R.start w) hv).mono ?_
  rintro e w' ⟨y, μ', rfl, hp⟩
  exact ⟨y, rfl, VR.num hr hp.val, hp.kept⟩

/-- What a call answers, of no object. -/
def answer1 (P : Program) (pr : Prims) (loops n : Nat) (f : FuncId) (args : List AV) : Option AV :=
  match evCall P pr loops n ⟨0, []⟩ f args ⟨.leaf, 0⟩ with
  | some (v, _) => some v
  | none => none

theorem knownCall_answer (hm : P.follows .mixedOrders = true) {pr : Prims} (hl : PrimsL pr) (hs : PrimsS P pr) {loops n : Nat} {f : FuncId} {args : List AV} {r : AV} (h : answer1 P pr loops n f args = some r) (hr : numOnly r = true) : KnownCall P f args r := by
  unfold answer1 at h
  split at h
  · rename_i v s' he
    cases h
    exact knownCall_of (evCall_sound hm hl hs loops n) he hr
  · cases h

/-- No answers of their own. -/
def noPrims : Prims := fun _ _ => none

theorem noPrims_L : PrimsL noPrims := by
  intro call hc f p hp
  cases hp

theorem noPrims_S : PrimsS P noPrims := by
  intro call hl hc f p hp
  cases hp

end Go.Ab
