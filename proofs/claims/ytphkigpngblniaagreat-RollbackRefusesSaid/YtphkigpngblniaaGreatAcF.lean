/- Closed functions that are known to be true: answers of their own. -/
import Derived.Test.YtphkigpngblniaaGreatAcE
namespace Go.Ab
set_option linter.unusedSectionVars false
variable [Rho] {P : Program}

/-- It hands back true; nothing that lay before has turned. -/
def KnownTrue (P : Program) (f : FuncId) : Prop :=
  ∀ w : World, Calls P f #[] w fun e w' => e = .returned (.bool true) ∧ Kept ⟨0, []⟩ (fun _ _ => none) w w'

theorem knownTrue_of {call : Bar → FuncId → List AV → St → Option (AV × St)} (hs : CallS P call) {f : FuncId} {s' : St} (h : call ⟨0, []⟩ f [] ⟨.leaf, 0⟩ = some (.bool true, s')) : KnownTrue P f := fun w => by
  refine (hs _ f [] ⟨.leaf, 0⟩ _ s' h (fun _ _ => none) w [] (R.start w) trivial).mono ?_
  rintro e w' ⟨y, μ', rfl, hp⟩
  exact ⟨by rw [VR.bool hp.val], hp.kept⟩

def knownP (_ : Bar) (args : List AV) (s : St) : Option (AV × St) :=
  match args with
  | [] => some (.bool true, s)
  | _ => none

/-- Answers with known functions beside others. -/
def withKnown (known : List FuncId) (pr : Prims) : Prims := fun call f => bif known.any (Nat.beq f) then some knownP else pr call f

theorem withKnown_L {known : List FuncId} {pr : Prims} (h : PrimsL pr) : PrimsL (withKnown known pr) := by
  intro call hc f p hp b args s r s' hr
  unfold withKnown at hp
  rw [cond_eq_ite] at hp
  split at hp
  · cases hp
    unfold knownP at hr
    split at hr
    · cases hr; exact ⟨Eff.refl _ _, fun q x _ _ => rfl⟩
    · cases hr
  · exact h call hc f p hp b args s r s' hr

theorem withKnown_S {known : List FuncId} {pr : Prims} (h : PrimsS P pr) (hk : ∀ f ∈ known, KnownTrue P f) : PrimsS P (withKnown known pr) := by
  intro call hl hc f p hp b args s r s' hr μ w vs hR hv
  unfold withKnown at hp
  rw [cond_eq_ite] at hp
  split at hp
  · rename_i hf
    cases hp
    simp only [List.any_eq_true, Nat.beq_eq] at hf
    obtain ⟨x, hx, rfl⟩ := hf
    unfold knownP at hr
    split at hr
    · cases hr
      have : vs = [] := by cases vs with | nil => rfl | cons _ _ => exact hv.elim
      subst this
      refine (hk _ hx w).mono ?_
      rintro e w' ⟨rfl, hkept⟩
      have hh : ∀ B, B < w.heap.size → w'.heap[B]? = w.heap[B]? := fun B hB => hkept.heap B hB fun _ _ _ e => by cases e
      exact ⟨_, μ, rfl, Ext.refl _ _, hR.of_heap hkept.size hh, by simp [VR, VR0, CR], ⟨hkept.size, fun B hB _ => hh B hB, hkept.os, hkept.out⟩⟩
    · cases hr
  · exact h call hl hc f p hp b args s r s' hr μ w vs hR hv

end Go.Ab
