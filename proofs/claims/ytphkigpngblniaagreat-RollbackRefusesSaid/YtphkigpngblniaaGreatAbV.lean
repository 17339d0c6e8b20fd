/- Values: what a related value must be; operands. -/
import Derived.Test.YtphkigpngblniaaGreatAbU
namespace Go.Ab
set_option linter.unusedSectionVars false
variable [Rho] {P : Program} {μ : Mu}

def tget (t : Temps) (i : Nat) : AV := match t.get i with | some v => v | none => undefA

def TR (μ : Mu) (t : Temps) (tmps : Array Value) : Prop := ∀ i, VR μ (tget t i) (tmps.getD i undef)

theorem VR.of0 {x : AV} {v : Value} (h : VR0 μ x v) : VR μ x v := by
  unfold VR
  split
  · simp [VR0, CR] at h
  · exact h

theorem VR0.ofC {x : AV} {v : Value} (h : CR μ x v) : VR0 μ x v := by
  unfold VR0
  split
  · simp [CR] at h
  · exact h

theorem VR.ofC {x : AV} {v : Value} (h : CR μ x v) : VR μ x v := VR.of0 (VR0.ofC h)

theorem VR.to0 {x : AV} {v : Value} (h : VR μ x v) (hx : ∀ vs, x ≠ .tup vs) : VR0 μ x v := by
  unfold VR at h
  split at h
  · exact absurd rfl (hx _)
  · exact h

theorem VR0.toC {x : AV} {v : Value} (h : VR0 μ x v) (hx : ∀ cs, x ≠ .agg cs) : CR μ x v := by
  unfold VR0 at h
  split at h
  · exact absurd rfl (hx _)
  · exact h

theorem VR.toC {x : AV} {v : Value} (h : VR μ x v) (hx : x.one = true) : CR μ x v := by
  refine (h.to0 ?_).toC ?_ <;> (intro vs e; subst e; simp [AV.one] at hx)

theorem VR.int {k : IntKind} {n : Int} {v : Value} (h : VR μ (.int k n) v) : v = .int k n := by
  have := h.toC rfl
  cases v <;> simp [CR] at this
  simp [this]

theorem VR.sym {k : IntKind} {e : SE} {lo hi o : Int} {v : Value} (h : VR μ (.sym k e lo hi o) v) : v = .int k (e.val + o) ∧ lo ≤ e.val ∧ e.val ≤ hi := by
  have := h.toC rfl
  cases v <;> simp only [CR] at this
  obtain ⟨rfl, rfl, hb⟩ := this
  exact ⟨rfl, hb⟩

theorem VR.bool {b : Bool} {v : Value} (h : VR μ (.bool b) v) : v = .bool b := by
  have := h.toC rfl
  cases v <;> simp [CR] at this
  simp [this]

theorem VR.str {s : ByteArray} {v : Value} (h : VR μ (.str s) v) : v = .string s := by
  have := h.toC rfl
  cases v <;> simp [CR] at this
  simp [this]

theorem VR.ptr {l : Loc} {v : Value} (h : VR μ (.ptr (some l)) v) : ∃ a, v = .pointer (some a) ∧ LR μ l a := by
  have := h.toC rfl
  cases v with
  | pointer a => cases a with
    | none => simp [CR] at this
    | some a => exact ⟨a, rfl, by simpa [CR] using this⟩
  | _ => simp [CR] at this

theorem VR.nil {v : Value} (h : VR μ (.ptr none) v) : v = .pointer none := by
  have := h.toC rfl
  cases v with
  | pointer a => cases a with
    | none => rfl
    | some a => simp [CR] at this
  | _ => simp [CR] at this

theorem VR.slice {l : Loc} {n c : Nat} {ex : Bool} {v : Value} (h : VR μ (.slice (some l) n c ex) v) : ∃ a c', v = .slice (some a) n c' ∧ SR μ l n c ex a n c' := by
  have := h.toC rfl
  cases v with
  | slice a n' c' => cases a with
    | none => simp [CR] at this
    | some a =>
      simp only [CR] at this
      have e := this.1
      subst e
      exact ⟨a, c', rfl, this⟩
  | _ => simp [CR] at this

theorem VR.slice_nil {n c : Nat} {ex : Bool} {v : Value} (h : VR μ (.slice none n c ex) v) : v = .slice none 0 0 ∧ n = 0 ∧ c = 0 := by
  have := h.toC rfl
  cases v with
  | slice a n' c' => cases a with
    | none => simp only [CR] at this; obtain ⟨rfl, rfl, rfl, rfl⟩ := this; exact ⟨rfl, rfl, rfl⟩
    | some a => simp [CR] at this
  | _ => simp [CR] at this

theorem VR.map {m : Option Nat} {v : Value} (h : VR μ (.map m) v) : ∃ r, v = .map r ∧ (m = none → r = none) ∧ (∀ o, m = some o → ∃ g, μ o 0 = some g ∧ r = some g.b) := by
  have := h.toC rfl
  cases v with
  | map r => cases m with
    | none => cases r with
      | none => exact ⟨none, rfl, fun _ => rfl, fun _ h => by cases h⟩
      | some r => simp [CR] at this
    | some o => cases r with
      | none => simp [CR] at this
      | some r =>
        simp only [CR] at this
        obtain ⟨g, h1, h2⟩ := this
        exact ⟨some r, rfl, fun h => (by cases h), fun o' h => by cases h; exact ⟨g, h1, by rw [h2]⟩⟩
  | _ => cases m <;> simp [CR] at this

theorem VR.func {f : FuncId} {ls : List Loc} {v : Value} (h : VR μ (.func f ls) v) :
    ∃ cap, v = .func (.func f) #[] cap ∧ All2 (fun l v => ∃ a, v = .pointer (some a) ∧ LR μ l a) ls cap.toList := by
  have := h.toC rfl
  cases v <;> simp only [CR] at this
  obtain ⟨rfl, rfl, h2⟩ := this
  exact ⟨_, rfl, h2⟩

theorem VR.agg {cs : List AV} {v : Value} (h : VR μ (.agg cs) v) : ∃ vs, v = .agg vs ∧ All2 (CR μ) cs vs.toList := by
  have := h.to0 (fun _ e => by cases e)
  cases v <;> simp only [VR0, CR] at this
  exact ⟨_, rfl, this⟩

theorem VR.tup {xs : List AV} {v : Value} (h : VR μ (.tup xs) v) : ∃ vs, v = .tuple vs ∧ All2 (VR0 μ) xs vs.toList := by
  cases v <;> simp only [VR, VR0, CR] at h
  exact ⟨_, rfl, h⟩

theorem VR.cells {x : AV} {v : Value} (h : VR μ x v) (hx : x.cells.all AV.one = true) : All2 (CR μ) x.cells v.cells.toList := by
  cases x with
  | agg cs => obtain ⟨vs, rfl, h⟩ := h.agg; exact h
  | tup vs => simp [AV.cells, AV.one] at hx
  | _ =>
    have := h.toC rfl
    cases v <;> simp only [CR] at this <;> simp [AV.cells, Value.cells, All2] <;> first | exact this | simpa [CR] using this

theorem absCell_sound {v : Value} {x : AV} (h : absCell v = some x) : CR μ x v := by
  unfold absCell at h
  split at h <;> first | (cases h; simp [CR]; done) | cases h

theorem absCells_sound : ∀ {vs : List Value} {xs : List AV}, absCells vs = some xs → All2 (CR μ) xs vs
  | [], xs, h => by simp [absCells] at h; subst h; trivial
  | v :: vs, xs, h => by
    simp only [absCells] at h
    split at h
    · rename_i x hx
      split at h
      · rename_i ys hys; cases h; exact ⟨absCell_sound hx, absCells_sound hys⟩
      · cases h
    · cases h

theorem absV_sound0 {v : Value} {x : AV} (h : absV v = some x) : VR0 μ x v := by
  unfold absV at h
  split at h
  · split at h
    · rename_i xs hxs; cases h; exact absCells_sound hxs
    · cases h
  · exact VR0.ofC (absCell_sound h)

theorem absV_sound {v : Value} {x : AV} (h : absV v = some x) : VR μ x v := VR.of0 (absV_sound0 h)

theorem evX_sound {t : Temps} {a : Act} {x : Operand} {v : AV} (h : evX t x = some v) (ht : TR μ t a.tmps) : VR μ v (a.eval x) := by
  cases x with
  | tmp i =>
    have := ht i
    unfold tget at this
    simp only [evX] at h
    split at h
    · rename_i u hu; cases h; rw [hu] at this; exact this
    · rename_i hu; cases h; rw [hu] at this; exact this
  | const c => exact absV_sound h
  | global g => cases h
  | func f => simp only [evX] at h; cases h; exact VR.ofC (by simp [CR, Act.eval, All2])

theorem evXs_sound {t : Temps} {a : Act} (ht : TR μ t a.tmps) : ∀ {xs : List Operand} {vs : List AV}, evXs t xs = some vs → All2 (VR μ) vs (xs.map a.eval)
  | [], vs, h => by simp [evXs] at h; subst h; trivial
  | x :: xs, vs, h => by
    simp only [evXs] at h
    split at h
    · rename_i v hv
      split at h
      · rename_i us hus; cases h; exact ⟨evX_sound hv ht, evXs_sound ht hus⟩
      · cases h
    · cases h

theorem evParts_sound {t : Temps} {a : Act} (ht : TR μ t a.tmps) : ∀ {ps : List (Nat × Operand)} {vs : List (Nat × AV)}, evParts t ps = some vs →
    All2 (fun (p : Nat × AV) (q : Nat × Value) => p.1 = q.1 ∧ VR μ p.2 q.2) vs (ps.map fun (i, x) => (i, a.eval x))
  | [], vs, h => by simp [evParts] at h; subst h; trivial
  | (i, x) :: ps, vs, h => by
    simp only [evParts] at h
    split at h
    · rename_i v hv
      split at h
      · rename_i us hus; cases h; exact ⟨⟨rfl, evX_sound hv ht⟩, evParts_sound ht hus⟩
      · cases h
    · cases h

/-! ### types -/

theorem run_und {t : TypeId} {d : TypeDesc} (h : P.underlying t = some d) (w : World) : (underlying t).run P w = .ok d w := by
  simp [underlying, h]

theorem run_size {t : TypeId} {n : Nat} (h : sizeT P t = some n) (w : World) : (sizeOf t).run P w = .ok n w := by
  unfold sizeT at h
  split at h
  · rename_i i hi; cases h; simp [sizeOf, typeInfo, hi]
  · cases h

theorem run_zero {t : TypeId} {z : AV} (h : zeroT P t = some z) (w : World) : ∃ v, (zeroValue t).run P w = .ok v w ∧ ∀ μ, VR0 μ z v := by
  unfold zeroT at h
  split at h
  · rename_i i hi
    split at h
    · rename_i v hv; exact ⟨v, by simp [zeroValue, typeInfo, hi, hv], fun μ => absV_sound0 h⟩
    · cases h
  · cases h

theorem run_zero_all {t : TypeId} {z : AV} (h : zeroT P t = some z) : ∃ v, (∀ w, (zeroValue t).run P w = .ok v w) ∧ ∀ μ, VR0 μ z v := by
  unfold zeroT at h
  split at h
  · rename_i i hi
    split at h
    · rename_i v hv; exact ⟨v, fun w => by simp [zeroValue, typeInfo, hi, hv], fun μ => absV_sound0 h⟩
    · cases h
  · cases h

theorem VR.to0' {x : AV} {v : Value} (h : VR μ x v) (hx : x.cells.all AV.one = true) : VR0 μ x v :=
  h.to0 fun vs e => by subst e; simp [AV.cells, AV.one] at hx

theorem run_isAgg {t : TypeId} {b : Bool} (h : isAggT P t = some b) (w : World) : (isAgg t).run P w = .ok b w := by
  unfold isAggT at h
  split at h <;> first
    | (rename_i hd; cases h; simp [isAgg, run_und hd]; done)
    | (rename_i d h1 h2 hd; cases h; simp only [isAgg, Sem.run_bind, run_und hd, Result.andThen_ok]; cases d <;> first | rfl | exact absurd rfl (h1 _) | exact absurd rfl (h2 _ _) | simp_all)
    | cases h

theorem partA_sound {t : TypeId} {cs : List AV} {vs : Array Value} {off : Nat} {x : AV} (h : partA P t cs off = some x) (hv : All2 (CR μ) cs vs.toList) (w : World) :
    ∃ y, (part t vs off).run P w = .ok y w ∧ VR0 μ x y := by
  unfold partA at h
  split at h
  · rename_i n h1 h2
    rw [cond_eq_ite] at h
    split at h
    · rename_i hc
      cases h
      refine ⟨_, by simp only [part, Sem.run_bind, run_isAgg h1, Result.andThen_ok, if_true, run_size h2, Sem.run_pure]; rfl, ?_⟩
      simp only [VR0]
      have := (hv.drop off).take n
      simpa [Array.toList_extract, List.extract_eq_take_drop] using this
    · cases h
  · rename_i n h1 h2
    obtain ⟨y, hy, hr⟩ := hv.get h
    refine ⟨y, ?_, VR0.ofC hr⟩
    simp only [part, Sem.run_bind, run_isAgg h1, Result.andThen_ok, Bool.false_eq_true, if_false]
    have : vs[off]? = some y := by simpa using hy
    simp [this]
  · cases h

end Go.Ab
