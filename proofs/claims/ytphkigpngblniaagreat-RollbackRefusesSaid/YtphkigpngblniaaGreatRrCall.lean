/- joustplay.Config, called: an arena of a size from 1 to 3, to 3, to 4, and of a window from 1 to 16. -/
import Derived.Test.YtphkigpngblniaaGreatRrCfg
import Derived.Test.YtphkigpngblniaaGreatSorted
import Derived.Test.YtphkigpngblniaaGreatClone
namespace Go.Proofs
open Go.Ab

theorem five {α β : Type} {R : α → β → Prop} {x0 x1 x2 x3 x4 : α} {l : List β} (h : All2 R [x0, x1, x2, x3, x4] l) : ∃ y0 y1 y2 y3 y4, l = [y0, y1, y2, y3, y4] ∧ R x0 y0 ∧ R x1 y1 ∧ R x2 y2 ∧ R x3 y3 ∧ R x4 y4 := by
  match l, h with
  | [y0, y1, y2, y3, y4], ⟨h0, h1, h2, h3, h4, _⟩ => exact ⟨y0, y1, y2, y3, y4, rfl, h0, h1, h2, h3, h4⟩

theorem sym_iff [Rho] {μ : Mu} {k : IntKind} {e : SE} {lo hi o : Int} {v : Value} : CR μ (.sym k e lo hi o) v ↔ v = .int k (e.val + o) ∧ lo ≤ e.val ∧ e.val ≤ hi := by
  constructor
  · intro h; exact VR.sym (VR.ofC h)
  · rintro ⟨rfl, h⟩; simp [CR, h]

theorem knownCall_mono [Rho] {P : Program} {f : FuncId} {args args' : List AV} {r r' : AV} (h : KnownCall P f args' r') (ha : ∀ vs, All2 (VR fun _ _ => none) args vs → All2 (VR fun _ _ => none) args' vs) (hr : ∀ vs, All2 (VR fun _ _ => none) args vs → ∀ y, VR (fun _ _ => none) r' y → VR (fun _ _ => none) r y) : KnownCall P f args r := by
  intro w vs hv
  refine (h w vs (ha vs hv)).mono ?_
  rintro e w' ⟨y, rfl, hy, hk⟩
  exact ⟨y, rfl, hr vs hv y hy, hk⟩

/-- What the arena is of a number, where one is not right: one and its remainder. -/
def bend (a m : Int) : Int := (IntKind.u64.wrap a).tmod m + 1

theorem bend_pos {a m : Int} (h0 : 0 ≤ a) (h1 : a ≤ 9223372036854775807) : (a + 0).tmod m + 1 = bend a m := by
  unfold bend
  rw [show IntKind.u64.wrap a = a from by simp [IntKind.wrap, IntKind.signed, IntKind.bits]; omega, Int.add_zero]

theorem bend_any {a m : Int} : (IntKind.u64.wrap (a + 0) + 0).tmod m + 1 = bend a m := by unfold bend; simp

theorem bend_range {a : Int} {m : Nat} (hm : 0 < m) : 1 ≤ bend a m ∧ bend a m ≤ m := by
  unfold bend
  have h0 : 0 ≤ IntKind.u64.wrap a := by letI : Rho := ⟨fun _ => 0⟩; rw [← wrapA_eq]; exact wrapU_nonneg a
  have h1 : (IntKind.u64.wrap a).tmod m < m := Int.tmod_lt_of_pos _ (by omega)
  have h2 : 0 ≤ (IntKind.u64.wrap a).tmod m := Int.tmod_nonneg _ h0
  omega

/-- The value that an arena is. -/
abbrev cfgV (a b c d e : Int) : Value := .agg #[.int .i64 a, .int .i64 b, .int .i64 c, .int .i64 d, .int .u64 e]

theorem cfgA_iff [Rho] {μ : Mu} {a b c d e f g h : Int} {v : Value} : VR μ (Tryz.cfgA a b c d e f g h) v ↔ v = cfgV (Rho.val 0) (Rho.val 1) (Rho.val 2) (Rho.val 3) (Rho.val 4) ∧ (a ≤ Rho.val 0 ∧ Rho.val 0 ≤ b) ∧ (c ≤ Rho.val 1 ∧ Rho.val 1 ≤ d) ∧ (e ≤ Rho.val 2 ∧ Rho.val 2 ≤ f) ∧ (g ≤ Rho.val 3 ∧ Rho.val 3 ≤ h) ∧ 0 ≤ Rho.val 4 ∧ Rho.val 4 ≤ 18446744073709551615 := by
  constructor
  · intro hv
    obtain ⟨vs, rfl, hv⟩ := hv.agg
    obtain ⟨y0, y1, y2, y3, y4, hl, h0, h1, h2, h3, h4⟩ := five hv
    obtain ⟨l⟩ := vs
    simp only at hl
    subst hl
    rw [sym_iff] at h0 h1 h2 h3 h4
    simp only [SE.val, Int.add_zero] at h0 h1 h2 h3 h4
    obtain ⟨rfl, h0⟩ := h0
    obtain ⟨rfl, h1⟩ := h1
    obtain ⟨rfl, h2⟩ := h2
    obtain ⟨rfl, h3⟩ := h3
    obtain ⟨rfl, h4⟩ := h4
    exact ⟨rfl, h0, h1, h2, h3, h4⟩
  · rintro ⟨rfl, h0, h1, h2, h3, h4⟩
    refine VR.of0 ?_
    simp only [VR0, All2, sym_iff, SE.val, Int.add_zero, and_true, true_and]
    exact ⟨h0, h1, h2, h3, h4⟩

theorem cfgS_mk [Rho] {μ : Mu} {c r p : Int} (h : 1 ≤ Rho.val 5 ∧ Rho.val 5 ≤ 16) (h4 : 0 ≤ Rho.val 4 ∧ Rho.val 4 ≤ 18446744073709551615) : VR μ (Tryz.cfgS c r p) (cfgV c r p (Rho.val 5) (Rho.val 4)) := by
  refine VR.of0 ?_
  simp only [VR0, All2, sym_iff, SE.val, Int.add_zero, and_true, true_and]
  exact ⟨by simp [CR], by simp [CR], by simp [CR], h, h4⟩

/-- What is answered where the arena is bent. -/
theorem bent_of [Rho] {μ : Mu} {x0 x1 x2 x3 : AV} {y : Value} (h : VR μ (.agg [x0, x1, x2, x3, Tryz.seed]) y)
    (h0 : ∀ v, CR μ x0 v → v = .int .i64 (bend (Rho.val 0) 3)) (h1 : ∀ v, CR μ x1 v → v = .int .i64 (bend (Rho.val 1) 3)) (h2 : ∀ v, CR μ x2 v → v = .int .i64 (bend (Rho.val 2) 4)) (h3 : ∀ v, CR μ x3 v → v = .int .i64 (bend (Rho.val 3) 8)) :
    y = cfgV (bend (Rho.val 0) 3) (bend (Rho.val 1) 3) (bend (Rho.val 2) 4) (bend (Rho.val 3) 8) (Rho.val 4) := by
  obtain ⟨vs, rfl, hv⟩ := h.agg
  obtain ⟨y0, y1, y2, y3, y4, hl, g0, g1, g2, g3, g4⟩ := five hv
  obtain ⟨l⟩ := vs
  simp only at hl
  subst hl
  rw [sym_iff] at g4
  simp only [SE.val, Int.add_zero] at g4
  rw [h0 _ g0, h1 _ g1, h2 _ g2, h3 _ g3, g4.1]

theorem ry_is [Rho] {μ : Mu} {i : Nat} {m : Int} {v : Value} (h : CR μ (Tryz.ry i m) v) : v = .int .i64 (bend (Rho.val i) m) := by
  rw [sym_iff] at h
  rw [h.1]; simp only [SE.val]; rw [bend_any]

theorem rp_is [Rho] {μ : Mu} {i : Nat} {m : Int} (h0 : 0 ≤ Rho.val i) (h1 : Rho.val i ≤ 9223372036854775807) {v : Value} (h : CR μ (Tryz.rp i m) v) : v = .int .i64 (bend (Rho.val i) m) := by
  rw [sym_iff] at h
  rw [h.1]; simp only [SE.val]; rw [bend_pos h0 h1]

/-- An arena of which no number is known. -/
theorem cfgR_iff [Rho] {μ : Mu} {v : Value} : VR μ Tryz.cfgR v ↔ v = cfgV (Rho.val 0) (Rho.val 1) (Rho.val 2) (Rho.val 3) (Rho.val 4) ∧ (-9223372036854775808 ≤ Rho.val 0 ∧ Rho.val 0 ≤ 9223372036854775807) ∧ (-9223372036854775808 ≤ Rho.val 1 ∧ Rho.val 1 ≤ 9223372036854775807) ∧ (-9223372036854775808 ≤ Rho.val 2 ∧ Rho.val 2 ≤ 9223372036854775807) ∧ (-9223372036854775808 ≤ Rho.val 3 ∧ Rho.val 3 ≤ 9223372036854775807) ∧ 0 ≤ Rho.val 4 ∧ Rho.val 4 ≤ 18446744073709551615 := cfgA_iff

/-- May it stay as it is? -/
def fits (a b c d : Int) : Prop := (1 ≤ a ∧ a ≤ 3) ∧ (1 ≤ b ∧ b ≤ 3) ∧ (1 ≤ c ∧ c ≤ 4) ∧ 1 ≤ d ∧ d ≤ 16

theorem Tryz.cfgFits [Rho] (h : fits (Rho.val 0) (Rho.val 1) (Rho.val 2) (Rho.val 3)) (h5 : Rho.val 5 = Rho.val 3) : KnownCall Tryz.prog 5 [Tryz.cfgR] (Tryz.cfgS (Rho.val 0) (Rho.val 1) (Rho.val 2)) := by
  have hm : Tryz.prog.follows .mixedOrders = true := Tryz.lays189.mixed
  refine knownCall_mono (knownCall_answer hm noPrims_L noPrims_S Tryz.cfgOk rfl) (fun vs hv => ?_) (fun vs hv y hy => ?_)
  · match vs, hv with
    | [v], ⟨h1, _⟩ =>
      rw [cfgR_iff] at h1
      exact ⟨cfgA_iff.2 ⟨h1.1, h.1, h.2.1, h.2.2.1, h.2.2.2, h1.2.2.2.2.2⟩, trivial⟩
  · rw [cfgA_iff] at hy
    obtain ⟨rfl, _, _, _, h3, h4⟩ := hy
    have := cfgS_mk (μ := fun _ _ => none) (c := Rho.val 0) (r := Rho.val 1) (p := Rho.val 2) (by rw [h5]; exact h3) h4
    rw [h5] at this
    exact this

theorem Tryz.cfgBends [Rho] (h : ¬ fits (Rho.val 0) (Rho.val 1) (Rho.val 2) (Rho.val 3)) (h5 : Rho.val 5 = bend (Rho.val 3) 8) : KnownCall Tryz.prog 5 [Tryz.cfgR] (Tryz.cfgS (bend (Rho.val 0) 3) (bend (Rho.val 1) 3) (bend (Rho.val 2) 4)) := by
  have hm : Tryz.prog.follows .mixedOrders = true := Tryz.lays189.mixed
  have w8 : 1 ≤ bend (Rho.val 3) 8 ∧ bend (Rho.val 3) 8 ≤ 8 := bend_range (a := Rho.val 3) (m := 8) (by decide)
  have key : ∀ {a b c d e f g h : Int} {r' : AV}, answer1 Tryz.prog noPrims 100000 10 5 [Tryz.cfgA a b c d e f g h] = some r' → numOnly r' = true →
      ((-9223372036854775808 ≤ Rho.val 0 ∧ Rho.val 0 ≤ 9223372036854775807) ∧ (-9223372036854775808 ≤ Rho.val 1 ∧ Rho.val 1 ≤ 9223372036854775807) ∧ (-9223372036854775808 ≤ Rho.val 2 ∧ Rho.val 2 ≤ 9223372036854775807) ∧ (-9223372036854775808 ≤ Rho.val 3 ∧ Rho.val 3 ≤ 9223372036854775807) →
        ((a ≤ Rho.val 0 ∧ Rho.val 0 ≤ b) ∧ (c ≤ Rho.val 1 ∧ Rho.val 1 ≤ d) ∧ (e ≤ Rho.val 2 ∧ Rho.val 2 ≤ f) ∧ (g ≤ Rho.val 3 ∧ Rho.val 3 ≤ h)) ∧
        ∀ y, VR (fun _ _ => none) r' y → y = cfgV (bend (Rho.val 0) 3) (bend (Rho.val 1) 3) (bend (Rho.val 2) 4) (bend (Rho.val 3) 8) (Rho.val 4)) →
      KnownCall Tryz.prog 5 [Tryz.cfgR] (Tryz.cfgS (bend (Rho.val 0) 3) (bend (Rho.val 1) 3) (bend (Rho.val 2) 4)) := by
    intro a b c d e f g h r' ha hn hb
    refine knownCall_mono (knownCall_answer hm noPrims_L noPrims_S ha hn) (fun vs hv => ?_) (fun vs hv y hy => ?_)
    · match vs, hv with
      | [v], ⟨h1, _⟩ =>
        rw [cfgR_iff] at h1
        have := (hb ⟨h1.2.1, h1.2.2.1, h1.2.2.2.1, h1.2.2.2.2.1⟩).1
        exact ⟨cfgA_iff.2 ⟨h1.1, this.1, this.2.1, this.2.2.1, this.2.2.2, h1.2.2.2.2.2⟩, trivial⟩
    · match vs, hv with
      | [v], ⟨h1, _⟩ =>
        rw [cfgR_iff] at h1
        have := (hb ⟨h1.2.1, h1.2.2.1, h1.2.2.2.1, h1.2.2.2.2.1⟩).2 y hy
        rw [this]
        have hs := cfgS_mk (μ := fun _ _ => none) (c := bend (Rho.val 0) 3) (r := bend (Rho.val 1) 3) (p := bend (Rho.val 2) 4) (by rw [h5]; omega) h1.2.2.2.2.2
        rw [h5] at hs
        exact hs
  unfold fits at h
  by_cases c0 : Rho.val 0 ≤ 0
  · exact key Tryz.cfg0 rfl fun hf => ⟨by omega, fun y hy => bent_of hy (fun _ => ry_is) (fun _ => ry_is) (fun _ => ry_is) (fun _ => ry_is)⟩
  by_cases c1 : 5 ≤ Rho.val 0
  · exact key Tryz.cfg1 rfl fun hf => ⟨by omega, fun y hy => bent_of hy (fun _ => rp_is (by omega) (by omega)) (fun _ => ry_is) (fun _ => ry_is) (fun _ => ry_is)⟩
  by_cases c2 : Rho.val 1 ≤ 0
  · exact key Tryz.cfg2 rfl fun hf => ⟨by omega, fun y hy => bent_of hy (fun _ => rp_is (by omega) (by omega)) (fun _ => ry_is) (fun _ => ry_is) (fun _ => ry_is)⟩
  by_cases c3 : 5 ≤ Rho.val 1
  · exact key Tryz.cfg3 rfl fun hf => ⟨by omega, fun y hy => bent_of hy (fun _ => rp_is (by omega) (by omega)) (fun _ => rp_is (by omega) (by omega)) (fun _ => ry_is) (fun _ => ry_is)⟩
  by_cases c4 : Rho.val 2 ≤ 0
  · exact key Tryz.cfg4 rfl fun hf => ⟨by omega, fun y hy => bent_of hy (fun _ => rp_is (by omega) (by omega)) (fun _ => rp_is (by omega) (by omega)) (fun _ => ry_is) (fun _ => ry_is)⟩
  by_cases c5 : 7 ≤ Rho.val 2
  · exact key Tryz.cfg5 rfl fun hf => ⟨by omega, fun y hy => bent_of hy (fun _ => rp_is (by omega) (by omega)) (fun _ => rp_is (by omega) (by omega)) (fun _ => rp_is (by omega) (by omega)) (fun _ => ry_is)⟩
  by_cases c6 : Rho.val 3 ≤ 0
  · exact key Tryz.cfg6 rfl fun hf => ⟨by omega, fun y hy => bent_of hy (fun _ => rp_is (by omega) (by omega)) (fun _ => rp_is (by omega) (by omega)) (fun _ => rp_is (by omega) (by omega)) (fun _ => ry_is)⟩
  by_cases c7 : 17 ≤ Rho.val 3
  · exact key Tryz.cfg7 rfl fun hf => ⟨by omega, fun y hy => bent_of hy (fun _ => rp_is (by omega) (by omega)) (fun _ => rp_is (by omega) (by omega)) (fun _ => rp_is (by omega) (by omega)) (fun _ => rp_is (by omega) (by omega))⟩
  by_cases c8 : 4 ≤ Rho.val 0
  · exact key Tryz.cfg8 rfl fun hf => ⟨by omega, fun y hy => bent_of hy (fun _ => rp_is (by omega) (by omega)) (fun _ => rp_is (by omega) (by omega)) (fun _ => rp_is (by omega) (by omega)) (fun _ => rp_is (by omega) (by omega))⟩
  by_cases c9 : 4 ≤ Rho.val 1
  · exact key Tryz.cfg9 rfl fun hf => ⟨by omega, fun y hy => bent_of hy (fun _ => rp_is (by omega) (by omega)) (fun _ => rp_is (by omega) (by omega)) (fun _ => rp_is (by omega) (by omega)) (fun _ => rp_is (by omega) (by omega))⟩
  · exact key Tryz.cfg10 rfl fun hf => ⟨by omega, fun y hy => bent_of hy (fun _ => rp_is (by omega) (by omega)) (fun _ => rp_is (by omega) (by omega)) (fun _ => rp_is (by omega) (by omega)) (fun _ => rp_is (by omega) (by omega))⟩

set_option maxRecDepth 1000000 in
theorem Tryz.awake7 : answer1 Tryz.prog (prims Tryz.prog 100000 [56] [109] [111] [21]) 100000 200 7 [] = some (.bool true) := by kernel_rfl

theorem Tryz.awakeK : KnownTrue Tryz.prog 7 := by
  letI : Rho := ⟨fun _ => 0⟩
  have hm : Tryz.prog.follows .mixedOrders = true := Tryz.lays189.mixed
  have hl := prims_L (P := Tryz.prog) 100000 [56] [109] [111] [21]
  have hs : PrimsS Tryz.prog (prims Tryz.prog 100000 [56] [109] [111] [21]) := by
    refine prims_S hm 100000 (kt := 3) Tryz.underlying3 (fun f hf g hg => ?_) (fun f hf => ?_)
    · simp only [List.mem_cons, List.mem_nil_iff, or_false] at hf hg
      subst hf
      subst hg
      exact Tryz.sortsKeys109
    · simp only [List.mem_cons, List.mem_nil_iff, or_false] at hf
      subst hf
      exact Tryz.clonesMap111
  have h := Tryz.awake7
  unfold answer1 at h
  split at h
  · rename_i v s' he
    cases h
    exact knownTrue_of (evCall_sound hm hl hs 100000 200) he
  · cases h
end Go.Proofs
