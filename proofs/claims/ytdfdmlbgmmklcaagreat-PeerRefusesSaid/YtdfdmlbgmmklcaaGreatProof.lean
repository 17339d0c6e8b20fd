/-
  The proof of 'Rows.PeerRefusesSaid': the shell is the guide's (proof-skeleton.mjs); the walk is by evaluation in the kernel (AbA and what follows), whose soundness is shown there.
-/
import Derived.Test.YtdfdmlbgmmklcaaGreatRows
import Derived.WalkKit
import Derived.ProofKit
import Derived.OpenShut
import Derived.Test.YtdfdmlbgmmklcaaGreatRun
import Derived.Test.YtdfdmlbgmmklcaaGreatRun2
namespace Go.Proofs.YtdfdmlbgmmklcaaGreat.peerRefuses
open Go.ChangeShapes Go.WideShapes Go.ChangeAt Go.RowKit
set_option linter.unusedVariables false      -- a walk need not use every 'w<i>' (that an integer argument fits its kind)

theorem own : ownKnob Tryz.prog.godebug = none := by kernel_rfl

/-- The Go text returns true, whatever the argument; nothing that lay before has turned. -/
theorem walk (a0 : Int) (w : World) :
    Calls Tryz.prog 3 #[.int .i64 a0] w fun e w' => e = .returned (.bool true) ∧ w.keptBut w' (fun _ => False) := by
  have hm : Tryz.prog.follows .mixedOrders = true := Tryz.lays189.mixed
  have hl := Go.Ab.prims_L (P := Tryz.prog) 100000 [44] [94, 158] [49, 160] [48]
  have hs : Go.Ab.PrimsS Tryz.prog (Go.Ab.prims Tryz.prog 100000 [44] [94, 158] [49, 160] [48]) := by
    refine Go.Ab.prims_S hm 100000 (kt := 3) Tryz.underlying3 (fun f hf g hg => ?_) (fun f hf => ?_)
    · simp only [List.mem_cons, List.mem_nil_iff, or_false] at hf hg
      subst hf
      rcases hg with rfl | rfl
      · exact Tryz.sortsKeys94
      · exact Tryz.sortsKeys158
    · simp only [List.mem_cons, List.mem_nil_iff, or_false] at hf
      rcases hf with rfl | rfl
      · exact Tryz.clonesMap49
      · exact Tryz.clonesMap160
  have hcall := Go.Ab.evCall_sound hm hl hs 100000 201
  obtain ⟨k, hk, he⟩ := Go.Ab.rem_mem a0 12 (by decide)
  have hks : ((Go.Ab.wrapA .u64 a0).tmod 12) ∈ ([0, 1, 2, 3, 4, 5, 6, 7, 8, 9, 10, 11] : List Int) := by
    have he' : (Go.Ab.wrapA .u64 a0).tmod 12 = (k : Int) := he
    rw [he']
    have : k = 0 ∨ k = 1 ∨ k = 2 ∨ k = 3 ∨ k = 4 ∨ k = 5 ∨ k = 6 ∨ k = 7 ∨ k = 8 ∨ k = 9 ∨ k = 10 ∨ k = 11 := by omega
    rcases this with rfl | rfl | rfl | rfl | rfl | rfl | rfl | rfl | rfl | rfl | rfl | rfl <;> decide
  obtain ⟨c, hb, hdst⟩ : ∃ c, Tryz.f3.body = some c ∧ Go.Ab.dstsOk Tryz.f3.ntmps c = true := ⟨_, rfl, by kernel_rfl⟩
  obtain ⟨s', hev⟩ := Go.Ab.true_of_all (a := a0) Tryz.isRem Tryz.underlying3 Tryz.underlying37 rfl (by decide) hks (Tryz.argThere a0) (Tryz.allTrue a0) hb hdst (by kernel_rfl)
  refine Go.Ab.calls_true hcall (b := ⟨0, []⟩) (args := [.int .i64 a0]) (s' := s') ?_ (vs := [.int .i64 a0]) w (by simp [Go.Ab.All2, Go.Ab.VR, Go.Ab.VR0, Go.Ab.CR])
  exact Go.Ab.evCall_step rfl Tryz.func3 hev

/-- The row's word where nothing is read through a place. -/
theorem post_plain {P : Program} {H : Type} {enc : TypeId × Value → H} {f : Func} {s : ChangeSpec} {apart fresh handsOn again : Bool} {W W' : World} {args : Array Value} {v : Value} {ds gs : List (DataW H)}
    (hW : DataW.Whole enc P f.params.toList s.vars apart W args.toList ds gs [])
    (hres : ∀ (b : Nat) (sp : Nat → Bool) (hd : Bool), DataW.TrodAll enc P W' b sp hd f.resultTypes.toList (v.resultList f.resultTypes.size) (s.fn H (ds ++ gs)).results [])
    (hargs : ∀ sp : Nat → Bool, DataW.TrodAll enc P W' 0 sp true f.params.toList args.toList (s.fn H (ds ++ gs)).args [])
    (hvars : ∀ sp : Nat → Bool, DataW.TrodVars enc P W' sp s.vars (s.fn H (ds ++ gs)).vars [])
    (hk : W.keptBut W' (fun _ => False))
    (hok : ∀ (j : Nat) (t : TypeId) (r : Value), f.resultTypes[j]? = some t → (v.resultList f.resultTypes.size)[j]? = some r → Value.okWide P W' .any 0 t r) :
    s.post enc P f apart fresh handsOn again W args v W' := by
  refine ⟨ds, gs, [], [], [], [], hW, hres _ _ _, hargs _, hvars _, World.keptBut_mono (fun _ h => h.elim) hk, fun _ => ?_⟩
  refine ⟨hok, _, _, [], ⟨[], [], trodAll_append (hargs _) (hres _ _ _), hvars _, rfl, ?_, ?_⟩, ?_⟩
  · intro b off hp; cases hp
  · intro _; exact List.nodup_nil
  · intro p hp _; cases hp

/-! ### THE ROW's STEP: WRITTEN OUT: LEAVE IT -/
set_option maxRecDepth 100000 in
theorem lifted (os : Os) (started : os.Started) (H : Type) (enc : TypeId × Value → H) :
    ReturnsInHanded {} Tryz.checked os 3 .any (Rows.peerRefusesSpec.pre6 enc Tryz.prog Tryz.f3 Rows.peerRefusesRow.domain false) (Rows.peerRefusesSpec.post enc Tryz.prog Tryz.f3 false true false false) := by
  refine returnsInHanded_of_change (C := Tryz.checked) own started (by kernel_rfl) Tryz.func3
    (ChangeSpec.witness6 (enc := enc) (C := Tryz.checked) false ⟨#[], #[.int .i64 0], []⟩ 8 (by kernel_rfl) (by kernel_rfl) (by kernel_rfl) (by kernel_rfl)) ?_
  intro W base args ds gs before hval0 hW hcnd _
  have hval : ∀ (j : Nat) t v, Tryz.f3.params[j]? = some t → args[j]? = some v → Value.okWide Tryz.prog W .any base t v := hval0
  have hW' := hW
  obtain ⟨p, q, hA0, hV, rfl, hfz, hnd⟩ := hW
  have hA : DataW.TrodAll enc Tryz.prog W 0 (fun _ => true) true Tryz.f3.params.toList args.toList ds p := hA0
  rw [Tryz.params3] at hA hval
  obtain ⟨v0, vs0, d0, ds0, p0, q0, hargs, rfl, rfl, h0, r0⟩ := trodAll_cons hA
  obtain ⟨rfl, rfl, rfl⟩ := trodAll_nil r0
  obtain rfl : args = #[v0] := by cases args; simp_all
  obtain ⟨rfl, rfl⟩ := trodVars_none hV
  obtain ⟨a0, rfl, rfl, rfl, w0⟩ := open_int Tryz.underlying3 (hval 0 3 v0 rfl rfl) h0
  clear hA0 hval0
  simp only [List.append_nil] at hW'
  refine (walk a0 W).mono fun e W' ⟨he, hg⟩ => ?_
  subst he
  exact ⟨_, rfl, post_plain hW' (fun _ _ _ => (trodAll_cons_mk (shut_bool Tryz.underlying4 _) trodAll_mk0)) (fun sp => (trodAll_cons_mk (shut_int Tryz.underlying3 w0) trodAll_mk0)) (fun _ => rfl) hg (ok_one (by kernel_rfl) rfl (okWide_bool_mk Tryz.underlying4 _))⟩

theorem over : Rows.peerRefusesRow.holds Tryz.pinned (OpenSpec.ofChange Rows.peerRefusesSpec) :=
  OpenClaim.holds_of_wide 3 Tryz.f3 rfl rfl rfl rfl rfl rfl rfl ⟨rfl, rfl, rfl, rfl, rfl⟩ rfl rfl rfl rfl rfl (by kernel_rfl) Tryz.func3 (by kernel_rfl)
    (of_decide_eq_true (by kernel_rfl)) (by unfold Func.isWrapper; first | (rw [if_pos (by decide +kernel)]; kernel_rfl) | (rw [if_neg (by decide +kernel)]; exact ⟨rfl, rfl⟩))
    (fun os started H enc _ => lifted os started H enc)

/-- ████ THE STATEMENT ████ -/
theorem proved : Rows.PeerRefusesSaid :=
  over
#print axioms proved
end Go.Proofs.YtdfdmlbgmmklcaaGreat.peerRefuses
