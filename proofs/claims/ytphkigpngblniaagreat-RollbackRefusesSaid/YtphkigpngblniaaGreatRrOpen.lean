/- A struct of five numbers as an argument: its cells; it reads so in whatever world. -/
import Derived.OpenShut
import Derived.ProofKit
import Derived.Deep.Fields
namespace Go.Proofs
open Go.ChangeShapes Go.WideShapes Go.RowKit Go.Deep

theorem take_one {α : Type} {cs : List α} {i : Nat} {c : α} (h : cs[i]? = some c) : (cs.drop i).take 1 = [c] := by
  obtain ⟨hl, he⟩ := List.getElem?_eq_some_iff.1 h
  rw [List.drop_eq_getElem_cons hl, List.take_succ_cons, List.take_zero, he]

theorem open_ints5 {H : Type} {enc : TypeId × Value → H} {P : Program} {w : World} {base : Nat} {spare : Nat → Bool} {held : Bool} {r : Reach} {b0 : Nat} {t : TypeId} {f0 f1 f2 f3 f4 : Field} {k0 k1 k2 k3 k4 : IntKind} {v : Value} {d : DataW H} {p : List MemPlace}
    (hs : P.underlying t = some (.struct #[f0, f1, f2, f3, f4])) (hone : oneCellFields P #[f0, f1, f2, f3, f4] = true) (hC : P.cellsOf t = 5)
    (e0 : P.underlying f0.type = some (.int k0)) (e1 : P.underlying f1.type = some (.int k1)) (e2 : P.underlying f2.type = some (.int k2)) (e3 : P.underlying f3.type = some (.int k3)) (e4 : P.underlying f4.type = some (.int k4))
    (hv : Value.okWide P w r b0 t v) (h : DataW.Trod enc P w base spare held t v d p) :
    ∃ n0 n1 n2 n3 n4 : Int, v = .agg #[.int k0 n0, .int k1 n1, .int k2 n2, .int k3 n3, .int k4 n4] ∧ p = [] ∧
      (Lit.int k0 n0).wf = true ∧ (Lit.int k1 n1).wf = true ∧ (Lit.int k2 n2).wf = true ∧ (Lit.int k3 n3).wf = true ∧ (Lit.int k4 n4).wf = true ∧
      ∀ (w' : World) (base' : Nat) (spare' : Nat → Bool) (held' : Bool), DataW.Trod enc P w' base' spare' held' t v d [] := by
  obtain ⟨cs, rfl, hsz⟩ := okWide_struct hs hv
  obtain ⟨fuel, hf⟩ := h
  obtain ⟨xs, n, _, hx, hl, hlen, hg⟩ := DataW.trod_struct hs hf
  obtain ⟨o0, c0⟩ := hone_of hone 0 f0 rfl
  obtain ⟨o1, c1⟩ := hone_of hone 1 f1 rfl
  obtain ⟨o2, c2⟩ := hone_of hone 2 f2 rfl
  obtain ⟨o3, c3⟩ := hone_of hone 3 f3 rfl
  obtain ⟨o4, c4⟩ := hone_of hone 4 f4 rfl
  obtain ⟨l⟩ := cs
  match l, hsz.trans hC with
  | [a0, a1, a2, a3, a4], _ =>
    match xs, hlen with
    | [y0, y1, y2, y3, y4], _ =>
      have g0 := hg 0 f0 rfl
      have g1 := hg 1 f1 rfl
      have g2 := hg 2 f2 rfl
      have g3 := hg 3 f3 rfl
      have g4 := hg 4 f4 rfl
      simp only [Value.cells, o0, o1, o2, o3, o4, c0, c1, c2, c3, c4, List.drop_zero, List.drop_succ_cons, List.take_succ_cons, List.take_zero, List.getElem?_cons_zero, List.getElem?_cons_succ] at g0 g1 g2 g3 g4
      obtain ⟨n0, q0, rfl, w0⟩ := DataW.trod_int e0 g0
      cases q0
      obtain ⟨n1, q1, rfl, w1⟩ := DataW.trod_int e1 g1
      cases q1
      obtain ⟨n2, q2, rfl, w2⟩ := DataW.trod_int e2 g2
      cases q2
      obtain ⟨n3, q3, rfl, w3⟩ := DataW.trod_int e3 g3
      cases q3
      obtain ⟨n4, q4, rfl, w4⟩ := DataW.trod_int e4 g4
      cases q4
      cases n with
      | zero => simp [DataW.trod] at g0
      | succ m =>
        simp only [Prod.mk.injEq] at hx
        obtain ⟨rfl, rfl⟩ := hx
        refine ⟨n0, n1, n2, n3, n4, rfl, by simp, w0, w1, w2, w3, w4, fun w' base' spare' held' => ⟨m + 2, ?_⟩⟩
        have := trod_struct_mk (enc := enc) (w := w') (base := base') (spare := spare') (held := held') (n := m + 1) (cs := (Value.agg #[.int k0 n0, .int k1 n1, .int k2 n2, .int k3 n3, .int k4 n4]).cells.toList)
          (xs := [(.lit (.int k0 n0), []), (.lit (.int k1 n1), []), (.lit (.int k2 n2), []), (.lit (.int k3 n3), []), (.lit (.int k4 n4), [])]) hs (by simp [Value.cells, hC])
          (by simp [Value.cells, o0, o1, o2, o3, o4, c0, c1, c2, c3, c4, trod_int_mk m e0 w0, trod_int_mk m e1 w1, trod_int_mk m e2 w2, trod_int_mk m e3 w3, trod_int_mk m e4 w4])
        simpa using this
end Go.Proofs
