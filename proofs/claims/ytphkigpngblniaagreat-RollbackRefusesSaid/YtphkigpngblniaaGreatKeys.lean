/- maps.Keys' iterators over maps with int keys (lines of a worked proof, turned to this program). -/
import Derived.RangeFuncGives
import Derived.RangeFuncSeq
import Derived.RangeFuncBound
import Derived.Sort.MapsRangeIn
import Derived.Lib.SlKeysI
import Derived.WalkKit
import Derived.OwnWalkIn
import Derived.TacticsInMore
import Derived.RegionIn
import Derived.LoopNIn
import Derived.LoopIn
import Derived.Laws.IdiomRangeMap
import Derived.Test.YtphkigpngblniaaGreatProg
namespace Go.Proofs
open Go.RowKit Go.Maps Go.Sort

/-- How an element reads: as nothing. -/
abbrev Tryz.RT : Value → Option (DataW Unit × List MemPlace) := fun _ => some (.lit (.bool true), [])

theorem Tryz.lawK : Keyed Tryz.prog 3 := int_keyed Tryz.underlying3

set_option maxRecDepth 100000 in
set_option maxHeartbeats 1000000 in
/-- The iterator gives the keys, each once, in some order. -/
theorem Tryz.keysN109 (F : Fence) (n : Nat) (h10 : F.fn 109) (hro : F.round = none) (hn : 1 ≤ n) (l Bm oB b nn : Nat) (D0 : DataW Unit) (J : List Int → World → Prop)
    (hY : ∀ pre x W, J pre W → pre.length < Maps.size D0 → YieldAt F (n - 1) Tryz.prog l #[encZ x] W fun e W' => e = .returned (.bool true) ∧ J (pre ++ [x]) W' ∧ KeepsWalks W W')
    (W : World) (hJ : AbidesFrom W.heap.size J) (hm : W.cell? ⟨Bm, oB, none⟩ = some (.map (some b))) (hown : W.ownsMap Tryz.prog 3 Tryz.RT b nn D0) (h0 : J [] W) :
    CallsIn F n Tryz.prog 109 #[.func (.yield l) #[] #[], .pointer (some ⟨Bm, oB, none⟩)] W fun e W' => (∃ v, e = .returned v) ∧ ∃ ss : List Int, ss.Perm (intKeys D0) ∧ J ss W' := by
  refine callsIn_of_wp Tryz.func109 rfl h10 ?_ hro
  simp only [Tryz.ntmps109, List.size_toArray, List.length_cons, List.length_nil, Nat.reduceAdd, Nat.reduceSub, Array.replicate_succ, Array.replicate_zero, List.push_toArray, List.append_toArray, List.nil_append, List.cons_append]
  gi_wp2_with (first
    | (gi_at_range; refine wpListIn_range_own _ rfl _ 90 rfl 3 97 Tryz.lawK Tryz.underlying90 _ b nn _ rfl hown ?_; intro w0 hrg0 hg0 hs0)
    | gi_in)
  go_frame
  gi_loopw [3] (fun _ wr => ∃ (left : Lit → Bool) (cnt : Nat) (ss : List Int), wr.ranges Tryz.prog 3 Tryz.RT b W.heap.size nn D0 left cnt ∧ ss.length + cnt ≤ Maps.size D0 ∧ CollectedI D0 left ss ∧ J ss wr)
    (fun _ wr => wr.rangeLeft b W.heap.size)
  case atStart =>
    exact ⟨_, _, [], hrg0, by simp, CollectedI.start D0, hJ [] W w0 none h0 hg0 (fun r e => by cases e)⟩
  case round =>
    obtain ⟨left, cnt, ss, hrg, hcs, hC, hJs⟩ := hrel
    gi_wp2_with (first
      | (gi_at_next; refine wpListIn_next_ranges _ rfl _ rfl 3 Tryz.lawK Tryz.RT encZ id (fun key kl hk => by obtain ⟨x, hx, _⟩ := Maps.keyOf_i64 Tryz.underlying3 hk; exact ⟨x, hx⟩) (fun v _ _ => ⟨v, rfl⟩) b W.heap.size nn _ _ _ rfl hrg ?_ ?_)
      | gi_in)
    · intro hc0 hl0
      gi_wp2
      go_end0
      exact ⟨⟨_, rfl⟩, ss, hC.perm hown Tryz.lawK Tryz.underlying3 hl0, hJs⟩
    · intro x c kl yd yp w2 cnt2 hkey hlk hv hv2 hat hrg2 hlt hg2 hs2 hen
      obtain ⟨x', ex, rfl, _⟩ := Maps.keyOf_i64 Tryz.underlying3 hkey
      obtain rfl : x = x' := encZ_inj ex
      have hJ2 : J ss w2 := hJ ss wr w2 (some W.heap.size) hJs hg2 (fun r e => by cases e; exact ⟨Nat.le_refl _, hrg.iter_walk⟩)
      obtain ⟨fn, tmps, assign, body, hy, hR⟩ := hY ss x w2 hJ2 (by omega)
      clear hs2
      gi_wp2
      refine hR.mono ?_
      rintro e W3 ⟨rfl, hJ3, hk3⟩
      gi_wp2
      have hrg3 := hrg2.of_walks hk3
      go_roundw
      case rel => exact ⟨_, cnt2, ss ++ [x], hrg3, by simp; omega, hC.step hlk hat, hJ3⟩
      case measure => rw [hrg3.left_eq, hrg.left_eq]; exact hlt

theorem Tryz.keysGives109 (F : Fence) (n : Nat) (h10 : F.fn 109) (hro : F.round = none) (hn : 1 ≤ n) (Bm oB b nn : Nat) (D0 : DataW Unit) (w : World) (hBm : Bm < w.heap.size)
    (hm : w.cell? ⟨Bm, oB, none⟩ = some (.map (some b))) (hown : w.ownsMap Tryz.prog 3 Tryz.RT b nn D0) :
    SeqGives F n Tryz.prog 109 #[.pointer (some ⟨Bm, oB, none⟩)] encZ (fun ss => ss.Perm (intKeys D0)) (Maps.size D0) w := fun l J W hW hJ hY h0 => by
  have hown' : W.ownsMap Tryz.prog 3 Tryz.RT b nn D0 := by
    have hbl := hown.lt
    obtain ⟨es, clock, hb, Ft, hs, hD⟩ := hown
    exact ⟨es, clock, (hW.block b hbl).trans hb, Ft, hs, hD⟩
  exact Tryz.keysN109 F n h10 hro hn l Bm oB b nn D0 J hY W hJ ((hW.cell (p := ⟨Bm, oB, none⟩) hBm).trans hm) hown' h0

set_option maxRecDepth 100000 in
set_option maxHeartbeats 1000000 in
theorem Tryz.keysNil109 (F : Fence) (n : Nat) (h10 : F.fn 109) (hro : F.round = none) (l Bm oB : Nat) (J : List Int → World → Prop) (W : World) (hJ : AbidesFrom W.heap.size J)
    (hm : W.cell? ⟨Bm, oB, none⟩ = some (.map none)) (h0 : J [] W) :
    CallsIn F n Tryz.prog 109 #[.func (.yield l) #[] #[], .pointer (some ⟨Bm, oB, none⟩)] W fun e W' => (∃ v, e = .returned v) ∧ ∃ ss : List Int, ss = [] ∧ J ss W' := by
  refine callsIn_of_wp Tryz.func109 rfl h10 ?_ hro
  simp only [Tryz.ntmps109, List.size_toArray, List.length_cons, List.length_nil, Nat.reduceAdd, Nat.reduceSub, Array.replicate_succ, Array.replicate_zero, List.push_toArray, List.append_toArray, List.nil_append, List.cons_append]
  have hrg := run_range_nilMap (P := Tryz.prog) W 90 3 97 Tryz.underlying90
  have hnx : ∀ ty, (Instr.next (.pointer (some ⟨W.heap.size, 0, none⟩)) false ty).run Tryz.prog (W.alloc (.mapIter none 0 #[] 0)) = _ := fun ty => run_next_nilMap _ ty 0 0 #[]
  gi_wp2
  refine wpIn_loop_rounds 1 ?_
  rw [roundsIn_succ]
  gi_wp2
  go_end0
  exact ⟨⟨_, rfl⟩, [], rfl, hJ [] W _ none h0 (World.grownBy_alloc W _ none) (fun r e => by cases e)⟩

theorem Tryz.keysGivesNil109 (F : Fence) (n : Nat) (h10 : F.fn 109) (hro : F.round = none) (Bm oB : Nat) (w : World) (hBm : Bm < w.heap.size) (hm : w.cell? ⟨Bm, oB, none⟩ = some (.map none)) :
    SeqGives F n Tryz.prog 109 #[.pointer (some ⟨Bm, oB, none⟩)] encZ (fun ss : List Int => ss = []) 0 w := fun l J W hW hJ _ h0 =>
  Tryz.keysNil109 F n h10 hro l Bm oB J W hJ ((hW.cell (p := ⟨Bm, oB, none⟩) hBm).trans hm) h0

set_option maxRecDepth 100000 in
set_option maxHeartbeats 1000000 in
/-- The iterator gives the keys, each once, in some order. -/
theorem Tryz.keysN428 (F : Fence) (n : Nat) (h10 : F.fn 428) (hro : F.round = none) (hn : 1 ≤ n) (l Bm oB b nn : Nat) (D0 : DataW Unit) (J : List Int → World → Prop)
    (hY : ∀ pre x W, J pre W → pre.length < Maps.size D0 → YieldAt F (n - 1) Tryz.prog l #[encZ x] W fun e W' => e = .returned (.bool true) ∧ J (pre ++ [x]) W' ∧ KeepsWalks W W')
    (W : World) (hJ : AbidesFrom W.heap.size J) (hm : W.cell? ⟨Bm, oB, none⟩ = some (.map (some b))) (hown : W.ownsMap Tryz.prog 3 Tryz.RT b nn D0) (h0 : J [] W) :
    CallsIn F n Tryz.prog 428 #[.func (.yield l) #[] #[], .pointer (some ⟨Bm, oB, none⟩)] W fun e W' => (∃ v, e = .returned v) ∧ ∃ ss : List Int, ss.Perm (intKeys D0) ∧ J ss W' := by
  refine callsIn_of_wp Tryz.func428 rfl h10 ?_ hro
  simp only [Tryz.ntmps428, List.size_toArray, List.length_cons, List.length_nil, Nat.reduceAdd, Nat.reduceSub, Array.replicate_succ, Array.replicate_zero, List.push_toArray, List.append_toArray, List.nil_append, List.cons_append]
  gi_wp2_with (first
    | (gi_at_range; refine wpListIn_range_own _ rfl _ 198 rfl 3 4 Tryz.lawK Tryz.underlying198 _ b nn _ rfl hown ?_; intro w0 hrg0 hg0 hs0)
    | gi_in)
  go_frame
  gi_loopw [3] (fun _ wr => ∃ (left : Lit → Bool) (cnt : Nat) (ss : List Int), wr.ranges Tryz.prog 3 Tryz.RT b W.heap.size nn D0 left cnt ∧ ss.length + cnt ≤ Maps.size D0 ∧ CollectedI D0 left ss ∧ J ss wr)
    (fun _ wr => wr.rangeLeft b W.heap.size)
  case atStart =>
    exact ⟨_, _, [], hrg0, by simp, CollectedI.start D0, hJ [] W w0 none h0 hg0 (fun r e => by cases e)⟩
  case round =>
    obtain ⟨left, cnt, ss, hrg, hcs, hC, hJs⟩ := hrel
    gi_wp2_with (first
      | (gi_at_next; refine wpListIn_next_ranges _ rfl _ rfl 3 Tryz.lawK Tryz.RT encZ id (fun key kl hk => by obtain ⟨x, hx, _⟩ := Maps.keyOf_i64 Tryz.underlying3 hk; exact ⟨x, hx⟩) (fun v _ _ => ⟨v, rfl⟩) b W.heap.size nn _ _ _ rfl hrg ?_ ?_)
      | gi_in)
    · intro hc0 hl0
      gi_wp2
      go_end0
      exact ⟨⟨_, rfl⟩, ss, hC.perm hown Tryz.lawK Tryz.underlying3 hl0, hJs⟩
    · intro x c kl yd yp w2 cnt2 hkey hlk hv hv2 hat hrg2 hlt hg2 hs2 hen
      obtain ⟨x', ex, rfl, _⟩ := Maps.keyOf_i64 Tryz.underlying3 hkey
      obtain rfl : x = x' := encZ_inj ex
      have hJ2 : J ss w2 := hJ ss wr w2 (some W.heap.size) hJs hg2 (fun r e => by cases e; exact ⟨Nat.le_refl _, hrg.iter_walk⟩)
      obtain ⟨fn, tmps, assign, body, hy, hR⟩ := hY ss x w2 hJ2 (by omega)
      clear hs2
      gi_wp2
      refine hR.mono ?_
      rintro e W3 ⟨rfl, hJ3, hk3⟩
      gi_wp2
      have hrg3 := hrg2.of_walks hk3
      go_roundw
      case rel => exact ⟨_, cnt2, ss ++ [x], hrg3, by simp; omega, hC.step hlk hat, hJ3⟩
      case measure => rw [hrg3.left_eq, hrg.left_eq]; exact hlt

theorem Tryz.keysGives428 (F : Fence) (n : Nat) (h10 : F.fn 428) (hro : F.round = none) (hn : 1 ≤ n) (Bm oB b nn : Nat) (D0 : DataW Unit) (w : World) (hBm : Bm < w.heap.size)
    (hm : w.cell? ⟨Bm, oB, none⟩ = some (.map (some b))) (hown : w.ownsMap Tryz.prog 3 Tryz.RT b nn D0) :
    SeqGives F n Tryz.prog 428 #[.pointer (some ⟨Bm, oB, none⟩)] encZ (fun ss => ss.Perm (intKeys D0)) (Maps.size D0) w := fun l J W hW hJ hY h0 => by
  have hown' : W.ownsMap Tryz.prog 3 Tryz.RT b nn D0 := by
    have hbl := hown.lt
    obtain ⟨es, clock, hb, Ft, hs, hD⟩ := hown
    exact ⟨es, clock, (hW.block b hbl).trans hb, Ft, hs, hD⟩
  exact Tryz.keysN428 F n h10 hro hn l Bm oB b nn D0 J hY W hJ ((hW.cell (p := ⟨Bm, oB, none⟩) hBm).trans hm) hown' h0

set_option maxRecDepth 100000 in
set_option maxHeartbeats 1000000 in
theorem Tryz.keysNil428 (F : Fence) (n : Nat) (h10 : F.fn 428) (hro : F.round = none) (l Bm oB : Nat) (J : List Int → World → Prop) (W : World) (hJ : AbidesFrom W.heap.size J)
    (hm : W.cell? ⟨Bm, oB, none⟩ = some (.map none)) (h0 : J [] W) :
    CallsIn F n Tryz.prog 428 #[.func (.yield l) #[] #[], .pointer (some ⟨Bm, oB, none⟩)] W fun e W' => (∃ v, e = .returned v) ∧ ∃ ss : List Int, ss = [] ∧ J ss W' := by
  refine callsIn_of_wp Tryz.func428 rfl h10 ?_ hro
  simp only [Tryz.ntmps428, List.size_toArray, List.length_cons, List.length_nil, Nat.reduceAdd, Nat.reduceSub, Array.replicate_succ, Array.replicate_zero, List.push_toArray, List.append_toArray, List.nil_append, List.cons_append]
  have hrg := run_range_nilMap (P := Tryz.prog) W 198 3 4 Tryz.underlying198
  have hnx : ∀ ty, (Instr.next (.pointer (some ⟨W.heap.size, 0, none⟩)) false ty).run Tryz.prog (W.alloc (.mapIter none 0 #[] 0)) = _ := fun ty => run_next_nilMap _ ty 0 0 #[]
  gi_wp2
  refine wpIn_loop_rounds 1 ?_
  rw [roundsIn_succ]
  gi_wp2
  go_end0
  exact ⟨⟨_, rfl⟩, [], rfl, hJ [] W _ none h0 (World.grownBy_alloc W _ none) (fun r e => by cases e)⟩

theorem Tryz.keysGivesNil428 (F : Fence) (n : Nat) (h10 : F.fn 428) (hro : F.round = none) (Bm oB : Nat) (w : World) (hBm : Bm < w.heap.size) (hm : w.cell? ⟨Bm, oB, none⟩ = some (.map none)) :
    SeqGives F n Tryz.prog 428 #[.pointer (some ⟨Bm, oB, none⟩)] encZ (fun ss : List Int => ss = []) 0 w := fun l J W hW hJ _ h0 =>
  Tryz.keysNil428 F n h10 hro l Bm oB J W hJ ((hW.cell (p := ⟨Bm, oB, none⟩) hBm).trans hm) h0

end Go.Proofs

