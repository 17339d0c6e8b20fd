/- slices.Sorted over maps.Keys (lines of a worked proof, turned to this program). -/
import Derived.Test.YtphkigpngblniaaGreatCollect
import Derived.Test.YtphkigpngblniaaGreatSortLay
import Derived.Test.YtphkigpngblniaaGreatAcD
namespace Go.Proofs
open Go.RowKit Go.Maps Go.Sort Go.Shelf

def Tryz.SortsIn (F : Fence) (m : Nat) : Prop :=
  (∀ (blk off cap : Nat) (ss : List Int) (W : World), Holds encZ W blk off ss.toArray → blk < W.heap.size → ss.length < 4611686018427387904 →
    CallsIn F m Tryz.prog 108 #[.slice (some ⟨blk, off, none⟩) ss.length cap] W fun e w' => e = .returned (.tuple #[]) ∧ ∃ k os, w' = grow (putRow encZ (Sort.ahead W k) blk off (ss.mergeSort fun x y => decide (x ≤ y)).toArray) os) ∧
  (∀ (p : Option Addr) (cap : Nat) (W : World), CallsIn F m Tryz.prog 108 #[.slice p 0 cap] W fun e w' => e = .returned (.tuple #[]) ∧ w' = W)

set_option maxRecDepth 100000 in
set_option maxHeartbeats 2000000 in
theorem Tryz.sorted_in (F : Fence) (n : Nat) (h6 : F.fn 56) (h8 : F.fn 107) (h9 : F.fn 108) (h11 : F.fn 169) (hro : F.round = none) (hn : 4 ≤ n) (hsort : Tryz.SortsIn F (n - 1)) (g : Nat) (lb : Array Value) (hFg : F.fn g) (eg : ∀ args w, (callFunc g args).run Tryz.prog w = .ok (.enter g args) w)
    (S : List Int → Prop) (N : Nat) (hN : N ≤ maxLen) (hNb : N * 8 ≤ 140737488355328) (w : World) (hseq : SeqGives F (n - 1 - 1 - 1) Tryz.prog g lb encZ S N w) :
    CallsIn F n Tryz.prog 56 #[.func (.func g) #[] lb] w fun e w' => ∃ (v : Value) (ss : List Int), e = .returned v ∧ S ss ∧
      w'.ownsRow w.heap.size 3 1 v ss.length ((ss.mergeSort (fun x y => decide (x ≤ y))).map encZ) ∧ (v = .slice none 0 0 ↔ ss = []) ∧ Below w.heap.size w w' := by
  have h1 : 1 ≤ n := by omega
  refine callsIn_of_wp Tryz.func56 rfl h6 ?_ hro
  simp only [Tryz.ntmps56, List.size_toArray, List.length_cons, List.length_nil, Nat.reduceAdd, Nat.reduceSub, Array.replicate_succ, Array.replicate_zero, List.push_toArray, List.append_toArray, List.nil_append, List.cons_append]
  gi_wp2_with (gi_at_call 107; refine (Tryz.collect_in F (n - 1) h8 h11 hro (by omega) g lb hFg eg _ N hN hNb _ hseq.bounded).mono ?_; rintro e W ⟨v, ss, rfl, ⟨hS, hlen⟩, hrow, hnil, hb⟩)
  rcases hrow.2 with ⟨rfl, hz⟩ | ⟨gb, cap, cur, rfl, hbase, hgb, r1, r2, r3, r4⟩
  · have hss : ss = [] := List.eq_nil_of_length_eq_zero hz
    subst hss
    gi_wp2_with (gi_at_call 108; refine (hsort.2 none 0 W).mono ?_; rintro e w' ⟨rfl, rfl⟩)
    go_ret
    exact ⟨.slice none 0 0, [], rfl, hS, by simpa using hrow, by simp, hb⟩
  · have hH : Holds encZ W gb 0 ss.toArray := holds_of_block_i hgb (by simpa using r4)
    have hgl : gb < W.heap.size := (Array.getElem?_eq_some_iff.1 hgb).1
    have hsz : ss.length < 4611686018427387904 := by omega
    have cS := hsort.1 gb 0 cap ss W hH hgl hsz
    gi_wp2_with (gi_at_call 108; refine cS.mono ?_; rintro e w' ⟨rfl, nn, os, rfl⟩)
    go_ret
    exact ⟨_, ss, rfl, hS, ownsRow_sorted_i (by simp) hbase hgb r1 r2 r3, hnil, hb.grown (grownBy_sorted_i _) hb.size (fun j hj => by cases hj; exact hbase)⟩

theorem Tryz.sorts_wide (m : Nat) : Tryz.SortsIn Fence.wide m :=
  ⟨fun blk off cap ss W hH hblk hsz => callsIn_wide.2 (Any.slices_Sort_int Tryz.lays189 blk off cap ss W hH hblk hsz),
   fun p cap W => callsIn_wide.2 (Any.slices_Sort_int_none Tryz.lays189 p cap W)⟩

theorem Tryz.sortsKeys109 : Go.Ab.SortsKeys Tryz.prog 56 109 3 := by
  refine ⟨fun B oB w hB hc => ?_, fun B oB b nn D0 w hB hc hown hs1 hs2 => ?_⟩
  · refine (callsIn_wide.1 (Tryz.sorted_in Fence.wide 4 trivial trivial trivial trivial rfl (Nat.le_refl _) (Tryz.sorts_wide _) 109 _ trivial (enters_of Tryz.func109 (by kernel_rfl) rfl) _ 0 (Nat.zero_le _) (by omega) w
      (Tryz.keysGivesNil109 Fence.wide _ trivial rfl B oB w hB hc))).mono ?_
    rintro e w' ⟨v, ss, rfl, hS, hrow, hnil, hb⟩
    exact ⟨by rw [hnil.2 hS], hb⟩
  · exact callsIn_wide.1 (Tryz.sorted_in Fence.wide 4 trivial trivial trivial trivial rfl (Nat.le_refl _) (Tryz.sorts_wide _) 109 _ trivial (enters_of Tryz.func109 (by kernel_rfl) rfl) _ _ hs1 hs2 w
      (Tryz.keysGives109 Fence.wide _ trivial rfl (by omega) B oB b nn D0 w hB hc hown))

theorem Tryz.sortsKeys428 : Go.Ab.SortsKeys Tryz.prog 56 428 3 := by
  refine ⟨fun B oB w hB hc => ?_, fun B oB b nn D0 w hB hc hown hs1 hs2 => ?_⟩
  · refine (callsIn_wide.1 (Tryz.sorted_in Fence.wide 4 trivial trivial trivial trivial rfl (Nat.le_refl _) (Tryz.sorts_wide _) 428 _ trivial (enters_of Tryz.func428 (by kernel_rfl) rfl) _ 0 (Nat.zero_le _) (by omega) w
      (Tryz.keysGivesNil428 Fence.wide _ trivial rfl B oB w hB hc))).mono ?_
    rintro e w' ⟨v, ss, rfl, hS, hrow, hnil, hb⟩
    exact ⟨by rw [hnil.2 hS], hb⟩
  · exact callsIn_wide.1 (Tryz.sorted_in Fence.wide 4 trivial trivial trivial trivial rfl (Nat.le_refl _) (Tryz.sorts_wide _) 428 _ trivial (enters_of Tryz.func428 (by kernel_rfl) rfl) _ _ hs1 hs2 w
      (Tryz.keysGives428 Fence.wide _ trivial rfl (by omega) B oB b nn D0 w hB hc hown))

end Go.Proofs

