/- Answers of their own: slices.Sorted of a map's keys, maps.Clone, functions with ranges over maps. -/
import Derived.Test.YtphkigpngblniaaGreatAcC
import Derived.Test.YtphkigpngblniaaGreatAbP
import Derived.Lib.SlKeysI
import Derived.RowKit3
import Derived.Below
import Derived.Maps.Own
namespace Go.Ab
set_option linter.unusedSectionVars false
variable [Rho] {P : Program}
open Go.RowKit Go.Maps Go.WideShapes

def prims (P : Program) (loops : Nat) (sorted ks clones ranges : List FuncId) : Prims := fun call f =>
  bif sorted.any (Nat.beq f) then some (sortedKeys ks) else bif clones.any (Nat.beq f) then some mapsClone else bif ranges.any (Nat.beq f) then some (withRanges P loops call f) else none

theorem newArr_frame {s : St} {cs : List AV} {q : Nat} {x : AObj} (hq : q < s.n) : (newArr (s.put q x) cs).1 = (newArr s cs).1 ∧ (newArr (s.put q x) cs).2 = (newArr s cs).2.put q x := ⟨rfl, new_comm hq⟩

theorem sortedKeys_eff {ks : List FuncId} {b : Bar} {args : List AV} {s s' : St} {r : AV} (h : sortedKeys ks b args s = some (r, s')) :
    Eff b s s' ∧ ∀ q x, q < s.n → s.h.get q = none → sortedKeys ks b args (s.put q x) = some (r, s'.put q x) := by
  unfold sortedKeys at h
  split at h
  · rename_i g l
    rw [cond_eq_ite] at h
    split at h
    · rename_i hc
      split at h
      · rename_i m hm
        split at h
        · rename_i es hes
          split at h
          · rename_i hk
            cases h
            exact ⟨Eff.refl _ _, fun q x _ hq => by unfold sortedKeys; simp only [hc, cond_true, readCells_frame x hq hm, entriesA_frame x hq hes, hk]⟩
          · rename_i ns hne hk
            rw [cond_eq_ite] at h
            split at h
            · cases h
            · rename_i hns
              cases h
              refine ⟨Eff.new, fun q x hqn hq => ?_⟩
              unfold sortedKeys
              simp only [hc, cond_true, readCells_frame x hq hm, entriesA_frame x hq hes, hk]
              simp only [eq_false_of_ne_true hns, cond_false]
              rw [(newArr_frame hqn).1, (newArr_frame hqn).2]
          · cases h
        · cases h
      · cases h
    · cases h
  · cases h

theorem mapsClone_eff {b : Bar} {args : List AV} {s s' : St} {r : AV} (h : mapsClone b args s = some (r, s')) :
    Eff b s s' ∧ ∀ q x, q < s.n → s.h.get q = none → mapsClone b args (s.put q x) = some (r, s'.put q x) := by
  unfold mapsClone at h
  split at h
  · cases h; exact ⟨Eff.refl _ _, fun q x _ _ => by simp only [mapsClone]⟩
  · split at h
    · rename_i es hg
      cases h
      exact ⟨Eff.new, fun q x hqn hq => by
        simp only [mapsClone, get_frame hq hg]
        rw [new_comm hqn]; rfl⟩
    · cases h
  · cases h

theorem prims_L (loops : Nat) (sorted ks clones ranges : List FuncId) : PrimsL (prims P loops sorted ks clones ranges) := by
  intro call hc f p hp b args s r s' h
  unfold prims at hp
  simp only [cond_eq_ite] at hp
  split at hp
  · cases hp; exact sortedKeys_eff h
  · split at hp
    · cases hp; exact mapsClone_eff h
    · split at hp
      · cases hp
        unfold withRanges at h ⊢
        split at h
        · exact evBodyR_eff hc h
        · cases h
      · cases hp

/-! ### soundness -/

theorem insI_perm (n : Int) : ∀ l, (insI n l).Perm (n :: l)
  | [] => .refl _
  | m :: ms => by
    simp only [insI, cond_eq_ite]
    split
    · exact .refl _
    · exact ((insI_perm n ms).cons m).trans (.swap n m ms)

theorem sortI_perm : ∀ l, (sortI l).Perm l
  | [] => .refl _
  | n :: ns => (insI_perm n _).trans ((sortI_perm ns).cons n)

theorem insI_sorted (n : Int) : ∀ l : List Int, l.Pairwise (· ≤ ·) → (insI n l).Pairwise (· ≤ ·)
  | [], _ => by simp [insI]
  | m :: ms, h => by
    simp only [insI, cond_eq_ite]
    have hm := List.pairwise_cons.1 h
    split
    · rename_i hle
      have hle : n ≤ m := by rw [intLe_eq] at hle; exact of_decide_eq_true hle
      refine List.pairwise_cons.2 ⟨fun x hx => ?_, h⟩
      rcases List.mem_cons.1 hx with rfl | hx
      · exact hle
      · exact Int.le_trans hle (hm.1 x hx)
    · rename_i hle
      have hle : m ≤ n := Int.le_of_lt (Int.not_le.1 fun e => hle (by rw [intLe_eq]; exact decide_eq_true e))
      refine List.pairwise_cons.2 ⟨fun x hx => ?_, insI_sorted n ms hm.2⟩
      rcases List.mem_cons.1 ((insI_perm n ms).mem_iff.1 hx) with rfl | hx
      · exact hle
      · exact hm.1 x hx

theorem sortI_sorted : ∀ l, (sortI l).Pairwise (· ≤ ·)
  | [] => .nil
  | n :: ns => insI_sorted n _ (sortI_sorted ns)

theorem sortI_eq {ss ns : List Int} (h : ss.Perm ns) : ss.mergeSort (fun x y => decide (x ≤ y)) = sortI ns := by
  have e1 := mergeSort_of_perm_i (h.trans (sortI_perm ns).symm)
  rw [show (fun x y : Int => decide (x ≤ y)) = leI from rfl, e1]
  exact List.mergeSort_of_pairwise ((sortI_sorted ns).imp fun h => by simpa [leI] using h)

/-- What is asked of slices.Sorted at what maps.Keys hands back: the function, the iterator, the keys' type. -/
def SortsKeys (P : Program) (f g : FuncId) (kt : TypeId) : Prop :=
  (∀ (B o : Nat) (w : World), B < w.heap.size → w.cell? ⟨B, o, none⟩ = some (.map none) → Calls P f #[.func (.func g) #[] #[.pointer (some ⟨B, o, none⟩)]] w fun e w' => e = .returned (.slice none 0 0) ∧ Below w.heap.size w w') ∧
  (∀ (B o b nn : Nat) (D0 : DataW Unit) (w : World), B < w.heap.size → w.cell? ⟨B, o, none⟩ = some (.map (some b)) → w.ownsMap P kt (fun _ => some (.lit (.bool true), [])) b nn D0 → Maps.size D0 ≤ maxLen → Maps.size D0 * 8 ≤ 140737488355328 →
    Calls P f #[.func (.func g) #[] #[.pointer (some ⟨B, o, none⟩)]] w fun e w' => ∃ (v : Value) (ss : List Int), e = .returned v ∧ ss.Perm (intKeys D0) ∧
      w'.ownsRow w.heap.size kt 1 v ss.length ((ss.mergeSort (fun x y => decide (x ≤ y))).map encZ) ∧ (v = .slice none 0 0 ↔ ss = []) ∧ Below w.heap.size w w')

/-- What is asked of maps.Clone. -/
def ClonesMap (P : Program) (f : FuncId) : Prop :=
  (∀ (b : Nat) (es : Array MapEntry) (clock : Nat) (w : World), w.heap[b]? = some (.map es clock) → Calls P f #[.map (some b)] w fun e w' => e = .returned (.map (some w.heap.size)) ∧ w' = w.alloc (.map es clock)) ∧
  (∀ w : World, Calls P f #[.map none] w fun e w' => e = .returned (.map none) ∧ w' = w)

theorem Kept.below {b : Bar} {μ : Mu} {w w' : World} (h : Below w.heap.size w w') : Kept b μ w w' := ⟨h.size, fun B hB _ => h.block B hB, h.os, h.output⟩

theorem R.below {μ : Mu} {s : St} {w w' : World} (h : R μ s w) (hb : Below w.heap.size w w') : R μ s w' := h.of_heap hb.size fun B hB => hb.block B hB

theorem inK_wf {n : Int} (h : inK .i64 n = true) : (Lit.int .i64 n).wf = true := by
  simp only [inK, Bool.and_eq_true, intLe_eq, decide_eq_true_eq] at h
  simp only [Lit.wf, Bool.and_eq_true, decide_eq_true_eq]
  exact h

theorem keysA_map : ∀ {xs : List (Int × AV)} {ns : List Int}, keysA (xs.map fun p => (.int .i64 p.1, p.2)) = some ns → ns = xs.map (·.1)
  | [], ns, h => by simp only [List.map_nil, keysA] at h; cases h; rfl
  | x :: xs, ns, h => by
    simp only [List.map_cons, keysA] at h
    split at h
    · rename_i ns' hns
      cases h
      rw [keysA_map hns]; rfl
    · cases h

/-- A map's entries in the shelf's words. -/
theorem owns_of {μ : Mu} {es : List (AV × AV)} {ents : Array MapEntry} {clock : Nat} {w : World} {kt : TypeId} (hu : P.underlying kt = some (.int .i64)) {b : Nat} (hb : w.heap[b]? = some (.map ents clock)) (hM : MapR μ es ents clock)
    {ns : List Int} (hk : keysA es = some ns) (hw : ns.all (inK .i64) = true) (hl : ns.length ≤ limit) :
    ∃ D0 : DataW Unit, w.ownsMap P kt (fun _ => some (.lit (.bool true), [])) b ents.size D0 ∧ (intKeys D0).Perm ns ∧ Maps.size D0 = ns.length := by
  obtain ⟨xs, ys, rfl, hnd, hperm, hall, hbn, hcl⟩ := hM
  have hns := keysA_map hk
  subst hns
  have hlen : ents.toList.length = xs.length := by rw [← hall.length]; exact hperm.length_eq
  have hwf : ∀ p ∈ ys, (Lit.int .i64 p.1).wf = true := fun p hp => inK_wf (List.all_eq_true.1 hw p.1 (List.mem_map_of_mem (hperm.mem_iff.1 hp)))
  -- each entry's key
  have hkeys : ents.toList.map (·.key) = ys.map fun p => Value.int .i64 p.1 := by
    clear hnd hperm hwf hlen hbn hcl hb hk hw hl
    generalize ents.toList = l at hall
    induction ys generalizing l with
    | nil => cases l with
      | nil => rfl
      | cons _ _ => exact hall.elim
    | cons y ys ih => cases l with
      | nil => exact hall.elim
      | cons e l => simp only [List.map_cons]; rw [hall.1.1, ih _ hall.2]
  have hrd : ∀ e ∈ ents.toList, ∃ p ∈ ys, e.key = .int .i64 p.1 ∧ Go.WideElems.rd P kt (fun _ => some ((.lit (.bool true) : DataW Unit), [])) e = some (.int .i64 p.1, .lit (.bool true)) := by
    intro e he
    have : e.key ∈ ents.toList.map (·.key) := List.mem_map_of_mem he
    rw [hkeys] at this
    obtain ⟨p, hp, hpe⟩ := List.mem_map.1 this
    refine ⟨p, hp, hpe.symm, ?_⟩
    have := hwf p hp
    simp [Go.WideElems.rd, keyOf, hu, mapKey, ← hpe, this]
  refine ⟨_, ⟨ents, clock, hb, ⟨?_, ⟨hcl, hbn, ?_⟩, fun e he => ?_⟩, Nat.le_refl _, rfl⟩, ?_, ?_⟩
  · have : ents.size = xs.length := by simpa using hlen
    rw [this]
    simp only [List.length_map] at hl
    exact Nat.le_trans hl (by decide)
  · rw [hkeys]
    have h1 : (ys.map (·.1)).Nodup := (hperm.map (·.1)).nodup_iff.2 hnd
    have : (ys.map fun p => Value.int .i64 p.1) = (ys.map (·.1)).map (Value.int .i64) := by rw [List.map_map]; rfl
    rw [this]
    exact List.Pairwise.map _ (fun a b hab e => hab (by simpa using e)) h1
  · obtain ⟨p, _, _, h⟩ := hrd e he
    exact ⟨_, h⟩
  · show (((ents.toList.map (Go.WideElems.rg P kt _)).foldr DataW.insert []).map fun p => intOf p.1).Perm _
    refine ((sorted_perm _).map _).trans ?_
    rw [List.map_map]
    have : (ents.toList.map ((fun p : Lit × DataW Unit => intOf p.1) ∘ Go.WideElems.rg P kt fun _ => some (.lit (.bool true), []))) = ys.map (·.1) := by
      have h1 : (ents.toList.map ((fun p : Lit × DataW Unit => intOf p.1) ∘ Go.WideElems.rg P kt fun _ => some (.lit (.bool true), []))) = (ents.toList.map (·.key)).map fun v => match v with | .int _ n => n | _ => 0 := by
        rw [List.map_map]
        refine List.map_congr_left fun e he => ?_
        obtain ⟨p, _, h2, h3⟩ := hrd e he
        simp [Go.WideElems.rg, h3, h2, intOf]
      rw [h1, hkeys, List.map_map]
      rfl
    rw [this]
    exact hperm.map (·.1)
  · show ((ents.toList.map (Go.WideElems.rg P kt _)).foldr DataW.insert []).length = _
    rw [(sorted_perm _).length_eq]
    simp [hlen]

theorem sortedKeys_sound {ks : List FuncId} {f : FuncId} {kt : TypeId} (hu : P.underlying kt = some (.int .i64)) (hs : ∀ g ∈ ks, SortsKeys P f g kt) {b : Bar} {args : List AV} {s s' : St} {r : AV} (h : sortedKeys ks b args s = some (r, s'))
    {μ : Mu} {w : World} {vs : List Value} (hR : R μ s w) (hv : All2 (VR μ) args vs) : Calls P f vs.toArray w (fun e w' => ∃ y μ', e = .returned y ∧ Post b μ w s' r y μ' w') := by
  unfold sortedKeys at h
  split at h
  · rename_i g l
    rw [cond_eq_ite] at h
    split at h
    · rename_i hc
      simp only [Bool.and_eq_true, List.any_eq_true, Nat.beq_eq] at hc
      obtain ⟨⟨g', hg', rfl⟩, hl0⟩ := hc
      have hS := hs g hg'
      -- the argument
      cases vs with
      | nil => exact hv.elim
      | cons v vs =>
      cases vs with
      | cons _ _ => exact hv.2.elim
      | nil =>
      have hfv := hv.1.toC rfl
      obtain ⟨B, oB, hB, hvv⟩ : ∃ B oB, LR μ l ⟨B, oB, none⟩ ∧ v = .func (.func g) #[] #[.pointer (some ⟨B, oB, none⟩)] := by
        cases v <;> simp only [CR] at hfv
        rename_i fn first cap
        obtain ⟨rfl, rfl, h3⟩ := hfv
        obtain ⟨cap⟩ := cap
        cases cap with
        | nil => exact h3.elim
        | cons c cap =>
          cases cap with
          | cons _ _ => exact h3.2.elim
          | nil =>
            obtain ⟨⟨a, rfl, g2, hg2, rfl⟩, _⟩ := h3
            exact ⟨g2.b, g2.off + l.i, ⟨g2, hg2, rfl⟩, rfl⟩
      subst hvv
      have hBlt : B < w.heap.size := by
        obtain ⟨g2, hg2, e⟩ := hB
        have e : B = g2.b := by simpa using congrArg Addr.block e
        rw [e]; exact (hR.fresh _ _ _ hg2).2.2
      split at h
      · rename_i m hm
        obtain ⟨y, e1, e2⟩ := readCells_one_cell (P := P) hm hR hB
        have hcell : w.cell? ⟨B, oB, none⟩ = some y := by
          obtain ⟨ds, lo, ro, k1, k2, k3, k4, k5⟩ := readCells_spec hm
          obtain ⟨g2, hg2, e⟩ := hB
          have eb : B = g2.b := by simpa using congrArg Addr.block e
          have eo : oB = g2.off + l.i := by simpa using congrArg Addr.off e
          have ei : l.i = 0 := hl0
          have hA := hR.arr _ _ _ _ _ _ k1 hg2 k2
          rw [ei] at k5 k3
          have hd : ds[0]? = some (.map m) := by
            cases ds with
            | nil => simp at k5
            | cons d ds => simp at k5 ⊢; exact k5.symm
          obtain ⟨y', h1, h2⟩ := hA.cell 0 _ (by omega) hd
          have h1' : w.cell? ⟨B, oB, none⟩ = some y' := by rw [eb, eo, ei]; exact h1
          have : (load ⟨B, oB, none⟩).run P w = .ok y' w := by simp [h1']
          rw [this] at e1
          cases e1
          exact h1'
        split at h
        · rename_i es hes
          split at h
          · rename_i hk
            cases h
            -- no key
            have hes' : es = [] := by
              cases es with
              | nil => rfl
              | cons e es =>
                exfalso
                unfold keysA at hk
                split at hk
                · rename_i heq; cases heq
                · split at hk
                  · cases hk
                  · cases hk
                · cases hk
            subst hes'
            have hpost : ∀ w', Below w.heap.size w w' → ∃ y' μ', Ending.returned (.slice none 0 0) = .returned y' ∧ Post b μ w s (.slice none 0 0 true) y' μ' w' := fun w' hb =>
              ⟨_, μ, rfl, Ext.refl _ _, hR.below hb, by simp [VR, VR0, CR], Kept.below hb⟩
            rcases entriesA_sound hR hes (VR.ofC e2) with ⟨rfl, rfl, _⟩ | ⟨o, g2, ents, clock, rfl, rfl, hmo, hmap, hM⟩
            · refine (hS.1 B oB w hBlt hcell).mono ?_
              rintro e w' ⟨rfl, hb⟩
              exact hpost w' hb
            · obtain ⟨D0, hown, hperm, hsize⟩ := owns_of hu hmap hM (ns := []) (by simp [keysA]) (by simp) (by simp)
              refine (hS.2 B oB g2.b _ D0 w hBlt hcell hown (by rw [hsize]; simp) (by rw [hsize]; simp)).mono ?_
              rintro e w' ⟨v, ss, rfl, hp, hrow, hnil, hb⟩
              have hss : ss = [] := List.perm_nil.1 (hp.trans hperm)
              rw [hnil.2 hss]
              exact hpost w' hb
          · rename_i ns hne hk
            rw [cond_eq_ite] at h
            split at h
            · cases h
            · rename_i hns
              simp only [Bool.not_eq_true', Bool.not_eq_false, Bool.and_eq_true] at hns
              have hlim := Nat.le_of_ble_eq_true hns.2
              cases h
              rcases entriesA_sound hR hes (VR.ofC e2) with ⟨rfl, rfl, rfl⟩ | ⟨o, g2, ents, clock, rfl, rfl, hmo, hmap, hM⟩
              · simp only [keysA] at hk
                cases hk
                exact absurd rfl hne
              · obtain ⟨D0, hown, hperm, hsize⟩ := owns_of hu hmap hM hk hns.1 hlim
                have hlim' : ns.length ≤ 4294967296 := hlim
                refine (hS.2 B oB g2.b _ D0 w hBlt hcell hown (by rw [hsize]; exact Nat.le_trans hlim' (by decide)) (by rw [hsize]; omega)).mono ?_
                rintro e w' ⟨v, ss, rfl, hp, hrow, hnil, hb⟩
                have hpn := hp.trans hperm
                have hlen : ss.length = ns.length := hpn.length_eq
                rw [sortI_eq hpn] at hrow
                have hne' : ss ≠ [] := fun e => hne (by rw [e] at hpn; exact List.nil_perm.1 hpn)
                rcases hrow.2 with ⟨rfl, _⟩ | ⟨gb, cap, cur, rfl, hbase, hgb, hc1, hc2, hc3, hc4⟩
                · exact absurd (hnil.1 rfl) hne'
                · have hl' : ((sortI ns).map (AV.int .i64)).length = ns.length := by rw [List.length_map, (sortI_perm ns).length_eq]
                  have hcell2 : ∀ i, w'.cell? ⟨gb, i, none⟩ = cur[i]? := fun i => by simp [World.cell?, hgb]
                  have hR' := (hR.below hb).lay_arr (q := s.n) (n := s.n + 1) (cs := (sortI ns).map (AV.int .i64)) (ro := false) (gb := gb) (fin := cap) (hR.next _ (Nat.le_refl _)) (Nat.lt_succ_self _) (Nat.le_succ _)
                    (Array.getElem?_eq_some_iff.1 hgb).1 (fun o' v' g' hg' e => by have := (hR.fresh _ _ _ hg').2.2; omega)
                    { fin := by rw [hl', ← hlen]; exact hc1
                      cell := fun i x hi hx => by
                        rw [List.getElem?_map] at hx
                        cases hn : (sortI ns)[i]? with
                        | none => rw [hn] at hx; cases hx
                        | some k =>
                          rw [hn] at hx
                          cases hx
                          have : (cur.toList.take (ss.length * 1))[i]? = some (encZ k) := by rw [hc4, List.getElem?_map, hn]; rfl
                          rw [List.getElem?_take] at this
                          split at this
                          · exact ⟨encZ k, by rw [hcell2]; simpa using this, by simp [CR]⟩
                          · cases this
                      there := fun i hi => by rw [hcell2]; simp; simp at hi; omega
                      free := fun _ i => by simp [World.frozen?, hgb] }
                  refine ⟨_, _, rfl, ⟨fun o' v' g' hg' => Mu.add_old (hR.unmapped (hR.next _ (Nat.le_refl _)) _) _ _ _ hg', fun o' v' g' hn' hg' => ?_⟩, hR', ?_, Kept.below hb⟩
                  · rcases Mu.add_inv hg' with ⟨_, _, rfl⟩ | h'
                    · exact .inl hbase
                    · rw [hn'] at h'; cases h'
                  · have hpos : 0 < ns.length := by
                      cases ns with
                      | nil => exact absurd rfl hne
                      | cons _ _ => simp
                    simp only [newArr, VR, VR0, CR, SR, hlen, Bool.false_eq_true, if_false, true_and]
                    exact .inr ⟨⟨gb, cap, 0⟩, 1, Mu.add_same _ _ _ _, rfl, Nat.le_refl _, by omega, hpos, by omega, by simp [(sortI_perm ns).length_eq], by simp⟩
          · cases h
        · cases h
      · cases h
    · cases h
  · cases h

theorem mapsClone_sound {f : FuncId} (hs : ClonesMap P f) {b : Bar} {args : List AV} {s s' : St} {r : AV} (h : mapsClone b args s = some (r, s'))
    {μ : Mu} {w : World} {vs : List Value} (hR : R μ s w) (hv : All2 (VR μ) args vs) : Calls P f vs.toArray w (fun e w' => ∃ y μ', e = .returned y ∧ Post b μ w s' r y μ' w') := by
  have one : ∀ {m : Option Nat}, args = [.map m] → ∃ v, vs = [v] ∧ VR μ (.map m) v := fun {m} e => by
    subst e
    cases vs with
    | nil => exact hv.elim
    | cons v vs =>
      cases vs with
      | cons _ _ => exact hv.2.elim
      | nil => exact ⟨v, rfl, hv.1⟩
  unfold mapsClone at h
  split at h
  · cases h
    obtain ⟨v, rfl, hv1⟩ := one rfl
    obtain ⟨r, rfl, h1, _⟩ := hv1.map
    rw [h1 rfl]
    refine (hs.2 w).mono ?_
    rintro e w' ⟨rfl, rfl⟩
    exact ⟨_, μ, rfl, Ext.refl _ _, hR, by simp [VR, VR0, CR], Kept.refl _ _ _⟩
  · rename_i m
    split at h
    · rename_i es hg
      cases h
      obtain ⟨v, rfl, hv1⟩ := one rfl
      rcases entriesA_sound hR (m := some m) (es := es) (by simp only [entriesA, hg]) hv1 with ⟨e, _, _⟩ | ⟨o, g2, ents, clock, e, rfl, hmo, hmap, hM⟩
      · cases e
      · refine (hs.1 g2.b ents clock w hmap).mono ?_
        rintro e w' ⟨rfl, rfl⟩
        have hn := hR.next s.n (Nat.le_refl _)
        refine ⟨_, μ.add s.n 0 ⟨w.heap.size, 0, 0⟩, rfl, Ext.add (hR.unmapped hn 0) (.inl (Nat.le_refl _)), hR.new_map hn (Nat.lt_succ_self _) (Nat.le_succ _) hM, ?_, Kept.alloc _ _ _ _⟩
        simp only [VR, VR0, CR]
        exact ⟨_, Mu.add_same _ _ _ _, rfl⟩
    · cases h
  · cases h

theorem prims_S (hm : P.follows .mixedOrders = true) (loops : Nat) {sorted ks clones ranges : List FuncId} {kt : TypeId} (hu : P.underlying kt = some (.int .i64)) (hs : ∀ f ∈ sorted, ∀ g ∈ ks, SortsKeys P f g kt) (hc : ∀ f ∈ clones, ClonesMap P f) :
    PrimsS P (prims P loops sorted ks clones ranges) := by
  intro call hcl hcs f p hp b args s r s' h μ w vs hR hv
  unfold prims at hp
  simp only [cond_eq_ite] at hp
  split at hp
  · rename_i hf
    cases hp
    simp only [List.any_eq_true, Nat.beq_eq] at hf
    obtain ⟨x, hx, rfl⟩ := hf
    exact sortedKeys_sound hu (hs f hx) h hR hv
  · split at hp
    · rename_i hf
      cases hp
      simp only [List.any_eq_true, Nat.beq_eq] at hf
      obtain ⟨x, hx, rfl⟩ := hf
      exact mapsClone_sound (hc f hx) h hR hv
    · split at hp
      · cases hp
        unfold withRanges at h
        split at h
        · rename_i fn hfn
          exact evBodyR_sound hm hcl hcs hfn h hR hv
        · cases h
      · cases hp

end Go.Ab
