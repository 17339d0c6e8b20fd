/- Trees keyed by numbers: what is read behind a write; two writes at two numbers commute. -/
import Derived.Test.YtphkigpngblniaaGreatAbB
namespace Go.Ab

theorem Tr.get_leaf {α : Type} (n : Nat) : (Tr.leaf : Tr α).get n = none := rfl

theorem Tr.get_node {α : Type} (l r : Tr α) (v : Option α) (n : Nat) :
    (Tr.node l v r).get n = if n = 0 then v else if n % 2 = 1 then l.get (n / 2) else r.get (n / 2 - 1) := by
  simp only [Tr.get, cond_eq_ite, beq_iff_eq]

theorem Tr.setF_leaf {α : Type} (x : α) (f n : Nat) :
    Tr.setF x (f + 1) n .leaf = if n = 0 then .node .leaf (some x) .leaf else if n % 2 = 1 then .node (Tr.setF x f (n / 2) .leaf) none .leaf else .node .leaf none (Tr.setF x f (n / 2 - 1) .leaf) := by
  simp only [Tr.setF, cond_eq_ite, beq_iff_eq]

theorem Tr.setF_node {α : Type} (x : α) (f n : Nat) (l r : Tr α) (v : Option α) :
    Tr.setF x (f + 1) n (.node l v r) = if n = 0 then .node l (some x) r else if n % 2 = 1 then .node (Tr.setF x f (n / 2) l) v r else .node l v (Tr.setF x f (n / 2 - 1) r) := by
  simp only [Tr.setF, cond_eq_ite, beq_iff_eq]

theorem Tr.get_setF_same {α : Type} (x : α) : ∀ (f n : Nat) (t : Tr α), n < f → (Tr.setF x f n t).get n = some x
  | 0, n, _, h => absurd h (Nat.not_lt_zero n)
  | f + 1, n, t, h => by
    cases t with
    | leaf =>
      rw [Tr.setF_leaf]
      split
      · simp [Tr.get_node, *]
      · split
        · rw [Tr.get_node, if_neg (by assumption), if_pos (by assumption)]; exact Tr.get_setF_same x f _ _ (by omega)
        · rw [Tr.get_node, if_neg (by assumption), if_neg (by assumption)]; exact Tr.get_setF_same x f _ _ (by omega)
    | node l v r =>
      rw [Tr.setF_node]
      split
      · simp [Tr.get_node, *]
      · split
        · rw [Tr.get_node, if_neg (by assumption), if_pos (by assumption)]; exact Tr.get_setF_same x f _ _ (by omega)
        · rw [Tr.get_node, if_neg (by assumption), if_neg (by assumption)]; exact Tr.get_setF_same x f _ _ (by omega)

theorem Tr.get_setF_other {α : Type} (x : α) : ∀ (f n m : Nat) (t : Tr α), m ≠ n → (Tr.setF x f n t).get m = t.get m
  | 0, _, _, _, _ => rfl
  | f + 1, n, m, t, h => by
    cases t with
    | leaf =>
      rw [Tr.setF_leaf, Tr.get_leaf]
      split
      · rw [Tr.get_node, if_neg (by omega)]; split <;> rfl
      · split
        · rw [Tr.get_node]
          split
          · rfl
          · split
            · rw [Tr.get_setF_other x f _ _ _ (by omega)]; rfl
            · rfl
        · rw [Tr.get_node]
          split
          · rfl
          · split
            · rfl
            · rw [Tr.get_setF_other x f _ _ _ (by omega)]; rfl
    | node l v r =>
      rw [Tr.setF_node, Tr.get_node]
      split
      · have hm : ¬ m = 0 := by omega
        rw [Tr.get_node, if_neg hm, if_neg hm]
      · split
        · rw [Tr.get_node]
          split
          · rfl
          · split
            · rw [Tr.get_setF_other x f _ _ _ (by omega)]
            · rfl
        · rw [Tr.get_node]
          split
          · rfl
          · split
            · rfl
            · rw [Tr.get_setF_other x f _ _ _ (by omega)]

theorem Tr.get_set_same {α : Type} (t : Tr α) (n : Nat) (x : α) : (t.set n x).get n = some x := Tr.get_setF_same x _ _ _ (Nat.lt_succ_self n)

theorem Tr.get_set_other {α : Type} (t : Tr α) (n m : Nat) (x : α) (h : m ≠ n) : (t.set n x).get m = t.get m := Tr.get_setF_other x _ _ _ _ h

theorem Tr.get_set {α : Type} (t : Tr α) (n m : Nat) (x : α) : (t.set n x).get m = if m = n then some x else t.get m := by
  split
  · rename_i h; subst h; exact Tr.get_set_same t _ x
  · rename_i h; exact Tr.get_set_other t n m x h

theorem Tr.setF_fuel {α : Type} (x : α) : ∀ (f g n : Nat) (t : Tr α), n < f → n < g → Tr.setF x f n t = Tr.setF x g n t
  | 0, _, n, _, h, _ => absurd h (Nat.not_lt_zero n)
  | f + 1, 0, n, _, _, h => absurd h (Nat.not_lt_zero n)
  | f + 1, g + 1, n, t, h, h' => by
    cases t with
    | leaf =>
      rw [Tr.setF_leaf, Tr.setF_leaf]
      split
      · rfl
      · rw [Tr.setF_fuel x f g (n / 2) _ (by omega) (by omega), Tr.setF_fuel x f g (n / 2 - 1) _ (by omega) (by omega)]
    | node l v r =>
      rw [Tr.setF_node, Tr.setF_node]
      split
      · rfl
      · rw [Tr.setF_fuel x f g (n / 2) _ (by omega) (by omega), Tr.setF_fuel x f g (n / 2 - 1) _ (by omega) (by omega)]

theorem Tr.setF_comm {α : Type} (x y : α) : ∀ (f n m : Nat) (t : Tr α), n < f → m < f → n ≠ m → Tr.setF y f m (Tr.setF x f n t) = Tr.setF x f n (Tr.setF y f m t)
  | 0, n, _, _, h, _, _ => absurd h (Nat.not_lt_zero n)
  | f + 1, n, m, t, h, h', hn => by
    have c1 : n ≠ 0 → m ≠ 0 → n % 2 = 1 → m % 2 = 1 → ∀ t, Tr.setF y f (m / 2) (Tr.setF x f (n / 2) t) = Tr.setF x f (n / 2) (Tr.setF y f (m / 2) t) :=
      fun _ _ _ _ t => Tr.setF_comm x y f _ _ t (by omega) (by omega) (by omega)
    have c2 : n ≠ 0 → m ≠ 0 → n % 2 ≠ 1 → m % 2 ≠ 1 → ∀ t, Tr.setF y f (m / 2 - 1) (Tr.setF x f (n / 2 - 1) t) = Tr.setF x f (n / 2 - 1) (Tr.setF y f (m / 2 - 1) t) :=
      fun _ _ _ _ t => Tr.setF_comm x y f _ _ t (by omega) (by omega) (by omega)
    by_cases h0 : n = 0 <;> by_cases g0 : m = 0
    · omega
    · cases t <;> by_cases gp : m % 2 = 1 <;> simp [Tr.setF_leaf, Tr.setF_node, h0, g0, gp]
    · cases t <;> by_cases hp : n % 2 = 1 <;> simp [Tr.setF_leaf, Tr.setF_node, h0, g0, hp]
    · by_cases hp : n % 2 = 1 <;> by_cases gp : m % 2 = 1
      · cases t <;> simp only [Tr.setF_leaf, Tr.setF_node, if_neg h0, if_neg g0, if_pos hp, if_pos gp, c1 h0 g0 hp gp]
      · cases t <;> simp only [Tr.setF_leaf, Tr.setF_node, if_neg h0, if_neg g0, if_pos hp, if_neg gp]
      · cases t <;> simp only [Tr.setF_leaf, Tr.setF_node, if_neg h0, if_neg g0, if_neg hp, if_pos gp]
      · cases t <;> simp only [Tr.setF_leaf, Tr.setF_node, if_neg h0, if_neg g0, if_neg hp, if_neg gp, c2 h0 g0 hp gp]

theorem Tr.set_comm {α : Type} (t : Tr α) (n m : Nat) (x y : α) (h : n ≠ m) : (t.set n x).set m y = (t.set m y).set n x := by
  unfold Tr.set
  rw [Tr.setF_fuel x (n + 1) (n + m + 1) n t (by omega) (by omega), Tr.setF_fuel y (m + 1) (n + m + 1) m _ (by omega) (by omega),
    Tr.setF_fuel y (m + 1) (n + m + 1) m t (by omega) (by omega), Tr.setF_fuel x (n + 1) (n + m + 1) n _ (by omega) (by omega)]
  exact Tr.setF_comm x y _ n m t (by omega) (by omega) h

end Go.Ab
