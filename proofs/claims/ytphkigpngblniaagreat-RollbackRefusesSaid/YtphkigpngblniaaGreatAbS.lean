/- How an abstract state stands for a world: objects' versions are blocks; what is alive reads the same. -/
import Derived.Test.YtphkigpngblniaaGreatAbR
import Derived.Laws.World
import Derived.Laws.Sem
namespace Go.Ab
set_option linter.unusedSectionVars false

variable [Rho]

/-- What a version of an object is: a block, and how many cells it has. -/
structure Tgt where
  b : Nat
  fin : Nat
  off : Nat

abbrev Mu := Nat → Nat → Option Tgt

def All2 {α β : Type} (R : α → β → Prop) : List α → List β → Prop
  | [], [] => True
  | a :: as, b :: bs => R a b ∧ All2 R as bs
  | _, _ => False

def LR (μ : Mu) (l : Loc) (a : Addr) : Prop := ∃ g, μ l.o l.v = some g ∧ a = ⟨g.b, g.off + l.i, none⟩

def SR (μ : Mu) (l : Loc) (len cap : Nat) (ex : Bool) (a : Addr) (len' cap' : Nat) : Prop :=
  len = len' ∧
  if ex = true then LR μ l a ∧ cap' = cap ∧ len ≤ cap
  else (cap = 0 ∧ len = 0) ∨
    (∃ g sz, μ l.o l.v = some g ∧ a = ⟨g.b, g.off + l.i, none⟩ ∧ len ≤ cap ∧ cap ≤ cap' ∧ 0 < cap ∧ 0 < sz ∧ l.i + cap * sz = l.v ∧ l.i + cap' * sz = g.fin)

/-- Values of one cell. -/
def CR (μ : Mu) : AV → Value → Prop
  | .int k n, .int k' n' => k = k' ∧ n = n'
  | .sym k e lo hi o, .int k' n' => k = k' ∧ n' = e.val + o ∧ lo ≤ e.val ∧ e.val ≤ hi
  | .bool b, .bool b' => b = b'
  | .str s, .string s' => s = s'
  | .ptr none, .pointer none => True
  | .ptr (some l), .pointer (some a) => LR μ l a
  | .slice none n c _, .slice none n' c' => n = 0 ∧ c = 0 ∧ n' = 0 ∧ c' = 0
  | .slice (some l) n c ex, .slice (some a) n' c' => SR μ l n c ex a n' c'
  | .map none, .map none => True
  | .map (some o), .map (some r) => ∃ g, μ o 0 = some g ∧ g.b = r
  | .func f ls, .func fn first captured => fn = .func f ∧ first = #[] ∧ All2 (fun l v => ∃ a, v = .pointer (some a) ∧ LR μ l a) ls captured.toList
  | .nilFunc, .nilFunc => True
  | .nilIface, .nilIface => True
  | _, _ => False

/-- Values of a variable. -/
def VR0 (μ : Mu) : AV → Value → Prop
  | .agg cs, .agg vs => All2 (CR μ) cs vs.toList
  | x, v => CR μ x v

/-- Values of a temporary. -/
def VR (μ : Mu) : AV → Value → Prop
  | .tup vs, .tuple ws => All2 (VR0 μ) vs ws.toList
  | x, v => VR0 μ x v

/-- Entries of a map: in whatever order. -/
def MapR (μ : Mu) (es : List (AV × AV)) (ents : Array MapEntry) (clock : Nat) : Prop :=
  ∃ xs ys : List (Int × AV), es = xs.map (fun p => (.int .i64 p.1, p.2)) ∧ (xs.map (·.1)).Nodup ∧ ys.Perm xs ∧
    All2 (fun p (m : MapEntry) => m.key = .int .i64 p.1 ∧ VR0 μ p.2 m.val) ys ents.toList ∧
    (ents.toList.map (·.born)).Nodup ∧ ∀ m ∈ ents.toList, m.born < clock

/-- An array's version, and the block that it is. -/
structure ArrR (μ : Mu) (cs : List AV) (lo : Nat) (ro : Bool) (v : Nat) (g : Tgt) (w : World) : Prop where
  fin : v ≤ g.fin
  cell : ∀ i x, i < v → cs[i]? = some x → ∃ y, w.cell? ⟨g.b, g.off + i, none⟩ = some y ∧ CR μ x y
  there : ∀ i, i < g.fin → (w.cell? ⟨g.b, g.off + i, none⟩).isSome = true
  free : ro = false → ∀ i, w.frozen? ⟨g.b, i, none⟩ = false

structure R (μ : Mu) (s : St) (w : World) : Prop where
  fresh : ∀ o v g, μ o v = some g → o < s.n ∧ (∃ x, s.h.get o = some x) ∧ g.b < w.heap.size
  next : ∀ o, s.n ≤ o → s.h.get o = none
  inj : ∀ o v g o' v' g', μ o v = some g → μ o' v' = some g' → g.b = g'.b → o = o'
  offs : ∀ o v g o' v' g', μ o v = some g → μ o' v' = some g' → g.b = g'.b → g.off = g'.off
  ext : ∀ o cs lo ro v g, s.h.get o = some (.arr cs lo ro) → μ o v = some g → v ≤ cs.length
  arr : ∀ o cs lo ro v g, s.h.get o = some (.arr cs lo ro) → μ o v = some g → lo ≤ v → ArrR μ cs lo ro v g w
  map : ∀ o es v g, s.h.get o = some (.map es) → μ o v = some g → v = 0 ∧ ∃ ents clock, w.heap[g.b]? = some (.map ents clock) ∧ MapR μ es ents clock

/-- More is mapped: to new blocks, or to a block of the same object. -/
structure Ext (μ μ' : Mu) (w : World) : Prop where
  old : ∀ o v g, μ o v = some g → μ' o v = some g
  new : ∀ o v g, μ o v = none → μ' o v = some g → w.heap.size ≤ g.b ∨ ∃ v0 g0, μ o v0 = some g0 ∧ g0.b = g.b

/-- What was there is as it was, but for objects that may be written. -/
structure Kept (b : Bar) (μ : Mu) (w w' : World) : Prop where
  size : w.heap.size ≤ w'.heap.size
  heap : ∀ B, B < w.heap.size → (∀ o v g, μ o v = some g → g.b = B → b.ok o = false) → w'.heap[B]? = w.heap[B]?
  os : w'.os = w.os
  out : w'.output = w.output

/-! ### lists -/

theorem All2.mono {α β : Type} {R R' : α → β → Prop} (h : ∀ a b, R a b → R' a b) : ∀ {as : List α} {bs : List β}, All2 R as bs → All2 R' as bs
  | [], [], _ => trivial
  | _ :: _, _ :: _, ⟨h1, h2⟩ => ⟨h _ _ h1, All2.mono h h2⟩
  | [], _ :: _, h => h.elim
  | _ :: _, [], h => h.elim

theorem All2.length {α β : Type} {R : α → β → Prop} : ∀ {as : List α} {bs : List β}, All2 R as bs → as.length = bs.length
  | [], [], _ => rfl
  | _ :: _, _ :: _, ⟨_, h2⟩ => by simp [All2.length h2]
  | [], _ :: _, h => h.elim
  | _ :: _, [], h => h.elim

theorem All2.get {α β : Type} {R : α → β → Prop} : ∀ {as : List α} {bs : List β}, All2 R as bs → ∀ {i : Nat} {a : α}, as[i]? = some a → ∃ b, bs[i]? = some b ∧ R a b
  | [], [], _, i, a, h => by simp at h
  | x :: xs, y :: ys, ⟨h1, h2⟩, 0, a, h => by simp at h; subst h; exact ⟨y, by simp, h1⟩
  | x :: xs, y :: ys, ⟨h1, h2⟩, i + 1, a, h => by simpa using All2.get h2 (i := i) (a := a) (by simpa using h)
  | [], _ :: _, h, _, _, _ => h.elim
  | _ :: _, [], h, _, _, _ => h.elim

theorem All2.append {α β : Type} {R : α → β → Prop} : ∀ {as : List α} {bs : List β} {cs : List α} {ds : List β}, All2 R as bs → All2 R cs ds → All2 R (as ++ cs) (bs ++ ds)
  | [], [], _, _, _, h => h
  | _ :: _, _ :: _, _, _, ⟨h1, h2⟩, h => ⟨h1, All2.append h2 h⟩
  | [], _ :: _, _, _, h, _ => h.elim
  | _ :: _, [], _, _, h, _ => h.elim

theorem All2.take {α β : Type} {R : α → β → Prop} : ∀ (n : Nat) {as : List α} {bs : List β}, All2 R as bs → All2 R (as.take n) (bs.take n)
  | 0, _, _, _ => by simp [All2]
  | n + 1, [], [], _ => by simp [All2]
  | n + 1, _ :: _, _ :: _, ⟨h1, h2⟩ => by simpa [All2] using ⟨h1, All2.take n h2⟩
  | _ + 1, [], _ :: _, h => h.elim
  | _ + 1, _ :: _, [], h => h.elim

theorem All2.drop {α β : Type} {R : α → β → Prop} : ∀ (n : Nat) {as : List α} {bs : List β}, All2 R as bs → All2 R (as.drop n) (bs.drop n)
  | 0, _, _, h => by simpa using h
  | n + 1, [], [], _ => by simp [All2]
  | n + 1, _ :: _, _ :: _, ⟨_, h2⟩ => by simpa using All2.drop n h2
  | _ + 1, [], _ :: _, h => h.elim
  | _ + 1, _ :: _, [], h => h.elim

theorem All2.of_get {α β : Type} {R : α → β → Prop} : ∀ {as : List α} {bs : List β}, as.length = bs.length → (∀ (i : Nat) (a : α), as[i]? = some a → ∃ b, bs[i]? = some b ∧ R a b) → All2 R as bs
  | [], [], _, _ => trivial
  | a :: as, b :: bs, hl, h => by
    refine ⟨?_, All2.of_get (by simpa using hl) fun i x hx => by simpa using h (i + 1) x (by simpa using hx)⟩
    obtain ⟨y, hy, hr⟩ := h 0 a (by simp)
    simp at hy; subst hy; exact hr
  | [], _ :: _, hl, _ => by simp at hl
  | _ :: _, [], hl, _ => by simp at hl

theorem All2.map_right {α β γ : Type} {R : α → γ → Prop} (f : β → γ) : ∀ {as : List α} {bs : List β}, All2 (fun a b => R a (f b)) as bs → All2 R as (bs.map f)
  | [], [], _ => trivial
  | _ :: _, _ :: _, ⟨h1, h2⟩ => ⟨h1, All2.map_right f h2⟩
  | [], _ :: _, h => h.elim
  | _ :: _, [], h => h.elim

/-! ### more is mapped -/

theorem Ext.refl (μ : Mu) (w : World) : Ext μ μ w := ⟨fun _ _ _ h => h, fun o v g h h' => by rw [h] at h'; cases h'⟩

theorem Ext.trans {μ μ1 μ2 : Mu} {w w1 : World} (h : Ext μ μ1 w) (h1 : Ext μ1 μ2 w1) (hs : w.heap.size ≤ w1.heap.size) : Ext μ μ2 w where
  old o v g hg := h1.old o v g (h.old o v g hg)
  new o v g hn hg := by
    cases hm : μ1 o v with
    | some g1 =>
      have := h1.old o v g1 hm
      rw [hg] at this; cases this
      exact h.new o v g hn hm
    | none =>
      rcases h1.new o v g hm hg with h2 | ⟨v0, g0, h2, h3⟩
      · exact .inl (Nat.le_trans hs h2)
      · cases hm0 : μ o v0 with
        | some g00 =>
          have := h.old o v0 g00 hm0
          rw [h2] at this; cases this
          exact .inr ⟨v0, _, hm0, h3⟩
        | none =>
          rcases h.new o v0 g0 hm0 h2 with h4 | ⟨v1, g1, h4, h5⟩
          · exact .inl (h3 ▸ h4)
          · exact .inr ⟨v1, g1, h4, h5.trans h3⟩

theorem LR.mono {μ μ' : Mu} {l : Loc} {a : Addr} (he : ∀ o v g, μ o v = some g → μ' o v = some g) (h : LR μ l a) : LR μ' l a :=
  let ⟨g, h1, h2⟩ := h; ⟨g, he _ _ _ h1, h2⟩

theorem SR.mono {μ μ' : Mu} {l : Loc} {n c : Nat} {ex : Bool} {a : Addr} {n' c' : Nat} (he : ∀ o v g, μ o v = some g → μ' o v = some g) (h : SR μ l n c ex a n' c') : SR μ' l n c ex a n' c' := by
  refine ⟨h.1, ?_⟩
  have h2 := h.2
  split
  · rename_i hx; rw [if_pos hx] at h2; exact ⟨h2.1.mono he, h2.2⟩
  · rename_i hx; rw [if_neg hx] at h2
    rcases h2 with h2 | ⟨g, sz, h3, h4⟩
    · exact .inl h2
    · exact .inr ⟨g, sz, he _ _ _ h3, h4⟩

theorem CR.mono {μ μ' : Mu} {x : AV} {v : Value} (he : ∀ o v g, μ o v = some g → μ' o v = some g) (h : CR μ x v) : CR μ' x v := by
  unfold CR at *
  split at h <;> first
    | exact h
    | exact LR.mono he h
    | exact SR.mono he h
    | (obtain ⟨g, h1, h2⟩ := h; exact ⟨g, he _ _ _ h1, h2⟩)
    | (obtain ⟨h1, h2, h3⟩ := h; exact ⟨h1, h2, h3.mono fun _ _ ⟨a, ha, hl⟩ => ⟨a, ha, hl.mono he⟩⟩)

theorem VR0.mono {μ μ' : Mu} {x : AV} {v : Value} (he : ∀ o v g, μ o v = some g → μ' o v = some g) (h : VR0 μ x v) : VR0 μ' x v := by
  unfold VR0 at *
  split at h
  · exact h.mono fun _ _ => CR.mono he
  · rename_i h1
    first | exact CR.mono he h | (split <;> first | (exact CR.mono he h) | (exact absurd rfl (h1 _ _ rfl)))

theorem VR.mono {μ μ' : Mu} {x : AV} {v : Value} (he : ∀ o v g, μ o v = some g → μ' o v = some g) (h : VR μ x v) : VR μ' x v := by
  unfold VR at *
  split at h
  · exact h.mono fun _ _ => VR0.mono he
  · exact VR0.mono he h

theorem MapR.mono {μ μ' : Mu} {es : List (AV × AV)} {ents : Array MapEntry} {clock : Nat} (he : ∀ o v g, μ o v = some g → μ' o v = some g) (h : MapR μ es ents clock) : MapR μ' es ents clock := by
  obtain ⟨xs, ys, h1, h2, h3, h4, h5⟩ := h
  exact ⟨xs, ys, h1, h2, h3, h4.mono fun _ _ ⟨a, b⟩ => ⟨a, b.mono he⟩, h5⟩

theorem Kept.refl (b : Bar) (μ : Mu) (w : World) : Kept b μ w w := ⟨Nat.le_refl _, fun _ _ _ => rfl, rfl, rfl⟩

theorem Kept.trans {b : Bar} {μ μ1 : Mu} {w w1 w2 : World} (h : Kept b μ w w1) (e : Ext μ μ1 w) (h1 : Kept b μ1 w1 w2) : Kept b μ w w2 where
  size := Nat.le_trans h.size h1.size
  heap B hB hn := by
    rw [h1.heap B (Nat.lt_of_lt_of_le hB h.size) ?_, h.heap B hB hn]
    intro o v g hg hb
    cases hm : μ o v with
    | some g0 =>
      have := e.old o v g0 hm
      rw [hg] at this; cases this
      exact hn o v _ hm hb
    | none =>
      rcases e.new o v g hm hg with h2 | ⟨v0, g0, h2, h3⟩
      · omega
      · exact hn o v0 g0 h2 (h3.trans hb)
  os := h1.os.trans h.os
  out := h1.out.trans h.out

theorem Kept.weaken {b b' : Bar} {μ : Mu} {w w' : World} (hb : ∀ o, b.ok o = false → b'.ok o = false) (h : Kept b' μ w w') : Kept b μ w w' :=
  ⟨h.size, fun B hB hn => h.heap B hB fun o v g hg hx => hb o (hn o v g hg hx), h.os, h.out⟩

/-! ### worlds -/

theorem cell?_eq {w w' : World} {b i : Nat} (h : w'.heap[b]? = w.heap[b]?) : w'.cell? ⟨b, i, none⟩ = w.cell? ⟨b, i, none⟩ := by
  simp [World.cell?, h]

theorem frozen?_eq {w w' : World} {b i : Nat} (h : w'.heap[b]? = w.heap[b]?) : w'.frozen? ⟨b, i, none⟩ = w.frozen? ⟨b, i, none⟩ := by
  simp [World.frozen?, h]

theorem ArrR.of_block {μ μ' : Mu} {cs : List AV} {lo : Nat} {ro : Bool} {v : Nat} {g : Tgt} {w w' : World} (he : ∀ o v g, μ o v = some g → μ' o v = some g)
    (hb : w'.heap[g.b]? = w.heap[g.b]?) (h : ArrR μ cs lo ro v g w) : ArrR μ' cs lo ro v g w' where
  fin := h.fin
  cell i x hi hx := let ⟨y, h1, h2⟩ := h.cell i x hi hx; ⟨y, by rw [cell?_eq hb]; exact h1, h2.mono he⟩
  there i hi := by rw [cell?_eq hb]; exact h.there i hi
  free hr i := by rw [frozen?_eq hb]; exact h.free hr i

/-- The world has turned, but not where anything is mapped. -/
theorem R.of_heap {μ : Mu} {s : St} {w w' : World} (h : R μ s w) (hs : w.heap.size ≤ w'.heap.size) (hh : ∀ B, B < w.heap.size → w'.heap[B]? = w.heap[B]?) : R μ s w' where
  fresh o v g hg := let ⟨a, b, c⟩ := h.fresh o v g hg; ⟨a, b, Nat.lt_of_lt_of_le c hs⟩
  next := h.next
  inj := h.inj
  offs := h.offs
  ext := h.ext
  arr o cs lo ro v g h1 h2 h3 := (h.arr o cs lo ro v g h1 h2 h3).of_block (fun _ _ _ h => h) (hh _ (h.fresh o v g h2).2.2)
  map o es v g h1 h2 := let ⟨z, a, b, c, d⟩ := h.map o es v g h1 h2; ⟨z, a, b, by rw [hh _ (h.fresh o v g h2).2.2]; exact c, d⟩

theorem R.drew {μ : Mu} {s : St} {w : World} (h : R μ s w) : R μ s w.drew := h.of_heap (Nat.le_refl _) fun _ _ => rfl

/-- More numbers are passed over. -/
theorem R.bump {μ : Mu} {s : St} {w : World} (h : R μ s w) (n : Nat) (hn : s.n ≤ n) : R μ { h := s.h, n := n } w where
  fresh o v g hg := let ⟨a, b, c⟩ := h.fresh o v g hg; ⟨Nat.lt_of_lt_of_le a hn, b, c⟩
  next o ho := h.next o (Nat.le_trans hn ho)
  inj := h.inj
  offs := h.offs
  ext := h.ext
  arr := h.arr
  map := h.map

end Go.Ab
