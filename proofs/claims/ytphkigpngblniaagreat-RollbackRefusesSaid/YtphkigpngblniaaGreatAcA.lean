/- A range over a map of at most one entry: how it is evaluated, and that this is local. -/
import Derived.Test.YtphkigpngblniaaGreatAbD
namespace Go.Ab
set_option linter.unusedSectionVars false
variable [Rho] (P : Program)

/-- The parts of the code of a range over a map. -/
structure RL where
  ops0 : Array Oper
  ops1 : Array Oper
  g : Tmp
  b0 : Nat
  b1 : Nat
  ops2 : Array Oper
  body : Code

def isRange : Code → Code → Option RL
  | .region _ ops0 false, .block b0 (.loop (.seq (.region _ ops1 false) (.seq (.cond (.tmp g) .skip (.exit b2)) (.block b1 (.seq (.region _ ops2 false) body))))) =>
    bif Nat.beq b0 b2 then some ⟨ops0, ops1, g, b0, b1, ops2, body⟩ else none
  | _, _ => none

/-- The operation 'range' that closes the first region. -/
def lastOp (os : List Oper) : Option (Tmp × TypeId × Operand) :=
  match os.getLast? with
  | some { dst := some d, op := .range ty x, guard := none, .. } => some (d, ty, x)
  | _ => none

def firstNext (os : List Oper) : Option (Tmp × Tmp × List Oper) :=
  match os with
  | { dst := some dn, op := .next (.tmp d) false, guard := none, .. } :: rest => some (dn, d, rest)
  | _ => none

def firstEntry (os : List Oper) : Option (Tmp × Tmp × List Oper) :=
  match os with
  | { dst := some de, op := .entry (.tmp d), guard := none, .. } :: rest => some (de, d, rest)
  | _ => none

def isIt (t : Temps) (d : Tmp) (q : Nat) : Bool :=
  match t.get d with
  | some (.ptr (some l)) => Nat.beq l.o q && Nat.beq l.v 0 && Nat.beq l.i 0
  | _ => false

/-- 'next' hands back false. -/
def evOver (call : Bar → FuncId → List AV → St → Option (AV × St)) (b : Bar) (ops1 : Array Oper) (rest : List Oper) (dn d g : Tmp) (q : Nat) (t : Temps) (s : St) : Option (Temps × St) :=
  bif isIt t d q then
    match evOps P call b ops1 rest (t.set dn (.tup [.bool false])) s with
    | some (t, s) => match t.get g with
      | some (.bool false) => some (t, s)
      | _ => none
    | none => none
  else none

def done1 (b1 : Nat) : Out → Bool
  | .normal => true
  | .exit i => Nat.beq i b1
  | .ret => false

/-- The one round. -/
def evRound (call : Bar → FuncId → List AV → St → Option (AV × St)) (b : Bar) (fuel : Nat) (rl : RL) (rest1 rest2 : List Oper) (dn de d : Tmp) (q : Nat) (k v : AV) (t : Temps) (s : St) : Option (Temps × St) :=
  match evOps P call b rl.ops1 rest1 (t.set dn (.tup [.bool true, k, v])) s with
  | some (t, s) => match t.get rl.g with
    | some (.bool true) => bif isIt t d q then
        match evOps P call b rl.ops2 rest2 (t.set de (.tup [k, v])) s with
        | some (t, s) => match evCode P call b fuel rl.body t s with
          | some (o, t, s) => bif done1 rl.b1 o then some (t, s) else none
          | none => none
        | none => none
      else none
    | _ => none
  | none => none

def evRange (call : Bar → FuncId → List AV → St → Option (AV × St)) (b : Bar) (fuel : Nat) (rl : RL) (t : Temps) (s : St) : Option (Temps × St) :=
  match lastOp rl.ops0.toList, firstNext rl.ops1.toList, firstEntry rl.ops2.toList with
  | some (d, ty, x), some (dn, d1, rest1), some (de, d2, rest2) =>
    bif Nat.beq d1 d && Nat.beq d2 d && !Nat.beq dn d then
      match evOps P call b rl.ops0 rl.ops0.toList.dropLast t s with
      | some (t, s) => match P.underlying ty, evX t x with
        | some (.map _ _), some (.map m) => match entriesA s m with
          | some [] => evOver P call b rl.ops1 rest1 dn d rl.g s.n (t.set d (.ptr (some ⟨s.n, 0, 0⟩))) { h := s.h.set s.n (.arr [] 0 true), n := s.n + 1 }
          | some [(k, v)] => match m with
            | some mo => match evRound P call { lim := b.lim, no := s.n :: mo :: b.no } fuel rl rest1 rest2 dn de d s.n k v (t.set d (.ptr (some ⟨s.n, 0, 0⟩))) { h := s.h.set s.n (.arr [] 0 true), n := s.n + 1 } with
              | some (t', s') => evOver P call b rl.ops1 rest1 dn d rl.g s.n t' s'
              | none => none
            | none => none
          | _ => none
        | _, _ => none
      | none => none
    else none
  | _, _, _ => none

def evCodeR (call : Bar → FuncId → List AV → St → Option (AV × St)) (b : Bar) (fuel : Nat) : Code → Temps → St → Option (Out × Temps × St)
  | .seq x y, t, s => match isRange x y with
    | some rl => match evRange P call b fuel rl t s with
      | some (t, s) => some (.normal, t, s)
      | none => none
    | none => match evCodeR call b fuel x t s with
      | some (.normal, t, s) => evCodeR call b fuel y t s
      | r => r
  | c, t, s => evCode P call b fuel c t s

def evBodyR (call : Bar → FuncId → List AV → St → Option (AV × St)) (b : Bar) (fuel : Nat) (fn : Func) (args : List AV) (s : St) : Option (AV × St) :=
  match fn.body with
  | none => none
  | some c =>
    bif dstsOk fn.ntmps c && Nat.ble args.length fn.ntmps then
      match (match evCodeR P call b fuel c (enterT args 0 .leaf) s with
        | some (.normal, t, s) => some (t, s)
        | some (.ret, t, s) => some (t, s)
        | _ => none) with
      | some (t, s) => match resultsA P t s fn.results.toList with
        | some vs => match packA vs with
          | some v => some (v, s)
          | none => none
        | none => none
      | none => none
    else none

def withRanges (loops : Nat) (call : Bar → FuncId → List AV → St → Option (AV × St)) (f : FuncId) (b : Bar) (args : List AV) (s : St) : Option (AV × St) :=
  match P.funcs[f]? with
  | some fn => evBodyR P call b loops fn args s
  | none => none

variable {P}

theorem evOver_eff {call : Bar → FuncId → List AV → St → Option (AV × St)} (hc : CallL call) {b : Bar} {ops1 : Array Oper} {rest : List Oper} {dn d g : Tmp} {q : Nat} {t t' : Temps} {s s' : St}
    (h : evOver P call b ops1 rest dn d g q t s = some (t', s')) :
    Eff b s s' ∧ ∀ k x, k < s.n → s.h.get k = none → evOver P call b ops1 rest dn d g q t (s.put k x) = some (t', s'.put k x) := by
  unfold evOver at h
  rw [cond_eq_ite] at h
  split at h
  · rename_i hit
    split at h
    · rename_i t1 s1 hos
      obtain ⟨k1, k2⟩ := evOps_eff hc hos
      split at h
      · rename_i hg
        cases h
        exact ⟨k1, fun k x hkn hk => by unfold evOver; simp only [hit, cond_true, k2 k x hkn hk, hg]⟩
      · cases h
    · cases h
  · cases h

theorem evRound_eff {call : Bar → FuncId → List AV → St → Option (AV × St)} (hc : CallL call) {b : Bar} {fuel : Nat} {rl : RL} {rest1 rest2 : List Oper} {dn de d : Tmp} {q : Nat} {k v : AV} {t t' : Temps} {s s' : St}
    (h : evRound P call b fuel rl rest1 rest2 dn de d q k v t s = some (t', s')) :
    Eff b s s' ∧ ∀ i x, i < s.n → s.h.get i = none → evRound P call b fuel rl rest1 rest2 dn de d q k v t (s.put i x) = some (t', s'.put i x) := by
  unfold evRound at h
  split at h
  · rename_i t1 s1 h1
    obtain ⟨k1, k2⟩ := evOps_eff hc h1
    split at h
    · rename_i hg
      rw [cond_eq_ite] at h
      split at h
      · rename_i hit
        split at h
        · rename_i t2 s2 h2
          obtain ⟨k3, k4⟩ := evOps_eff hc h2
          split at h
          · rename_i o t3 s3 h3
            obtain ⟨k5, k6⟩ := evCode_eff hc h3
            rw [cond_eq_ite] at h
            split at h
            · rename_i hd
              cases h
              refine ⟨(k1.trans k3).trans k5, fun i x hin hi => ?_⟩
              have i1 := k1.off i hin hi
              have n1 := Nat.lt_of_lt_of_le hin k1.n
              have i2 := k3.off i n1 i1
              have n2 := Nat.lt_of_lt_of_le n1 k3.n
              unfold evRound
              simp only [k2 i x hin hi, hg, hit, cond_true, k4 i x n1 i1, k6 i x n2 i2, hd]
            · cases h
          · cases h
        · cases h
      · cases h
    · cases h
  · cases h

theorem evRange_eff {call : Bar → FuncId → List AV → St → Option (AV × St)} (hc : CallL call) {b : Bar} {fuel : Nat} {rl : RL} {t t' : Temps} {s s' : St} (h : evRange P call b fuel rl t s = some (t', s')) :
    Eff b s s' ∧ ∀ i x, i < s.n → s.h.get i = none → evRange P call b fuel rl t (s.put i x) = some (t', s'.put i x) := by
  unfold evRange at h
  split at h
  · rename_i d ty x dn d1 rest1 de d2 rest2 e0 e1 e2
    rw [cond_eq_ite] at h
    split at h
    · rename_i hd
      split at h
      · rename_i t1 s1 h1
        obtain ⟨k1, k2⟩ := evOps_eff hc h1
        split at h
        · rename_i kt et m hu hx
          split at h
          · rename_i hes
            obtain ⟨k3, k4⟩ := evOver_eff hc h
            refine ⟨k1.trans (Eff.trans Eff.new k3), fun i y hin hi => ?_⟩
            have i1 := k1.off i hin hi
            have n1 := Nat.lt_of_lt_of_le hin k1.n
            unfold evRange
            simp only [e0, e1, e2, hd, cond_true, k2 i y hin hi, hu, hx, entriesA_frame y i1 hes]
            rw [new_comm n1]
            exact k4 i y (by simp only; omega) (by simp only; rw [Tr.get_set_other _ _ _ _ (by omega)]; exact i1)
          · rename_i k v hes
            split at h
            · rename_i mo
              split at h
              · rename_i t2 s2 h2
                obtain ⟨k3, k4⟩ := evRound_eff hc h2
                obtain ⟨k5, k6⟩ := evOver_eff hc h
                have k3' : Eff b _ s2 := k3.weaken fun o ho => Bar.more (l := [s1.n, mo]) ho
                refine ⟨(k1.trans (Eff.trans Eff.new k3')).trans k5, fun i y hin hi => ?_⟩
                have i1 := k1.off i hin hi
                have n1 := Nat.lt_of_lt_of_le hin k1.n
                have i2 : ({ h := s1.h.set s1.n (.arr [] 0 true), n := s1.n + 1 } : St).h.get i = none := by simp only; rw [Tr.get_set_other _ _ _ _ (by omega)]; exact i1
                have n2 : i < ({ h := s1.h.set s1.n (.arr [] 0 true), n := s1.n + 1 } : St).n := by simp only; omega
                unfold evRange
                simp only [e0, e1, e2, hd, cond_true, k2 i y hin hi, hu, hx, entriesA_frame y i1 hes]
                rw [new_comm n1]
                have := k4 i y n2 i2
                simp only [St.put] at this ⊢
                rw [this]
                exact k6 i y (Nat.lt_of_lt_of_le n2 k3.n) (k3.off i n2 i2)
              · cases h
            · cases h
          · cases h
        · cases h
      · cases h
    · cases h
  · cases h

theorem evCodeR_eff {call : Bar → FuncId → List AV → St → Option (AV × St)} (hc : CallL call) {b : Bar} {fuel : Nat} : ∀ {c : Code} {t t' : Temps} {s s' : St} {o : Out}, evCodeR P call b fuel c t s = some (o, t', s') →
    Eff b s s' ∧ ∀ q x, q < s.n → s.h.get q = none → evCodeR P call b fuel c t (s.put q x) = some (o, t', s'.put q x) := by
  intro c
  induction c with
  | seq x y ihx ihy =>
    intro t t' s s' o h
    simp only [evCodeR] at h
    split at h
    · rename_i rl hrl
      split at h
      · rename_i t1 s1 h1
        cases h
        obtain ⟨k1, k2⟩ := evRange_eff hc h1
        exact ⟨k1, fun q z hqn hq => by simp only [evCodeR, hrl, k2 q z hqn hq]⟩
      · cases h
    · rename_i hrl
      split at h
      · rename_i t1 s1 h1
        obtain ⟨k1, k2⟩ := ihx h1
        obtain ⟨k3, k4⟩ := ihy h
        exact ⟨k1.trans k3, fun q z hqn hq => by
          simp only [evCodeR, hrl, k2 q z hqn hq]
          exact k4 q z (Nat.lt_of_lt_of_le hqn k1.n) (k1.off q hqn hq)⟩
      · rename_i hne
        obtain ⟨k1, k2⟩ := ihx h
        refine ⟨k1, fun q z hqn hq => ?_⟩
        simp only [evCodeR, hrl, k2 q z hqn hq]
        split
        · rename_i e; cases e; exact absurd h (hne _ _)
        · rfl
  | _ => intro t t' s s' o h; simp only [evCodeR] at h ⊢; exact evCode_eff hc h

theorem evBodyR_eff {call : Bar → FuncId → List AV → St → Option (AV × St)} (hc : CallL call) {b : Bar} {fuel : Nat} {fn : Func} {args : List AV} {s s' : St} {r : AV} (h : evBodyR P call b fuel fn args s = some (r, s')) :
    Eff b s s' ∧ ∀ q x, q < s.n → s.h.get q = none → evBodyR P call b fuel fn args (s.put q x) = some (r, s'.put q x) := by
  unfold evBodyR at h
  split at h
  · cases h
  · rename_i c hbd
    rw [cond_eq_ite] at h
    split at h
    · rename_i hok
      split at h
      · rename_i t1 s1 hcd
        have key : ∃ o, evCodeR P call b fuel c (enterT args 0 .leaf) s = some (o, t1, s1) ∧ (o = .normal ∨ o = .ret) := by
          split at hcd
          · rename_i h1; cases hcd; exact ⟨_, h1, .inl rfl⟩
          · rename_i h1; cases hcd; exact ⟨_, h1, .inr rfl⟩
          · cases hcd
        obtain ⟨o, h1, ho⟩ := key
        obtain ⟨k1, k2⟩ := evCodeR_eff hc h1
        split at h
        · rename_i vs hvs
          split at h
          · rename_i v hv
            cases h
            refine ⟨k1, fun q x hqn hq => ?_⟩
            unfold evBodyR
            rw [hbd]
            simp only [hok, cond_true]
            rw [k2 q x hqn hq]
            have hoff := k1.off q hqn hq
            rcases ho with rfl | rfl
            · simp only [resultsA_frame x hoff hvs, hv]
            · simp only [resultsA_frame x hoff hvs, hv]
          · cases h
        · cases h
      · cases h
    · cases h

end Go.Ab
