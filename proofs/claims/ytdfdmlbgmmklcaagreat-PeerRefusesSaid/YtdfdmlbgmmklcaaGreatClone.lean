/- maps.Clone (the run of the model's entry, and the walk about it). -/
import Derived.Test.YtdfdmlbgmmklcaaGreatAcD
import Derived.Laws.Externs
import Derived.MapKept
import Derived.WalkKit
import Derived.Test.YtdfdmlbgmmklcaaGreatProg
namespace Go.Proofs
open Go.RowKit Go.Maps

theorem Tryz.mapIsNilIn (d : Nat) (t k e : TypeId) (p : Option Nat) (w : World) (h : Tryz.prog.underlying t = some (.map k e)) : (Op.equalIn (d + 1) t (.map p) (.map none)).run Tryz.prog w = .ok p.isNone w := by
  cases p <;> simp [Op.equalIn, run_underlying h]

theorem Tryz.mapIsNil (t k e : TypeId) (p : Option Nat) (w : World) (h : Tryz.prog.underlying t = some (.map k e)) : (binOp .eql t (.map p) (.map none)).run Tryz.prog w = .ok (.bool p.isNone) w := by
  have h1 : (Op.equal t (.map p) (.map none)).run Tryz.prog w = .ok p.isNone w := Tryz.mapIsNilIn 9999 t k e p w h
  simp only [binOp]
  simp [h1]

theorem Tryz.asserted (t xT k e : TypeId) (v : Value) (w : World) (h : Tryz.prog.underlying t = some (.map k e)) : (Instr.typeAssert (.iface t v) xT t false).run Tryz.prog w = .ok v w := by
  simp [Instr.typeAssert, run_underlying h, go_sem, Result.andThen]

theorem Tryz.cloneRun {r : Nat} {es : Array MapEntry} {clock : Nat} (t : TypeId) (w : World) (hb : w.heap[r]? = some (.map es clock)) :
    (Extern.MapsClone.clone #[.iface t (.map (some r))]).run Tryz.prog w = .ok (.iface t (.map (some w.heap.size))) (w.alloc (.map es clock)) := by
  have e : Extern.MapsClone.clone #[.iface t (.map (some r))] = (getObj r >>= fun o => match o with
      | .map entries clock => (newObj (.map entries clock) >>= fun n => pure (.iface t (.map (some n))))
      | _ => stuck "maps.clone: a map expected") := rfl
  rw [e]
  simp [MapKept.run_getObj_map hb, Result.andThen, go_sem]

set_option maxRecDepth 100000 in
set_option maxHeartbeats 2000000 in
theorem Tryz.clonesMap49 : Go.Ab.ClonesMap Tryz.prog 49 := by
  refine ⟨fun b es clock w hb => ?_, fun w => ?_⟩
  · have hq := fun w => Tryz.mapIsNil 62 _ _ (some b) w Tryz.underlying62
    go_enter Tryz.func49, Tryz.ntmps49
    go_wp2
    rw [run_callFunc_extern Tryz.func100 (by kernel_rfl) (by kernel_rfl) (by kernel_rfl) (e := Extern.MapsClone.clone) (by kernel_rfl), Tryz.cloneRun 62 w hb]
    simp only [Result.andThen]
    rw [Oper.upon_value]
    go_wp2
    rw [Tryz.asserted 62 20 _ _ _ _ Tryz.underlying62]
    simp only [Result.andThen]
    rw [Oper.upon_value]
    go_wp2
    go_ret
    exact ⟨rfl, rfl⟩
  · have hq := fun w => Tryz.mapIsNil 62 _ _ none w Tryz.underlying62
    go_enter Tryz.func49, Tryz.ntmps49
    go_wp2
    go_ret
    exact ⟨rfl, rfl⟩

set_option maxRecDepth 100000 in
set_option maxHeartbeats 2000000 in
theorem Tryz.clonesMap160 : Go.Ab.ClonesMap Tryz.prog 160 := by
  refine ⟨fun b es clock w hb => ?_, fun w => ?_⟩
  · have hq := fun w => Tryz.mapIsNil 175 _ _ (some b) w Tryz.underlying175
    go_enter Tryz.func160, Tryz.ntmps160
    go_wp2
    rw [run_callFunc_extern Tryz.func100 (by kernel_rfl) (by kernel_rfl) (by kernel_rfl) (e := Extern.MapsClone.clone) (by kernel_rfl), Tryz.cloneRun 175 w hb]
    simp only [Result.andThen]
    rw [Oper.upon_value]
    go_wp2
    rw [Tryz.asserted 175 20 _ _ _ _ Tryz.underlying175]
    simp only [Result.andThen]
    rw [Oper.upon_value]
    go_wp2
    go_ret
    exact ⟨rfl, rfl⟩
  · have hq := fun w => Tryz.mapIsNil 175 _ _ none w Tryz.underlying175
    go_enter Tryz.func160, Tryz.ntmps160
    go_wp2
    go_ret
    exact ⟨rfl, rfl⟩

end Go.Proofs

