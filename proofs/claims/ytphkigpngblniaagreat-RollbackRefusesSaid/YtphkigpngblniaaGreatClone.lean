/- maps.Clone (the run of the model's entry, and the walk about it). -/
import Derived.Test.YtphkigpngblniaaGreatAcD
import Derived.Laws.Externs
import Derived.MapKept
import Derived.WalkKit
import Derived.Test.YtphkigpngblniaaGreatProg
namespace Go.Proofs
open Go.RowKit Go.Maps

theorem Tryz.mapIsNilIn (d : Nat) (t k e : TypeId) (p : Option Nat) (w : World) (h : Tryz.prog.underlying t = some (.map k e)) : (Op.equalIn (d + 1) t (.map p) (.map none)).run Tryz.prog w = .ok p.isNone w := by
  cases p <;> simp [Op.equalIn, run_underlying h]

theorem Tryz.mapIsNil (t k e : TypeId) (p : Option Nat) (w : World) (h : Tryz.prog.underlying t = some (.map k e)) : (binOp .eql t (.map p) (.map none)).run Tryz.prog w = .ok (.bool p.isNone) w := by
  have h1 : (Op.equal t (.map p) (.map none)).run Tryz.prog w = .ok p.isNone w := Tryz.mapIsNilIn 9999 t k e p w h
  simp only [binOp]
  simp [h1]

theorem Tryz.asserted (t xT k e : TypeId) (v : Value) (w : World) (h : Tryz.prog.underlying t = some (.map k e)) : (Instr.typeAssert (.iface t v) xT t false).run Tryz.prog w = .ok v w := by
  simp [Instr.typeAssert, run_underlying h, go_sem, Result.andThen]

theorem Tryz.cloneRun {r : Nat} {es : Array MapEntry} {clock : Nat} (t : TypeId) (w : World) (hb : w.heap[r]? = some (.map es clock)) :
    (Extern.MapsClone.clone #[.iface t (.map (some r))]).run Tryz.prog w = .ok (.iface t (.map (some w.heap.size))) (w.alloc (.map es clock)) := by
  have e : Extern.MapsClone.clone #[.iface t (.map (some r))] = (getObj r >>= fun o => match o with
      | .map entries clock => (newObj (.map entries clock) >>= fun n => pure (.iface t (.map (some n))))
      | _ => stuck "maps.clone: a map expected") := rfl
  rw [e]
  simp [MapKept.run_getObj_map hb, Result.andThen, go_sem]

set_option maxRecDepth 100000 in
set_option maxHeartbeats 2000000 in
theorem Tryz.clonesMap111 : Go.Ab.ClonesMap Tryz.prog 111 := by
  refine ⟨fun b es clock w hb => ?_, fun w => ?_⟩
  · have hq := fun w => Tryz.mapIsNil 167 _ _ (some b) w Tryz.underlying167
    go_enter Tryz.func111, Tryz.ntmps111
    go_wp2
    rw [run_callFunc_extern Tryz.func172 (by kernel_rfl) (by kernel_rfl) (by kernel_rfl) (e := Extern.MapsClone.clone) (by kernel_rfl), Tryz.cloneRun 167 w hb]
    simp only [Result.andThen]
    rw [Oper.upon_value]
    go_wp2
    rw [Tryz.asserted 167 20 _ _ _ _ Tryz.underlying167]
    simp only [Result.andThen]
    rw [Oper.upon_value]
    go_wp2
    go_ret
    exact ⟨rfl, rfl⟩
  · have hq := fun w => Tryz.mapIsNil 167 _ _ none w Tryz.underlying167
    go_enter Tryz.func111, Tryz.ntmps111
    go_wp2
    go_ret
    exact ⟨rfl, rfl⟩

set_option maxRecDepth 100000 in
set_option maxHeartbeats 2000000 in
theorem Tryz.clonesMap133 : Go.Ab.ClonesMap Tryz.prog 133 := by
  refine ⟨fun b es clock w hb => ?_, fun w => ?_⟩
  · have hq := fun w => Tryz.mapIsNil 198 _ _ (some b) w Tryz.underlying198
    go_enter Tryz.func133, Tryz.ntmps133
    go_wp2
    rw [run_callFunc_extern Tryz.func172 (by kernel_rfl) (by kernel_rfl) (by kernel_rfl) (e := Extern.MapsClone.clone) (by kernel_rfl), Tryz.cloneRun 198 w hb]
    simp only [Result.andThen]
    rw [Oper.upon_value]
    go_wp2
    rw [Tryz.asserted 198 20 _ _ _ _ Tryz.underlying198]
    simp only [Result.andThen]
    rw [Oper.upon_value]
    go_wp2
    go_ret
    exact ⟨rfl, rfl⟩
  · have hq := fun w => Tryz.mapIsNil 198 _ _ none w Tryz.underlying198
    go_enter Tryz.func133, Tryz.ntmps133
    go_wp2
    go_ret
    exact ⟨rfl, rfl⟩

end Go.Proofs

