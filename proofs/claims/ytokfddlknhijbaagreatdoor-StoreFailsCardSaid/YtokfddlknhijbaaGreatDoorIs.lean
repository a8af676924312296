/- errors.Is at two sentinels. -/
import Derived.Test.YtokfddlknhijbaaGreatDoorAs
namespace Go.Proofs.YtokfddlknhijbaaGreatDoor
open Go Go.RowKit Go.Extern.Stop Go.Stop Go.Extern
theorem Ref.comp188 (w : World) : (callFunc 134 #[.agg #[.pointer (some ⟨11, 188, none⟩)]]).run Tryz.prog w = .ok (.value (.bool true)) w := by kernel_rfl
theorem Ref.isComp : (Tryz.prog.info? 188).map (·.comparable) = some true := by kernel_rfl
theorem Ref.isSize : (Tryz.prog.info? 206).map (·.size) = some 1 := by kernel_rfl
set_option maxHeartbeats 4000000 in
theorem is_same (a : Addr) (w : World) :
    Calls Tryz.prog 59 #[.iface 188 (.pointer (some a)), .iface 188 (.pointer (some a))] w fun ev w' => ev = .returned (.bool true) ∧ w' = w := by
  obtain ⟨i, hi, hcmp⟩ := Option.map_eq_some_iff.1 Ref.isComp
  obtain ⟨j, hj, hjs⟩ := Option.map_eq_some_iff.1 Ref.isSize
  have h78 := @run_callFunc_extern Tryz.prog 78 _ ReflectliteType.typeOf Tryz.func78 (by kernel_rfl) (by kernel_rfl) (by kernel_rfl) (by kernel_rfl)
  have f7 := Ref.typeOf188
  have f8 := Ref.comp188
  have heq := run_eql_iface_ptr_same (P := Tryz.prog) w a Tryz.underlying25 Tryz.underlying188 hi hcmp hj
  go_enter Tryz.func59, Tryz.ntmps59
  go_wp2
  refine wp_loop_rounds 1 ?_
  rw [rounds_succ]
  go_wp2
  go_ret
  exact ⟨rfl, rfl⟩
set_option maxHeartbeats 4000000 in
theorem is_other (a b : Addr) (ca cb : Array Value) (ta tb : TypeId) (w : World) (hne : a ≠ b) (ha : w.heap[a.block]? = some (.cells ca ta (0, 0))) (hb : w.heap[b.block]? = some (.cells cb tb (0, 0))) :
    Calls Tryz.prog 59 #[.iface 188 (.pointer (some a)), .iface 188 (.pointer (some b))] w fun e w' => e = .returned (.bool false) ∧ w' = w := by
  obtain ⟨i, hi, hcmp⟩ := Option.map_eq_some_iff.1 Ref.isComp
  obtain ⟨j, hj, hjs⟩ := Option.map_eq_some_iff.1 Ref.isSize
  have h78 := @run_callFunc_extern Tryz.prog 78 _ ReflectliteType.typeOf Tryz.func78 (by kernel_rfl) (by kernel_rfl) (by kernel_rfl) (by kernel_rfl)
  have f7 := Ref.typeOf188
  have f8 := Ref.comp188
  have f9 := Ref.assert163
  have f10 := Ref.assert160
  have f11 := Ref.assert161
  have heq := run_eql_iface_ptr_other (P := Tryz.prog) w Tryz.underlying25 Tryz.underlying188 hi hcmp hj (by rw [hjs]; decide) hne ha hb
  go_enter Tryz.func59, Tryz.ntmps59
  go_wp2
  refine wp_loop_rounds 1 ?_
  rw [rounds_succ]
  go_wp2
  go_ret
  exact ⟨rfl, rfl⟩
end Go.Proofs.YtokfddlknhijbaaGreatDoor
