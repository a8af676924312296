/- StoreMany at whatever input. -/
import Derived.Test.YtokfddlknhijbaaGreatDoorMany2
namespace Go.Proofs.YtokfddlknhijbaaGreatDoor
open Go Go.RowKit Go.Maps
set_option maxHeartbeats 4000000 in
set_option maxRecDepth 100000 in
theorem many_out (B : Nat) (E : Nat → Addr) (w : World) (hE : Env B E w) (n ll : Int) (h : n < 0 ∨ 110 < n ∨ ll < 0 ∨ 300010 < ll) : Calls Tryz.prog 3 #[.int .i64 n, .int .i64 ll] w (HoldPost w) := by
  have hho := hold_any _ E w hE
  by_cases h1 : n < 0
  · clear h
    go_enter Tryz.func3, Tryz.ntmps3
    go_wp2_with fail
    refine hho.mono ?_
    rintro e w1 ⟨rfl, hb1⟩
    go_wp2_with fail
    go_ret
    exact ⟨rfl, hb1⟩
  · by_cases h2 : 110 < n
    · clear h
      go_enter Tryz.func3, Tryz.ntmps3
      go_wp2_with fail
      refine hho.mono ?_
      rintro e w1 ⟨rfl, hb1⟩
      go_wp2_with fail
      go_ret
      exact ⟨rfl, hb1⟩
    · by_cases h3 : ll < 0
      · clear h
        go_enter Tryz.func3, Tryz.ntmps3
        go_wp2_with fail
        refine hho.mono ?_
        rintro e w1 ⟨rfl, hb1⟩
        go_wp2_with fail
        go_ret
        exact ⟨rfl, hb1⟩
      · have h4 : 300010 < ll := by omega
        clear h
        go_enter Tryz.func3, Tryz.ntmps3
        go_wp2_with fail
        refine hho.mono ?_
        rintro e w1 ⟨rfl, hb1⟩
        go_wp2_with fail
        go_ret
        exact ⟨rfl, hb1⟩
theorem many_all (B : Nat) (E : Nat → Addr) (w : World) (hE : Env B E w) (n ll : Int) : Calls Tryz.prog 3 #[.int .i64 n, .int .i64 ll] w (HoldPost w) := by
  by_cases h : n < 0 ∨ 110 < n ∨ ll < 0 ∨ 300010 < ll
  · exact many_out B E w hE n ll h
  · obtain ⟨m, rfl⟩ := Int.eq_ofNat_of_zero_le (show 0 ≤ n by omega)
    obtain ⟨k, rfl⟩ := Int.eq_ofNat_of_zero_le (show 0 ≤ ll by omega)
    exact many_any B E w hE m k (by omega) (by omega)
end Go.Proofs.YtokfddlknhijbaaGreatDoor
