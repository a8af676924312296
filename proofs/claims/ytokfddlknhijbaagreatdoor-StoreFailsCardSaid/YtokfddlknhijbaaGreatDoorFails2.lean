/- StoreFails at whatever input. -/
import Derived.Test.YtokfddlknhijbaaGreatDoorFails
namespace Go.Proofs.YtokfddlknhijbaaGreatDoor
open Go Go.RowKit Go.Maps
set_option maxHeartbeats 4000000 in
set_option maxRecDepth 100000 in
theorem fails_out (B : Nat) (E : Nat → Addr) (w : World) (hE : Env B E w) (A : Option Addr) (c : Nat) (l : List Chg) (n : Int) (A2 : Option Addr) (c2 : Nat) (keep : List Bool) (A3 : Option Addr) (c3 : Nat) (m : List Chg)
    (hl : ChgsAt w.heap.size w A l) (hll : l.length ≤ 140737488355328) (ht : ∀ c ∈ l, c.text.length ≤ 140737488355328) (hnm : ∀ c ∈ l, c.name.length ≤ 140737488355328)
    (hm : ChgsAt w.heap.size w A3 m) (hml : m.length ≤ 140737488355328) (hmt : ∀ c ∈ m, c.text.length ≤ 140737488355328) (hmn : ∀ c ∈ m, c.name.length ≤ 140737488355328) (hn : n < 0 ∨ 5000 < n) :
    Calls Tryz.prog 7 #[.slice A l.length c, .int .i64 n, .slice A2 keep.length c2, .slice A3 m.length c3] w (HoldPost w) := by
  have hho := hold_any _ E w hE
  go_enter Tryz.func7, Tryz.ntmps7
  go_wp2_with fail
  refine hho.mono ?_
  rintro e w1 ⟨rfl, hb1⟩
  have hli := light_any w.heap.size A c l w1 (hl.below hb1) hll ht hnm
  have hlm := light_any w.heap.size A3 c3 m w1 (hm.below hb1) hml hmt hmn
  clear hho ht hnm hmt hmn
  go_wp2_with fail
  refine hli.mono ?_
  rintro e w2 ⟨b, rfl, hlt, rfl⟩
  clear hli hlt
  cases b with
  | false =>
    go_wp2_with fail
    go_ret
    exact ⟨rfl, hb1⟩
  | true =>
    go_wp2_with fail
    refine hlm.mono ?_
    rintro e w2 ⟨b, rfl, hlt, rfl⟩
    clear hlm hlt
    cases b with
    | false =>
      go_wp2_with fail
      go_ret
      exact ⟨rfl, hb1⟩
    | true =>
      by_cases h0 : n < 0
      · clear hn
        go_wp2_with fail
        go_ret
        exact ⟨rfl, hb1⟩
      · have h5 : 5000 < n := by omega
        clear hn
        go_wp2_with fail
        go_ret
        exact ⟨rfl, hb1⟩
theorem fails_all (B : Nat) (E : Nat → Addr) (w : World) (hE : Env B E w) (A : Option Addr) (c : Nat) (l : List Chg) (n : Int) (A2 : Option Addr) (c2 : Nat) (keep : List Bool) (A3 : Option Addr) (c3 : Nat) (m : List Chg)
    (hl : ChgsAt w.heap.size w A l) (hll : l.length ≤ 140737488355328) (ht : ∀ c ∈ l, c.text.length ≤ 140737488355328) (hnm : ∀ c ∈ l, c.name.length ≤ 140737488355328)
    (hk : BoolsAt w.heap.size w A2 keep) (hkl : keep.length ≤ 140737488355328)
    (hm : ChgsAt w.heap.size w A3 m) (hml : m.length ≤ 140737488355328) (hmt : ∀ c ∈ m, c.text.length ≤ 140737488355328) (hmn : ∀ c ∈ m, c.name.length ≤ 140737488355328) :
    Calls Tryz.prog 7 #[.slice A l.length c, .int .i64 n, .slice A2 keep.length c2, .slice A3 m.length c3] w (HoldPost w) := by
  by_cases h : n < 0 ∨ 5000 < n
  · exact fails_out B E w hE A c l n A2 c2 keep A3 c3 m hl hll ht hnm hm hml hmt hmn h
  · obtain ⟨k, rfl⟩ := Int.eq_ofNat_of_zero_le (show 0 ≤ n by omega)
    exact fails_any B E w hE A c l k A2 c2 keep A3 c3 m hl hll ht hnm hk hkl hm hml hmt hmn (by omega)
end Go.Proofs.YtokfddlknhijbaaGreatDoor
