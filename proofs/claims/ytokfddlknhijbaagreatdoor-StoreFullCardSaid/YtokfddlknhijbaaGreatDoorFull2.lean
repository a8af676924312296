/- StoreFull at whatever input. -/
import Derived.Test.YtokfddlknhijbaaGreatDoorFull
namespace Go.Proofs.YtokfddlknhijbaaGreatDoor
open Go Go.RowKit Go.Maps
set_option maxHeartbeats 4000000 in
set_option maxRecDepth 100000 in
theorem full_out (B : Nat) (E : Nat → Addr) (w : World) (hE : Env B E w) (n : Int) (A : Option Addr) (c : Nat) (l : List Chg) (hl : ChgsAt w.heap.size w A l) (hll : l.length ≤ 140737488355328) (ht : ∀ c ∈ l, c.text.length ≤ 140737488355328) (hnm : ∀ c ∈ l, c.name.length ≤ 140737488355328) (h1 : n < 1 ∨ 400 < n) :
    Calls Tryz.prog 4 #[.int .i64 n, .slice A l.length c] w (HoldPost w) := by
  have hho := hold_any _ E w hE
  go_enter Tryz.func4, Tryz.ntmps4
  go_wp2_with fail
  refine hho.mono ?_
  rintro e w1 ⟨rfl, hb1⟩
  have hli := light_any w.heap.size A c l w1 (hl.below hb1) hll ht hnm
  clear hho ht hnm
  go_wp2_with fail
  refine hli.mono ?_
  rintro e w2 ⟨b, rfl, hlt, rfl⟩
  clear hli hlt
  cases b with
  | false =>
    go_wp2_with fail
    go_ret
    exact ⟨rfl, hb1⟩
  | true =>
    by_cases h2 : n < 1
    · clear h1
      go_wp2_with fail
      go_ret
      exact ⟨rfl, hb1⟩
    · have h3 : 400 < n := by omega
      clear h1
      go_wp2_with fail
      go_ret
      exact ⟨rfl, hb1⟩
set_option maxHeartbeats 4000000 in
set_option maxRecDepth 100000 in
theorem full_small (B : Nat) (E : Nat → Addr) (w : World) (hE : Env B E w) (n : Nat) (A : Option Addr) (c : Nat) (l : List Chg) (hl : ChgsAt w.heap.size w A l) (hll : l.length ≤ 140737488355328) (ht : ∀ c ∈ l, c.text.length ≤ 140737488355328) (hnm : ∀ c ∈ l, c.name.length ≤ 140737488355328) (h1 : 1 ≤ n) (h4 : n < 8) :
    Calls Tryz.prog 4 #[.int .i64 n, .slice A l.length c] w (HoldPost w) := by
  have hE := hE.top
  have hho := hold_any _ E w hE
  have n0 : ¬ (n : Int) < 1 := by omega
  have n1 : ¬ (400 : Int) < (n : Int) := by omega
  have n8 : (n : Int) < 8 := by omega
  go_enter Tryz.func4, Tryz.ntmps4
  go_wp2_with fail
  refine hho.mono ?_
  rintro e w1 ⟨rfl, hb1⟩
  have hli := light_any w.heap.size A c l w1 (hl.below hb1) hll ht hnm
  clear hho ht hnm
  go_wp2_with fail
  refine hli.mono ?_
  rintro e w2 ⟨b, rfl, hlt, rfl⟩
  clear hli
  cases b with
  | false =>
    go_wp2_with fail
    go_ret
    exact ⟨rfl, hb1⟩
  | true =>
    have hn9 := new_any w.heap.size n w1 hb1.size (by omega) (by omega)
    clear hlt
    go_wp2_with fail
    refine hn9.mono ?_
    rintro e w2 ⟨a, S1, rfl, hd1, hs1⟩
    have hb2 : Below w.heap.size w1 w2 := hs1.below hb1.size (fun k hk => absurd hk (fun h => h))
    have hb12 := hb1.trans hb2
    have hE2 := hE.below hb12
    have hf8 := fresh_len n
    have e1 : formR (Dsk.fresh n) = ⟨8, Dsk.fresh n, 0, 0, false⟩ := by unfold formR; rw [if_pos (by rw [hf8.1]; omega)]
    have hfm := format_any w.heap.size E a (Dsk.fresh n) S1 w2 hd1 hE2 (by simp [Dsk.fresh])
    rw [e1] at hfm
    have lo1 : ∀ j, S1 j → w.heap.size ≤ j := by obtain ⟨_, _, _, h⟩ := hd1; exact h.lo
    clear hn9 e1 hf8 hd1
    go_wp2_with fail
    refine hfm.mono ?_
    rintro e w3 (⟨-, rfl, S2, hd2, hs2⟩ | ⟨x, _⟩)
    · have hb3 := hb12.trans (hs2.below hb12.size lo1)
      have hcd := coded_any w.heap.size E 8 8 w3 (hE.below hb3) (by omega)
      rw [show decide (((8 : Nat) : Int) = 8) = true by decide] at hcd
      simp only at hd2 ⊢
      generalize errv E 8 = ev at *
      clear hfm hs2 lo1 hs1
      go_wp2_with fail
      refine hcd.mono ?_
      rintro e w4 ⟨rfl, hb4⟩
      go_wp2_with fail
      go_ret
      exact ⟨rfl, hb3.trans (hb4.mono hb3.size)⟩
    · exact absurd x (by simp)
theorem full_all (B : Nat) (E : Nat → Addr) (w : World) (hE : Env B E w) (n : Int) (A : Option Addr) (c : Nat) (l : List Chg) (hl : ChgsAt w.heap.size w A l) (hll : l.length ≤ 140737488355328) (ht : ∀ c ∈ l, c.text.length ≤ 140737488355328) (hnm : ∀ c ∈ l, c.name.length ≤ 140737488355328) :
    Calls Tryz.prog 4 #[.int .i64 n, .slice A l.length c] w (HoldPost w) := by
  by_cases h1 : n < 1 ∨ 400 < n
  · exact full_out B E w hE n A c l hl hll ht hnm h1
  · obtain ⟨m, rfl⟩ := Int.eq_ofNat_of_zero_le (show 0 ≤ n by omega)
    by_cases h8 : m < 8
    · exact full_small B E w hE m A c l hl hll ht hnm (by omega) h8
    · exact full_any B E w hE m A c l hl hll ht hnm (by omega) (by omega)
end Go.Proofs.YtokfddlknhijbaaGreatDoor
