/- plain.Code and coded: an error's number. -/
import Derived.Test.YtokfddlknhijbaaGreatDoorIs
import Derived.Test.YtokfddlknhijbaaGreatDoorDisk
namespace Go.Proofs.YtokfddlknhijbaaGreatDoor
open Go Go.RowKit

theorem code_nil (w : World) : Calls Tryz.prog 35 #[.nilIface] w fun e w' => e = .returned (.tuple #[.int .i64 0, .int .i64 (-1)]) ∧ w' = w := by
  go_enter Tryz.func35, Tryz.ntmps35
  go_wp2
  go_ret2
  exact ⟨rfl, rfl⟩

set_option maxHeartbeats 4000000 in
set_option maxRecDepth 100000 in
theorem code_some (B : Nat) (E : Nat → Addr) (c : Nat) (w : World) (hE : Env B E w) (h1 : 1 ≤ c) (h9 : c ≤ 9) :
    Calls Tryz.prog 35 #[errv E c] w fun e w' => e = .returned (.tuple #[.int .i64 c, .int .i64 (-1)]) ∧ Below w.heap.size w w' := by
  obtain ⟨c, rfl⟩ : ∃ k, c = k + 1 := ⟨c - 1, by omega⟩
  have hsz := hE.size
  have hbig := hE.big
  show Calls Tryz.prog 35 #[.iface 188 (.pointer (some (E (c + 1))))] w _
  have q9 : (w.alloc (.cells #[.pointer none] 109)).cell? ⟨9, 0, none⟩ = some (.iface 153 (.agg #[.pointer (some ⟨11, 25, none⟩)])) := by
    rw [World.cell?_alloc_lt _ _ ⟨9, 0, none⟩ (by simp only; omega)]; exact hE.g9
  have has := as_miss (E (c + 1)) ⟨w.heap.size, 0, none⟩ (w.alloc (.cells #[.pointer none] 109)) (by simp; omega) q9
  clear q9
  go_enter Tryz.func35, Tryz.ntmps35
  go_wp2_with fail
  refine has.mono ?_
  rintro e w1 ⟨rfl, hb1⟩
  have hb : Below w.heap.size w w1 := ((Below.refl _ _).alloc (Nat.le_refl _) _).trans (hb1.mono (by simp))
  have hE1 := hE.below (hb.mono hE.size)
  have g0 : w1.cell? ⟨0, 0, none⟩ = some (.iface 188 (.pointer (some (E 2)))) := hE1.g0
  have g1 : w1.cell? ⟨1, 0, none⟩ = some (.iface 188 (.pointer (some (E 8)))) := hE1.g1
  have g2 : w1.cell? ⟨2, 0, none⟩ = some (.iface 188 (.pointer (some (E 9)))) := hE1.g2
  have g3 : w1.cell? ⟨3, 0, none⟩ = some (.iface 188 (.pointer (some (E 5)))) := hE1.g3
  have g4 : w1.cell? ⟨4, 0, none⟩ = some (.iface 188 (.pointer (some (E 1)))) := hE1.g4
  have g5 : w1.cell? ⟨5, 0, none⟩ = some (.iface 188 (.pointer (some (E 6)))) := hE1.g5
  have g6 : w1.cell? ⟨6, 0, none⟩ = some (.iface 188 (.pointer (some (E 3)))) := hE1.g6
  have g7 : w1.cell? ⟨7, 0, none⟩ = some (.iface 188 (.pointer (some (E 4)))) := hE1.g7
  have g8 : w1.cell? ⟨8, 0, none⟩ = some (.iface 188 (.pointer (some (E 7)))) := hE1.g8
  clear has
  go_wp2_with fail
  have hcell : ∀ k, k < 9 → (w1.alloc (.cells #[.iface 188 (.pointer (some (E 1))), .iface 188 (.pointer (some (E 2))), .iface 188 (.pointer (some (E 3))), .iface 188 (.pointer (some (E 4))), .iface 188 (.pointer (some (E 5))), .iface 188 (.pointer (some (E 6))), .iface 188 (.pointer (some (E 7))), .iface 188 (.pointer (some (E 8))), .iface 188 (.pointer (some (E 9)))] 25)).cell? ⟨w1.heap.size, k, none⟩ = some (.iface 188 (.pointer (some (E (k + 1))))) := by
    intro k hk
    rw [(Blk.new w1 [.iface 188 (.pointer (some (E 1))), .iface 188 (.pointer (some (E 2))), .iface 188 (.pointer (some (E 3))), .iface 188 (.pointer (some (E 4))), .iface 188 (.pointer (some (E 5))), .iface 188 (.pointer (some (E 6))), .iface 188 (.pointer (some (E 7))), .iface 188 (.pointer (some (E 8))), .iface 188 (.pointer (some (E 9)))] 25).cell k]
    rcases (by omega : k = 0 ∨ k = 1 ∨ k = 2 ∨ k = 3 ∨ k = 4 ∨ k = 5 ∨ k = 6 ∨ k = 7 ∨ k = 8) with rfl | rfl | rfl | rfl | rfl | rfl | rfl | rfl | rfl <;> rfl
  have hbW : Below w.heap.size w (w1.alloc (.cells #[.iface 188 (.pointer (some (E 1))), .iface 188 (.pointer (some (E 2))), .iface 188 (.pointer (some (E 3))), .iface 188 (.pointer (some (E 4))), .iface 188 (.pointer (some (E 5))), .iface 188 (.pointer (some (E 6))), .iface 188 (.pointer (some (E 7))), .iface 188 (.pointer (some (E 8))), .iface 188 (.pointer (some (E 9)))] 25)) := hb.alloc hb.size _
  have hEW := hE.below (hbW.mono hE.size)
  clear g0 g1 g2 g3 g4 g5 g6 g7 g8 hE1 hE
  generalize w1.alloc (.cells #[.iface 188 (.pointer (some (E 1))), .iface 188 (.pointer (some (E 2))), .iface 188 (.pointer (some (E 3))), .iface 188 (.pointer (some (E 4))), .iface 188 (.pointer (some (E 5))), .iface 188 (.pointer (some (E 6))), .iface 188 (.pointer (some (E 7))), .iface 188 (.pointer (some (E 8))), .iface 188 (.pointer (some (E 9)))] 25) = W at *
  have HC := Lib.hid hcell
  clear hcell
  go_loop [3, 27] (fun v3 v27 => ∃ k : Nat, k ≤ c ∧ v27 = .int .i64 k ∧ v3 = .int .i64 (-1)) (fun _ v27 => 9 - (intOf v27).toNat)
  case atStart => exact ⟨0, Nat.zero_le _, rfl, rfl⟩
  case round =>
    obtain ⟨k, hk, rfl, rfl⟩ := hrel
    have z := HC.out k (by omega)
    have hk9 : (k : Int) < 9 := by omega
    obtain ⟨ca, ta, ra⟩ := hEW.row (c + 1) (by omega) (by omega)
    obtain ⟨cb, tb, rb⟩ := hEW.row (k + 1) (by omega) (by omega)
    go_wp2_with fail
    by_cases hkc : k = c
    · subst hkc
      refine (is_same _ _).mono ?_
      rintro e w' ⟨rfl, rfl⟩
      clear ra rb
      go_wp2_with fail
      go_ret2
      exact ⟨by simp, hbW⟩
    · refine (is_other _ _ ca cb ta tb _ (fun e => hkc (by have := hEW.inj _ _ (by omega) (by omega) (by omega) (by omega) e; omega)) ra rb).mono ?_
      rintro e w' ⟨rfl, rfl⟩
      clear ra rb
      go_wp2_with fail
      go_round
      case rel => exact ⟨k + 1, by omega, by go_num, rfl⟩
      case measure => simp [intOf]; omega

theorem code_any (B : Nat) (E : Nat → Addr) (c : Nat) (w : World) (hE : Env B E w) (h9 : c ≤ 9) :
    Calls Tryz.prog 35 #[errv E c] w fun e w' => e = .returned (.tuple #[.int .i64 c, .int .i64 (-1)]) ∧ Below w.heap.size w w' := by
  rcases Nat.eq_zero_or_pos c with rfl | h
  · refine (code_nil w).mono ?_
    rintro e w' ⟨rfl, rfl⟩
    exact ⟨rfl, Below.refl _ _⟩
  · exact code_some B E c w hE h h9
theorem coded_any (B : Nat) (E : Nat → Addr) (c : Nat) (n : Int) (w : World) (hE : Env B E w) (h9 : c ≤ 9) :
    Calls Tryz.prog 13 #[errv E c, .int .i64 n] w fun e w' => e = .returned (.bool (decide ((c : Int) = n))) ∧ Below w.heap.size w w' := by
  have hc := code_any B E c w hE h9
  clear hE
  generalize errv E c = v at *
  by_cases h : (c : Int) = n
  · rw [decide_eq_true h]
    subst h
    go_enter Tryz.func13, Tryz.ntmps13
    go_wp2_with fail
    refine hc.mono ?_
    rintro e w1 ⟨rfl, hb⟩
    go_wp2_with fail
    go_ret
    exact ⟨rfl, hb⟩
  · rw [decide_eq_false h]
    have hb0 : ((c : Int) == n) = false := by simpa using h
    clear h
    go_enter Tryz.func13, Tryz.ntmps13
    go_wp2_with fail
    refine hc.mono ?_
    rintro e w1 ⟨rfl, hb⟩
    go_wp2_with fail
    go_ret
    exact ⟨rfl, hb⟩
end Go.Proofs.YtokfddlknhijbaaGreatDoor
