/- store's head, half, item, take. -/
import Derived.Test.YtokfddlknhijbaaGreatDoorSum
namespace Go.Proofs.YtokfddlknhijbaaGreatDoor
open Go Go.RowKit

/-- The head sector's first sixteen bytes. -/
def hd0 (k h n c : Nat) : Str := [99, 97, 107, 101] ++ be4 k ++ be4 h ++ be4 n ++ be4 c
def headS (k h n c : Nat) : Str := hd0 k h n c ++ be4 (crc (hd0 k h n c))
theorem be4_length (n : Nat) : (be4 n).length = 4 := rfl

set_option maxRecDepth 100000 in
theorem head_any (k h n c : Nat) (hk : k < 4294967296) (hh : h < 4294967296) (hn : n < 4294967296) (hc : c < 4294967296) (w : World) :
    Calls Tryz.prog 46 #[.int .u32 k, .int .i64 h, .int .i64 n, .int .u32 c] w fun e w' => e = .returned (encStr (headS k h n c)) ∧ Below w.heap.size w w' := by
  have l1 : (be4 k).length ≤ 4 := Nat.le_refl 4
  have l2 : (be4 h).length ≤ 4 := Nat.le_refl 4
  have l3 : (be4 n).length ≤ 4 := Nat.le_refl 4
  have l4 : (be4 c).length ≤ 4 := Nat.le_refl 4
  have l5 : (be4 (crc (hd0 k h n c))).length ≤ 4 := Nat.le_refl 4
  have cr := crc_lt (hd0 k h n c)
  have sl : (hd0 k h n c).length ≤ 140737488355328 := by simp [hd0, be4_length]
  go_enter Tryz.func46, Tryz.ntmps46
  go_wp2_with fail
  refine (number_any k hk _).mono ?_
  rintro e w1 ⟨rfl, hb1⟩
  go_wp2_with fail
  refine (number_any h hh _).mono ?_
  rintro e w2 ⟨rfl, hb2⟩
  go_wp2_with fail
  refine (number_any n hn _).mono ?_
  rintro e w3 ⟨rfl, hb3⟩
  go_wp2_with fail
  refine (number_any c hc _).mono ?_
  rintro e w4 ⟨rfl, hb4⟩
  go_wp2_with fail
  have hs : (({ data := #[99, 97, 107, 101] } : ByteArray) ++ { data := (be4 k).toArray } ++ { data := (be4 h).toArray } ++ { data := (be4 n).toArray } ++ { data := (be4 c).toArray }) = ⟨(hd0 k h n c).toArray⟩ := rfl
  rw [hs]
  refine (crc_any _ sl _).mono ?_
  rintro e w5 ⟨rfl, hb5⟩
  go_wp2_with fail
  refine (number_any _ cr _).mono ?_
  rintro e w6 ⟨rfl, hb6⟩
  go_wp2_with fail
  go_ret
  have b12 := hb1.trans (hb2.mono hb1.size)
  have b13 := b12.trans (hb3.mono b12.size)
  have b14 := b13.trans (hb4.mono b13.size)
  have b15 := b14.trans (hb5.mono b14.size)
  exact ⟨rfl, b15.trans (hb6.mono b15.size)⟩

theorem half_any (B : Nat) (a : Nat) (D : Dsk) (S : Nat → Prop) (w : World) (h : DiskAt B w a D S) (h2 : 2 ≤ D.now.length) (h3 : D.now.length ≤ 4000) :
    Calls Tryz.prog 44 #[.pointer (some ⟨a, 0, none⟩)] w fun e w' => e = .returned (.int .i64 ((D.now.length - 2) / 2 : Nat)) ∧ w' = w := by
  have hs := sectors_any B a D S w h
  clear h
  generalize D.now.length = n at *
  have e1 : (((n : Int) - 2).tdiv 2) = (((n - 2) / 2 : Nat) : Int) := by rw [Int.tdiv_eq_ediv_of_nonneg (by omega)]; omega
  go_enter Tryz.func44, Tryz.ntmps44
  go_wp2_with fail
  refine hs.mono ?_
  rintro e w' ⟨rfl, rfl⟩
  go_wp2_with fail
  go_ret
  exact ⟨by first | rfl | simp, rfl⟩

/-- A string behind its length. -/
def item (s : Str) : Str := be4 s.length ++ s
theorem item_any (s : Str) (hs : s.length ≤ 1000000) (w : World) :
    Calls Tryz.prog 65 #[encStr s] w fun e w' => e = .returned (encStr (item s)) ∧ Below w.heap.size w w' := by
  have l1 : (be4 s.length).length ≤ 4 := Nat.le_refl 4
  show Calls Tryz.prog 65 #[.string ⟨s.toArray⟩] w _
  go_enter Tryz.func65, Tryz.ntmps65
  go_wp2_with fail
  refine (number_any s.length (by omega) _).mono ?_
  rintro e w1 ⟨rfl, hb1⟩
  go_wp2_with fail
  go_ret
  exact ⟨rfl, hb1⟩
end Go.Proofs.YtokfddlknhijbaaGreatDoor
