/- Numbers below 1,000 as decimal digits. -/
import Derived.Test.YtokfddlknhijbaaGreatDoorSum
namespace Go.Proofs.YtokfddlknhijbaaGreatDoor
open Go Go.RowKit
/-- A number's decimal digits, below 1,000. -/
def dec (m : Nat) : Str := if m < 10 then [UInt8.ofNat (48 + m)] else if m < 100 then [UInt8.ofNat (48 + m / 10), UInt8.ofNat (48 + m % 10)] else [UInt8.ofNat (48 + m / 100), UInt8.ofNat (48 + m / 10 % 10), UInt8.ofNat (48 + m % 10)]

set_option maxRecDepth 100000 in
theorem byte_any (n : Int) (h0 : 0 ≤ n) (hn : n < 256) (w : World) :
    Calls Tryz.prog 57 #[.int .i64 n] w fun e w' => e = .returned (.string ⟨[UInt8.ofNat n.toNat].toArray⟩) ∧ Below w.heap.size w w' := by
  have hcv : ∀ (a : Int), (convert 34 9 (.slice (some ⟨w.heap.size, 0, none⟩) 1 1)).run Tryz.prog (w.alloc (.cells #[.int .u8 a] 5)) = .ok (.string ⟨#[UInt8.ofNat a.toNat]⟩) (w.alloc (.cells #[.int .u8 a] 5)) := by
    intro a
    exact run_convert_bytes_arg (P := Tryz.prog) (w.alloc (.cells #[.int .u8 a] 5)) 34 5 Tryz.underlying34 Tryz.underlying5 w.heap.size 0 1 1 [a] rfl (fun i hi => by
      rw [Nat.zero_add, (Blk.new w [.int .u8 a] 5).cell i]
      obtain rfl : i = 0 := by omega
      rfl) 9 Tryz.underlying9
  go_enter Tryz.func57, Tryz.ntmps57
  go_wp2
  go_ret
  refine ⟨rfl, (Below.refl _ _).alloc (Nat.le_refl _) _⟩

theorem below0 (n : Int) (h0 : n ≤ 0) (h : -10 < n) (w : World) : Calls Tryz.prog 34 #[.int .i64 n] w fun e w' => e = .returned (.string ⟨(dec (-n).toNat).toArray⟩) ∧ Below w.heap.size w w' := by
  have e0 : dec (-n).toNat = [UInt8.ofNat (48 - n).toNat] := by
    have : (48 - n).toNat = 48 + (-n).toNat := by omega
    rw [this, dec, if_pos (by omega)]
  rw [e0]
  clear e0
  go_enter Tryz.func34, Tryz.ntmps34
  go_wp2_with fail
  refine (byte_any _ (by omega) (by omega) _).mono ?_
  rintro e w1 ⟨rfl, hb⟩
  go_wp2_with fail
  go_ret
  exact ⟨rfl, hb⟩
theorem dec_more (m : Nat) (h : m < 1000) (h0 : 10 ≤ m) : dec m = dec (m / 10) ++ [UInt8.ofNat (48 + m % 10)] := by
  by_cases h1 : m < 100
  · have : m / 10 < 10 := by omega
    simp [dec, this, show ¬ m < 10 by omega, h1]
  · have h2 : ¬ m / 10 < 10 := by omega
    have h3 : m / 10 < 100 := by omega
    have h4 : m / 10 / 10 = m / 100 := by omega
    simp [dec, show ¬ m < 10 by omega, h1, h2, h3, h4]
theorem dec_length (m : Nat) : (dec m).length ≤ 3 := by unfold dec; split <;> (try split) <;> simp
theorem below_step (K : Int) (hK : K ≤ 100) (ih : ∀ (n : Int) (w : World), n ≤ 0 → -K < n → Calls Tryz.prog 34 #[.int .i64 n] w fun e w' => e = .returned (.string ⟨(dec (-n).toNat).toArray⟩) ∧ Below w.heap.size w w')
    (n : Int) (w : World) (h0 : n ≤ -10) (h : -(10 * K) < n) : Calls Tryz.prog 34 #[.int .i64 n] w fun e w' => e = .returned (.string ⟨(dec (-n).toNat).toArray⟩) ∧ Below w.heap.size w w' := by
  have e0 := dec_more (-n).toNat (by omega) (by omega)
  have q1 : n.tdiv 10 = -((-n) / 10) := by
    have : n = -(-n) := by omega
    rw [this, Int.neg_tdiv, Int.tdiv_eq_ediv_of_nonneg (by omega)]; omega
  have q2 : n.tmod 10 = -((-n) % 10) := by
    have : n = -(-n) := by omega
    rw [this, Int.neg_tmod, Int.tmod_eq_emod_of_nonneg (by omega)]; omega
  have r1 : (-n).toNat / 10 = (-(n.tdiv 10)).toNat := by rw [q1]; omega
  have r2 : 48 + (-n).toNat % 10 = (48 - n.tmod 10).toNat := by rw [q2]; omega
  rw [r1, r2] at e0
  have b1 : n.tdiv 10 ≤ 0 ∧ -K < n.tdiv 10 := by rw [q1]; omega
  have b2 : n.tmod 10 ≤ 0 ∧ -10 < n.tmod 10 := by rw [q2]; omega
  have E0 := Lib.hid e0
  have l1 := dec_length (-(n.tdiv 10)).toNat
  have IH := ih (n.tdiv 10)
  clear e0 ih q1 q2 r1 r2
  have k : decide (-10 < n) = false := by simp; omega
  go_enter Tryz.func34, Tryz.ntmps34
  go_wp2_with fail
  refine (IH _ b1.1 b1.2).mono ?_
  rintro e w1 ⟨rfl, hb1⟩
  go_wp2_with fail
  refine (byte_any _ (by omega) (by omega) _).mono ?_
  rintro e w2 ⟨rfl, hb2⟩
  go_wp2_with fail
  go_ret
  refine ⟨?_, hb1.trans (hb2.mono hb1.size)⟩
  rw [E0.out]
  first | rfl | simp
theorem dec_any (m : Nat) (h : m < 1000) (w : World) : Calls Tryz.prog 12 #[.int .i64 m] w fun e w' => e = .returned (.string ⟨(dec m).toArray⟩) ∧ Below w.heap.size w w' := by
  have s0 := fun (n : Int) (w : World) (h0 : n ≤ 0) (h : -10 < n) => below0 n h0 h w
  have s1 : ∀ (n : Int) (w : World), n ≤ 0 → -100 < n → Calls Tryz.prog 34 #[.int .i64 n] w fun e w' => e = .returned (.string ⟨(dec (-n).toNat).toArray⟩) ∧ Below w.heap.size w w' := by
    intro n w h0 h
    by_cases h1 : -10 < n
    · exact s0 n w h0 h1
    · exact below_step 10 (by omega) s0 n w (by omega) (by omega)
  have s2 : ∀ (n : Int) (w : World), n ≤ 0 → -1000 < n → Calls Tryz.prog 34 #[.int .i64 n] w fun e w' => e = .returned (.string ⟨(dec (-n).toNat).toArray⟩) ∧ Below w.heap.size w w' := by
    intro n w h0 h
    by_cases h1 : -10 < n
    · exact s0 n w h0 h1
    · exact below_step 100 (by omega) s1 n w (by omega) (by omega)
  have hc := s2 (-(m : Int)) w (by omega) (by omega)
  rw [Int.neg_neg, Int.toNat_natCast] at hc
  clear s0 s1 s2
  go_enter Tryz.func12, Tryz.ntmps12
  go_wp2_with fail
  refine hc.mono ?_
  rintro e w1 ⟨rfl, hb⟩
  go_wp2_with fail
  go_ret
  exact ⟨rfl, hb⟩
end Go.Proofs.YtokfddlknhijbaaGreatDoor
