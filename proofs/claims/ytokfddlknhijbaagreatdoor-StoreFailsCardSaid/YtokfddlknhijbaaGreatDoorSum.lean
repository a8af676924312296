/- chunk.Number, chunk.Value, and the sum: what they return. -/
import Derived.Test.YtokfddlknhijbaaGreatDoorDisk
import Derived.Deep.QuietTactic
import Derived.BigQuiet
namespace Go.Proofs.YtokfddlknhijbaaGreatDoor
open Go Go.RowKit

/-- Four bytes of a number, the highest first. -/
def be4 (n : Nat) : Str := [UInt8.ofNat (n / 16777216), UInt8.ofNat (n / 65536 % 256), UInt8.ofNat (n / 256 % 256), UInt8.ofNat (n % 256)]
/-- The number of bytes, the highest first. -/
def val (s : Str) : Nat := s.foldl (fun n b => n * 256 + b.toNat) 0

set_option maxRecDepth 100000 in
theorem number_any (n : Nat) (h1 : n < 4294967296) (w : World) :
    Calls Tryz.prog 66 #[.int .u32 n] w fun e w' => e = .returned (.string ⟨(be4 n).toArray⟩) ∧ Below w.heap.size w w' := by
  have hcv : ∀ (a b c d : Int), (convert 34 9 (.slice (some ⟨w.heap.size, 0, none⟩) 4 4)).run Tryz.prog (w.alloc (.cells #[.int .u8 a, .int .u8 b, .int .u8 c, .int .u8 d] 5)) =
      .ok (.string ⟨#[UInt8.ofNat a.toNat, UInt8.ofNat b.toNat, UInt8.ofNat c.toNat, UInt8.ofNat d.toNat]⟩) (w.alloc (.cells #[.int .u8 a, .int .u8 b, .int .u8 c, .int .u8 d] 5)) := by
    intro a b c d
    have := run_convert_bytes_arg (P := Tryz.prog) (w.alloc (.cells #[.int .u8 a, .int .u8 b, .int .u8 c, .int .u8 d] 5)) 34 5 Tryz.underlying34 Tryz.underlying5 w.heap.size 0 4 4 [a, b, c, d] rfl (fun i hi => by
      rw [Nat.zero_add, (Blk.new w [.int .u8 a, .int .u8 b, .int .u8 c, .int .u8 d] 5).cell i]
      rcases (by omega : i = 0 ∨ i = 1 ∨ i = 2 ∨ i = 3) with rfl | rfl | rfl | rfl <;> rfl) 9 Tryz.underlying9
    exact this
  go_enter Tryz.func66, Tryz.ntmps66
  go_wp2
  go_ret
  refine ⟨?_, (Below.refl _ _).alloc (Nat.le_refl _) _⟩
  simp [be4]

theorem or_byte (x b : Nat) (hx : x < 16777216) (hb : b < 256) : bits .or .u32 ((x : Int) * 256 % 4294967296) ((b : Int) % 4294967296) = ((x * 256 + b : Nat) : Int) := by
  have e1 : ((x : Int) * 256 % 4294967296) = ((x * 256 : Nat) : Int) := by omega
  have e2 : ((b : Int) % 4294967296) = (b : Int) := by omega
  rw [e1, e2, u32_or_nat _ _ (by omega) (by omega)]
  have := Nat.two_pow_add_eq_or_of_lt (i := 8) (b := b) (by omega) x
  rw [Nat.mul_comm x 256]
  have h2 : (2 : Nat) ^ 8 = 256 := rfl
  rw [h2] at this
  rw [← this]
theorem val_snoc (s : Str) (c : UInt8) : val (s ++ [c]) = val s * 256 + c.toNat := by simp [val]
theorem val_lt (s : Str) : val s < 256 ^ s.length := by
  have : ∀ (r : Str), val r.reverse < 256 ^ r.length := by
    intro r
    induction r with
    | nil => simp [val]
    | cons c r ih =>
      rw [List.reverse_cons, val_snoc, List.length_cons, Nat.pow_succ]
      have := c.toNat_lt
      omega
  have h := this s.reverse
  simpa using h

set_option maxRecDepth 100000 in
theorem value_any (s : Str) (hs : s.length ≤ 4) (w : World) :
    Calls Tryz.prog 63 #[.string ⟨s.toArray⟩] w fun e w' => e = .returned (.int .u32 (val s)) ∧ w' = w := by
  go_enter Tryz.func63, Tryz.ntmps63
  go_wp2
  go_loop [2, 6] (fun v2 v6 => ∃ k : Nat, k ≤ s.length ∧ v6 = .int .i64 k ∧ v2 = .int .u32 (val (s.take k))) (fun _ v6 => s.length - (intOf v6).toNat)
  case atStart => exact ⟨0, Nat.zero_le _, rfl, rfl⟩
  case round =>
    obtain ⟨k, hk, rfl, rfl⟩ := hrel
    by_cases hlt : k < s.length
    · have hts : s.take (k + 1) = s.take k ++ [s[k]] := List.take_succ_eq_append_getElem hlt
      have hl := val_lt (s.take k)
      have hp : 256 ^ (s.take k).length ≤ 256 ^ 3 := Nat.pow_le_pow_right (by omega) (by simp; omega)
      have hv : val (s.take k) < 16777216 := Nat.lt_of_lt_of_le hl hp
      have hor := or_byte (val (s.take k)) (s[k]).toNat hv (s[k]).toNat_lt
      have hvs : val (s.take (k + 1)) = val (s.take k) * 256 + (s[k]).toNat := by rw [hts, val_snoc]
      have HO := Lib.hid hor
      have HV := Lib.hid hvs
      clear hor hvs hts hl hp hv
      go_wp2
      go_round
      case rel => exact ⟨k + 1, by omega, by go_num, by rw [HV.out, ← HO.out]; rfl⟩
      case measure => simp [intOf]; omega
    · obtain rfl : k = s.length := by omega
      go_wp2
      go_ret
      exact ⟨by simp, rfl⟩
def crcBit (c : Nat) : Nat := if c % 2 = 1 then c / 2 ^^^ 3988292384 else c / 2
def crcBits : Nat → Nat → Nat
  | 0, c => c
  | k + 1, c => crcBit (crcBits k c)
theorem crcBit_lt {c : Nat} (h : c < 4294967296) : crcBit c < 4294967296 := by
  unfold crcBit
  split
  · exact Nat.xor_lt_two_pow (n := 32) (by omega) (by omega)
  · omega
theorem crcBits_lt (k : Nat) {c : Nat} (h : c < 4294967296) : crcBits k c < 4294967296 := by
  induction k with
  | zero => exact h
  | succ k ih => exact crcBit_lt ih
/-- The table: i entries are laid. -/
structure TabAt (w : World) (i : Nat) (cur : List Value) (wr : World) : Prop where
  len : cur.length = 256
  done : ∀ j, j < i → cur[j]? = some (.int .u32 (crcBits 8 j))
  blk : Blk wr w.heap.size cur 169
  below : Below w.heap.size w wr
theorem TabAt.more {w wr : World} {i : Nat} {cur : List Value} (h : TabAt w i cur wr) (hi : i < 256) : TabAt w (i + 1) (cur.set i (.int .u32 (crcBits 8 i))) (wr.setCell ⟨w.heap.size, i, none⟩ (.int .u32 (crcBits 8 i))) := by
  refine ⟨by simpa using h.len, ?_, h.blk.set i _, h.below.setCell (p := ⟨w.heap.size, i, none⟩) (Nat.le_refl _) _⟩
  intro j hj
  by_cases e : j = i
  · subst e; simp [h.len, hi]
  · rw [List.getElem?_set_ne (fun h => e h.symm)]; exact h.done j (by omega)
/-- The table was made, in a new block. -/
def TabPost (w : World) (e : Ending) (w' : World) : Prop := ∃ cur, e = .returned (.pointer (some ⟨w.heap.size, 0, none⟩)) ∧ TabAt w 256 cur w'
theorem crc_round (c : Nat) (hc : c < 4294967296) :
    bits .xor .u32 ((c : Int) / 2) (bits .and .u32 3988292384 (-bits .and .u32 (c : Int) 1 % 4294967296)) = (crcBit c : Int) := by
  have e1 : ((c : Int) / 2) = ((c / 2 : Nat) : Int) := by omega
  have e3 : bits .and .u32 (c : Int) 1 = ((c % 2 : Nat) : Int) := by
    have := u32_and_nat c 1 hc (by omega)
    rw [Nat.and_one_is_mod] at this
    exact this
  rw [e3, e1]
  unfold crcBit
  by_cases h : c % 2 = 1
  · rw [if_pos h, h]
    have e4 : (-((1 : Nat) : Int) % 4294967296) = ((4294967295 : Nat) : Int) := by decide
    have e5 : bits .and .u32 3988292384 ((4294967295 : Nat) : Int) = ((3988292384 : Nat) : Int) := by
      have := u32_and_nat 3988292384 4294967295 (by omega) (by omega)
      have e6 : (3988292384 &&& 4294967295 : Nat) = 3988292384 := by decide
      rw [e6] at this
      exact this
    rw [e4, e5, u32_xor_nat _ _ (by omega) (by omega)]
  · rw [if_neg h, show c % 2 = 0 by omega]
    have e4 : (-((0 : Nat) : Int) % 4294967296) = ((0 : Nat) : Int) := by decide
    have e5 : bits .and .u32 3988292384 ((0 : Nat) : Int) = ((0 : Nat) : Int) := by
      have := u32_and_nat 3988292384 0 (by omega) (by omega)
      exact this
    rw [e4, e5, u32_xor_nat _ _ (by omega) (by omega), Nat.xor_zero]

set_option maxHeartbeats 1000000 in
set_option maxRecDepth 100000 in
theorem table_any (w : World) : Calls Tryz.prog 83 #[] w (TabPost w) := by
  go_enter Tryz.func83, Tryz.ntmps83
  go_wp2_with fail
  go_loopw [4] (fun v4 wr => ∃ i : Nat, i ≤ 256 ∧ v4 = .int .i64 i ∧ ∃ cur, TabAt w i cur wr) (fun v4 _ => 256 - (intOf v4).toNat)
  case atStart => exact ⟨0, by omega, rfl, _, rfl, fun j hj => absurd hj (Nat.not_lt_zero _), heap_alloc_new _ _, (Below.refl _ _).alloc (Nat.le_refl _) _⟩
  case round =>
    obtain ⟨i, hi, rfl, cur, hT⟩ := hrel
    by_cases hlt : i < 256
    · obtain ⟨u, hu⟩ : ∃ u, wr.cell? ⟨w.heap.size, i, none⟩ = some u := by
        rw [hT.blk.cell i]; exact ⟨_, List.getElem?_eq_getElem (by rw [hT.len]; exact hlt)⟩
      have hfr : wr.frozen? ⟨w.heap.size, i, none⟩ = false := hT.blk.free i
      have hmore := hT.more hlt
      clear hT
      go_wp2_with fail
      obtain ⟨wo, rfl⟩ : ∃ wo : World, wo = wr := ⟨_, rfl⟩
      go_loopw [3, 9] (fun v3 v9 wx => ∃ k : Nat, k ≤ 8 ∧ v9 = .int .i64 k ∧ v3 = .int .u32 (crcBits k i) ∧ wx = wo) (fun _ v9 _ => 8 - (intOf v9).toNat)
      case atStart => exact ⟨0, by omega, rfl, by simp [crcBits], rfl⟩
      case round =>
        obtain ⟨k, hk, rfl, rfl, rfl⟩ := hrel
        by_cases hk8 : k < 8
        · have hc := crcBits_lt k (c := i) (by omega)
          go_wp2_with fail
          refine ⟨⟨k + 1, by omega, by go_num, ?_, trivial⟩, by simp [intOf]; omega⟩
          rw [crc_round _ hc]; rfl
        · obtain rfl : k = 8 := by omega
          go_wp2_with fail
          go_roundw
          case rel => exact ⟨i + 1, by omega, by go_num, _, hmore⟩
          case measure => simp [intOf]; omega
    · obtain rfl : i = 256 := by omega
      go_wp2_with fail
      go_ret
      exact ⟨cur, rfl, hT⟩
def crcStep (c : Nat) (b : UInt8) : Nat := crcBits 8 ((c % 256) ^^^ b.toNat) ^^^ (c / 256)
def crcFrom (c : Nat) (s : Str) : Nat := s.foldl crcStep c
def crc (s : Str) : Nat := crcFrom 4294967295 s ^^^ 4294967295
theorem crcStep_lt {c : Nat} {b : UInt8} (h : c < 4294967296) : crcStep c b < 4294967296 := by
  have h1 : (c % 256) ^^^ b.toNat < 256 := Nat.xor_lt_two_pow (n := 8) (by omega) b.toNat_lt
  exact Nat.xor_lt_two_pow (n := 32) (crcBits_lt 8 (by omega)) (by omega)
theorem crcFrom_lt (s : Str) : ∀ {c : Nat}, c < 4294967296 → crcFrom c s < 4294967296 := by
  induction s with
  | nil => intro c h; exact h
  | cons b r ih => intro c h; exact ih (c := crcStep c b) (crcStep_lt h)
theorem crc_lt (s : Str) : crc s < 4294967296 := Nat.xor_lt_two_pow (n := 32) (crcFrom_lt s (by omega)) (by omega)
theorem crcFrom_snoc (c : Nat) (s : Str) (b : UInt8) : crcFrom c (s ++ [b]) = crcStep (crcFrom c s) b := by simp [crcFrom]

theorem not_u32 (c : Nat) (hc : c < 4294967296) : bits .xor .u32 IntKind.u32.max (c : Int) = ((c ^^^ 4294967295 : Nat) : Int) := by
  have e1 : IntKind.u32.max = ((4294967295 : Nat) : Int) := by decide
  rw [e1, u32_xor_nat _ _ (by omega) hc, Nat.xor_comm]
theorem xor_u8 (c : Nat) (b : UInt8) : bits .xor .u8 (IntKind.u8.wrap (c : Int)) (b.toNat : Int) = (((c % 256) ^^^ b.toNat : Nat) : Int) := by
  have e1 : IntKind.u8.wrap (c : Int) = ((c % 256 : Nat) : Int) := by rw [IntKind.wrap_u8]; omega
  rw [e1, u8_xor_nat _ _ (by omega) b.toNat_lt]
theorem xor_u32 (t c : Nat) (ht : t < 4294967296) (hc : c < 4294967296) : bits .xor .u32 (t : Int) ((c : Int) / 256) = ((t ^^^ (c / 256) : Nat) : Int) := by
  have e1 : ((c : Int) / 256) = ((c / 256 : Nat) : Int) := by omega
  rw [e1, u32_xor_nat _ _ ht (by omega)]

set_option maxHeartbeats 1000000 in
set_option maxRecDepth 100000 in
theorem morecrc_any (s : Str) (hs : s.length ≤ 140737488355328) (w : World) :
    Calls Tryz.prog 67 #[.int .u32 0, .string ⟨s.toArray⟩] w fun e w' => e = .returned (.int .u32 (crc s)) ∧ Below w.heap.size w w' := by
  go_enter Tryz.func67, Tryz.ntmps67
  go_wp2_with fail
  refine (table_any _).mono ?_
  rintro e w1 ⟨cur, rfl, hT⟩
  go_wp2_with fail
  go_loopw [0, 12] (fun v0 v12 wr => ∃ i : Nat, i ≤ s.length ∧ v12 = .int .i64 i ∧ v0 = .int .u32 (crcFrom 4294967295 (s.take i)) ∧ Blk wr w.heap.size cur 169 ∧ Below w.heap.size w wr) (fun _ v12 _ => s.length - (intOf v12).toNat)
  case atStart => exact ⟨0, by omega, rfl, by rw [show (0 : Int) = ((0 : Nat) : Int) from rfl, not_u32 0 (by omega)]; simp [crcFrom], hT.blk, hT.below⟩
  case round =>
    obtain ⟨i, hi, rfl, rfl, hbk, hbl⟩ := hrel
    by_cases hlt : i < s.length
    · have hc := crcFrom_lt (s.take i) (c := 4294967295) (by omega)
      have hts : s.take (i + 1) = s.take i ++ [s[i]] := List.take_succ_eq_append_getElem hlt
      have hnext : crcFrom 4294967295 (s.take (i + 1)) = crcStep (crcFrom 4294967295 (s.take i)) s[i] := by rw [hts, crcFrom_snoc]
      have HN := Lib.hid hnext
      clear hts hnext
      generalize crcFrom 4294967295 (s.take i) = c at *
      have hi' : i < (⟨s.toArray⟩ : ByteArray).size := hlt
      have hx := xor_u8 c ((⟨s.toArray⟩ : ByteArray)[i]'hi')
      have hq : (c % 256) ^^^ ((⟨s.toArray⟩ : ByteArray)[i]'hi').toNat < 256 := Nat.xor_lt_two_pow (n := 8) (by omega) (UInt8.toNat_lt _)
      have hs1 : crcStep c s[i] = crcBits 8 ((c % 256) ^^^ ((⟨s.toArray⟩ : ByteArray)[i]'hi').toNat) ^^^ (c / 256) := rfl
      generalize (c % 256) ^^^ ((⟨s.toArray⟩ : ByteArray)[i]'hi').toNat = q at *
      have hcell : wr.cell? ⟨w.heap.size, q, none⟩ = some (.int .u32 (crcBits 8 q)) := by rw [hbk.cell q]; exact hT.done q hq
      have ht := crcBits_lt 8 (c := q) (by omega)
      generalize crcBits 8 q = t at *
      have hu := xor_u32 t c ht hc
      have hqi : (q : Int) < 256 := by omega
      have HS := Lib.hid hs1
      clear hs1 hT
      go_wp2_with fail
      go_quiet (fail)
      go_wp2_with fail
      have hbd : Below w.heap.size w (wr.drewN nq) := ⟨hbl.os, hbl.tape, hbl.output, hbl.size, hbl.block⟩
      refine ⟨⟨i + 1, by omega, by go_num, by rw [HN.out, HS.out], hbk, hbd⟩, by simp [intOf]; omega⟩
    · obtain rfl : i = s.length := by omega
      go_wp2_with fail
      have hend := not_u32 (crcFrom 4294967295 s) (crcFrom_lt s (by omega))
      go_ret
      refine ⟨?_, hbl⟩
      show Ending.returned (.int .u32 (bits .xor .u32 IntKind.u32.max (crcFrom 4294967295 s : Int))) = _
      rw [hend]; rfl
theorem crc_any (s : Str) (hs : s.length ≤ 140737488355328) (w : World) :
    Calls Tryz.prog 47 #[.string ⟨s.toArray⟩] w fun e w' => e = .returned (.int .u32 (crc s)) ∧ Below w.heap.size w w' := by
  go_enter Tryz.func47, Tryz.ntmps47
  go_wp2_with fail
  refine (morecrc_any s hs _).mono ?_
  rintro e w1 ⟨rfl, hb⟩
  go_wp2_with fail
  go_ret
  exact ⟨rfl, hb⟩
end Go.Proofs.YtokfddlknhijbaaGreatDoor
