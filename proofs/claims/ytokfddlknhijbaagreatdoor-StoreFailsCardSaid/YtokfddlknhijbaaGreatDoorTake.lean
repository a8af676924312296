/- store.take. -/
import Derived.Test.YtokfddlknhijbaaGreatDoorSum
namespace Go.Proofs.YtokfddlknhijbaaGreatDoor
open Go Go.RowKit
theorem ext_bytes (s : Str) (i j : Nat) : (({ data := s.toArray } : ByteArray).extract i j) = ⟨((s.drop i).take (j - i)).toArray⟩ := by
  apply ByteArray.ext
  rw [ByteArray.data_extract]
  simp
theorem slice_run (s : Str) (i j : Nat) (I J : Int) (hI : I = i) (hJ : J = j) (h1 : i ≤ j) (h2 : j ≤ s.length) (W : World) :
    (Instr.slice 9 (.string ⟨s.toArray⟩) (some (.int .i64 I)) (some (.int .i64 J)) none).run Tryz.prog W = .ok (.string ⟨((s.drop i).take (j - i)).toArray⟩) W := by
  subst hI hJ
  have q0 : (⟨s.toArray⟩ : ByteArray).size = s.length := by show s.toArray.size = _; simp
  rw [run_slice_string W 9 _ _ _ _ _ Tryz.underlying9 (by omega) (by omega) (by rw [q0]; omega)]
  show Result.ok (Value.string (ByteArray.extract ⟨s.toArray⟩ i j)) W = _
  rw [ext_bytes]
theorem slice_from_run (s : Str) (i : Nat) (I : Int) (hI : I = i) (h1 : i ≤ s.length) (W : World) :
    (Instr.slice 9 (.string ⟨s.toArray⟩) (some (.int .i64 I)) none none).run Tryz.prog W = .ok (.string ⟨(s.drop i).toArray⟩) W := by
  subst hI
  have q0 : (⟨s.toArray⟩ : ByteArray).size = s.length := by show s.toArray.size = _; simp
  rw [run_slice_string_from_if W 9 _ _ _ Tryz.underlying9, if_pos ⟨by omega, by rw [q0]; omega⟩, q0]
  show Result.ok (Value.string (ByteArray.extract ⟨s.toArray⟩ i s.length)) W = _
  rw [ext_bytes, List.take_of_length_le (by simp)]
theorem slice_to_run (s : Str) (j : Nat) (J : Int) (hJ : J = j) (h2 : j ≤ s.length) (W : World) :
    (Instr.slice 9 (.string ⟨s.toArray⟩) none (some (.int .i64 J)) none).run Tryz.prog W = .ok (.string ⟨(s.take j).toArray⟩) W := by
  subst hJ
  have q0 : (⟨s.toArray⟩ : ByteArray).size = s.length := by show s.toArray.size = _; simp
  rw [run_slice_string_to_if W 9 _ _ _ Tryz.underlying9, if_pos ⟨by omega, by rw [q0]; omega⟩]
  show Result.ok (Value.string (ByteArray.extract ⟨s.toArray⟩ 0 j)) W = _
  rw [ext_bytes, Nat.sub_zero]
  rfl

set_option maxRecDepth 100000 in
theorem take_some (b : Nat) (s : Str) (w : World) (hb : Blk w b [encStr s] 9) (hl : s.length ≤ 1000000) (h4 : 4 ≤ s.length) (hn : 4 + val (s.take 4) ≤ s.length) :
    Calls Tryz.prog 64 #[.pointer (some ⟨b, 0, none⟩)] w fun e w' => e = .returned (.tuple #[encStr ((s.drop 4).take (val (s.take 4))), .bool true]) ∧ w' = w.setCell ⟨b, 0, none⟩ (encStr (s.drop (4 + val (s.take 4)))) := by
  have k1 : decide ((s.length : Int) < 4) = false := by simp; omega
  have hv := value_any (s.take 4) (by simp; omega) w
  have c0 : w.cell? ⟨b, 0, none⟩ = some (.string ⟨s.toArray⟩) := hb.cell 0
  have f0 := hb.free 0
  have e1 : (({ data := s.toArray } : ByteArray).extract 0 4) = ⟨(s.take 4).toArray⟩ := ext_bytes s 0 4
  generalize val (s.take 4) = n at *
  have e2 := fun W => slice_run s 4 (4 + n) (4 : Int) (4 + (n : Int)) rfl (by omega) (by omega) hn W
  rw [Nat.add_sub_cancel_left] at e2
  have e3 := fun W => slice_from_run s (4 + n) (4 + (n : Int)) (by omega) hn W
  have k2 : decide ((s.length : Int) - 4 < n) = false := by simp; omega
  go_enter Tryz.func64, Tryz.ntmps64
  go_wp2_with fail
  refine hv.mono ?_
  rintro e w' ⟨rfl, rfl⟩
  go_wp2_with fail
  go_ret2
  exact ⟨rfl, rfl⟩
set_option maxRecDepth 100000 in
theorem take_short (b : Nat) (s : Str) (w : World) (hb : Blk w b [encStr s] 9) (h4 : s.length < 4) :
    Calls Tryz.prog 64 #[.pointer (some ⟨b, 0, none⟩)] w fun e w' => e = .returned (.tuple #[encStr [], .bool false]) ∧ w' = w := by
  have k1 : decide ((s.length : Int) < 4) = true := by simp; omega
  have c0 : w.cell? ⟨b, 0, none⟩ = some (.string ⟨s.toArray⟩) := hb.cell 0
  go_enter Tryz.func64, Tryz.ntmps64
  go_wp2_with fail
  go_ret2
  exact ⟨rfl, rfl⟩
set_option maxRecDepth 100000 in
theorem take_over (b : Nat) (s : Str) (w : World) (hb : Blk w b [encStr s] 9) (hl : s.length ≤ 1000000) (h4 : 4 ≤ s.length) (hn : s.length < 4 + val (s.take 4)) :
    Calls Tryz.prog 64 #[.pointer (some ⟨b, 0, none⟩)] w fun e w' => e = .returned (.tuple #[encStr [], .bool false]) ∧ w' = w := by
  have k1 : decide ((s.length : Int) < 4) = false := by simp; omega
  have hv := value_any (s.take 4) (by simp; omega) w
  have c0 : w.cell? ⟨b, 0, none⟩ = some (.string ⟨s.toArray⟩) := hb.cell 0
  have e1 : (({ data := s.toArray } : ByteArray).extract 0 4) = ⟨(s.take 4).toArray⟩ := ext_bytes s 0 4
  have hlt := val_lt (s.take 4)
  have hp : 256 ^ (s.take 4).length ≤ 256 ^ 4 := Nat.pow_le_pow_right (by omega) (by simp; omega)
  have hv4 : val (s.take 4) < 4294967296 := Nat.lt_of_lt_of_le hlt hp
  clear hlt hp
  generalize val (s.take 4) = n at *
  have k2 : decide ((s.length : Int) - 4 < n) = true := by simp; omega
  go_enter Tryz.func64, Tryz.ntmps64
  go_wp2_with fail
  refine hv.mono ?_
  rintro e w' ⟨rfl, rfl⟩
  go_wp2_with fail
  go_ret2
  exact ⟨rfl, rfl⟩

/-- What take parts from s: the first item and the rest. -/
def takeS (s : Str) : Option (Str × Str) := if 4 ≤ s.length ∧ 4 + val (s.take 4) ≤ s.length then some ((s.drop 4).take (val (s.take 4)), s.drop (4 + val (s.take 4))) else none
def TakePost (b : Nat) (s : Str) (w : World) (e : Ending) (w' : World) : Prop :=
  match takeS s with
  | some (t, r) => e = .returned (.tuple #[encStr t, .bool true]) ∧ w' = w.setCell ⟨b, 0, none⟩ (encStr r)
  | none => e = .returned (.tuple #[encStr [], .bool false]) ∧ w' = w
theorem take_any (b : Nat) (s : Str) (w : World) (hb : Blk w b [encStr s] 9) (hl : s.length ≤ 1000000) :
    Calls Tryz.prog 64 #[.pointer (some ⟨b, 0, none⟩)] w (TakePost b s w) := by
  by_cases h4 : 4 ≤ s.length
  · by_cases hn : 4 + val (s.take 4) ≤ s.length
    · refine (take_some b s w hb hl h4 hn).mono ?_
      intro e w' h
      unfold TakePost takeS
      rw [if_pos ⟨h4, hn⟩]; exact h
    · refine (take_over b s w hb hl h4 (by omega)).mono ?_
      intro e w' h
      unfold TakePost takeS
      rw [if_neg (by omega)]; exact h
  · refine (take_short b s w hb (by omega)).mono ?_
    intro e w' h
    unfold TakePost takeS
    rw [if_neg (by omega)]; exact h
end Go.Proofs.YtokfddlknhijbaaGreatDoor
