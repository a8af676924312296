/- A text's name: what store.name and the statements' IsKey answer; numbers as decimal digits. -/
import Derived.Test.YtokfddlknhijbaaGreatDoorPut
import Derived.Lib.ConvBytes
namespace Go.Proofs.YtokfddlknhijbaaGreatDoor
open Go Go.RowKit
def badKey (c : Nat) : Bool := (decide ((c : Int) < 97) || decide (122 < (c : Int))) && (decide ((c : Int) < 48) || decide (57 < (c : Int)))
def isKey (s : Str) : Bool := decide (1 ≤ s.length) && decide (s.length ≤ 12) && s.all fun c => !badKey c.toNat

theorem badKey_any (c : Nat) (w : World) :
    Calls Tryz.prog 56 #[.int .u8 c] w fun e w' => e = .returned (.bool (badKey c)) ∧ w' = w := by
  unfold badKey
  cases d1 : decide ((c : Int) < 97) <;> cases d2 : decide (122 < (c : Int)) <;> cases d3 : decide ((c : Int) < 48) <;> cases d4 : decide (57 < (c : Int))
  all_goals
    go_enter Tryz.func56, Tryz.ntmps56
    go_wp2
    go_ret
    exact ⟨rfl, rfl⟩

/-- The place of the first such byte, from place i on (-1: none). -/
def firstBad : Nat → Str → Int
  | _, [] => -1
  | i, c :: r => if badKey c.toNat = true then (i : Int) else firstBad (i + 1) r
theorem firstBad_neg : ∀ (s : Str) (i : Nat), decide (0 ≤ firstBad i s) = s.any fun c => badKey c.toNat
  | [], _ => by simp [firstBad]
  | c :: r, i => by
    rw [firstBad, List.any_cons]
    by_cases h : badKey c.toNat = true
    · rw [if_pos h, h]; simp
    · rw [if_neg h, firstBad_neg r, Bool.eq_false_iff.2 h, Bool.false_or]

set_option maxHeartbeats 1000000 in
set_option maxRecDepth 100000 in
theorem index_any (g : Nat) (c : Nat) (s : Str) (hs : s.length ≤ 1000) (w : World) (hc : ∀ j (h : j < s.length), w.cell? ⟨g, j, none⟩ = some (.int .u8 (s[j]).toNat)) :
    Calls Tryz.prog 73 #[.slice (some ⟨g, 0, none⟩) s.length c, .func (.func 56) #[] #[]] w fun e w' => e = .returned (.int .i64 (firstBad 0 s)) ∧ w' = w := by
  have HC := Lib.hid hc
  clear hc
  go_enter Tryz.func73, Tryz.ntmps73
  go_wp2
  go_loop [8] (fun v8 => ∃ k : Nat, k ≤ s.length ∧ v8 = .int .i64 k ∧ firstBad 0 s = firstBad k (s.drop k)) (fun v8 => s.length - (intOf v8).toNat)
  case atStart => exact ⟨0, Nat.zero_le _, rfl, rfl⟩
  case round =>
    obtain ⟨k, hk, rfl, hf⟩ := hrel
    by_cases hlt : k < s.length
    · have z := HC.out k hlt
      have hd : s.drop k = s[k] :: s.drop (k + 1) := List.drop_eq_getElem_cons hlt
      rw [hd, firstBad] at hf
      clear hd
      generalize (s[k]).toNat = q at *
      go_wp2_with fail
      refine (badKey_any q _).mono ?_
      rintro e w' ⟨rfl, rfl⟩
      by_cases hb : badKey q = true
      · rw [if_pos hb] at hf
        rw [hb]
        have HF := Lib.hid hf
        clear hf hb
        go_wp2
        go_ret
        exact ⟨by rw [HF.out]; rfl, rfl⟩
      · rw [if_neg hb] at hf
        rw [Bool.eq_false_iff.2 hb]
        have HF := Lib.hid hf
        clear hf hb
        go_wp2
        go_round
        case rel => exact ⟨k + 1, by omega, by go_num, HF.out⟩
        case measure => simp [intOf]; omega
    · obtain rfl : k = s.length := by omega
      rw [List.drop_length, firstBad] at hf
      have HF := Lib.hid hf
      clear hf
      go_wp2
      go_ret
      exact ⟨by rw [HF.out]; rfl, rfl⟩

theorem contains_any (g : Nat) (c : Nat) (s : Str) (hs : s.length ≤ 1000) (w : World) (hc : ∀ j (h : j < s.length), w.cell? ⟨g, j, none⟩ = some (.int .u8 (s[j]).toNat)) :
    Calls Tryz.prog 55 #[.slice (some ⟨g, 0, none⟩) s.length c, .func (.func 56) #[] #[]] w fun e w' => e = .returned (.bool (s.any fun c => badKey c.toNat)) ∧ w' = w := by
  have hi := index_any g c s hs w hc
  have hf := firstBad_neg s 0
  clear hc
  go_enter Tryz.func55, Tryz.ntmps55
  go_wp2_with fail
  refine hi.mono ?_
  rintro e w' ⟨rfl, rfl⟩
  go_wp2
  go_ret
  exact ⟨rfl, rfl⟩

theorem bytes_below (w : World) (e : TypeId) (s : ByteArray) : Below w.heap.size w (Lib.bytesWorld w e s) :=
  ⟨rfl, rfl, rfl, by rw [Lib.bytesWorld_size]; omega, fun k hk => Lib.bytesWorld_at_old w e s k hk⟩

set_option maxHeartbeats 1000000 in
set_option maxRecDepth 100000 in
/-- store.name. -/
theorem name_any (s : Str) (hs : s.length ≤ 140737488355328) (w : World) :
    Calls Tryz.prog 33 #[.string ⟨s.toArray⟩] w fun e w' => e = .returned (.bool (isKey s)) ∧ Below w.heap.size w w' := by
  by_cases h1 : 1 ≤ s.length
  · by_cases h2 : s.length ≤ 12
    · have hk : isKey s = !(s.any fun c => badKey c.toNat) := by
        simp only [isKey, h1, h2, decide_true, Bool.true_and]
        rw [List.not_any_eq_all_not]
      rw [hk]
      have hcv := Lib.run_convert_string_bytes (P := Tryz.prog) w 9 34 5 ⟨s.toArray⟩ Tryz.underlying9 Tryz.underlying34 Tryz.underlying5
      have hcell : ∀ j (h : j < s.length), (Lib.bytesWorld w 5 ⟨s.toArray⟩).cell? ⟨w.heap.size, j, none⟩ = some (.int .u8 (s[j]).toNat) := by
        intro j h
        rw [Lib.bytesWorld_cell w 5 ⟨s.toArray⟩ j h]
        simp [h]
      have hb := bytes_below w 5 ⟨s.toArray⟩
      have hc := fun c => contains_any w.heap.size c s (by omega) _ hcell
      clear hcell hk
      generalize Lib.bytesWorld w 5 ⟨s.toArray⟩ = w1 at *
      have k1 : decide ((1 : Int) ≤ (s.length : Int)) = true := by simp; omega
      have k2 : decide ((s.length : Int) ≤ 12) = true := by simp; omega
      go_enter Tryz.func33, Tryz.ntmps33
      go_wp2_with fail
      refine (hc _).mono ?_
      rintro e w' ⟨rfl, rfl⟩
      go_wp2
      go_ret
      exact ⟨rfl, hb⟩
    · have hk : isKey s = false := by simp [isKey, h2]
      rw [hk]
      have k2 : decide ((s.length : Int) ≤ 12) = false := by simp; omega
      clear hk
      go_enter Tryz.func33, Tryz.ntmps33
      go_wp2
      go_ret
      exact ⟨rfl, Below.refl _ _⟩
  · have hk : isKey s = false := by simp [isKey, h1]
    rw [hk]
    have k2 : decide ((1 : Int) ≤ (s.length : Int)) = false := by simp; omega
    clear hk
    go_enter Tryz.func33, Tryz.ntmps33
    go_wp2
    go_ret
    exact ⟨rfl, Below.refl _ _⟩

def lowOk (c : Nat) : Bool := decide (97 ≤ (c : Int)) && decide ((c : Int) ≤ 122)
def digOk (c : Nat) : Bool := decide (48 ≤ (c : Int)) && decide ((c : Int) ≤ 57)
theorem badKey_eq (c : Nat) : badKey c = (!lowOk c && !digOk c) := by
  unfold badKey lowOk digOk
  rw [Bool.eq_iff_iff]; simp
set_option maxHeartbeats 1000000 in
set_option maxRecDepth 100000 in
/-- The statements' IsKey. -/
theorem iskey_any (s : Str) (hs : s.length ≤ 140737488355328) (w : World) :
    Calls Tryz.prog 36 #[.string ⟨s.toArray⟩] w fun e w' => e = .returned (.bool (isKey s)) ∧ w' = w := by
  by_cases h1 : s.length < 1
  · have hk : isKey s = false := by simp [isKey]; omega
    rw [hk]
    have k1 : decide ((s.length : Int) < 1) = true := by simp; omega
    clear hk
    go_enter Tryz.func36, Tryz.ntmps36
    go_wp2
    go_ret
    exact ⟨rfl, rfl⟩
  · have k1 : decide ((s.length : Int) < 1) = false := by simp; omega
    by_cases h2 : 12 < s.length
    · have hk : isKey s = false := by simp [isKey]; omega
      rw [hk]
      have k2 : decide (12 < (s.length : Int)) = true := by simp; omega
      clear hk
      go_enter Tryz.func36, Tryz.ntmps36
      go_wp2
      go_ret
      exact ⟨rfl, rfl⟩
    · have k2 : decide (12 < (s.length : Int)) = false := by simp; omega
      have hk : isKey s = s.all fun c => !badKey c.toNat := by
        simp only [isKey, show 1 ≤ s.length by omega, show s.length ≤ 12 by omega, decide_true, Bool.true_and]
      go_enter Tryz.func36, Tryz.ntmps36
      go_wp2
      go_loop [3] (fun v3 => ∃ k : Nat, k ≤ s.length ∧ v3 = .int .i64 k ∧ isKey s = (s.drop k).all fun c => !badKey c.toNat) (fun v3 => s.length - (intOf v3).toNat)
      case atStart => exact ⟨0, Nat.zero_le _, rfl, hk⟩
      case round =>
        clear hk
        obtain ⟨k, hk, rfl, hf⟩ := hrel
        by_cases hlt : k < s.length
        · have hd : s.drop k = s[k] :: s.drop (k + 1) := List.drop_eq_getElem_cons hlt
          rw [hd, List.all_cons, badKey_eq] at hf
          have hi' : k < (⟨s.toArray⟩ : ByteArray).size := hlt
          have hsk : (s[k]).toNat = ((⟨s.toArray⟩ : ByteArray)[k]'hi').toNat := rfl
          rw [hsk] at hf
          generalize hq : ((⟨s.toArray⟩ : ByteArray)[k]'hi').toNat = q at *
          clear hd hsk
          unfold lowOk digOk at hf
          cases d1 : decide (97 ≤ (q : Int)) <;> cases d2 : decide ((q : Int) ≤ 122) <;> cases d3 : decide (48 ≤ (q : Int)) <;> cases d4 : decide ((q : Int) ≤ 57)
          all_goals
            rw [d1, d2, d3, d4] at hf
            simp only [Bool.true_and, Bool.and_true, Bool.false_and, Bool.and_false, Bool.not_true, Bool.not_false] at hf
            have HF := Lib.hid hf
            clear hf
            go_wp2
            first
              | (go_ret; exact ⟨by rw [HF.out]; rfl, rfl⟩)
              | (go_round
                 case rel => exact ⟨k + 1, by omega, by go_num, HF.out⟩
                 case measure => simp [intOf]; omega)
        · obtain rfl : k = s.length := by omega
          rw [List.drop_length] at hf
          have HF := Lib.hid hf
          clear hf
          go_wp2
          go_ret
          exact ⟨by rw [HF.out]; rfl, rfl⟩

end Go.Proofs.YtokfddlknhijbaaGreatDoor
