/- The statements' own small functions: what they return, told of lists. -/
import Derived.Test.YtokfddlknhijbaaGreatDoorSum
import Derived.WalkLawsBesides
namespace Go.Proofs.YtokfddlknhijbaaGreatDoor
open Go Go.RowKit
abbrev Txt := Str × Str
def tcells (l : List Txt) : List Value := l.flatMap fun x => [encStr x.1, encStr x.2]
theorem tcells_at (l : List Txt) (i : Nat) (hi : i < l.length) : (tcells l)[i * 2]? = some (encStr (l[i]).1) ∧ (tcells l)[i * 2 + 1]? = some (encStr (l[i]).2) := by
  induction l generalizing i with
  | nil => simp at hi
  | cons x r ih =>
    cases i with
    | zero => simp [tcells]
    | succ i =>
      have := ih i (by simpa using hi)
      simp only [tcells, List.flatMap_cons] at this ⊢
      rw [show (i + 1) * 2 = i * 2 + 1 + 1 by omega]
      simpa using this
theorem tcells_snoc (l : List Txt) (x : Txt) : tcells (l ++ [x]) = tcells l ++ [encStr x.1, encStr x.2] := by simp [tcells]
/-- Texts that lie in memory as Go's. -/
def TextsAt (w : World) (v : Value) (l : List Txt) : Prop := w.ownsRow 0 59 2 v l.length (tcells l)
/-- The first place of a name, from place i on (-1: none). -/
def findFrom (name : Str) : Nat → List Txt → Int
  | _, [] => -1
  | i, x :: r => if x.1 = name then (i : Int) else findFrom name (i + 1) r
def find (l : List Txt) (name : Str) : Int := findFrom name 0 l

set_option maxHeartbeats 1000000 in
set_option maxRecDepth 100000 in
theorem find_any (v : Value) (l : List Txt) (name : Str) (w : World) (h : TextsAt w v l) (hl : l.length ≤ 1000) :
    Calls Tryz.prog 24 #[v, .string ⟨name.toArray⟩] w fun e w' => e = .returned (.int .i64 (find l name)) ∧ w' = w := by
  unfold TextsAt at h
  obtain ⟨A, c, rfl⟩ := row_slice h
  go_enter Tryz.func24, Tryz.ntmps24
  go_wp2
  go_loop [5] (fun v5 => ∃ k : Nat, k ≤ l.length ∧ v5 = .int .i64 k ∧ find l name = findFrom name k (l.drop k)) (fun v5 => l.length - (intOf v5).toNat)
  case atStart => exact ⟨0, Nat.zero_le _, rfl, rfl⟩
  case round =>
    obtain ⟨k, hk, rfl, hf⟩ := hrel
    by_cases hlt : k < l.length
    · obtain ⟨g, c', hg, -, -, -⟩ := row_form h (by omega)
      simp only [Value.slice.injEq, true_and] at hg
      obtain ⟨rfl, -⟩ := hg
      have z0 : w.cell? ⟨g, k * 2, none⟩ = some (encStr (l[k]).1) := by rw [h.cellAt _ (by omega)]; exact (tcells_at l k hlt).1
      have hd : l.drop k = l[k] :: l.drop (k + 1) := List.drop_eq_getElem_cons hlt
      rw [hd, findFrom] at hf
      clear h hd
      generalize (l[k]).1 = x at *
      by_cases he : x = name
      · rw [if_pos he] at hf
        have HF := Lib.hid hf
        have hb : (x == name) = true := by simp [he]
        clear hf he
        go_wp2
        go_ret
        exact ⟨by rw [HF.out]; rfl, rfl⟩
      · rw [if_neg he] at hf
        have HF := Lib.hid hf
        have hb : (x == name) = false := by simp [he]
        clear hf he
        go_wp2
        go_round
        case rel => exact ⟨k + 1, by omega, by go_num, HF.out⟩
        case measure => simp [intOf]; omega
    · obtain rfl : k = l.length := by omega
      rw [List.drop_length, findFrom] at hf
      have HF := Lib.hid hf
      clear hf
      go_wp2
      go_ret
      exact ⟨by rw [HF.out]; rfl, rfl⟩

/-- What texts take, as the document counts it. -/
def sizeOf0 (l : List Txt) : Nat := (l.map fun x => 32 + x.2.length).sum
theorem sizeOf0_snoc (l : List Txt) (x : Txt) : sizeOf0 (l ++ [x]) = sizeOf0 l + 32 + x.2.length := by simp [sizeOf0]; omega
theorem sizeOf0_take_le (l : List Txt) (k : Nat) : sizeOf0 (l.take k) ≤ sizeOf0 l := by
  have h : sizeOf0 (l.take k ++ l.drop k) = sizeOf0 (l.take k) + sizeOf0 (l.drop k) := by simp only [sizeOf0, List.map_append, List.sum_append]
  rw [List.take_append_drop] at h
  omega
set_option maxHeartbeats 1000000 in
set_option maxRecDepth 100000 in
theorem size_any (v : Value) (l : List Txt) (w : World) (h : TextsAt w v l) (hl : l.length ≤ 1000) (hs : sizeOf0 l ≤ 100000000) :
    Calls Tryz.prog 17 #[v] w fun e w' => e = .returned (.int .i64 (64 + sizeOf0 l : Nat)) ∧ w' = w := by
  unfold TextsAt at h
  obtain ⟨A, c, rfl⟩ := row_slice h
  go_enter Tryz.func17, Tryz.ntmps17
  go_wp2
  go_loop [3, 4] (fun v3 v4 => ∃ k : Nat, k ≤ l.length ∧ v4 = .int .i64 k ∧ v3 = .int .i64 (64 + sizeOf0 (l.take k) : Nat)) (fun _ v4 => l.length - (intOf v4).toNat)
  case atStart => exact ⟨0, Nat.zero_le _, rfl, rfl⟩
  case round =>
    obtain ⟨k, hk, rfl, rfl⟩ := hrel
    have hle := sizeOf0_take_le l k
    by_cases hlt : k < l.length
    · obtain ⟨g, c', hg, -, -, -⟩ := row_form h (by omega)
      simp only [Value.slice.injEq, true_and] at hg
      obtain ⟨rfl, -⟩ := hg
      have z0 : w.cell? ⟨g, k * 2 + 1, none⟩ = some (encStr (l[k]).2) := by rw [h.cellAt _ (by omega)]; exact (tcells_at l k hlt).2
      have hts : sizeOf0 (l.take (k + 1)) = sizeOf0 (l.take k) + 32 + (l[k]).2.length := by rw [List.take_succ_eq_append_getElem hlt, sizeOf0_snoc]
      have hle2 := sizeOf0_take_le l (k + 1)
      rw [hts] at hle2
      have HT := Lib.hid hts
      clear h hts
      generalize (l[k]).2 = x at *
      generalize sizeOf0 (l.take k) = q at *
      go_wp2
      go_round
      case rel => exact ⟨k + 1, by omega, by go_num, by rw [HT.out]; go_num⟩
      case measure => simp [intOf]; omega
    · obtain rfl : k = l.length := by omega
      clear h hle
      go_wp2
      go_ret
      exact ⟨rfl, rfl⟩

set_option maxHeartbeats 1000000 in
set_option maxRecDepth 100000 in
/-- The same texts: of two rows of strings. -/
theorem same_any (v u : Value) (a b : List Str) (w : World) (h : w.ownsRow 0 9 1 v a.length (a.map encStr)) (h' : w.ownsRow 0 9 1 u b.length (b.map encStr)) (hl : a.length ≤ 1000) (hl' : b.length ≤ 1000) (he : a = b) :
    Calls Tryz.prog 40 #[v, u] w fun e w' => e = .returned (.bool true) ∧ ∃ n, w' = w.drewN n := by
  subst he
  obtain ⟨A, c, rfl⟩ := row_slice h
  obtain ⟨A', c', rfl⟩ := row_slice h'
  go_enter Tryz.func40, Tryz.ntmps40
  go_wp2
  go_loopw [5] (fun v5 wr => ∃ k : Nat, k ≤ a.length ∧ v5 = .int .i64 k ∧ ∃ n, wr = w.drewN n) (fun v5 _ => a.length - (intOf v5).toNat)
  case atStart => exact ⟨0, Nat.zero_le _, rfl, 0, rfl⟩
  case round =>
    obtain ⟨k, hk, rfl, n, rfl⟩ := hrel
    by_cases hlt : k < a.length
    · obtain ⟨g, c1, hg, -, -, -⟩ := row_form h (by omega)
      simp only [Value.slice.injEq, true_and] at hg
      obtain ⟨rfl, -⟩ := hg
      obtain ⟨g', c1', hg, -, -, -⟩ := row_form h' (by omega)
      simp only [Value.slice.injEq, true_and] at hg
      obtain ⟨rfl, -⟩ := hg
      have z0 : w.cell? ⟨g, k, none⟩ = some (encStr a[k]) := by rw [h.cellAt _ (by omega)]; simp [hlt]
      have z1 : w.cell? ⟨g', k, none⟩ = some (encStr a[k]) := by rw [h'.cellAt _ (by omega)]; simp [hlt]
      clear h h'
      generalize a[k] = x at *
      have hk2 : (k : Int) < (a.length : Int) := by omega
      go_wp2
      go_quiet (fail)
      go_wp2
      go_roundw
      case rel => exact ⟨k + 1, by omega, by go_num, n + nq, rfl⟩
      case measure => simp [intOf]; omega
    · obtain rfl : k = a.length := by omega
      go_wp2
      go_ret
      exact ⟨rfl, n, rfl⟩
end Go.Proofs.YtokfddlknhijbaaGreatDoor
