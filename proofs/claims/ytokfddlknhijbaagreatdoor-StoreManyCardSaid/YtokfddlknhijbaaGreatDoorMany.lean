/- StoreMany in plain Lean: what the puts come to. -/
import Derived.Test.YtokfddlknhijbaaGreatDoorHold
import Derived.Test.YtokfddlknhijbaaGreatDoorDec
namespace Go.Proofs.YtokfddlknhijbaaGreatDoor
open Go Go.RowKit Go.Maps
def tn (i : Nat) : Str := 116 :: dec i
def many : Nat → List Txt
  | 0 => []
  | i + 1 => if i < 100 then mput (many i) (tn i) [120] else many i
theorem mem_ins (x y : Txt) : ∀ l : List Txt, x ∈ ins y l ↔ x = y ∨ x ∈ l
  | [] => by simp [ins]
  | z :: r => by
    unfold ins
    split
    · simp
    · simp [mem_ins x y r]; constructor <;> (intro h; rcases h with h | h | h <;> simp [h])
theorem mem_mput {x : Txt} {L : List Txt} {k t : Str} (h : x ∈ mput L k t) : x = (k, t) ∨ x ∈ L := by
  rcases (mem_ins _ _ _).1 h with h | h
  · exact .inl h
  · exact .inr (List.mem_filter.1 h).1
theorem mput_new {L : List Txt} {k t : Str} (h : hasT L k = false) : (mput L k t).length = L.length + 1 := by
  unfold mput
  rw [ins_length]
  have : dropT L k = L := by
    unfold dropT
    rw [List.filter_eq_self]
    intro x hx
    unfold hasT at h
    rw [List.any_eq_false] at h
    have := h x hx
    simpa using this
  rw [this]
theorem tn_inj : ∀ i, i < 110 → ∀ j, j < i → (tn j == tn i) = false := by decide
theorem tn_key : ∀ i, i < 110 → isKey (tn i) = true := by decide
theorem many_mem : ∀ (i : Nat) (x : Txt), x ∈ many i → ∃ j, j < i ∧ x = (tn j, [120])
  | 0, x, h => by simp [many] at h
  | i + 1, x, h => by
    unfold many at h
    split at h
    · rcases mem_mput h with h | h
      · exact ⟨i, by omega, h⟩
      · obtain ⟨j, hj, e⟩ := many_mem i x h; exact ⟨j, by omega, e⟩
    · obtain ⟨j, hj, e⟩ := many_mem i x h; exact ⟨j, by omega, e⟩
theorem many_has (i : Nat) (h : i < 110) : hasT (many i) (tn i) = false := by
  unfold hasT
  rw [List.any_eq_false]
  intro x hx
  obtain ⟨j, hj, rfl⟩ := many_mem i x hx
  simp only [Bool.not_eq_true]
  exact tn_inj i h j hj
theorem many_length : ∀ i, i ≤ 110 → (many i).length = min i 100
  | 0, _ => rfl
  | i + 1, h => by
    have ih := many_length i (by omega)
    unfold many
    split
    · rw [mput_new (many_has i (by omega)), ih]; omega
    · rw [ih]; omega
end Go.Proofs.YtokfddlknhijbaaGreatDoor
