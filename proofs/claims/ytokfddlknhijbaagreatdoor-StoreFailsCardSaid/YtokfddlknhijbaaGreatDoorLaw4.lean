/- The plain law of the store: a formatted disk; a new one. -/
import Derived.Test.YtokfddlknhijbaaGreatDoorLaw3
import Derived.Test.YtokfddlknhijbaaGreatDoorForm
namespace Go.Proofs.YtokfddlknhijbaaGreatDoor
open Go Go.RowKit Go.Maps
theorem format_ok (D : Dsk) (h8 : 8 ≤ D.now.length) (hl : D.left = -1) :
    ∃ D', formR D = ⟨0, D', 1, 1, false⟩ ∧ D'.left = -1 ∧ Calm D' ∧ Holds D' [] 1 1 ∧ D'.now.length = D.now.length := by
  have hz : ∃ D1, zz 2 D 0 = (0, D1) ∧ D1.left = -1 ∧ D1.now.length = D.now.length ∧ D1.now.getD 0 [] = pad [] := by
    have e0 := dwrite_ok D 0 [] (by omega) (by simp)
    rw [if_neg (by omega)] at e0
    simp only [zz, e0, if_true]
    have e1 := dwrite_ok { left := spent D.left, kept := D.kept, now := D.now.set 0 (pad []), waits := D.waits ++ [(0, pad [])] } 1 [] (by simp; omega) (by simp)
    rw [if_neg (by simp [hl, spent])] at e1
    rw [e1]
    refine ⟨_, rfl, by simp [hl, spent], by simp, ?_⟩
    simp only
    rw [getD_set _ _ _ _ (by simp; omega), if_neg (by omega), getD_set _ _ _ _ (by omega), if_pos rfl]
  obtain ⟨D1, hz, l1, n1, g1⟩ := hz
  unfold formR formT
  rw [if_neg (by omega), hz]
  unfold Dsk.flush
  dsimp only
  rw [if_pos rfl, if_neg (show ¬ D1.left = 0 by omega)]
  dsimp only
  rw [if_pos rfl]
  generalize hD2 : ({ left := spent D1.left, kept := D1.now, now := D1.now, waits := [] } : Dsk) = D2
  have l2 : D2.left = -1 := by rw [← hD2]; simp [l1, spent]
  have n2 : D2.now = D1.now := by rw [← hD2]
  have hold : Old D2 (0 % 2) (0 + 1) := by
    intro h
    rw [Nat.zero_mod, n2, g1, headOk_zeros] at h
    cases h
  have hs := sync_ok D2 [] 0 0 (by rw [n2]; omega) (by omega) (by simp [packS]) hold
  simp only [Nat.sub_zero, Nat.zero_add] at hs
  obtain ⟨a1, a2, a3, a4, a5⟩ := hs
  obtain ⟨b1, b2⟩ := a1 l2
  obtain ⟨c1, c2⟩ := a4 b1
  refine ⟨(syncD D2 0 1 (packS [])).2, ?_, b2, c1, c2, by rw [a3, n2, n1]⟩
  unfold syncR
  simp only [Bool.false_eq_true, if_false]
  rw [if_neg (by simp [packS])]
  simp only [Nat.sub_zero, b1, if_true]
theorem fresh_len (n : Nat) : (Dsk.fresh n).now.length = n ∧ (Dsk.fresh n).left = -1 := by simp [Dsk.fresh]
/-- A new disk holds no store. -/
theorem fresh_opens (n : Nat) : openS (Dsk.fresh n) = none := by
  have h : ∀ i, readS (Dsk.fresh n) i = none := by
    intro i
    have hk : headOk (Dsk.fresh n) ((Dsk.fresh n).now.getD i []) = false := by
      have : (Dsk.fresh n).now.getD i [] = zeros 64 ∨ (Dsk.fresh n).now.getD i [] = [] := by
        simp only [Dsk.fresh, List.getD_eq_getElem?_getD, List.getElem?_replicate]
        split
        · exact .inl rfl
        · exact .inr rfl
      have hp : Lib.hasPrefix ((Dsk.fresh n).now.getD i []) cake = false := by
        rcases this with e | e <;> rw [e] <;> decide
      unfold headOk; rw [hp]; rfl
    unfold readS
    simp only [hk]
    rfl
  show newer (newer none (readS _ 0)) (readS _ 1) = none
  rw [h, h]; rfl
end Go.Proofs.YtokfddlknhijbaaGreatDoor
