/- The plain law of the store: the body's sectors. -/
import Derived.Test.YtokfddlknhijbaaGreatDoorLaw
namespace Go.Proofs.YtokfddlknhijbaaGreatDoor
open Go Go.RowKit Go.Maps
theorem dwrite_ok (D : Dsk) (n : Nat) (s : Str) (hn : n < D.now.length) (hs : s.length ≤ 64) :
    D.write (n : Int) s = if D.left = 0 then (9, D) else (0, { left := spent D.left, kept := D.kept, now := D.now.set n (pad s), waits := D.waits ++ [(n, pad s)] }) := by
  unfold Dsk.write
  rw [if_neg (by omega), if_neg (by omega)]
  simp
theorem up64_drop (p : Str) (h : p ≠ []) : up64 (p.drop 64).length + 1 = up64 p.length := by
  have : 0 < p.length := List.length_pos_iff.2 h
  unfold up64; simp; omega
theorem sect_cons (D : Dsk) (n m : Nat) : sect D n (m + 1) = D.now.getD n [] ++ sect D (n + 1) m := by
  unfold sect
  rw [List.range_succ_eq_map]
  simp [List.flatMap_map, Nat.add_assoc, Nat.add_comm 1]
theorem getD_set (l : List Str) (n j : Nat) (s : Str) (hn : n < l.length) : (l.set n s).getD j [] = if j = n then s else l.getD j [] := by
  by_cases e : j = n
  · subst e; simp [hn]
  · rw [if_neg e]
    simp only [List.getD_eq_getElem?_getD]
    rw [List.getElem?_set_ne (fun e2 => e e2.symm)]
structure Wrote (D : Dsk) (n m : Nat) (r : Nat × Dsk) : Prop where
  kept : r.2.kept = D.kept
  len : r.2.now.length = D.now.length
  waits : ∃ ws, r.2.waits = D.waits ++ ws ∧ ∀ x ∈ ws, n ≤ x.1 ∧ x.1 < n + m
  out : ∀ j, (j < n ∨ n + m ≤ j) → r.2.now.getD j [] = D.now.getD j []
  code : r.1 = 0 ∨ (r.1 = 9 ∧ r.2.left = 0)
  live : D.left = -1 → r.1 = 0 ∧ r.2.left = -1
theorem wb_spec : ∀ (f : Nat) (D : Dsk) (n : Nat) (p : Str), p.length ≤ 64 * f → n + up64 p.length ≤ D.now.length →
    Wrote D n (up64 p.length) (wb f D n p) ∧ ((wb f D n p).1 = 0 → (sect (wb f D n p).2 n (up64 p.length)).take p.length = p)
  | 0, D, n, p, h, _ => by
    have : p = [] := List.length_eq_zero_iff.1 (by omega)
    subst this
    exact ⟨⟨rfl, rfl, ⟨[], by simp [wb], by simp⟩, fun _ _ => rfl, .inl rfl, fun h => ⟨rfl, h⟩⟩, fun _ => rfl⟩
  | f + 1, D, n, p, h, hn => by
    unfold wb
    by_cases hp : p = []
    · rw [if_pos hp]; subst hp
      exact ⟨⟨rfl, rfl, ⟨[], by simp, by simp⟩, fun _ _ => rfl, .inl rfl, fun h => ⟨rfl, h⟩⟩, fun _ => rfl⟩
    · rw [if_neg hp]
      have hu := up64_drop p hp
      have hw := dwrite_ok D n (p.take 64) (by omega) (by simp; omega)
      simp only []
      by_cases hl : D.left = 0
      · rw [if_pos hl] at hw
        rw [hw]
        simp only [if_false, show ¬ ((9 : Nat) = 0) by omega]
        refine ⟨⟨rfl, rfl, ⟨[], by simp, by simp⟩, fun _ _ => rfl, .inr ⟨rfl, hl⟩, fun h => by omega⟩, fun h => by simp at h⟩
      · rw [if_neg hl] at hw
        rw [hw]
        simp only [if_true]
        have hlen : (D.now.set n (pad (p.take 64))).length = D.now.length := by simp
        obtain ⟨W, hb⟩ := wb_spec f { left := spent D.left, kept := D.kept, now := D.now.set n (pad (p.take 64)), waits := D.waits ++ [(n, pad (p.take 64))] } (n + 1) (p.drop 64) (by simp; omega) (by simp only [hlen]; omega)
        generalize wb f { left := spent D.left, kept := D.kept, now := D.now.set n (pad (p.take 64)), waits := D.waits ++ [(n, pad (p.take 64))] } (n + 1) (p.drop 64) = r at *
        refine ⟨⟨W.kept, W.len.trans hlen, ?_, ?_, W.code, ?_⟩, ?_⟩
        · obtain ⟨ws, h1, h2⟩ := W.waits
          refine ⟨(n, pad (p.take 64)) :: ws, by rw [h1]; simp, ?_⟩
          intro x hx
          rcases List.mem_cons.1 hx with rfl | hx
          · simp only; omega
          · have := h2 x hx; omega
        · intro j hj
          rw [W.out j (by omega)]
          simp only
          rw [getD_set _ _ _ _ (by omega), if_neg (by omega)]
        · intro h1
          exact W.live (by simp [h1, spent])
        · intro h0
          have hb2 := hb h0
          rw [← hu, sect_cons]
          have hg : r.2.now.getD n [] = pad (p.take 64) := by
            rw [W.out n (by omega)]
            simp only
            rw [getD_set _ _ _ _ (by omega), if_pos rfl]
          rw [hg]
          by_cases h64 : p.length ≤ 64
          · have e : p.take 64 = p := List.take_of_length_le h64
            rw [e]
            unfold pad
            rw [List.append_assoc, List.take_append_of_le_length (Nat.le_refl _), List.take_length]
          · have e : pad (p.take 64) = p.take 64 := by
              unfold pad zeros
              have : (p.take 64).length = 64 := by simp; omega
              rw [this]; simp
            have l64 : (p.take 64).length = 64 := by simp; omega
            rw [e, List.take_append, List.take_of_length_le (by omega), l64]
            have : p.length - 64 = (p.drop 64).length := by simp
            rw [this, hb2, List.take_append_drop]
end Go.Proofs.YtokfddlknhijbaaGreatDoor
