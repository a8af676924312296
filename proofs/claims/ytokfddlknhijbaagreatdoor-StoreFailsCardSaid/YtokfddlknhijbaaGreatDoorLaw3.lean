/- The plain law of the store: one sync, and the power going on the way. -/
import Derived.Test.YtokfddlknhijbaaGreatDoorLaw2
namespace Go.Proofs.YtokfddlknhijbaaGreatDoor
open Go Go.RowKit Go.Maps
theorem sect_congr {D D' : Dsk} {n : Nat} : ∀ m, (∀ i, i < m → D'.now.getD (n + i) [] = D.now.getD (n + i) []) → sect D' n m = sect D n m
  | 0, _ => rfl
  | m + 1, h => by rw [sect_snoc, sect_snoc, sect_congr m (fun i hi => h i (by omega)), h m (by omega)]
theorem halfN_len {D D' : Dsk} (h : D'.now.length = D.now.length) : halfN D' = halfN D := by unfold halfN; rw [h]
theorem Old.same {D D' : Dsk} {n k : Nat} (h : Old D n k) (hl : D'.now.length = D.now.length) (he : D'.now.getD n [] = D.now.getD n []) : Old D' n k := by
  unfold Old at *
  rw [he]
  intro hk
  apply h
  unfold headOk at *
  rw [halfN_len hl] at hk
  exact hk
theorem up64_le {n m : Nat} (h : n ≤ m * 64) : up64 n ≤ m := by unfold up64; omega
/-- What the other half holds does not matter. -/
theorem Holds.same {D D' : Dsk} {L : List Txt} {k h : Nat} (H : Holds D L k h) (hl : D'.now.length = D.now.length) (ho : ∀ j, (j < 2 + (1 - h) * halfN D ∨ 2 + (1 - h) * halfN D + halfN D ≤ j) → D'.now.getD j [] = D.now.getD j []) : Holds D' L k h := by
  have hh := H.hh
  have hu := up64_le H.room
  refine ⟨?_, ?_, ?_, ?_, hh⟩
  · rw [ho _ (.inl (by omega))]; exact H.head
  · have := H.body
    unfold bodyS at *
    rw [halfN_len hl, sect_congr _ (fun i hi => ho _ ?_), this]
    rcases (by omega : h = 0 ∨ h = 1) with rfl | rfl
    · left; simp; try omega
    · right; simp; try omega
  · rw [halfN_len hl]; exact H.room
  · exact H.old.same hl (ho _ (.inl (by omega)))
theorem land_out (keep : List Bool) (j : Nat) : ∀ (ws : List (Nat × Str)) (i : Nat) (l : List Str), (∀ x ∈ ws, x.1 ≠ j) → (land keep i ws l).getD j [] = l.getD j []
  | [], _, _, _ => rfl
  | x :: r, i, l, h => by
    rw [land, land_out keep j r _ _ (fun y hy => h y (List.mem_cons_of_mem _ hy))]
    split
    · simp only [List.getD_eq_getElem?_getD]
      rw [List.getElem?_set_ne (h x (List.mem_cons_self ..))]
    · rfl
/-- All that was written has been kept. -/
structure Calm (D : Dsk) : Prop where
  kept : D.kept = D.now
  waits : D.waits = []
theorem Calm.crash {D : Dsk} (h : Calm D) (keep : List Bool) : (D.crash keep).now = D.now ∧ Calm (D.crash keep) := by
  unfold Dsk.crash
  rw [h.waits, h.kept]
  exact ⟨rfl, rfl, rfl⟩
/-- A sync that comes to its end. -/
theorem sync_ok (D : Dsk) (L : List Txt) (k h : Nat) (h8 : 2 ≤ D.now.length) (hh : h ≤ 1) (hr : (packS L).length ≤ halfN D * 64) (ho : Old D (k % 2) (k + 1)) :
    let r := syncD D k (1 - h) (packS L)
    (D.left = -1 → r.1 = 0 ∧ r.2.left = -1) ∧ (r.1 = 0 ∨ r.1 = 9) ∧ r.2.now.length = D.now.length ∧ (r.1 = 0 → Calm r.2 ∧ Holds r.2 L (k + 1) (1 - h)) ∧
    (r.1 ≠ 0 → Calm D → r.2.left = 0 ∧ ∀ keep, (Dsk.crash r.2 keep).now.length = D.now.length ∧ ((∀ L0, Holds D L0 k h → Holds (Dsk.crash r.2 keep) L0 k h) ∨ Holds (Dsk.crash r.2 keep) L (k + 1) (1 - h))) := by
  have hu := up64_le hr
  have hN : halfN D = (D.now.length - 2) / 2 := rfl
  have hb : 2 + (1 - h) * halfN D + halfN D ≤ D.now.length := by
    rcases (by omega : h = 0 ∨ h = 1) with rfl | rfl
    · simp; omega
    · simp; omega
  obtain ⟨W, hbody⟩ := wb_spec (up64 (packS L).length) D (2 + (1 - h) * halfN D) (packS L) (by unfold up64; omega) (by omega)
  simp only
  unfold syncD
  generalize wb (up64 (packS L).length) D (2 + (1 - h) * halfN D) (packS L) = r1 at *
  obtain ⟨c1, D1⟩ := r1
  have w1 := W.kept; have w2 := W.len; have w3 := W.waits; have w4 := W.out; have w5 := W.code; have w6 := W.live
  simp only at w1 w2 w3 w4 w5 w6 hbody
  clear W
  have keepIt : ∀ keep, Calm D → (Dsk.crash D1 keep).now.length = D.now.length ∧ (∀ L0, Holds D L0 k h → Holds (Dsk.crash D1 keep) L0 k h) := by
    intro keep hc
    obtain ⟨ws, e1, e2⟩ := w3
    rw [hc.waits] at e1
    have hlen : (Dsk.crash D1 keep).now.length = D.now.length := by
      show (land keep 0 D1.waits D1.kept).length = _
      rw [land_length, w1, hc.kept]
    refine ⟨hlen, fun L0 H => H.same hlen ?_⟩
    intro j hj
    show (land keep 0 D1.waits D1.kept).getD j [] = _
    rw [e1, List.nil_append, land_out keep j ws 0 _ (fun x hx => by have := e2 x hx; omega), w1, hc.kept]
  unfold syncT
  simp only
  by_cases hc1 : c1 = 0
  · subst hc1
    simp only [if_true]
    have hb0 := hbody rfl
    unfold Dsk.flush
    by_cases hl1 : D1.left = 0
    · rw [if_pos hl1, if_neg (show ¬ ((9 : Nat) = 0) by omega)]
      refine ⟨fun h => ?_, .inr rfl, w2, fun h => ?_, fun _ hc => ⟨hl1, fun keep => ⟨(keepIt keep hc).1, .inl (keepIt keep hc).2⟩⟩⟩
      · have := (w6 h).2; omega
      · have h9 : (9 : Nat) = 0 := h
        omega
    · rw [if_neg hl1, if_pos rfl]
      unfold headW
      generalize hD2 : ({ left := spent D1.left, kept := D1.now, now := D1.now, waits := [] } : Dsk) = D2
      have k2 : D2.kept = D1.now := by rw [← hD2]
      have n2 : D2.now = D1.now := by rw [← hD2]
      have x2 : D2.waits = [] := by rw [← hD2]
      have l2 : D2.left = spent D1.left := by rw [← hD2]
      have hs : (k + 1) % 2 < 2 := Nat.mod_lt _ (by omega)
      rw [dwrite_ok D2 ((k + 1) % 2) _ (by rw [n2]; omega) (by rw [headS_length]; omega)]
      have holds1 : ∀ D3 : Dsk, D3.now = D1.now → ∀ L0, Holds D L0 k h → Holds D3 L0 k h := by
        intro D3 e L0 H
        exact H.same (by rw [e, w2]) (fun j hj => by rw [e]; exact w4 j (by omega))
      have holds2 : ∀ D3 : Dsk, D3.now = D1.now.set ((k + 1) % 2) (pad (headS (k + 1) (1 - h) (packS L).length (crc (packS L)))) → Holds D3 L (k + 1) (1 - h) := by
        intro D3 e
        have el : D3.now.length = D.now.length := by rw [e, List.length_set, w2]
        have eg : ∀ j, j ≠ (k + 1) % 2 → D3.now.getD j [] = D1.now.getD j [] := fun j hj => by rw [e, getD_set _ _ _ _ (by omega), if_neg hj]
        refine ⟨by rw [e, getD_set _ _ _ _ (by omega), if_pos rfl], ?_, by rw [halfN_len el]; exact hr, ?_, by omega⟩
        · unfold bodyS
          rw [halfN_len el, sect_congr (D := D1) _ (fun i _ => eg _ (by omega))]
          exact hb0
        · have e2 : (k + 1 + 1) % 2 = k % 2 := by omega
          rw [e2]
          refine ho.same el ?_
          rw [eg _ (by omega), w4 _ (.inl (by omega))]
      by_cases hl2 : D2.left = 0
      · rw [if_pos hl2, if_neg (show ¬ ((9 : Nat) = 0) by omega)]
        refine ⟨fun h => ?_, .inr rfl, by rw [n2, w2], fun h => ?_, fun _ hc => ⟨hl2, fun keep => ⟨?_, .inl (holds1 _ ?_)⟩⟩⟩
        · have := (w6 h).2; rw [this] at l2; simp [spent] at l2; omega
        · have h9 : (9 : Nat) = 0 := h
          omega
        · show (land keep 0 D2.waits D2.kept).length = _
          rw [land_length, k2, w2]
        · show land keep 0 D2.waits D2.kept = _
          rw [x2, k2]; rfl
      · rw [if_neg hl2, if_pos rfl]
        generalize hD3 : ({ left := spent D2.left, kept := D2.kept, now := D2.now.set ((k + 1) % 2) (pad (headS (k + 1) (1 - h) (packS L).length (crc (packS L)))), waits := D2.waits ++ [((k + 1) % 2, pad (headS (k + 1) (1 - h) (packS L).length (crc (packS L))))] } : Dsk) = D3
        have k3 : D3.kept = D1.now := by rw [← hD3]; exact k2
        have n3 : D3.now = D1.now.set ((k + 1) % 2) (pad (headS (k + 1) (1 - h) (packS L).length (crc (packS L)))) := by rw [← hD3, ← n2]
        have x3 : D3.waits = [((k + 1) % 2, pad (headS (k + 1) (1 - h) (packS L).length (crc (packS L))))] := by rw [← hD3, x2]; rfl
        have l3 : D3.left = spent D2.left := by rw [← hD3]
        dsimp only
        by_cases hl3 : D3.left = 0
        · rw [if_pos hl3]
          refine ⟨fun h => ?_, .inr rfl, by rw [n3, List.length_set, w2], fun h => ?_, fun _ hc => ⟨hl3, fun keep => ⟨?_, ?_⟩⟩⟩
          · have := (w6 h).2; rw [this] at l2; simp [spent] at l2; rw [l2] at l3; simp [spent] at l3; omega
          · have h9 : (9 : Nat) = 0 := h
            omega
          · show (land keep 0 D3.waits D3.kept).length = _
            rw [land_length, k3, w2]
          · have e : (Dsk.crash D3 keep).now = if 0 < keep.length ∧ keep.getD 0 false = true then D1.now.set ((k + 1) % 2) (pad (headS (k + 1) (1 - h) (packS L).length (crc (packS L)))) else D1.now := by
              show land keep 0 D3.waits D3.kept = _
              rw [x3, k3]; rfl
            by_cases hk : 0 < keep.length ∧ keep.getD 0 false = true
            · rw [if_pos hk] at e
              exact .inr (holds2 _ e)
            · rw [if_neg hk] at e
              exact .inl (holds1 _ e)
        · rw [if_neg hl3]
          refine ⟨fun h => ⟨rfl, ?_⟩, .inl rfl, by show D3.now.length = _; rw [n3, List.length_set, w2], fun _ => ⟨⟨rfl, rfl⟩, holds2 _ n3⟩, fun h => absurd rfl h⟩
          show spent D3.left = -1
          have := (w6 h).2; rw [this] at l2; simp [spent] at l2; rw [l2] at l3; simp [spent] at l3; rw [l3]; simp [spent]
  · simp only [if_neg hc1]
    refine ⟨fun h => absurd (w6 h).1 hc1, ?_, w2, fun h => absurd h hc1, fun _ hc => ⟨?_, fun keep => ⟨(keepIt keep hc).1, .inl (keepIt keep hc).2⟩⟩⟩
    · rcases w5 with h | h
      · exact absurd h hc1
      · exact .inr h.1
    · rcases w5 with h | h
      · exact absurd h hc1
      · exact h.2
end Go.Proofs.YtokfddlknhijbaaGreatDoor
