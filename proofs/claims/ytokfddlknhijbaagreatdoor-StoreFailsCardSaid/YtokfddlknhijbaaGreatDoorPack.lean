/- store's Names and pack. -/
import Derived.Test.YtokfddlknhijbaaGreatDoorMap
import Derived.Test.YtokfddlknhijbaaGreatDoorIter
import Derived.Test.YtokfddlknhijbaaGreatDoorBuild
import Derived.Test.YtokfddlknhijbaaGreatDoorHead
import Derived.Deep.RegionHeld3
import Derived.Deep.DrawnRows
namespace Go.Proofs.YtokfddlknhijbaaGreatDoor
open Go Go.RowKit Go.Maps

/-- The names rise. -/
def Rising (L : List Txt) : Prop := L.Pairwise fun x y => Op.bytesLess x.1 y.1 = true
theorem rising_le {L : List Txt} (h : Rising L) : (L.map (·.1)).Pairwise fun a b => decide (a ≤ b) = true := by
  rw [List.pairwise_map]
  refine h.imp ?_
  intro a b hab
  rw [bytesLess_eq] at hab
  simp only [decide_eq_true_eq] at hab ⊢
  exact List.le_of_lt hab
theorem sorted_keys {L : List Txt} {ss : List Str} (h : Rising L) (hp : ss.Perm (L.map (·.1))) : ss.mergeSort (fun x y => decide (x ≤ y)) = L.map (·.1) := by
  have hp2 : (ss.mergeSort (fun x y => decide (x ≤ y))).Perm (L.map (·.1)) := (List.mergeSort_perm ss _).trans hp
  refine hp2.eq_of_pairwise (le := fun a b => decide (a ≤ b) = true) ?_ (List.pairwise_mergeSort (fun a b c => by simp; exact fun h1 h2 => List.le_trans h1 h2) (fun a b => by simp; exact List.le_total a b) ss) (rising_le h)
  intro a b _ _ h1 h2
  exact List.le_antisymm (by simpa using h1) (by simpa using h2)

set_option maxRecDepth 100000 in
theorem names_any (s mb : Nat) (p k hf dd : Value) (L : List Txt) (w : World) (hb : Blk w s [p, .map (some mb), k, hf, dd] 77) (hm : MapAt w mb L) (hr : Rising L) (hL : L.length ≤ 1000000) :
    Calls Tryz.prog 41 #[.pointer (some ⟨s, 0, none⟩)] w (RowPost w 9 1 L.length (L.map fun x => encStr x.1)) := by
  have c1 : w.cell? ⟨s, 1, none⟩ = some (.map (some mb)) := hb.cell 1
  have h1 := callsIn_wide.1 (Tryz.maps_Keys_61 (some mb) w)
  have h2 := callsIn_wide.1 (Tryz.slices_Sorted_keys_60_61 mb L.length (menc L) (plainElem Tryz.prog 9) w hm (by simp [menc, Maps.size, mcells, maxLen]; omega) (by simp [menc, Maps.size, mcells]; omega))
  have hk : strKeys (menc L) = L.map (·.1) := by simp [strKeys, menc, mcells, strOf]
  rw [hk] at h2
  clear hk hb hm
  go_enter Tryz.func41, Tryz.ntmps41
  go_wp2_with fail
  refine h1.mono ?_
  rintro e w1 ⟨rfl, rfl⟩
  go_wp2_with fail
  refine h2.mono ?_
  rintro e w1 ⟨v, ss, rfl, hp, hown, -, hbel⟩
  go_wp2_with fail
  go_ret
  rw [sorted_keys hr hp] at hown
  have hl : ss.length = L.length := by rw [hp.length_eq]; simp
  rw [hl, List.map_map] at hown
  have hbw := ((Below.refl w.heap.size w).alloc (Nat.le_refl _) (.cells #[.map (some mb)] 74)).trans (hbel.mono (by simp))
  refine ⟨v, rfl, ?_, hbw⟩
  refine ⟨hown.1, ?_⟩
  rcases hown.2 with h2 | ⟨g, cap, cur, rfl, hb, rest⟩
  · exact .inl h2
  · exact .inr ⟨g, cap, cur, rfl, by have : w.heap.size ≤ (w.alloc (.cells #[.map (some mb)] 74)).heap.size := by simp
                                     omega, rest⟩

def packS (L : List Txt) : Str := L.flatMap fun x => item x.1 ++ item x.2
theorem packS_snoc (L : List Txt) (x : Txt) : packS (L ++ [x]) = packS L ++ (item x.1 ++ item x.2) := by simp [packS]
theorem packS_take (L : List Txt) (k : Nat) : (packS (L.take k)).length ≤ (packS L).length := by
  have e : packS L = packS (L.take k) ++ packS (L.drop k) := by
    conv => lhs; rw [← List.take_append_drop k L]
    simp only [packS, List.flatMap_append]
  rw [e, List.length_append]; omega

theorem builder_step {b B : Nat} {bs : List Value} {w w' : World} (h : Lib.IsBuilder 103 5 B b bs w) (hb : Below w.heap.size w w') : Lib.IsBuilder 103 5 B b bs w' := by
  have one : ∀ p, Lib.BuilderAt 103 5 B b p bs w → Lib.BuilderAt 103 5 B b p bs w' := by
    rintro p ⟨h1, v, h2, h3, h4⟩
    exact ⟨h1, v, by rw [hb.block b (Array.getElem?_eq_some_iff.1 h2).1]; exact h2, row_step h3 (Step.of_below hb Nil) (fun _ _ h => h), h4⟩
  rcases h with h | h
  · exact .inl (one _ h)
  · exact .inr (one _ h)

structure PackAt (w : World) (v : Value) (L : List Txt) (acc : Str) (W : World) : Prop where
  below : Below w.heap.size w W
  row : W.ownsRow w.heap.size 9 1 v L.length (L.map fun x => encStr x.1)
  ne : v.ownBlock ≠ some w.heap.size
  bld : Lib.IsBuilder 103 5 w.heap.size w.heap.size (Lib.byteCells acc) W
theorem PackAt.step {w W W' : World} {v : Value} {L : List Txt} {acc : Str} (h : PackAt w v L acc W) (hb : Below W.heap.size W W') : PackAt w v L acc W' :=
  ⟨h.below.trans (hb.mono h.below.size), row_step h.row (Step.of_below hb Nil) (fun _ _ h => h), h.ne, builder_step h.bld hb⟩
theorem PackAt.drew {w W : World} {v : Value} {L : List Txt} {acc : Str} (h : PackAt w v L acc W) : PackAt w v L acc W.drew := h.step (Below.drew (Below.refl _ _))
def LookAt (mb : Nat) (k : Str) (t : Str) (W : World) : Prop := (Instr.lookup 74 (.map (some mb)) (.string ⟨k.toArray⟩) false).run Tryz.prog W = .ok (.string ⟨t.toArray⟩) W
end Go.Proofs.YtokfddlknhijbaaGreatDoor
