/- The laws' own change: what a model makes of one change. -/
import Derived.Test.YtokfddlknhijbaaGreatDoorDoing
import Derived.Test.YtokfddlknhijbaaGreatDoorLaw6
namespace Go.Proofs.YtokfddlknhijbaaGreatDoor
open Go Go.RowKit Go.Maps
/-- Texts in memory that no block of T bears. -/
def Txs (w : World) (v : Value) (l : List Txt) (T : Nat → Prop) : Prop := TextsAt w v l ∧ ∀ j, v.ownBlock = some j → ¬ T j
theorem Txs.nil (w : World) (T : Nat → Prop) : Txs w (.slice none 0 0) [] T := ⟨World.ownsRow_nil _ _ _ _, fun j h => by simp [Value.ownBlock] at h⟩
theorem Txs.step {w w' : World} {v : Value} {l : List Txt} {T T' : Nat → Prop} (h : Txs w v l T) (hs : Step T w T' w') : Txs w' v l T' :=
  ⟨row_step h.1 hs h.2, fun j hj => hs.out (row_lt h.1 hj) (h.2 j hj)⟩
theorem Txs.below {w w' : World} {v : Value} {l : List Txt} {T : Nat → Prop} (h : Txs w v l T) (hb : Below w.heap.size w w') : Txs w' v l T := h.step (Step.of_below hb T)
theorem Txs.new {w w' : World} {v : Value} {l : List Txt} {T : Nat → Prop} (h : w'.ownsRow w.heap.size 59 2 v l.length (tcells l)) (hT : ∀ j, T j → j < w.heap.size) : Txs w' v l T :=
  ⟨own_base h, fun j hj ht => by have := own_ge h hj; have := hT j ht; omega⟩
def ChgPost (w : World) (now synced : List Txt) (c : Chg) (T : Nat → Prop) (e : Ending) (w' : World) : Prop :=
  ∃ v1 v2, e = .returned (.tuple #[v1, v2, .int .i64 (chgC now c : Nat)]) ∧ Below w.heap.size w w' ∧ Txs w' v1 (chgL now c) T ∧ Txs w' v2 (chgS now synced c) T
set_option maxHeartbeats 2000000 in
set_option maxRecDepth 100000 in
theorem change_any (vn vs : Value) (now synced : List Txt) (c : Chg) (T : Nat → Prop) (w : World) (hn : Txs w vn now T) (hs : Txs w vs synced T) (hT : ∀ j, T j → j < w.heap.size) (hl : now.length ≤ 1000) (hcn : c.name.length ≤ 1000) (hr : Rising now) :
    Calls Tryz.prog 15 #[vn, vs, chgV c] w (ChgPost w now synced c T) := by
  obtain ⟨ck, cn, ct⟩ := c
  simp only at hcn
  obtain ⟨A1, c1, rfl⟩ := row_slice hn.1
  obtain ⟨A2, c2, rfl⟩ := row_slice hs.1
  have hb1 := (Below.refl w.heap.size w).alloc (Nat.le_refl _) (.cells #[encStr ck, encStr cn, encStr ct] 42)
  have hBn := Blk.new w [encStr ck, encStr cn, encStr ct] 42
  have y0 : (w.alloc (.cells #[encStr ck, encStr cn, encStr ct] 42)).cell? ⟨w.heap.size, 0, none⟩ = some (encStr ck) := hBn.cell 0
  have y1 : (w.alloc (.cells #[encStr ck, encStr cn, encStr ct] 42)).cell? ⟨w.heap.size, 1, none⟩ = some (encStr cn) := hBn.cell 1
  have y2 : (w.alloc (.cells #[encStr ck, encStr cn, encStr ct] 42)).cell? ⟨w.heap.size, 2, none⟩ = some (encStr ct) := hBn.cell 2
  have hn1 := hn.below hb1
  have hs1 := hs.below hb1
  have hT1 : ∀ j, T j → j < (w.alloc (.cells #[encStr ck, encStr cn, encStr ct] 42)).heap.size := fun j hj => Nat.lt_of_lt_of_le (hT j hj) hb1.size
  have hik := iskey_any cn (by omega) (w.alloc (.cells #[encStr ck, encStr cn, encStr ct] 42))
  have hfi := find_any _ now cn _ hn1.1 (by omega)
  have hpu := put_any _ now cn ct _ hn1.1 (by omega)
  have hdr := drop_any _ now cn _ hn1.1 (by omega)
  have hfn := find_neg now cn
  clear hBn hn hs hT
  generalize find now cn = q at *
  by_cases e1 : ck = kPut
  · subst e1
    have b1 : (kPut == [112, 117, 116]) = true := rfl
    have hS : chgS now synced ⟨kPut, cn, ct⟩ = synced := by unfold chgS; rw [if_neg (by simp [kPut, kSync])]
    clear hdr hb1
    cases hk : isKey cn with
    | false =>
      rw [hk] at hik
      have hend : ChgPost w now synced ⟨kPut, cn, ct⟩ T (.returned (.tuple #[.slice A1 now.length c1, .slice A2 synced.length c2, .int .i64 5])) (w.alloc (.cells #[encStr kPut, encStr cn, encStr ct] 42)) := by
        refine ⟨.slice A1 now.length c1, .slice A2 synced.length c2, ?_, (Below.refl w.heap.size w).alloc (Nat.le_refl _) _, ?_, ?_⟩
        · simp [chgC, hk]
        · simpa [chgL, hk] using hn1
        · rw [hS]; exact hs1
      clear hfi hpu hn1 hs1 hT1 hr hfn hk hS
      generalize ChgPost w now synced ⟨kPut, cn, ct⟩ T = P at *
      go_enter Tryz.func15, Tryz.ntmps15
      go_wp2_with fail
      refine hik.mono ?_
      rintro e w2 ⟨rfl, rfl⟩
      clear hik
      go_wp2_with fail
      exact hend
    | true =>
      rw [hk] at hik
      cases hh : hasT now cn with
      | true =>
        rw [hh] at hfn
        have hL : chgL now ⟨kPut, cn, ct⟩ = put now cn ct := by unfold chgL; rw [if_pos rfl, if_neg (by simp [hk, hh])]
        have hC : chgC now ⟨kPut, cn, ct⟩ = 0 := by unfold chgC; rw [if_pos rfl, if_neg (by simp [hk]), if_neg (by simp [hh])]
        have hq : ¬ q < 0 := by simpa using hfn
        have hend : ∀ v w3, Below w.heap.size w w3 → w3.ownsRow (w.alloc (.cells #[encStr kPut, encStr cn, encStr ct] 42)).heap.size 59 2 v (put now cn ct).length (tcells (put now cn ct)) → Below (w.alloc (.cells #[encStr kPut, encStr cn, encStr ct] 42)).heap.size (w.alloc (.cells #[encStr kPut, encStr cn, encStr ct] 42)) w3 → ChgPost w now synced ⟨kPut, cn, ct⟩ T (.returned (.tuple #[v, .slice A2 synced.length c2, .int .i64 0])) w3 := by
          intro v w3 hb3 hv hb4
          exact ⟨_, _, by rw [hC]; rfl, hb3, by rw [hL]; exact Txs.new hv hT1, by rw [hS]; exact hs1.below hb4⟩
        have HEND := Lib.hid hend
        clear hend hn1 hs1 hT1 hr hfn hk hh hS hL hC
        generalize ChgPost w now synced ⟨kPut, cn, ct⟩ T = P at *
        have hbz := (Below.refl w.heap.size w).alloc (Nat.le_refl _) (.cells #[encStr kPut, encStr cn, encStr ct] 42)
        go_enter Tryz.func15, Tryz.ntmps15
        go_wp2_with fail
        refine hik.mono ?_
        rintro e w2 ⟨rfl, rfl⟩
        clear hik
        go_wp2_with fail
        refine hfi.mono ?_
        rintro e w2 ⟨rfl, rfl⟩
        clear hfi
        go_wp2_with fail
        refine hpu.mono ?_
        rintro e w3 ⟨v, rfl, hv, hb3⟩
        have hend := HEND.out v w3 (hbz.trans (hb3.mono hbz.size)) hv hb3
        obtain ⟨A3, c3, rfl⟩ := row_slice hv
        clear hpu HEND hv hb3
        go_wp2_with fail
        exact hend
      | false =>
        rw [hh] at hfn
        have hq : q < 0 := by simpa using hfn
        by_cases h100 : 100 ≤ now.length
        · have h100i : (100 : Int) ≤ (now.length : Int) := by omega
          have hend : ChgPost w now synced ⟨kPut, cn, ct⟩ T (.returned (.tuple #[.slice A1 now.length c1, .slice A2 synced.length c2, .int .i64 2])) (w.alloc (.cells #[encStr kPut, encStr cn, encStr ct] 42)) := by
            refine ⟨.slice A1 now.length c1, .slice A2 synced.length c2, ?_, (Below.refl w.heap.size w).alloc (Nat.le_refl _) _, ?_, ?_⟩
            · simp [chgC, hk, hh, h100]
            · simpa [chgL, hk, hh, h100] using hn1
            · rw [hS]; exact hs1
          clear hpu hn1 hs1 hT1 hr hfn hk hS hh
          generalize ChgPost w now synced ⟨kPut, cn, ct⟩ T = P at *
          go_enter Tryz.func15, Tryz.ntmps15
          go_wp2_with fail
          refine hik.mono ?_
          rintro e w2 ⟨rfl, rfl⟩
          clear hik
          go_wp2_with fail
          refine hfi.mono ?_
          rintro e w2 ⟨rfl, rfl⟩
          clear hfi
          go_wp2_with fail
          exact hend
        · have h100i : ¬ (100 : Int) ≤ (now.length : Int) := by omega
          have hL : chgL now ⟨kPut, cn, ct⟩ = put now cn ct := by unfold chgL; rw [if_pos rfl, if_neg (by simp [hk, hh]; omega)]
          have hC : chgC now ⟨kPut, cn, ct⟩ = 0 := by unfold chgC; rw [if_pos rfl, if_neg (by simp [hk]), if_neg (by simp [hh]; omega)]
          have hend : ∀ v w3, Below w.heap.size w w3 → w3.ownsRow (w.alloc (.cells #[encStr kPut, encStr cn, encStr ct] 42)).heap.size 59 2 v (put now cn ct).length (tcells (put now cn ct)) → Below (w.alloc (.cells #[encStr kPut, encStr cn, encStr ct] 42)).heap.size (w.alloc (.cells #[encStr kPut, encStr cn, encStr ct] 42)) w3 → ChgPost w now synced ⟨kPut, cn, ct⟩ T (.returned (.tuple #[v, .slice A2 synced.length c2, .int .i64 0])) w3 := by
            intro v w3 hb3 hv hb4
            exact ⟨_, _, by rw [hC]; rfl, hb3, by rw [hL]; exact Txs.new hv hT1, by rw [hS]; exact hs1.below hb4⟩
          have HEND := Lib.hid hend
          clear hend hn1 hs1 hT1 hr hfn hk hh hS hL hC h100
          generalize ChgPost w now synced ⟨kPut, cn, ct⟩ T = P at *
          have hbz := (Below.refl w.heap.size w).alloc (Nat.le_refl _) (.cells #[encStr kPut, encStr cn, encStr ct] 42)
          go_enter Tryz.func15, Tryz.ntmps15
          go_wp2_with fail
          refine hik.mono ?_
          rintro e w2 ⟨rfl, rfl⟩
          clear hik
          go_wp2_with fail
          refine hfi.mono ?_
          rintro e w2 ⟨rfl, rfl⟩
          clear hfi
          go_wp2_with fail
          refine hpu.mono ?_
          rintro e w3 ⟨v, rfl, hv, hb3⟩
          have hend := HEND.out v w3 (hbz.trans (hb3.mono hbz.size)) hv hb3
          obtain ⟨A3, c3, rfl⟩ := row_slice hv
          clear hpu HEND hv hb3
          go_wp2_with fail
          exact hend
  · by_cases e2 : ck = kDrop
    · subst e2
      have b1 : (kDrop == [112, 117, 116]) = false := rfl
      have b2 : (kDrop == [100, 114, 111, 112]) = true := rfl
      have hS : chgS now synced ⟨kDrop, cn, ct⟩ = synced := by unfold chgS; rw [if_neg (by simp [kDrop, kSync])]
      have hL : chgL now ⟨kDrop, cn, ct⟩ = dropT now cn := by unfold chgL; rw [if_neg e1, if_pos rfl]
      clear hpu hik hb1
      cases hh : hasT now cn with
      | true =>
        rw [hh] at hfn
        have hC : chgC now ⟨kDrop, cn, ct⟩ = 0 := by unfold chgC; rw [if_neg e1, if_pos rfl, if_neg (by simp [hh])]
        have hq : ¬ q < 0 := by simpa using hfn
        have hend : ∀ v w3, Below w.heap.size w w3 → w3.ownsRow (w.alloc (.cells #[encStr kDrop, encStr cn, encStr ct] 42)).heap.size 59 2 v (dropT now cn).length (tcells (dropT now cn)) → Below (w.alloc (.cells #[encStr kDrop, encStr cn, encStr ct] 42)).heap.size (w.alloc (.cells #[encStr kDrop, encStr cn, encStr ct] 42)) w3 → ChgPost w now synced ⟨kDrop, cn, ct⟩ T (.returned (.tuple #[v, .slice A2 synced.length c2, .int .i64 0])) w3 := by
          intro v w3 hb3 hv hb4
          exact ⟨_, _, by rw [hC]; rfl, hb3, by rw [hL]; exact Txs.new hv hT1, by rw [hS]; exact hs1.below hb4⟩
        have HEND := Lib.hid hend
        clear hend hn1 hs1 hT1 hr hfn hh hS hL hC e1
        generalize ChgPost w now synced ⟨kDrop, cn, ct⟩ T = P at *
        have hbz := (Below.refl w.heap.size w).alloc (Nat.le_refl _) (.cells #[encStr kDrop, encStr cn, encStr ct] 42)
        go_enter Tryz.func15, Tryz.ntmps15
        go_wp2_with fail
        refine hfi.mono ?_
        rintro e w2 ⟨rfl, rfl⟩
        clear hfi
        go_wp2_with fail
        refine hdr.mono ?_
        rintro e w3 ⟨v, rfl, hv, hb3⟩
        have hend := HEND.out v w3 (hbz.trans (hb3.mono hbz.size)) hv hb3
        obtain ⟨A3, c3, rfl⟩ := row_slice hv
        clear hdr HEND hv hb3
        go_wp2_with fail
        exact hend
      | false =>
        rw [hh] at hfn
        have hq : q < 0 := by simpa using hfn
        have hend : ChgPost w now synced ⟨kDrop, cn, ct⟩ T (.returned (.tuple #[.slice A1 now.length c1, .slice A2 synced.length c2, .int .i64 6])) (w.alloc (.cells #[encStr kDrop, encStr cn, encStr ct] 42)) := by
          refine ⟨.slice A1 now.length c1, .slice A2 synced.length c2, ?_, (Below.refl w.heap.size w).alloc (Nat.le_refl _) _, ?_, ?_⟩
          · unfold chgC; rw [if_neg e1, if_pos rfl, if_pos hh]; rfl
          · rw [hL, dropT_none hh]; exact hn1
          · rw [hS]; exact hs1
        clear hdr hn1 hs1 hT1 hr hfn hS hL hh e1
        generalize ChgPost w now synced ⟨kDrop, cn, ct⟩ T = P at *
        go_enter Tryz.func15, Tryz.ntmps15
        go_wp2_with fail
        refine hfi.mono ?_
        rintro e w2 ⟨rfl, rfl⟩
        clear hfi
        go_wp2_with fail
        exact hend
    · have hL : chgL now ⟨ck, cn, ct⟩ = now := by unfold chgL; rw [if_neg e1, if_neg e2]
      have hC : chgC now ⟨ck, cn, ct⟩ = 0 := by unfold chgC; rw [if_neg e1, if_neg e2]
      have b1 : (ck == [112, 117, 116]) = false := beq_lit e1
      have b2 : (ck == [100, 114, 111, 112]) = false := beq_lit e2
      clear hpu hik hdr hfi hfn
      by_cases e3 : ck = kSync
      · subst e3
        have b3 : (kSync == [115, 121, 110, 99]) = true := rfl
        have hS : chgS now synced ⟨kSync, cn, ct⟩ = now := by unfold chgS; rw [if_pos rfl]
        have hend : ChgPost w now synced ⟨kSync, cn, ct⟩ T (.returned (.tuple #[.slice A1 now.length c1, .slice A1 now.length c1, .int .i64 0])) (w.alloc (.cells #[encStr kSync, encStr cn, encStr ct] 42)) :=
          ⟨_, _, by rw [hC]; rfl, hb1, by rw [hL]; exact hn1, by rw [hS]; exact hn1⟩
        clear hn1 hs1 hT1 hr hS hL hC e1 e2 hb1
        generalize ChgPost w now synced ⟨kSync, cn, ct⟩ T = P at *
        go_enter Tryz.func15, Tryz.ntmps15
        go_wp2_with fail
        exact hend
      · have b3 : (ck == [115, 121, 110, 99]) = false := beq_lit e3
        have hS : chgS now synced ⟨ck, cn, ct⟩ = synced := by unfold chgS; rw [if_neg e3]
        have hend : ChgPost w now synced ⟨ck, cn, ct⟩ T (.returned (.tuple #[.slice A1 now.length c1, .slice A2 synced.length c2, .int .i64 0])) (w.alloc (.cells #[encStr ck, encStr cn, encStr ct] 42)) :=
          ⟨_, _, by rw [hC]; rfl, hb1, by rw [hL]; exact hn1, by rw [hS]; exact hs1⟩
        clear hn1 hs1 hT1 hr hS hL hC e1 e2 e3 hb1
        generalize ChgPost w now synced ⟨ck, cn, ct⟩ T = P at *
        go_enter Tryz.func15, Tryz.ntmps15
        go_wp2_with fail
        exact hend
end Go.Proofs.YtokfddlknhijbaaGreatDoor
