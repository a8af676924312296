/- The laws' own do: one change of a store. -/
import Derived.Test.YtokfddlknhijbaaGreatDoorChgs
import Derived.Test.YtokfddlknhijbaaGreatDoorHold
namespace Go.Proofs.YtokfddlknhijbaaGreatDoor
open Go Go.RowKit Go.Maps
structure DoR where
  c : Nat
  D : Dsk
  L : List Txt
  k : Nat
  h : Nat
  dead : Bool
def doR (D : Dsk) (L : List Txt) (k h : Nat) (dead : Bool) (c : Chg) : DoR :=
  if c.kind = kPut then ⟨putC L dead c.name c.text, D, putL L dead c.name c.text, k, h, dead⟩
  else if c.kind = kDrop then ⟨dropC L dead c.name, D, dropL L dead c.name, k, h, dead⟩
  else if c.kind = kSync then ⟨(syncR D L k h dead).c, (syncR D L k h dead).D, L, (syncR D L k h dead).k, (syncR D L k h dead).h, (syncR D L k h dead).dead⟩
  else ⟨0, D, L, k, h, dead⟩
def DoPost (B : Nat) (E : Nat → Addr) (w : World) (s a mb : Nat) (S : Nat → Prop) (r : DoR) (e : Ending) (w' : World) : Prop :=
  e = .returned (errv E r.c) ∧ ∃ S', StoreIn B w' s a mb r.D r.L r.k r.h r.dead S' ∧ Step (SS s mb S) w (SS s mb S') w'
abbrev chgV (c : Chg) : Value := .agg #[encStr c.kind, encStr c.name, encStr c.text]
theorem beq_lit {a b : Str} (h : a ≠ b) : (a == b) = false := by simp [h]
set_option maxHeartbeats 1000000 in
set_option maxRecDepth 100000 in
theorem do_any (B : Nat) (E : Nat → Addr) (s a mb : Nat) (D : Dsk) (L : List Txt) (k h : Nat) (dead : Bool) (S : Nat → Prop) (c : Chg) (w : World) (H : StoreIn B w s a mb D L k h dead S) (hE : Env B E w)
    (hcn : c.name.length ≤ 1000000) (hct : c.text.length ≤ 1000000)
    (h2 : 2 ≤ D.now.length) (h3 : D.now.length ≤ 4000) (hh : h ≤ 1) (hk : k + 1 < 4294967296) (hw : D.waits.length ≤ 900000)
    (hr : Rising L) (hL : L.length ≤ 1000) (hs : ∀ x ∈ L, x.1.length ≤ 1000000 ∧ x.2.length ≤ 1000000) (hP : (packS L).length ≤ 100000000) :
    Calls Tryz.prog 16 #[.pointer (some ⟨s, 0, none⟩), chgV c] w (DoPost B E w s a mb S (doR D L k h dead c)) := by
  obtain ⟨ck, cn, ct⟩ := c
  simp only at hcn hct
  have hb1 := (Below.refl w.heap.size w).alloc (Nat.le_refl _) (.cells #[encStr ck, encStr cn, encStr ct] 42)
  have H1 := H.step hb1
  have hE1 := hE.below (hb1.mono hE.size)
  have st1 : Step (SS s mb S) w (SS s mb S) (w.alloc (.cells #[encStr ck, encStr cn, encStr ct] 42)) := Step.of_below hb1 _
  have hBn := Blk.new w [encStr ck, encStr cn, encStr ct] 42
  have y0 : (w.alloc (.cells #[encStr ck, encStr cn, encStr ct] 42)).cell? ⟨w.heap.size, 0, none⟩ = some (encStr ck) := hBn.cell 0
  have y1 : (w.alloc (.cells #[encStr ck, encStr cn, encStr ct] 42)).cell? ⟨w.heap.size, 1, none⟩ = some (encStr cn) := hBn.cell 1
  have y2 : (w.alloc (.cells #[encStr ck, encStr cn, encStr ct] 42)).cell? ⟨w.heap.size, 2, none⟩ = some (encStr ct) := hBn.cell 2
  have fin : ∀ (r : DoR) (e : Ending) (w' : World), DoPost B E (w.alloc (.cells #[encStr ck, encStr cn, encStr ct] 42)) s a mb S r e w' → DoPost B E w s a mb S r e w' := by
    rintro r e w' ⟨he, S', hI, hst⟩
    exact ⟨he, S', hI, st1.trans hst⟩
  have hp := put2_any B E s a mb D L k h dead S cn ct _ H1 hE1 hcn hct (by omega)
  have hdp := drop2_any B E s a mb D L k h dead S cn _ H1 hE1 hcn
  have hsy := sync_any B E s a mb D L k h dead S _ H1 hE1 h2 h3 hh hk hw hr hL hs hP
  have FIN := Lib.hid fin
  clear hBn H hE hs hr fin st1
  by_cases e1 : ck = kPut
  · subst e1
    have hd : doR D L k h dead ⟨kPut, cn, ct⟩ = ⟨putC L dead cn ct, D, putL L dead cn ct, k, h, dead⟩ := by unfold doR; rw [if_pos rfl]
    rw [hd]
    have b1 : (kPut == [112, 117, 116]) = true := rfl
    clear hd H1 hE1 hdp hsy hb1
    go_enter Tryz.func16, Tryz.ntmps16
    go_wp2_with fail
    refine hp.mono ?_
    rintro e w2 ⟨rfl, S2, hI2, hs2⟩
    have hend := FIN.out ⟨putC L dead cn ct, D, putL L dead cn ct, k, h, dead⟩ _ w2 ⟨rfl, S2, hI2, hs2⟩
    clear hp
    go_wp2_with fail
    go_ret
    exact hend
  · by_cases e2 : ck = kDrop
    · subst e2
      have hd : doR D L k h dead ⟨kDrop, cn, ct⟩ = ⟨dropC L dead cn, D, dropL L dead cn, k, h, dead⟩ := by unfold doR; rw [if_neg e1, if_pos rfl]
      rw [hd]
      have b1 : (kDrop == [112, 117, 116]) = false := rfl
      have b2 : (kDrop == [100, 114, 111, 112]) = true := rfl
      clear hd H1 hE1 hp hsy hb1 e1
      go_enter Tryz.func16, Tryz.ntmps16
      go_wp2_with fail
      refine hdp.mono ?_
      rintro e w2 ⟨rfl, S2, hI2, hs2⟩
      have hend := FIN.out ⟨dropC L dead cn, D, dropL L dead cn, k, h, dead⟩ _ w2 ⟨rfl, S2, hI2, hs2⟩
      clear hdp
      go_wp2_with fail
      go_ret
      exact hend
    · by_cases e3 : ck = kSync
      · subst e3
        have hd : doR D L k h dead ⟨kSync, cn, ct⟩ = ⟨(syncR D L k h dead).c, (syncR D L k h dead).D, L, (syncR D L k h dead).k, (syncR D L k h dead).h, (syncR D L k h dead).dead⟩ := by unfold doR; rw [if_neg e1, if_neg e2, if_pos rfl]
        rw [hd]
        have b1 : (kSync == [112, 117, 116]) = false := rfl
        have b2 : (kSync == [100, 114, 111, 112]) = false := rfl
        have b3 : (kSync == [115, 121, 110, 99]) = true := rfl
        generalize syncR D L k h dead = R at *
        clear hd H1 hE1 hp hdp hb1 e1 e2
        go_enter Tryz.func16, Tryz.ntmps16
        go_wp2_with fail
        refine hsy.mono ?_
        rintro e w2 ⟨rfl, S2, hI2, hs2⟩
        have hend := FIN.out ⟨R.c, R.D, L, R.k, R.h, R.dead⟩ _ w2 ⟨rfl, S2, hI2, hs2⟩
        clear hsy
        go_wp2_with fail
        go_ret
        exact hend
      · have hd : doR D L k h dead ⟨ck, cn, ct⟩ = ⟨0, D, L, k, h, dead⟩ := by unfold doR; rw [if_neg e1, if_neg e2, if_neg e3]
        rw [hd]
        have b1 : (ck == [112, 117, 116]) = false := beq_lit e1
        have b2 : (ck == [100, 114, 111, 112]) = false := beq_lit e2
        have b3 : (ck == [115, 121, 110, 99]) = false := beq_lit e3
        have hend := FIN.out ⟨0, D, L, k, h, dead⟩ (.returned .nilIface) _ ⟨rfl, S, H1, Step.refl _ _⟩
        clear hd H1 hE1 hp hdp hsy hb1 e1 e2 e3
        go_enter Tryz.func16, Tryz.ntmps16
        go_wp2_with fail
        go_ret
        exact hend
end Go.Proofs.YtokfddlknhijbaaGreatDoor
