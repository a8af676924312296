/- One change of a store that lives, told of the plain disk and of the statements' lists. -/
import Derived.Test.YtokfddlknhijbaaGreatDoorChange
import Derived.Test.YtokfddlknhijbaaGreatDoorHolds
namespace Go.Proofs.YtokfddlknhijbaaGreatDoor
open Go Go.RowKit Go.Maps
structure Went (D : Dsk) (now synced : List Txt) (k : Nat) (c : Chg) (r : DoR) : Prop where
  hc : r.c = chgC now c
  hL : r.L = chgL now c
  hdead : r.dead = false
  good : Good r.D (chgS now synced c) r.k r.h
  hk : r.k ≤ k + 1
  len : r.D.now.length = D.now.length
  left : D.left = -1 → r.D.left = -1
structure Full (D : Dsk) (now : List Txt) (k h : Nat) (c : Chg) (r : DoR) : Prop where
  kind : c.kind = kSync
  size : halfN D * 64 < (packS now).length
  hr : r = ⟨8, D, now, k, h, false⟩
structure Broke (D : Dsk) (now synced : List Txt) (k h : Nat) (c : Chg) (r : DoR) : Prop where
  kind : c.kind = kSync
  left : D.left ≠ -1
  hr : r = ⟨9, r.D, now, k, h, true⟩
  len : r.D.now.length = D.now.length
  waits : r.D.waits.length ≤ 100000
  behind : ∀ keep, (Dsk.crash r.D keep).now.length = D.now.length ∧ (Good (Dsk.crash r.D keep) synced k h ∨ Good (Dsk.crash r.D keep) now (k + 1) (1 - h))
theorem do_step (D : Dsk) (now synced : List Txt) (k h n t : Nat) (c : Chg) (G : Good D synced k h) (Fn : Fit now n t) (Fs : Fit synced n t) (hk : k < 4000000000) (hn : n ≤ 1000) (ht : t ≤ 1000000) (h8 : 2 ≤ D.now.length) (hl : D.now.length ≤ 4000) (hct : c.text.length ≤ 300000) :
    Went D now synced k c (doR D now k h false c) ∨ Full D now k h c (doR D now k h false c) ∨ Broke D now synced k h c (doR D now k h false c) := by
  unfold doR
  by_cases e1 : c.kind = kPut
  · rw [if_pos e1]
    obtain ⟨a, b⟩ := chgL_put (now := now) e1 Fn.rising hct
    have hS : chgS now synced c = synced := by unfold chgS; rw [if_neg (by rw [e1]; decide)]
    refine .inl ⟨b, a, rfl, ?_, ?_, rfl, fun e => e⟩
    · rw [hS]; exact G
    · show k ≤ k + 1; omega
  · rw [if_neg e1]
    by_cases e2 : c.kind = kDrop
    · rw [if_pos e2]
      obtain ⟨a, b⟩ := chgL_drop (now := now) e2
      have hS : chgS now synced c = synced := by unfold chgS; rw [if_neg (by rw [e2]; decide)]
      refine .inl ⟨b, a, rfl, ?_, ?_, rfl, fun e => e⟩
      · rw [hS]; exact G
      · show k ≤ k + 1; omega
    · rw [if_neg e2]
      have hL : chgL now c = now := by unfold chgL; rw [if_neg e1, if_neg e2]
      have hC : chgC now c = 0 := by unfold chgC; rw [if_neg e1, if_neg e2]
      by_cases e3 : c.kind = kSync
      · rw [if_pos e3]
        have hS : chgS now synced c = now := by unfold chgS; rw [if_pos e3]
        by_cases hr : (packS now).length ≤ halfN D * 64
        · rcases sync_step D now synced k h n t G Fs hk hn ht h8 hr hl with s | s
          · refine .inl ⟨?_, ?_, s.hdead, ?_, ?_, s.len, s.left⟩
            · rw [hC]; exact s.hc
            · rw [hL]
            · rw [hS]; simp only [s.hk, s.hh]; exact s.good
            · show (syncR D now k h false).k ≤ k + 1
              rw [s.hk]; omega
          · refine .inr (.inr ⟨e3, s.left, ?_, s.len, s.waits, s.behind⟩)
            simp only [s.hc, s.hk, s.hh, s.hdead]
        · refine .inr (.inl ⟨e3, by omega, ?_⟩)
          rw [sync_full D now k h (by omega)]
      · rw [if_neg e3]
        have hS : chgS now synced c = synced := by unfold chgS; rw [if_neg e3]
        refine .inl ⟨?_, ?_, rfl, ?_, ?_, rfl, fun e => e⟩
        · rw [hC]
        · rw [hL]
        · rw [hS]; exact G
        · show k ≤ k + 1; omega
theorem chgC_le (now : List Txt) (c : Chg) : chgC now c ≤ 6 := by unfold chgC; (repeat' split) <;> omega
theorem Fit.chgS {now synced : List Txt} {n t : Nat} {c : Chg} (Fn : Fit now n t) (Fs : Fit synced n t) : Fit (chgS now synced c) (n + 1) (t + c.text.length) := by
  unfold Go.Proofs.YtokfddlknhijbaaGreatDoor.chgS
  split
  · exact Fn.mono (by omega) (by omega)
  · exact Fs.mono (by omega) (by omega)
/-- A full disk: more than a third. -/
theorem full_size {D : Dsk} {now : List Txt} {n t : Nat} (F : Fit now n t) (h8 : 8 ≤ D.now.length) (h : halfN D * 64 < (packS now).length) : D.now.length * 64 < 3 * (64 + sizeOf0 now) := by
  have h1 := F.pack0
  have : halfN D = (D.now.length - 2) / 2 := rfl
  omega
/-- The law's live store, and the model's two lists. -/
structure Live (w : World) (N : Nat) (s a mb : Nat) (D : Dsk) (now synced : List Txt) (k h : Nat) (S : Nat → Prop) (vn vs : Value) (n t : Nat) (wr : World) : Prop where
  store : StoreIn w.heap.size wr s a mb D now k h false S
  below : Below w.heap.size w wr
  tn : Txs wr vn now (SS s mb S)
  ts : Txs wr vs synced (SS s mb S)
  good : Good D synced k h
  fn : Fit now n t
  fs : Fit synced n t
  hk : k ≤ n + 1
  len : D.now.length = N
theorem StoreIn.hi {B : Nat} {w : World} {s a mb : Nat} {D : Dsk} {L : List Txt} {k h : Nat} {dead : Bool} {S : Nat → Prop} (H : StoreIn B w s a mb D L k h dead S) : ∀ j, SS s mb S j → j < w.heap.size := by
  have := H.disk
  obtain ⟨_, _, _, hd⟩ := this
  rintro j (rfl | rfl | hS)
  · exact H.blk.lt
  · exact World.ownsMap.lt H.map
  · exact hd.hi j hS
theorem StoreIn.lo' {B : Nat} {w : World} {s a mb : Nat} {D : Dsk} {L : List Txt} {k h : Nat} {dead : Bool} {S : Nat → Prop} (H : StoreIn B w s a mb D L k h dead S) : ∀ j, SS s mb S j → B ≤ j := by
  have := H.disk
  obtain ⟨_, _, _, hd⟩ := this
  rintro j (rfl | rfl | hS)
  · exact H.ls
  · exact H.lm
  · exact hd.lo j hS
theorem textSum_app (a b : List Chg) : textSum (a ++ b) = textSum a + textSum b := by simp only [textSum, List.map_append, List.sum_append]
theorem textSum_take_le (l : List Chg) (i : Nat) : textSum (l.take i) ≤ textSum l := by
  have e := textSum_app (l.take i) (l.drop i)
  rw [List.take_append_drop] at e
  omega
theorem textSum_succ (l : List Chg) (i : Nat) (hi : i < l.length) : textSum (l.take (i + 1)) = textSum (l.take i) + (l[i]).text.length := by
  rw [List.take_succ_eq_append_getElem hi, textSum_snoc]
theorem Light.at {l : List Chg} (h : Light l) (i : Nat) (hi : i < l.length) : (l[i]).name.length ≤ 100 ∧ (l[i]).text.length ≤ 8000 := by
  refine ⟨h.name _ (List.getElem_mem hi), ?_⟩
  have h1 : (l[i]).text.length ≤ textSum l := by
    have h2 := textSum_succ l i hi
    have h3 := textSum_take_le l (i + 1)
    omega
  have := h.text
  omega
end Go.Proofs.YtokfddlknhijbaaGreatDoor
