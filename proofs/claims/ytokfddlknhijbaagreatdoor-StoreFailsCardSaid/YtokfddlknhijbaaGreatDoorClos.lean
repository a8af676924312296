/- What Sync's inner function does to the disk, in plain Lean; the worlds that it meets. -/
import Derived.Test.YtokfddlknhijbaaGreatDoorOpen
namespace Go.Proofs.YtokfddlknhijbaaGreatDoor
open Go Go.RowKit Go.Maps

/-- The body's sectors written, from sector n on; at most f of them. -/
def wb : Nat → Dsk → Nat → Str → Nat × Dsk
  | 0, D, _, _ => (0, D)
  | f + 1, D, n, p => if p = [] then (0, D) else
    let r := D.write n (p.take 64)
    if r.1 = 0 then wb f r.2 (n + 1) (p.drop 64) else r
def headW (D : Dsk) (k at' : Nat) (p : Str) : Nat × Dsk := D.write (((k + 1) % 2 : Nat) : Int) (headS (k + 1) at' p.length (crc p))
/-- Behind the body: a flush, the head, a flush. -/
def syncT (r1 : Nat × Dsk) (k at' : Nat) (p : Str) : Nat × Dsk :=
  if r1.1 = 0 then
    let r2 := r1.2.flush
    if r2.1 = 0 then
      let r3 := headW r2.2 k at' p
      if r3.1 = 0 then r3.2.flush else r3
    else r2
  else r1
/-- One sync: the body, a flush, the head, a flush. -/
def syncD (D : Dsk) (k at' : Nat) (p : Str) : Nat × Dsk := syncT (wb (up64 p.length) D (2 + at' * halfN D) p) k at' p

theorem write_now (D : Dsk) (n : Int) (s : Str) : (D.write n s).2.now.length = D.now.length := by
  unfold Dsk.write; (repeat' split) <;> simp
theorem write_waits (D : Dsk) (n : Int) (s : Str) : (D.write n s).2.waits.length ≤ D.waits.length + 1 := by
  unfold Dsk.write; (repeat' split) <;> simp
theorem flush_now (D : Dsk) : D.flush.2.now.length = D.now.length := by
  unfold Dsk.flush; split <;> simp
theorem flush_waits (D : Dsk) : D.flush.2.waits.length ≤ D.waits.length := by
  unfold Dsk.flush; split <;> simp
theorem errv_ne (E : Nat → Addr) (c : Nat) (h : c ≠ 0) : ∃ p, errv E c = .iface 188 (.pointer (some p)) := by
  cases c with
  | zero => exact absurd rfl h
  | succ c => exact ⟨_, rfl⟩

structure ClosAt (B : Nat) (s a mb : Nat) (L : List Txt) (k h : Nat) (dead : Bool) (bp bs ba at' : Nat) (p : Str) (w : World) (S0 : Nat → Prop) (W : World) (D : Dsk) (S : Nat → Prop) : Prop where
  store : StoreIn B W s a mb D L k h dead S
  cp : Blk W bp [encStr p] 9
  cs : Blk W bs [.pointer (some ⟨s, 0, none⟩)] 28
  ca : Blk W ba [.int .i64 at'] 3
  np : ¬ S bp
  nss : ¬ S bs
  na : ¬ S ba
  step : Step (SS s mb S0) w (SS s mb S) W
theorem ClosAt.moves {B : Nat} {s a mb : Nat} {L : List Txt} {k h : Nat} {dead : Bool} {bp bs ba at' : Nat} {p : Str} {w : World} {S0 : Nat → Prop} {W W' : World} {D D' : Dsk} {S : Nat → Prop}
    (H : ClosAt B s a mb L k h dead bp bs ba at' p w S0 W D S) (hm : Moves B W a S D' W') : ∃ S', ClosAt B s a mb L k h dead bp bs ba at' p w S0 W' D' S' := by
  obtain ⟨S', hd, hs⟩ := hm
  have hlt := World.ownsMap.lt H.store.map
  have o := fun {b c T} (hb : Blk W b c T) (hn : ¬ S b) => hs.out hb.lt hn
  refine ⟨S', ⟨H.store.blk.step hs H.store.ns, H.store.map.step hs H.store.nm, hd, o H.store.blk H.store.ns, hs.out hlt H.store.nm, H.store.ls, H.store.lm⟩, H.cp.step hs H.np, H.cs.step hs H.nss, H.ca.step hs H.na, o H.cp H.np, o H.cs H.nss, o H.ca H.na, ?_⟩
  refine H.step.trans ⟨hs.os, hs.tape, hs.output, hs.size, fun j hj hn => hs.block j hj (fun hS => hn (.inr (.inr hS))), ?_⟩
  rintro j (rfl | rfl | hS)
  · exact .inl (.inl rfl)
  · exact .inl (.inr (.inl rfl))
  · rcases hs.new j hS with h | h
    · exact .inl (.inr (.inr h))
    · exact .inr h
theorem ClosAt.below {B : Nat} {s a mb : Nat} {L : List Txt} {k h : Nat} {dead : Bool} {bp bs ba at' : Nat} {p : Str} {w : World} {S0 : Nat → Prop} {W W' : World} {D : Dsk} {S : Nat → Prop}
    (H : ClosAt B s a mb L k h dead bp bs ba at' p w S0 W D S) (hb : Below W.heap.size W W') : ClosAt B s a mb L k h dead bp bs ba at' p w S0 W' D S :=
  ⟨H.store.step hb, H.cp.step (Step.of_below hb Nil) (fun h => h), H.cs.step (Step.of_below hb Nil) (fun h => h), H.ca.step (Step.of_below hb Nil) (fun h => h), H.np, H.nss, H.na, H.step.trans (Step.of_below hb _)⟩
theorem ClosAt.cells {B : Nat} {s a mb : Nat} {L : List Txt} {k h : Nat} {dead : Bool} {bp bs ba at' : Nat} {p : Str} {w : World} {S0 : Nat → Prop} {W : World} {D : Dsk} {S : Nat → Prop}
    (H : ClosAt B s a mb L k h dead bp bs ba at' p w S0 W D S) : W.cell? ⟨bp, 0, none⟩ = some (.string ⟨p.toArray⟩) ∧ W.cell? ⟨bs, 0, none⟩ = some (.pointer (some ⟨s, 0, none⟩)) ∧ W.cell? ⟨ba, 0, none⟩ = some (.int .i64 at') ∧
      W.cell? ⟨s, 0, none⟩ = some (.pointer (some ⟨a, 0, none⟩)) ∧ W.cell? ⟨s, 2, none⟩ = some (.int .u32 k) :=
  ⟨H.cp.cell 0, H.cs.cell 0, H.ca.cell 0, H.store.blk.cell 0, H.store.blk.cell 2⟩
theorem ClosAt.env {B : Nat} {E : Nat → Addr} {s a mb : Nat} {L : List Txt} {k h : Nat} {dead : Bool} {bp bs ba at' : Nat} {p : Str} {w : World} {S0 : Nat → Prop} {W : World} {D : Dsk} {S : Nat → Prop}
    (H : ClosAt B s a mb L k h dead bp bs ba at' p w S0 W D S) (hE : Env B E w) (h0 : ∀ j, S0 j → B ≤ j) : Env B E W :=
  hE.below (H.step.below hE.size (fun j hj => by rcases hj with rfl | rfl | hj; exact H.store.ls; exact H.store.lm; exact h0 j hj))
end Go.Proofs.YtokfddlknhijbaaGreatDoor
