/- StoreFails: the plain facts; the states between its rounds. -/
import Derived.Test.YtokfddlknhijbaaGreatDoorNone
import Derived.Test.YtokfddlknhijbaaGreatDoorKeeps
namespace Go.Proofs.YtokfddlknhijbaaGreatDoor
open Go Go.RowKit Go.Maps
def deadC (c : Chg) : Nat := if c.kind = kPut ∨ c.kind = kDrop ∨ c.kind = kSync then 9 else 0
theorem do_dead (D : Dsk) (L : List Txt) (k h : Nat) (c : Chg) : doR D L k h true c = ⟨deadC c, D, L, k, h, true⟩ := by
  unfold doR deadC
  by_cases e1 : c.kind = kPut
  · rw [if_pos e1, if_pos (.inl e1)]
    simp [putC, putL]
  · rw [if_neg e1]
    by_cases e2 : c.kind = kDrop
    · rw [if_pos e2, if_pos (.inr (.inl e2))]
      simp [dropC, dropL]
    · rw [if_neg e2]
      by_cases e3 : c.kind = kSync
      · rw [if_pos e3, if_pos (.inr (.inr e3)), sync_dead]
      · rw [if_neg e3, if_neg (by simp [e1, e2, e3])]
/-- A store whose power went in a sync. -/
structure Lost (w : World) (N : Nat) (s a mb : Nat) (D : Dsk) (now synced : List Txt) (k h : Nat) (S : Nat → Prop) (vn vs : Value) (n t : Nat) (wr : World) : Prop where
  store : StoreIn w.heap.size wr s a mb D now k h true S
  below : Below w.heap.size w wr
  tn : Txs wr vn now (SS s mb S)
  ts : Txs wr vs synced (SS s mb S)
  fn : Fit now n t
  fs : Fit synced n t
  hk : k ≤ n + 1
  hh : h ≤ 1
  len : D.now.length = N
  waits : D.waits.length ≤ 100000
  behind : ∀ keep, (Dsk.crash D keep).now.length = N ∧ (Good (Dsk.crash D keep) synced k h ∨ Good (Dsk.crash D keep) now (k + 1) (1 - h))
theorem Lost.below' {w wr w' : World} {N s a mb : Nat} {D : Dsk} {now synced : List Txt} {k h : Nat} {S : Nat → Prop} {vn vs : Value} {n t : Nat} (P : Lost w N s a mb D now synced k h S vn vs n t wr) (hb : Below wr.heap.size wr w') : Lost w N s a mb D now synced k h S vn vs n t w' :=
  ⟨P.store.step hb, P.below.trans (hb.mono P.below.size), P.tn.below hb, P.ts.below hb, P.fn, P.fs, P.hk, P.hh, P.len, P.waits, P.behind⟩
/-- Ahead of the crash: what may be found behind it. -/
structure Ended (w : World) (N a : Nat) (D : Dsk) (S : Nat → Prop) (vs vx : Value) (synced next : List Txt) (n t : Nat) (wr : World) : Prop where
  disk : DiskAt w.heap.size wr a D S
  below : Below w.heap.size w wr
  ts : Txs wr vs synced S
  tx : Txs wr vx next S
  fs : Fit synced n t
  fx : Fit next n t
  waits : D.waits.length ≤ 100000
  behind : ∀ keep, (Dsk.crash D keep).now.length = N ∧ ∃ L k h, Good (Dsk.crash D keep) L k h ∧ k ≤ n + 2 ∧ (L = synced ∨ L = next)
theorem Live.ended {w wr : World} {N s a mb : Nat} {D : Dsk} {now synced : List Txt} {k h : Nat} {S : Nat → Prop} {vn vs : Value} {n t : Nat} (P : Live w N s a mb D now synced k h S vn vs n t wr) : Ended w N a D S vs vs synced synced n t wr := by
  have hS : ∀ j, S j → SS s mb S j := fun j hj => .inr (.inr hj)
  refine ⟨P.store.disk, P.below, P.ts.mono hS, P.ts.mono hS, P.fs, P.fs, by rw [P.good.calm.waits]; simp, fun keep => ⟨by rw [(P.good.calm.crash keep).1]; exact P.len, synced, k, h, P.good.crash keep, by have := P.hk; omega, .inl rfl⟩⟩
theorem Lost.ended {w wr : World} {N s a mb : Nat} {D : Dsk} {now synced : List Txt} {k h : Nat} {S : Nat → Prop} {vn vs : Value} {n t : Nat} (P : Lost w N s a mb D now synced k h S vn vs n t wr) : Ended w N a D S vs vn synced now n t wr := by
  have hS : ∀ j, S j → SS s mb S j := fun j hj => .inr (.inr hj)
  refine ⟨P.store.disk, P.below, P.ts.mono hS, P.tn.mono hS, P.fs, P.fn, P.waits, fun keep => ?_⟩
  obtain ⟨h1, h2⟩ := P.behind keep
  have hk := P.hk
  refine ⟨h1, ?_⟩
  rcases h2 with h2 | h2
  · exact ⟨synced, k, h, h2, by omega, .inl rfl⟩
  · exact ⟨now, k + 1, 1 - h, h2, by omega, .inr rfl⟩
/-- The store that is opened behind the crash lives. -/
theorem live_again {w w8 w9 : World} {N a o mb n t : Nat} {D8 : Dsk} {S8 : Nat → Prop} {v : Value} {L : List Txt} {k h : Nat} (hI : StoreIn w.heap.size w9 o a mb D8 L k h false S8) (hb : Below w.heap.size w w9) (ht : Txs w8 v L S8) (hs : Step S8 w8 (SS o mb S8) w9)
    (hG : Good D8 L k h) (hF : Fit L n t) (hk : k ≤ n + 1) (hN : D8.now.length = N) : Live w N o a mb D8 L L k h S8 v v n t w9 :=
  ⟨hI, hb, ht.step hs, ht.step hs, hG, hF, hF, hk, hN⟩
theorem StoreIn.drops {B : Nat} {w : World} {s a mb : Nat} {D : Dsk} {L : List Txt} {k h : Nat} {dead : Bool} {S : Nat → Prop} (H : StoreIn B w s a mb D L k h dead S) : ∀ j, S j → SS s mb S j := fun _ hj => .inr (.inr hj)
theorem fail_eq (D : Dsk) (n : Nat) : D.fail (n : Int) = (0, { D with left := (n : Int) }) := by
  unfold Dsk.fail
  rw [if_neg (by omega)]
theorem Good.left {D : Dsk} {L : List Txt} {k h : Nat} (G : Good D L k h) (x : Int) : Good { D with left := x } L k h :=
  ⟨⟨G.calm.kept, G.calm.waits⟩, G.holds.same rfl (fun _ _ => rfl)⟩
end Go.Proofs.YtokfddlknhijbaaGreatDoor
