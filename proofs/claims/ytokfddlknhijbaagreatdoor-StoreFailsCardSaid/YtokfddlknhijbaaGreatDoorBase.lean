/- Words for the store's proofs: what a step of the program may turn (a footprint of blocks), a block that is known whole, the errors' values. No program stands in it. -/
import Derived.Laws.OwnMore
import Derived.Below
import Derived.Sort.EncStr
import Derived.OneCell
import Derived.Maps.AppendAt
namespace Go.Proofs.YtokfddlknhijbaaGreatDoor
open Go Go.RowKit

/-- Between two worlds only blocks of S have turned; the blocks of S' lie in S or are new. -/
structure Step (S : Nat → Prop) (w : World) (S' : Nat → Prop) (w' : World) : Prop where
  os : w'.os = w.os
  tape : w'.tape = w.tape
  output : w'.output = w.output
  size : w.heap.size ≤ w'.heap.size
  block : ∀ k, k < w.heap.size → ¬ S k → w'.heap[k]? = w.heap[k]?
  new : ∀ k, S' k → S k ∨ w.heap.size ≤ k

def Nil : Nat → Prop := fun _ => False

theorem Step.refl (S : Nat → Prop) (w : World) : Step S w S w := ⟨rfl, rfl, rfl, Nat.le_refl _, fun _ _ _ => rfl, fun _ h => .inl h⟩
theorem Step.trans {S S1 S2 : Nat → Prop} {w w1 w2 : World} (h : Step S w S1 w1) (k : Step S1 w1 S2 w2) : Step S w S2 w2 :=
  ⟨k.os.trans h.os, k.tape.trans h.tape, k.output.trans h.output, Nat.le_trans h.size k.size,
    fun i hi hs => (k.block i (Nat.lt_of_lt_of_le hi h.size) (fun h1 => (h.new i h1).elim hs (fun h2 => by omega))).trans (h.block i hi hs),
    fun i hi => (k.new i hi).elim (fun h1 => h.new i h1) (fun h1 => .inr (Nat.le_trans h.size h1))⟩
theorem Step.of_below {w w' : World} (h : Below w.heap.size w w') (S : Nat → Prop) : Step S w S w' :=
  ⟨h.os, h.tape, h.output, h.size, fun k hk _ => h.block k hk, fun _ h => .inl h⟩
theorem Step.below {w w' : World} {S S' : Nat → Prop} {B : Nat} (h : Step S w S' w') (hB : B ≤ w.heap.size) (hS : ∀ k, S k → B ≤ k) : Below B w w' :=
  ⟨h.os, h.tape, h.output, h.size, fun k hk => h.block k (by omega) (fun hs => by have := hS k hs; omega)⟩
theorem Step.low {w w' : World} {S S' : Nat → Prop} {B : Nat} (h : Step S w S' w') (hB : B ≤ w.heap.size) (hS : ∀ k, S k → B ≤ k) : ∀ k, S' k → B ≤ k :=
  fun k hk => (h.new k hk).elim (fun h1 => hS k h1) (fun h1 => by omega)
/-- The same step, told of a greater footprint. -/
theorem Step.lift {w w' : World} {S S' T : Nat → Prop} (h : Step S w S' w') (hT : ∀ k, S k → T k) : Step T w (fun k => T k ∨ S' k) w' :=
  ⟨h.os, h.tape, h.output, h.size, fun k hk hn => h.block k hk (fun hs => hn (hT k hs)), fun k hk => by
    rcases hk with h1 | h1
    · exact .inl h1
    · exact (h.new k h1).elim (fun h2 => .inl (hT k h2)) .inr⟩
/-- The footprint told behind may be smaller. -/
theorem Step.shrink {w w' : World} {S S' T : Nat → Prop} (h : Step S w S' w') (hT : ∀ k, T k → S' k) : Step S w T w' :=
  ⟨h.os, h.tape, h.output, h.size, h.block, fun k hk => h.new k (hT k hk)⟩
theorem Step.out {w w' : World} {S S' : Nat → Prop} {k : Nat} (h : Step S w S' w') (hk : k < w.heap.size) (hs : ¬ S k) : ¬ S' k :=
  fun h1 => (h.new k h1).elim hs (fun h2 => by omega)
theorem Step.drew {S S' : Nat → Prop} {w w' : World} (h : Step S w S' w') : Step S w S' w'.drew := ⟨h.os, h.tape, h.output, h.size, h.block, h.new⟩
theorem Step.alloc {S S' : Nat → Prop} {w w' : World} (h : Step S w S' w') (o : Obj) : Step S w S' (w'.alloc o) :=
  h.trans ⟨rfl, rfl, rfl, by simp, fun k hk _ => Below.heap_alloc _ _ _ hk, fun _ h => .inl h⟩
theorem Step.setCell {S S' : Nat → Prop} {w w' : World} (h : Step S w S' w') {p : Addr} (hp : S' p.block) (u : Value) : Step S w S' (w'.setCell p u) :=
  h.trans ⟨rfl, rfl, rfl, by simp [World.setCell], fun k _ hs => Below.heap_setCell _ _ _ _ (fun e => hs (e ▸ hp)), fun _ h => .inl h⟩
theorem Step.grown {S S' : Nat → Prop} {w w1 w2 : World} {row : Option Nat} (h : Step S w S' w1) (hg : w1.grownBy w2 row) (hr : ∀ k, row = some k → S' k) : Step S w S' w2 :=
  h.trans ⟨hg.os, hg.tape, hg.output, hg.size, fun k hk hs => hg.block k hk (fun e => hs (hr k e.symm)), fun _ h => .inl h⟩

/-! ### a block that is known whole -/
def Blk (w : World) (b : Nat) (c : List Value) (T : Nat) : Prop := w.heap[b]? = some (.cells c.toArray T (0, 0))
theorem Blk.lt {w : World} {b : Nat} {c : List Value} {T : Nat} (h : Blk w b c T) : b < w.heap.size := (Array.getElem?_eq_some_iff.1 h).1
theorem Blk.cell {w : World} {b : Nat} {c : List Value} {T : Nat} (h : Blk w b c T) (i : Nat) : w.cell? ⟨b, i, none⟩ = c[i]? := by
  simp [World.cell?, show w.heap[b]? = _ from h]
theorem Blk.free {w : World} {b : Nat} {c : List Value} {T : Nat} (h : Blk w b c T) (i : Nat) : w.frozen? ⟨b, i, none⟩ = false := by
  simp [World.frozen?, show w.heap[b]? = _ from h]
theorem Blk.set {w : World} {b : Nat} {c : List Value} {T : Nat} (h : Blk w b c T) (i : Nat) (v : Value) : Blk (w.setCell ⟨b, i, none⟩ v) b (c.set i v) T := by
  unfold Blk at *
  simp [World.setCell, Array.getElem?_modify, h]
theorem Blk.set_other {w : World} {b : Nat} {c : List Value} {T : Nat} (h : Blk w b c T) (p : Addr) (hp : p.block ≠ b) (v : Value) : Blk (w.setCell p v) b c T := by
  unfold Blk at *
  rw [Below.heap_setCell _ _ _ _ (fun e => hp e.symm)]; exact h
theorem Blk.alloc {w : World} {b : Nat} {c : List Value} {T : Nat} (h : Blk w b c T) (o : Obj) : Blk (w.alloc o) b c T := by
  have := h.lt
  unfold Blk at *
  rw [Below.heap_alloc _ _ _ this]; exact h
theorem Blk.drew {w : World} {b : Nat} {c : List Value} {T : Nat} (h : Blk w b c T) : Blk w.drew b c T := h
theorem Blk.new (w : World) (c : List Value) (T : Nat) : Blk (w.alloc (.cells c.toArray T)) w.heap.size c T := by
  unfold Blk; exact heap_alloc_new w _
theorem Blk.step {w w' : World} {S S' : Nat → Prop} {b : Nat} {c : List Value} {T : Nat} (h : Blk w b c T) (hs : Step S w S' w') (hb : ¬ S b) : Blk w' b c T := by
  have hl := h.lt
  unfold Blk at *
  rw [hs.block b hl hb]; exact h
theorem Blk.grown {w w' : World} {row : Option Nat} {b : Nat} {c : List Value} {T : Nat} (h : Blk w b c T) (hg : w.grownBy w' row) (hb : some b ≠ row) : Blk w' b c T := by
  have hl := h.lt
  unfold Blk at *
  rw [hg.block b hl hb]; exact h

theorem row_step {w w' : World} {S S' : Nat → Prop} {base e size n : Nat} {v : Value} {xs : List Value} (h : w.ownsRow base e size v n xs) (hs : Step S w S' w') (hb : ∀ k, v.ownBlock = some k → ¬ S k) : w'.ownsRow base e size v n xs := by
  refine ⟨h.1, ?_⟩
  rcases h.2 with h2 | ⟨g, cap, cur, rfl, hbg, hh, rest⟩
  · exact .inl h2
  · refine .inr ⟨g, cap, cur, rfl, hbg, ?_, rest⟩
    rw [hs.block g (Array.getElem?_eq_some_iff.1 hh).1 (hb g rfl)]; exact hh
theorem row_lt {w : World} {base e size n : Nat} {v : Value} {xs : List Value} (h : w.ownsRow base e size v n xs) {k : Nat} (hk : v.ownBlock = some k) : k < w.heap.size := (h.lt k hk).2
/-- Two rows of two element types lie in two blocks; so do a row and a block. -/
theorem row_ne_blk {w : World} {base e size n b : Nat} {v : Value} {xs : List Value} {c : List Value} {T : Nat} (h : w.ownsRow base e size v n xs) (hB : Blk w b c T) (hne : e ≠ T) : v.ownBlock ≠ some b := by
  intro hk
  rcases h.2 with ⟨rfl, _⟩ | ⟨g, cap, cur, rfl, _, hh, _⟩
  · simp [Value.ownBlock] at hk
  · simp [Value.ownBlock] at hk
    subst hk
    unfold Blk at hB
    rw [hh] at hB
    simp at hB
    exact hne hB.2
theorem row_ne_row {w : World} {b b' e e' s s' n n' : Nat} {v v' : Value} {xs xs' : List Value} (h : w.ownsRow b e s v n xs) (h' : w.ownsRow b' e' s' v' n' xs') (hne : e ≠ e') {k : Nat} (hk : v.ownBlock = some k) : v'.ownBlock ≠ some k := by
  intro hk'
  rcases h.2 with ⟨rfl, _⟩ | ⟨g, cap, cur, rfl, _, hh, _⟩
  · simp [Value.ownBlock] at hk
  · rcases h'.2 with ⟨rfl, _⟩ | ⟨g', cap', cur', rfl, _, hh', _⟩
    · simp [Value.ownBlock] at hk'
    · simp [Value.ownBlock] at hk hk'
      subst hk hk'
      rw [hh] at hh'
      simp at hh'
      exact hne hh'.2
/-- A row that is not empty: its shape. -/
theorem row_form {w : World} {base e size n : Nat} {v : Value} {xs : List Value} (h : w.ownsRow base e size v n xs) (hn : 0 < n) : ∃ g cap, v = .slice (some ⟨g, 0, none⟩) n cap ∧ base ≤ g ∧ g < w.heap.size ∧ n ≤ 9223372036854775807 := by
  rcases h.2 with ⟨_, h2⟩ | ⟨g, cap, cur, rfl, hb, hh, h1, h2, _⟩
  · omega
  · exact ⟨g, cap, rfl, hb, (Array.getElem?_eq_some_iff.1 hh).1, by simp only [maxLen] at h2; omega⟩
theorem row_slice {w : World} {base e size n : Nat} {v : Value} {xs : List Value} (h : w.ownsRow base e size v n xs) : ∃ A c, v = .slice A n c := by
  rcases h.2 with ⟨rfl, rfl⟩ | ⟨g, cap, cur, rfl, _⟩
  · exact ⟨none, 0, rfl⟩
  · exact ⟨_, cap, rfl⟩

/-! ### the errors -/
/-- The value of error number c (0: nil): the sentinels lie where E says. -/
def errv (E : Nat → Addr) : Nat → Value
  | 0 => .nilIface
  | c + 1 => .iface 188 (.pointer (some (E (c + 1))))
end Go.Proofs.YtokfddlknhijbaaGreatDoor
