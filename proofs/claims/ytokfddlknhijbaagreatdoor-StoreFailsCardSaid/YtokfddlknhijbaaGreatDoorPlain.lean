/- The disk in plain Lean: sectors, what waits, how many acts the power still bears. No program stands in it. -/
import Derived.Sort.EncStr
namespace Go.Proofs.YtokfddlknhijbaaGreatDoor
open Go

abbrev Str := List UInt8
structure Dsk where
  left : Int
  kept : List Str
  now : List Str
  waits : List (Nat × Str)

def zeros (n : Nat) : Str := List.replicate n 0
def pad (s : Str) : Str := s ++ zeros (64 - s.length)
/-- What one act leaves of the power (that is not 0). -/
def spent (l : Int) : Int := if 0 < l then l - 1 else l
def Dsk.write (d : Dsk) (n : Int) (s : Str) : Nat × Dsk :=
  if n < 0 ∨ (d.now.length : Int) ≤ n then (2, d)
  else if 64 < s.length then (3, d)
  else if d.left = 0 then (9, d)
  else (0, { left := spent d.left, kept := d.kept, now := d.now.set n.toNat (pad s), waits := d.waits ++ [(n.toNat, pad s)] })
def Dsk.flush (d : Dsk) : Nat × Dsk :=
  if d.left = 0 then (9, d) else (0, { left := spent d.left, kept := d.now, now := d.now, waits := [] })
/-- Which of the waiting writes stay: from number i on. -/
def land (keep : List Bool) : Nat → List (Nat × Str) → List Str → List Str
  | _, [], l => l
  | i, x :: r, l => land keep (i + 1) r (if i < keep.length ∧ keep.getD i false = true then l.set x.1 x.2 else l)
def Dsk.crash (d : Dsk) (keep : List Bool) : Dsk :=
  { left := -1, kept := land keep 0 d.waits d.kept, now := land keep 0 d.waits d.kept, waits := [] }
def Dsk.fail (d : Dsk) (n : Int) : Nat × Dsk := if n < 0 then (2, d) else (0, { d with left := n })
def Dsk.fresh (n : Nat) : Dsk := { left := -1, kept := List.replicate n (zeros 64), now := List.replicate n (zeros 64), waits := [] }

theorem land_length (keep : List Bool) : ∀ (ws : List (Nat × Str)) (i : Nat) (l : List Str), (land keep i ws l).length = l.length
  | [], _, _ => rfl
  | x :: r, i, l => by
    rw [land, land_length keep r]
    split <;> simp

/-- A disk in good order: as many sectors kept as told, not too many; each of 64 bytes; what waits hits a sector. -/
structure Dsk.Ok (d : Dsk) : Prop where
  left : -1 ≤ d.left ∧ d.left ≤ 1000000
  len : d.kept.length = d.now.length
  some : 1 ≤ d.now.length
  most : d.now.length ≤ 4000
  now : ∀ x ∈ d.now, x.length = 64
  kept : ∀ x ∈ d.kept, x.length = 64
  waits : ∀ x ∈ d.waits, x.1 < d.now.length ∧ x.2.length = 64

theorem pad_length (s : Str) (h : s.length ≤ 64) : (pad s).length = 64 := by simp [pad, zeros]; omega
theorem spent_ok {l : Int} (h : -1 ≤ l ∧ l ≤ 1000000) (h0 : l ≠ 0) : -1 ≤ spent l ∧ spent l ≤ 1000000 := by unfold spent; split <;> omega
theorem Dsk.Ok.write {d : Dsk} (h : d.Ok) (n : Int) (s : Str) : (d.write n s).2.Ok := by
  unfold Dsk.write
  split
  · exact h
  · split
    · exact h
    · split
      · exact h
      · rename_i h1 h2 h3
        have hp := pad_length s (by omega)
        refine ⟨spent_ok h.left h3, ?_, ?_, ?_, ?_, h.kept, ?_⟩
        · simpa using h.len
        · simpa using h.some
        · simpa using h.most
        · intro x hx
          rcases List.mem_or_eq_of_mem_set hx with h4 | rfl
          · exact h.now x h4
          · exact hp
        · intro x hx
          rcases List.mem_append.1 hx with h4 | h4
          · simpa using h.waits x h4
          · simp at h4; subst h4; simp; omega
theorem Dsk.Ok.flush {d : Dsk} (h : d.Ok) : d.flush.2.Ok := by
  unfold Dsk.flush
  split
  · exact h
  · rename_i h0
    exact ⟨spent_ok h.left h0, rfl, h.some, h.most, h.now, h.now, by simp⟩
theorem land_all (keep : List Bool) : ∀ (ws : List (Nat × Str)) (i : Nat) (l : List Str), (∀ x ∈ l, x.length = 64) → (∀ x ∈ ws, x.2.length = 64) → ∀ x ∈ land keep i ws l, x.length = 64
  | [], _, _, h, _ => h
  | y :: r, i, l, h, hw => by
    rw [land]
    refine land_all keep r (i + 1) _ ?_ (fun x hx => hw x (List.mem_cons_of_mem _ hx))
    split
    · intro x hx
      rcases List.mem_or_eq_of_mem_set hx with h4 | rfl
      · exact h x h4
      · exact hw y List.mem_cons_self
    · exact h
theorem Dsk.Ok.crash {d : Dsk} (h : d.Ok) (keep : List Bool) : (d.crash keep).Ok := by
  have hl := land_length keep d.waits 0 d.kept
  have ha := land_all keep d.waits 0 d.kept h.kept (fun x hx => (h.waits x hx).2)
  exact ⟨by simp [Dsk.crash], rfl, by simp only [Dsk.crash]; rw [hl, h.len]; exact h.some, by simp only [Dsk.crash]; rw [hl, h.len]; exact h.most, ha, ha, by simp [Dsk.crash]⟩
theorem Dsk.Ok.fail {d : Dsk} (h : d.Ok) (n : Int) (hn : n ≤ 1000000) : (d.fail n).2.Ok := by
  unfold Dsk.fail
  split
  · exact h
  · exact ⟨⟨by simp only; omega, hn⟩, h.len, h.some, h.most, h.now, h.kept, h.waits⟩
theorem Dsk.Ok.fresh (n : Nat) (h1 : 1 ≤ n) (h2 : n ≤ 4000) : (Dsk.fresh n).Ok := by
  refine ⟨by simp [Dsk.fresh], rfl, by simpa [Dsk.fresh] using h1, by simpa [Dsk.fresh] using h2, ?_, ?_, by simp [Dsk.fresh]⟩ <;>
    (intro x hx; simp [Dsk.fresh] at hx; rw [hx.2]; simp [zeros])
end Go.Proofs.YtokfddlknhijbaaGreatDoor
