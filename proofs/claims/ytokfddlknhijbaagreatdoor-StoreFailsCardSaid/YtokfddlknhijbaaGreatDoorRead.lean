/- store.read: what it gives, in plain Lean, and the walk. -/
import Derived.Test.YtokfddlknhijbaaGreatDoorKeep
namespace Go.Proofs.YtokfddlknhijbaaGreatDoor
open Go Go.RowKit Go.Maps

def fld (h : Str) (i : Nat) : Nat := val ((h.drop i).take 4)
theorem fld_lt (h : Str) (i : Nat) : fld h i < 4294967296 := by
  have hlt := val_lt ((h.drop i).take 4)
  have hp : 256 ^ ((h.drop i).take 4).length ≤ 256 ^ 4 := Nat.pow_le_pow_right (by omega) (by simp; omega)
  exact Nat.lt_of_lt_of_le hlt hp
def cake : Str := [99, 97, 107, 101]
def halfN (D : Dsk) : Nat := (D.now.length - 2) / 2
/-- Does a sector hold a head? -/
def headOk (D : Dsk) (h : Str) : Bool :=
  Lib.hasPrefix h cake && (headS (fld h 4) (fld h 8) (fld h 12) (fld h 16) == h.take 24) && !decide ((1 : Int) < (fld h 8 : Int)) && !decide ((halfN D : Int) * 64 < (fld h 12 : Int))
/-- The first m sectors from sector n on. -/
def sect (D : Dsk) (n m : Nat) : Str := (List.range m).flatMap fun i => D.now.getD (n + i) []
def parse : Nat → Str → List Txt → Option (List Txt)
  | 0, s, L => if s = [] then some L else none
  | f + 1, s, L => if s = [] then some L else match takeS s with
    | none => none
    | some (nm, r) => match takeS r with
      | none => none
      | some (t, r2) => parse f r2 (mput L nm t)
def up64 (n : Nat) : Nat := (n + 63) / 64
def bodyS (D : Dsk) (hf sz : Nat) : Str := (sect D (2 + hf * halfN D) (up64 sz)).take sz
def readS (D : Dsk) (n : Nat) : Option (List Txt × Nat × Nat) :=
  let h := D.now.getD n []
  if headOk D h then
    let b := bodyS D (fld h 8) (fld h 12)
    if crc b == fld h 16 then (parse b.length b []).map fun L => (L, fld h 4, fld h 8) else none
  else none

def ReadPost (w : World) (a : Nat) (r : Option (List Txt × Nat × Nat)) (e : Ending) (w' : World) : Prop :=
  match r with
  | none => e = .returned (.tuple #[.pointer none, .bool false]) ∧ Below w.heap.size w w'
  | some (L, k, h) => ∃ s mb, e = .returned (.tuple #[.pointer (some ⟨s, 0, none⟩), .bool true]) ∧ Below w.heap.size w w' ∧ w.heap.size ≤ s ∧ w.heap.size ≤ mb ∧
      Blk w' s [.pointer (some ⟨a, 0, none⟩), .map (some mb), .int .u32 k, .int .i64 h, .bool false] 77 ∧ MapAt w' mb L

theorem now_len {D : Dsk} (h : D.Ok) (n : Nat) (hn : n < D.now.length) : (D.now.getD n []).length = 64 := by
  have : D.now.getD n [] = D.now[n] := by simp [hn]
  rw [this]; exact h.now _ (List.getElem_mem hn)

set_option maxHeartbeats 1000000 in
set_option maxRecDepth 100000 in
theorem read_none1 (B : Nat) (a : Nat) (D : Dsk) (S : Nat → Prop) (n : Nat) (w : World) (h : DiskAt B w a D S) (hn : n < D.now.length) (hp : Lib.hasPrefix (D.now.getD n []) cake = false) :
    Calls Tryz.prog 42 #[.pointer (some ⟨a, 0, none⟩), .int .i64 n] w (ReadPost w a none) := by
  have hr := read_any B a D S n w h (by omega) (by omega)
  rw [Int.toNat_natCast] at hr
  have hx := Tryz.strings_HasPrefix ⟨(D.now.getD n []).toArray⟩ ⟨#[99, 97, 107, 101]⟩ w
  have e1 : Lib.hasPrefix (ByteArray.data ⟨(D.now.getD n []).toArray⟩).toList (ByteArray.data ⟨#[99, 97, 107, 101]⟩).toList = false := by simpa [cake] using hp
  rw [e1] at hx
  clear e1 hp h
  generalize D.now.getD n [] = hh at *
  go_enter Tryz.func42, Tryz.ntmps42
  go_wp2_with fail
  refine hr.mono ?_
  rintro e w1 ⟨rfl, rfl⟩
  go_wp2_with fail
  refine hx.mono ?_
  rintro e w1 ⟨rfl, rfl⟩
  go_wp2_with fail
  go_ret2
  exact ⟨rfl, Below.refl _ _⟩

end Go.Proofs.YtokfddlknhijbaaGreatDoor
