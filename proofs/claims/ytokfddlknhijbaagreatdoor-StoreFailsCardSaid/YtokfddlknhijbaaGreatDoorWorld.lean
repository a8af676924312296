/- A world in which the sentinels lie as the row lays them. -/
import Derived.Test.YtokfddlknhijbaaGreatDoorRow
namespace Go.Proofs.YtokfddlknhijbaaGreatDoor
open Go Go.ChangeShapes Go.WideShapes Go.RowKit

abbrev msg (l : List UInt8) : ByteArray := ⟨l.toArray⟩
/-- The heap's size ahead of what the row lays. -/
noncomputable def low : Nat := (World.holding Tryz.prog default ⟨#[], #[], []⟩).heap.size
noncomputable def laidWorld (os : Os) : World :=
  let w0 := World.holding Tryz.prog os ⟨#[.cells #[.string (msg [108, 97, 121, 101, 114, 99, 97, 107, 101, 58, 32, 98, 111, 117, 110, 100])] 206,
    .cells #[.string (msg [108, 97, 121, 101, 114, 99, 97, 107, 101, 58, 32, 102, 117, 108, 108])] 206,
    .cells #[.string (msg [108, 97, 121, 101, 114, 99, 97, 107, 101, 58, 32, 112, 111, 119, 101, 114])] 206,
    .cells #[.string (msg [108, 97, 121, 101, 114, 99, 97, 107, 101, 58, 32, 110, 97, 109, 101])] 206,
    .cells #[.string (msg [108, 97, 121, 101, 114, 99, 97, 107, 101, 58, 32, 116, 101, 120, 116])] 206,
    .cells #[.string (msg [108, 97, 121, 101, 114, 99, 97, 107, 101, 58, 32, 110, 111, 110, 101])] 206,
    .cells #[.string (msg [108, 97, 121, 101, 114, 99, 97, 107, 101, 58, 32, 115, 104, 97, 112, 101])] 206,
    .cells #[.string (msg [108, 97, 121, 101, 114, 99, 97, 107, 101, 58, 32, 115, 117, 109])] 206,
    .cells #[.string (msg [108, 97, 121, 101, 114, 99, 97, 107, 101, 58, 32, 99, 111, 108, 111, 114, 115])] 206], #[], []⟩
  let put := fun (k : Nat) (h : Array Obj) => h.modify k fun
      | .cells _ t frozen => .cells #[.iface 188 (.pointer (some ⟨low + k, 0, none⟩))] t frozen
      | o => o
  { w0 with heap := (put 8 (put 7 (put 6 (put 5 (put 4 (put 3 (put 2 (put 1 (put 0 w0.heap))))))))).modify 9 fun
      | .cells _ t frozen => .cells #[.iface 153 (.agg #[.pointer (some ⟨11, 25, none⟩)])] t frozen
      | o => o }
set_option maxRecDepth 100000 in
theorem laidWorld_met (os : Os) (args : Array Value) : laidMetH Tryz.prog laidL ((laidWorld os).forCall (fun _ _ => 0) ⟨#[], args, []⟩).memory :=
  laidMetH_of_parts (laidMet_of_run (ps := [.cell 4 0, .cell (low + 4) 0, .cell 0 0, .cell low 0, .cell 6 0, .cell (low + 6) 0, .cell 7 0, .cell (low + 7) 0, .cell 3 0, .cell (low + 3) 0, .cell 5 0, .cell (low + 5) 0, .cell 8 0, .cell (low + 8) 0, .cell 1 0, .cell (low + 1) 0, .cell 2 0, .cell (low + 2) 0]) 8 (by kernel_rfl) (by kernel_rfl) (by kernel_rfl)) (by kernel_rfl)

end Go.Proofs.YtokfddlknhijbaaGreatDoor
