/- StoreMany returns true at every input, and its arguments read behind the call as before; the sentinels and errors.errorType lie at the start as the program's text lays them (tied). -/
import Derived.Test.YtokfddlknhijbaaGreatDoorRow2
import Derived.Test.YtokfddlknhijbaaGreatDoorCards
import Derived.Test.YtokfddlknhijbaaGreatDoorTie
import Derived.SevenTiedAt
namespace Go.Proofs.YtokfddlknhijbaaGreatDoor
open Go
theorem storeMany_card : Rows.StoreManyCardSaid :=
  Claim7.holds_tied_plain_at .later [] [.handle, .sentinel, .sentinel, .sentinel, .sentinel, .sentinel, .sentinel, .sentinel, .sentinel, .sentinel] true (true, "122f99e2fd7d0834b241f937222b79bbc346ce71237bed3e775a70c2db6fb3db") true
    many_holds (fun _ h => by cases h) (by kernel_rfl) (fun _ h => by cases h) storeMany_row_tie rfl ⟨rfl, rfl⟩ (by kernel_rfl) rfl
    (fun f fn hf hfn => by
      obtain rfl : f = 3 := Option.some.inj ((show Tryz.prog.funcNamed "layercake/layercakelaw4.StoreMany" = some 3 by kernel_rfl).symm.trans hf) |>.symm
      obtain rfl : fn = Tryz.f3 := (Option.some.inj (Tryz.func3.symm.trans hfn)).symm
      exact ⟨by kernel_rfl, fun j t ht => by
        rw [Tryz.params3] at ht
        have h3 : t = 3 := by
          rcases j with _ | _ | j
          · simpa using ht.symm
          · simpa using ht.symm
          · simp at ht
        subst h3
        exact (show Tryz.prog.wantsStandIn 3 = false by kernel_rfl)⟩)
    (by kernel_rfl)
#print axioms storeMany_card
end Go.Proofs.YtokfddlknhijbaaGreatDoor
