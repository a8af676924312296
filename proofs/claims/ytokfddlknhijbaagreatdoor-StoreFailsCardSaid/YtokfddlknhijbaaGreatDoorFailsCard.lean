/- StoreFails returns true at every input, and its arguments read behind the call as before; the sentinels and errors.errorType lie at the start as the program's text lays them (tied). -/
import Derived.Test.YtokfddlknhijbaaGreatDoorFails2
import Derived.Test.YtokfddlknhijbaaGreatDoorNone2
import Derived.Test.YtokfddlknhijbaaGreatDoorArgs
import Derived.Test.YtokfddlknhijbaaGreatDoorWorld
import Derived.Test.YtokfddlknhijbaaGreatDoorCards
import Derived.Test.YtokfddlknhijbaaGreatDoorTie
import Derived.SevenTiedAt
import Derived.ChangeMaps5
namespace Go.Proofs.YtokfddlknhijbaaGreatDoor
open Go Go.ChangeShapes Go.WideShapes Go.RowKit
set_option maxRecDepth 100000 in
theorem storeFails_lifted (os : Os) (started : os.Started) (H : Type) (enc : TypeId × Value → H) :
    ReturnsInHanded {} Tryz.checked os 7 .any (fun w args => (Rows.storeFailsSpec.pre enc Tryz.prog Tryz.f7 [] false w args ∧ laidMetH Tryz.prog laidL w) ∧ sizedMet enc Tryz.prog Tryz.f7 (OpenSpec.ofChange Rows.storeFailsSpec) false w args)
      (Rows.storeFailsSpec.post enc Tryz.prog Tryz.f7 false true false false) := by
  refine returnsInHanded_of_change_and (C := Tryz.checked) (X := fun w _ => laidMetH Tryz.prog laidL w) (fun _ _ _ hh h => h.of_heap hh) Tz.own started (by kernel_rfl) Tryz.func7
    (ChangeSpec.witness_at (enc := enc) (C := Tryz.checked) (os := os) (X := fun w _ => laidMetH Tryz.prog laidL w) false (laidWorld os) #[.slice none 0 0, .int .i64 0, .slice none 0 0, .slice none 0 0] 8 rfl (by kernel_rfl) (by kernel_rfl) (by kernel_rfl) (by kernel_rfl) (by kernel_rfl) (laidWorld_met os _)) ?_
  intro W base args ds gs before hval0 hW _ hsz0 hL _
  have hval : ∀ (j : Nat) t v, Tryz.f7.params[j]? = some t → args[j]? = some v → Value.okWide Tryz.prog W .any base t v := hval0
  have hsz : (DataW.weightsEach Tryz.prog (Tryz.f7.params.toList ++ Rows.storeFailsSpec.plain.varTypes Tryz.prog) (ds ++ gs)).all (· ≤ reachBytes) = true := hsz0
  clear hsz0
  have hW' := hW
  obtain ⟨p, q, hA0, hV0, rfl, hfz, hnd⟩ := hW
  have hA : DataW.TrodAll enc Tryz.prog W 0 (fun _ => true) true Tryz.f7.params.toList args.toList ds p := hA0
  have hV : DataW.TrodVars enc Tryz.prog W (fun _ => true) [] gs q := hV0
  rw [Tryz.params7] at hA hval hsz
  obtain ⟨v0, v1, v2, v3, d0, d1, d2, d3, p0, p1, p2, p3, rfl, rfl, rfl, h0, h1, h2, h3⟩ := trodAll_four hA
  have h0k := h0
  have hlt0 : ∀ x ∈ p0, x.block < W.heap.size := fun x hx => hW'.lt x (by simp [hx])
  have hwt0 : ∀ k ∈ d0.weights Tryz.prog 36, k ≤ reachBytes := fun k hk => by
    have := List.all_eq_true.1 hsz _ (DataW.weights_mem_each (j := 0) (t := 36) (d := d0) rfl rfl k hk)
    simpa using this
  obtain ⟨A0, c0, l0, rfl, hC0, ha0, hb0, hc0⟩ := open_chgs (hval 0 36 v0 rfl rfl) h0 hwt0
  obtain ⟨n1, rfl, rfl, rfl, hw1⟩ := open_int Tryz.underlying3 (hval 1 3 v1 rfl rfl) h1
  have h2k := h2
  have hlt2 : ∀ x ∈ p2, x.block < W.heap.size := fun x hx => hW'.lt x (by simp [hx])
  have hwt2 : ∀ k ∈ d2.weights Tryz.prog 49, k ≤ reachBytes := fun k hk => by
    have := List.all_eq_true.1 hsz _ (DataW.weights_mem_each (j := 2) (t := 49) (d := d2) rfl rfl k hk)
    simpa using this
  obtain ⟨A2, c2, l2, rfl, hC2, ha2⟩ := open_bools (hval 2 49 v2 rfl rfl) h2 hwt2
  have h3k := h3
  have hlt3 : ∀ x ∈ p3, x.block < W.heap.size := fun x hx => hW'.lt x (by simp [hx])
  have hwt3 : ∀ k ∈ d3.weights Tryz.prog 36, k ≤ reachBytes := fun k hk => by
    have := List.all_eq_true.1 hsz _ (DataW.weights_mem_each (j := 3) (t := 36) (d := d3) rfl rfl k hk)
    simpa using this
  obtain ⟨A3, c3, l3, rfl, hC3, ha3, hb3, hc3⟩ := open_chgs (hval 3 36 v3 rfl rfl) h3 hwt3
  obtain ⟨rfl, rfl⟩ : gs = [] ∧ q = [] := by
    cases gs with
    | nil => exact ⟨rfl, hV⟩
    | cons g r => exact absurd hV (by intro h; cases h)
  obtain ⟨E, hE⟩ := env_of_laid hL
  have e1 : Rows.storeFailsSpec.fn H ([d0, .lit (.int .i64 n1), d2, d3] ++ []) = { results := [.lit (.bool true)], args := [d0, .lit (.int .i64 n1), d2, d3] } := by simp [Rows.storeFailsSpec]
  refine (fails_all _ E W hE A0 c0 l0 n1 A2 c2 l2 A3 c3 l3 hC0 ha0 hb0 hc0 hC2 ha2 hC3 ha3 hb3 hc3).mono fun e W' ⟨he, hw⟩ => ?_
  subst he
  refine ⟨_, rfl, _, _, _, [], (p0 ++ (([] : List MemPlace) ++ (p2 ++ p3))), [], hW', ?_, ?_, ?_, hw.frame _, fun h => by cases h⟩
  · rw [e1]; exact trodAll_mk1 (shut_bool Tryz.underlying4 true)
  · rw [e1]; exact trodAll_mk4 (Below.trod Tz.laidOut (by kernel_rfl) (of_decide_eq_true (by kernel_rfl)) h0k hw hlt0) (shut_int Tryz.underlying3 hw1) (Below.trod Tz.laidOut (by kernel_rfl) (of_decide_eq_true (by kernel_rfl)) h2k hw hlt2) (Below.trod Tz.laidOut (by kernel_rfl) (of_decide_eq_true (by kernel_rfl)) h3k hw hlt3)
  · rw [e1]; rfl
theorem storeFails_holds : Rows.StoreFailsSaid :=
  OpenClaim.holds_of_wide 7 Tryz.f7 rfl rfl rfl rfl rfl rfl rfl ⟨rfl, rfl, rfl, rfl, rfl⟩ rfl rfl rfl rfl rfl (by kernel_rfl) Tryz.func7 (by kernel_rfl)
    (of_decide_eq_true (by kernel_rfl)) (by unfold Func.isWrapper; rw [if_neg (of_decide_eq_false (by kernel_rfl))]; exact ⟨rfl, rfl⟩)
    (fun os started H enc _ => storeFails_lifted os started H enc)
theorem storeFails_card : Rows.StoreFailsCardSaid :=
  Claim7.holds_tied_plain_at .later [] [.handle, .sentinel, .sentinel, .sentinel, .sentinel, .sentinel, .sentinel, .sentinel, .sentinel, .sentinel] true (true, "122f99e2fd7d0834b241f937222b79bbc346ce71237bed3e775a70c2db6fb3db") true
    storeFails_holds (fun _ h => by cases h) (by kernel_rfl) (fun _ h => by cases h) storeFails_row_tie rfl ⟨rfl, rfl⟩ (by kernel_rfl) rfl
    (fun f fn hf hfn => by
      obtain rfl : f = 7 := Option.some.inj ((show Tryz.prog.funcNamed "layercake/layercakelaw4.StoreFails" = some 7 by kernel_rfl).symm.trans hf) |>.symm
      obtain rfl : fn = Tryz.f7 := (Option.some.inj (Tryz.func7.symm.trans hfn)).symm
      exact ⟨by kernel_rfl, fun j t ht => by
        rw [Tryz.params7] at ht
        have h3 : t = 3 ∨ t = 36 ∨ t = 49 := by
          rcases j with _ | _ | _ | _ | j
          · exact (.inr (.inl (by simpa using ht.symm)))
          · exact (.inl (by simpa using ht.symm))
          · exact (.inr (.inr (by simpa using ht.symm)))
          · exact (.inr (.inl (by simpa using ht.symm)))
          · simp at ht
        rcases h3 with rfl | rfl | rfl
        · exact (show Tryz.prog.wantsStandIn 3 = false by kernel_rfl)
        · exact (show Tryz.prog.wantsStandIn 36 = false by kernel_rfl)
        · exact (show Tryz.prog.wantsStandIn 49 = false by kernel_rfl)⟩)
    (by kernel_rfl)
#print axioms storeFails_card
end Go.Proofs.YtokfddlknhijbaaGreatDoor
