/- store.Open. -/
import Derived.Test.YtokfddlknhijbaaGreatDoorRead3
namespace Go.Proofs.YtokfddlknhijbaaGreatDoor
open Go Go.RowKit Go.Maps

def newer (b r : Option (List Txt × Nat × Nat)) : Option (List Txt × Nat × Nat) :=
  match r, b with
  | none, b => b
  | some y, none => some y
  | some y, some x => if x.2.1 < y.2.1 then some y else some x
def bestN (D : Dsk) : Nat → Option (List Txt × Nat × Nat)
  | 0 => none
  | i + 1 => newer (bestN D i) (readS D i)
def openS (D : Dsk) : Option (List Txt × Nat × Nat) := bestN D 2
def SAt (w : World) (a : Nat) (W : World) (s : Nat) (x : List Txt × Nat × Nat) : Prop := ∃ mb, w.heap.size ≤ s ∧ w.heap.size ≤ mb ∧
  Blk W s [.pointer (some ⟨a, 0, none⟩), .map (some mb), .int .u32 x.2.1, .int .i64 x.2.2, .bool false] 77 ∧ MapAt W mb x.1
theorem SAt.step {w W W' : World} {a s : Nat} {x : List Txt × Nat × Nat} (h : SAt w a W s x) (hb : Below W.heap.size W W') : SAt w a W' s x := by
  obtain ⟨mb, h1, h2, h3, h4⟩ := h
  exact ⟨mb, h1, h2, h3.step (Step.of_below hb Nil) (fun h => h), h4.step (Step.of_below hb Nil) (fun h => h)⟩
theorem SAt.syncs {w W : World} {a s : Nat} {x : List Txt × Nat × Nat} (h : SAt w a W s x) : W.cell? ⟨s, 2, none⟩ = some (.int .u32 x.2.1) := by
  obtain ⟨mb, h1, h2, h3, h4⟩ := h
  exact h3.cell 2
theorem ReadPost.ok {w W W' : World} {a : Nat} {x : List Txt × Nat × Nat} {e : Ending} (h : ReadPost W a (some x) e W') (hw : w.heap.size ≤ W.heap.size) :
    ∃ s, e = .returned (.tuple #[.pointer (some ⟨s, 0, none⟩), .bool true]) ∧ Below W.heap.size W W' ∧ SAt w a W' s x := by
  obtain ⟨L, k, hf⟩ := x
  obtain ⟨s, mb, h1, h2, h3, h4, h5, h6⟩ := h
  exact ⟨s, h1, h2, mb, by omega, by omega, h5, h6⟩
def BestAt (w : World) (a : Nat) (W : World) (v : Value) (r : Option (List Txt × Nat × Nat)) : Prop :=
  match r with
  | none => v = .pointer none
  | some x => ∃ s, v = .pointer (some ⟨s, 0, none⟩) ∧ SAt w a W s x
def OpenPost (E : Nat → Addr) (w : World) (a : Nat) (r : Option (List Txt × Nat × Nat)) (e : Ending) (w' : World) : Prop :=
  match r with
  | none => e = .returned (.tuple #[.pointer none, errv E 1]) ∧ Below w.heap.size w w'
  | some x => ∃ s, e = .returned (.tuple #[.pointer (some ⟨s, 0, none⟩), .nilIface]) ∧ Below w.heap.size w w' ∧ SAt w a w' s x

set_option maxHeartbeats 4000000 in
set_option maxRecDepth 100000 in
theorem open_any (B : Nat) (E : Nat → Addr) (a : Nat) (D : Dsk) (S : Nat → Prop) (w : World) (h : DiskAt B w a D S) (hE : Env B E w) (h2 : 2 ≤ D.now.length) :
    Calls Tryz.prog 19 #[.pointer (some ⟨a, 0, none⟩)] w (OpenPost E w a (openS D)) := by
  have HB := Lib.hid (show openS D = bestN D 2 from rfl)
  generalize openS D = R at *
  have P0 : BestAt w a w (.pointer none) (bestN D 0) := rfl
  have hn : ∀ i, bestN D (i + 1) = newer (bestN D i) (readS D i) := fun _ => rfl
  have HN := Lib.hid hn
  clear hn
  go_enter Tryz.func19, Tryz.ntmps19
  go_wp2_with fail
  go_loopw [4, 8] (fun v4 v8 wr => ∃ i : Nat, i ≤ 2 ∧ v8 = .int .i64 i ∧ Below w.heap.size w wr ∧ BestAt w a wr v4 (bestN D i)) (fun _ v8 _ => 2 - (intOf v8).toNat)
  case atStart => exact ⟨0, by omega, rfl, Below.refl _ _, P0⟩
  case round =>
    obtain ⟨i, hi, rfl, hbw, hbest⟩ := hrel
    clear P0
    by_cases hlt : i < 2
    · have hi2 : ((i : Int) < 2) := by omega
      have hr := read2_any B a D S i wr (h.step hbw) (by omega) h2
      have hn := HN.out i
      generalize readS D i = r at *
      generalize bestN D i = b at *
      go_wp2_with fail
      cases r with
      | none =>
        have hn2 : bestN D (i + 1) = b := hn
        refine hr.mono ?_
        rintro e w3 ⟨rfl, hb3⟩
        go_wp2_with fail
        go_quiet (fail)
        have hb4 : Below wr.heap.size wr (w3.drewN nq) := below_drewN hb3 nq
        have hB2 : BestAt w a (w3.drewN nq) u4 (bestN D (i + 1)) := by
          rw [hn2]
          cases b with
          | none => exact hbest
          | some x => obtain ⟨s, e1, e2⟩ := hbest; exact ⟨s, e1, e2.step hb4⟩
        go_wp2_with fail
        go_round
        case rel => exact ⟨i + 1, by omega, by go_num, hbw.trans (hb4.mono hbw.size), hB2⟩
        case measure => simp [intOf]; omega
      | some y =>
        refine hr.mono ?_
        intro e w3 hr3
        obtain ⟨s, rfl, hb3, hS⟩ := hr3.ok hbw.size
        have ys := hS.syncs
        cases b with
        | none =>
          have hn2 : bestN D (i + 1) = some y := hn
          obtain rfl : _ = Value.pointer none := hbest
          go_wp2_with fail
          go_quiet (fail)
          go_wp2_with fail
          go_round
          case rel => exact ⟨i + 1, by omega, by go_num, hbw.trans ((below_drewN hb3 nq).mono hbw.size), by rw [hn2]; exact ⟨s, rfl, hS.step (below_drewN (Below.refl _ _) nq)⟩⟩
          case measure => simp [intOf]; omega
        | some x =>
          obtain ⟨s0, e1, hS0⟩ := hbest
          subst e1
          have hS1 := hS0.step hb3
          have xs := hS1.syncs
          by_cases hxy : x.2.1 < y.2.1
          · have hn2 : bestN D (i + 1) = some y := by rw [hn]; simp [newer, hxy]
            have hxyi : (x.2.1 : Int) < (y.2.1 : Int) := by omega
            go_wp2_with fail
            go_quiet (fail)
            go_wp2_with fail
            go_round
            case rel => exact ⟨i + 1, by omega, by go_num, hbw.trans ((below_drewN hb3 nq).mono hbw.size), by rw [hn2]; exact ⟨s, rfl, hS.step (below_drewN (Below.refl _ _) nq)⟩⟩
            case measure => simp [intOf]; omega
          · have hn2 : bestN D (i + 1) = some x := by rw [hn]; simp [newer, hxy]
            have hxyi : ¬ (x.2.1 : Int) < (y.2.1 : Int) := by omega
            go_wp2_with fail
            go_quiet (fail)
            go_wp2_with fail
            go_round
            case rel => exact ⟨i + 1, by omega, by go_num, hbw.trans ((below_drewN hb3 nq).mono hbw.size), by rw [hn2]; exact ⟨s0, rfl, hS1.step (below_drewN (Below.refl _ _) nq)⟩⟩
            case measure => simp [intOf]; omega
    · have hi2 : i = 2 := by omega
      subst hi2
      have hb2 := HB.out
      rw [← hb2] at hbest
      clear HB hb2
      have g4 : wr.cell? ⟨4, 0, none⟩ = some (errv E 1) := (hE.below (hbw.mono hE.size)).g4
      cases R with
      | none =>
        obtain rfl : _ = Value.pointer none := hbest
        go_wp2_with fail
        go_quiet (fail)
        go_wp2_with fail
        go_ret2
        exact ⟨rfl, below_drewN hbw nq⟩
      | some x =>
        obtain ⟨s, e1, hS⟩ := hbest
        subst e1
        go_wp2_with fail
        go_ret2
        exact ⟨s, rfl, hbw, hS⟩
end Go.Proofs.YtokfddlknhijbaaGreatDoor
