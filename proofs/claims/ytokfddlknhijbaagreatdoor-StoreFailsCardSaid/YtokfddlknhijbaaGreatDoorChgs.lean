/- The law's input: a slice of changes; light, change. -/
import Derived.Test.YtokfddlknhijbaaGreatDoorLaw5
namespace Go.Proofs.YtokfddlknhijbaaGreatDoor
open Go Go.RowKit Go.Maps
/-- A slice of changes that came in: it lies below block B. -/
def ChgsAt (B : Nat) (w : World) (A : Option Addr) (l : List Chg) : Prop :=
  0 < l.length → ∃ b off, A = some ⟨b, off, none⟩ ∧ b < B ∧ ∀ i (h : i < l.length),
    w.cell? ⟨b, off + i * 3, none⟩ = some (encStr (l[i]).kind) ∧ w.cell? ⟨b, off + i * 3 + 1, none⟩ = some (encStr (l[i]).name) ∧ w.cell? ⟨b, off + i * 3 + 2, none⟩ = some (encStr (l[i]).text)
theorem ChgsAt.below {B : Nat} {w w' : World} {A : Option Addr} {l : List Chg} (h : ChgsAt B w A l) (hb : Below B w w') : ChgsAt B w' A l := by
  intro hl
  obtain ⟨b, off, e, hlt, hc⟩ := h hl
  refine ⟨b, off, e, hlt, fun i hi => ?_⟩
  obtain ⟨h1, h2, h3⟩ := hc i hi
  exact ⟨(hb.cell (p := ⟨b, _, none⟩) hlt).trans h1, (hb.cell (p := ⟨b, _, none⟩) hlt).trans h2, (hb.cell (p := ⟨b, _, none⟩) hlt).trans h3⟩
def textSum (l : List Chg) : Nat := (l.map fun c => c.text.length).sum
theorem textSum_snoc (l : List Chg) (c : Chg) : textSum (l ++ [c]) = textSum l + c.text.length := by simp [textSum]
structure Light (l : List Chg) : Prop where
  len : l.length ≤ 60
  name : ∀ c ∈ l, c.name.length ≤ 100
  text : textSum l ≤ 8000
def LightPost (l : List Chg) (w : World) (e : Ending) (w' : World) : Prop := ∃ b : Bool, e = .returned (.bool b) ∧ (b = true → Light l) ∧ w = w'
/-- What has been counted: right as long as there are few. -/
def Cnt (l : List Chg) (k : Nat) (m : Int) : Prop := k ≤ 60 → m = textSum (l.take k)
theorem Cnt.next {l : List Chg} {k : Nat} {m : Int} (h : Cnt l k m) (hk : k < l.length) (ht : ∀ c ∈ l, c.text.length ≤ 140737488355328) : Cnt l (k + 1) (RowKit.wrap64 (m + (l[k]).text.length)) := by
  intro h60
  have e := h (by omega)
  have hs : ∀ j, j ≤ l.length → textSum (l.take j) ≤ j * 140737488355328 := by
    intro j hj
    induction j with
    | zero => simp [textSum]
    | succ j ih =>
      have := ih (by omega)
      have h2 := ht (l[j]'(by omega)) (List.getElem_mem _)
      rw [List.take_succ_eq_append_getElem (by omega), textSum_snoc]
      omega
  have h1 := hs k (by omega)
  have h2 := ht _ (List.getElem_mem hk)
  rw [List.take_succ_eq_append_getElem hk, textSum_snoc, e]
  have hw : RowKit.wrap64 ((textSum (l.take k) : Int) + ((l[k]).text.length : Int)) = (textSum (l.take k) : Int) + ((l[k]).text.length : Int) := by
    unfold RowKit.wrap64; omega
  rw [hw]; push_cast; rfl

set_option maxHeartbeats 1000000 in
set_option maxRecDepth 100000 in
theorem light_any (B : Nat) (A : Option Addr) (c : Nat) (l : List Chg) (w : World) (h : ChgsAt B w A l) (hl : l.length ≤ 140737488355328) (ht : ∀ c ∈ l, c.text.length ≤ 140737488355328) (hnm : ∀ c ∈ l, c.name.length ≤ 140737488355328) :
    Calls Tryz.prog 14 #[.slice A l.length c] w (LightPost l w) := by
  go_enter Tryz.func14, Tryz.ntmps14
  go_wp2
  go_loop [3, 4] (fun v3 v4 => ∃ (k : Nat) (m : Int), k ≤ l.length ∧ v4 = .int .i64 k ∧ v3 = .int .i64 m ∧ Cnt l k m ∧ ∀ i (h : i < l.length), i < k → (l[i]).name.length ≤ 100) (fun _ v4 => l.length - (intOf v4).toNat)
  case atStart => exact ⟨0, 0, Nat.zero_le _, rfl, rfl, fun _ => rfl, fun i _ h => absurd h (by omega)⟩
  case round =>
    obtain ⟨k, m, hk, rfl, rfl, hc, hn⟩ := hrel
    by_cases hlt : k < l.length
    · obtain ⟨b, off, rfl, -, hcell⟩ := h (by omega)
      obtain ⟨-, z1, z2⟩ := hcell k hlt
      have hc2 := hc.next hlt ht
      have hn2 : (l[k]).name.length ≤ 100 → ∀ i (h : i < l.length), i < k + 1 → (l[i]).name.length ≤ 100 := fun h0 i hi hik => by
        rcases Nat.lt_or_ge i k with h1 | h1
        · exact hn i hi h1
        · have : i = k := by omega
          subst this; exact h0
      have hb1 := hnm _ (List.getElem_mem hlt)
      have hb2 := ht _ (List.getElem_mem hlt)
      clear hcell h hn hc ht hnm
      have HN := Lib.hid hn2
      have HC := Lib.hid hc2
      clear hn2 hc2
      generalize hx : (l[k]).name = x at *
      generalize hy : (l[k]).text = y at *
      clear hx hy
      by_cases hxl : x.length ≤ 100
      · have hxi : ¬ (100 : Int) < (x.length : Int) := by omega
        go_wp2
        go_round
        case rel => exact ⟨k + 1, _, by omega, by go_num, rfl, HC.out, HN.out hxl⟩
        case measure => simp [intOf]; omega
      · have hxi : (100 : Int) < (x.length : Int) := by omega
        go_wp2
        go_ret
        exact ⟨false, rfl, (fun h => by cases h), rfl⟩
    · obtain rfl : k = l.length := by omega
      have hfin : ∀ b : Bool, (b = true → (l.length : Int) ≤ 60 ∧ m ≤ 8000) → LightPost l w (.returned (.bool b)) w := by
        intro b hb
        refine ⟨b, rfl, fun e => ?_, rfl⟩
        obtain ⟨e1, e2⟩ := hb e
        have := hc (by omega)
        rw [List.take_length] at this
        exact ⟨by omega, fun c hcm => by obtain ⟨i, hi, rfl⟩ := List.getElem_of_mem hcm; exact hn i hi hi, by omega⟩
      clear h hc hn ht hnm
      by_cases h60 : (l.length : Int) ≤ 60
      · by_cases h80 : m ≤ 8000
        · go_wp2
          go_ret
          exact hfin _ (fun _ => ⟨h60, h80⟩)
        · go_wp2
          go_ret
          exact hfin _ (fun e => by simp [h80] at e)
      · go_wp2
        go_ret
        exact hfin _ (fun e => by simp [h60] at e)
end Go.Proofs.YtokfddlknhijbaaGreatDoor
