/- The reading of a body, item by item. -/
import Derived.Test.YtokfddlknhijbaaGreatDoorRead
import Derived.Deep.RegionWith
namespace Go.Proofs.YtokfddlknhijbaaGreatDoor
open Go Go.RowKit Go.Maps
theorem takeS_len {s t r : Str} (h : takeS s = some (t, r)) : t.length + r.length + 4 ≤ s.length := by
  unfold takeS at h
  split at h
  · rename_i hc
    simp only [Option.some.injEq, Prod.mk.injEq] at h
    obtain ⟨rfl, rfl⟩ := h
    simp; omega
  · cases h
theorem parse_fuel : ∀ (f g : Nat) (s : Str) (L : List Txt), s.length ≤ f → s.length ≤ g → parse f s L = parse g s L
  | f, g, [], L, _, _ => by cases f <;> cases g <;> simp [parse]
  | 0, g, x :: r, L, h, _ => by simp at h
  | f + 1, 0, x :: r, L, _, h => by simp at h
  | f + 1, g + 1, x :: r, L, hf, hg => by
    unfold parse
    rw [if_neg (by simp), if_neg (by simp)]
    cases h1 : takeS (x :: r) with
    | none => rfl
    | some p =>
      obtain ⟨nm, r1⟩ := p
      have l1 := takeS_len h1
      simp only
      cases h2 : takeS r1 with
      | none => rfl
      | some p2 =>
        obtain ⟨t, r2⟩ := p2
        have l2 := takeS_len h2
        simp only
        exact parse_fuel f g r2 _ (by omega) (by omega)
theorem ins_length (x : Txt) : ∀ l : List Txt, (ins x l).length = l.length + 1
  | [] => rfl
  | y :: r => by unfold ins; split <;> simp [ins_length x r]
theorem mput_length (L : List Txt) (k t : Str) : (mput L k t).length ≤ L.length + 1 := by
  unfold mput
  rw [ins_length]
  have : (dropT L k).length ≤ L.length := List.length_filter_le _ _
  omega
/-- What is left of the body, and what has been read of it. -/
structure ParseAt (w : World) (bs : Nat) (s a mb : Nat) (k h : Nat) (body : Str) (W : World) (r : Str) (L : List Txt) : Prop where
  below : Below w.heap.size w W
  cell : Blk W bs [encStr r] 9
  lb : w.heap.size ≤ bs
  ls : w.heap.size ≤ s
  lm : w.heap.size ≤ mb
  blk : Blk W s [.pointer (some ⟨a, 0, none⟩), .map (some mb), .int .u32 k, .int .i64 h, .bool false] 77
  map : MapAt W mb L
  len : L.length * 8 + r.length ≤ body.length
  eq : parse r.length r L = parse body.length body []
theorem ParseAt.take {w : World} {bs s a mb k h : Nat} {body : Str} {W : World} {r : Str} {L : List Txt} (H : ParseAt w bs s a mb k h body W r L) (r' : Str) :
    Below w.heap.size w (W.setCell ⟨bs, 0, none⟩ (encStr r')) ∧ Blk (W.setCell ⟨bs, 0, none⟩ (encStr r')) bs [encStr r'] 9 ∧ Blk (W.setCell ⟨bs, 0, none⟩ (encStr r')) s [.pointer (some ⟨a, 0, none⟩), .map (some mb), .int .u32 k, .int .i64 h, .bool false] 77 ∧ MapAt (W.setCell ⟨bs, 0, none⟩ (encStr r')) mb L := by
  have hne : bs ≠ s := by
    rintro rfl
    have h1 := H.cell; have h2 := H.blk
    unfold Blk at h1 h2
    rw [h1] at h2
    simp at h2
  have hnm : mb ≠ bs := by
    rintro rfl
    obtain ⟨es, clock, he, _⟩ := H.map
    have h1 := H.cell
    unfold Blk at h1
    rw [h1] at he
    cases he
  exact ⟨H.below.setCell (p := ⟨bs, 0, none⟩) H.lb _, H.cell.set 0 _, H.blk.set_other ⟨bs, 0, none⟩ hne _, World.ownsMap.setCell H.map (a := ⟨bs, 0, none⟩) hnm _⟩
theorem parse_none {r : Str} (L : List Txt) (h : r ≠ []) (h1 : takeS r = none) : parse r.length r L = none := by
  cases r with
  | nil => exact absurd rfl h
  | cons x r => unfold parse; simp only [List.length_cons]; rw [if_neg h, h1]
theorem parse_none2 {r nm r1 : Str} (L : List Txt) (h : r ≠ []) (h1 : takeS r = some (nm, r1)) (h2 : takeS r1 = none) : parse r.length r L = none := by
  cases r with
  | nil => exact absurd rfl h
  | cons x r => unfold parse; simp only [List.length_cons]; rw [if_neg h, h1]; simp only [h2]
theorem parse_some {r nm r1 t r2 : Str} (L : List Txt) (h : r ≠ []) (h1 : takeS r = some (nm, r1)) (h2 : takeS r1 = some (t, r2)) : parse r.length r L = parse r2.length r2 (mput L nm t) := by
  have l1 := takeS_len h1
  have l2 := takeS_len h2
  cases r with
  | nil => exact absurd rfl h
  | cons x r =>
    rw [List.length_cons] at l1
    conv => lhs; unfold parse; simp only [List.length_cons]; rw [if_neg h, h1]; simp only [h2]
    exact parse_fuel _ _ _ _ (by omega) (Nat.le_refl _)
set_option maxRecDepth 100000 in
theorem ParseAt.next {w : World} {bs s a mb k h : Nat} {body : Str} {W : World} {r nm r1 t r2 : Str} {L : List Txt} (H : ParseAt w bs s a mb k h body W r L) (hr : r ≠ []) (hl : body.length ≤ 1000000) (h1 : takeS r = some (nm, r1)) (h2 : takeS r1 = some (t, r2)) :
    ∃ w6, (Instr.mapUpdate 74 (.map (some mb)) (.string ⟨nm.toArray⟩) (.string ⟨t.toArray⟩)).run Tryz.prog ((W.setCell ⟨bs, 0, none⟩ (encStr r1)).setCell ⟨bs, 0, none⟩ (encStr r2)) = .ok () w6 ∧ ParseAt w bs s a mb k h body w6 r2 (mput L nm t) := by
  have l1 := takeS_len h1
  have l2 := takeS_len h2
  have ln := H.len
  have lm := mput_length L nm t
  obtain ⟨b1, c1, s1, m1⟩ := H.take r1
  have hne : bs ≠ s := by
    rintro rfl
    have h1 := H.cell; have h2 := H.blk
    unfold Blk at h1 h2
    rw [h1] at h2
    simp at h2
  have hmb : ∀ {c T}, Blk W mb c T → False := by
    intro c T hb
    obtain ⟨es, clock, he, _⟩ := H.map
    unfold Blk at hb
    rw [hb] at he
    cases he
  have hnm : mb ≠ bs := by rintro rfl; exact hmb H.cell
  have hns : s ≠ mb := by rintro rfl; exact hmb H.blk
  have b2 := b1.setCell (p := ⟨bs, 0, none⟩) H.lb (encStr r2)
  have c2 := c1.set 0 (encStr r2)
  have s2 := s1.set_other ⟨bs, 0, none⟩ hne (encStr r2)
  have m2 : MapAt _ mb L := World.ownsMap.setCell m1 (a := ⟨bs, 0, none⟩) hnm (encStr r2)
  obtain ⟨w6, hrun, hm6, hg⟩ := map_put (t := t) (k := nm) m2 (by omega) (by omega) (by omega)
  refine ⟨w6, hrun, b2.grown hg b2.size (fun k e => by injection e with e; exact e ▸ H.lm), c2.grown hg (fun e => hnm (by injection e with e; exact e.symm)), H.lb, H.ls, H.lm, s2.grown hg (fun e => hns (by injection e)), hm6, by omega, ?_⟩
  rw [← parse_some L hr h1 h2]
  exact H.eq
end Go.Proofs.YtokfddlknhijbaaGreatDoor
