/- slices.Repeat at one string, and a new disk. -/
import Derived.Test.YtokfddlknhijbaaGreatDoorDisk
import Derived.Laws.CopyOwn
import Derived.Deep.RegionLaw
import Derived.Maps.RangeWalk
namespace Go.Proofs.YtokfddlknhijbaaGreatDoor
open Go Go.RowKit

/-- Between two rounds of Repeat: m places are filled. -/
structure RepAt (w : World) (n : Nat) (s : Str) (m : Nat) (cur : List Value) (wr : World) : Prop where
  len : cur.length = n
  done : cur.take m = List.replicate m (encStr s)
  blk : Blk wr w.heap.size cur 9
  below : Below w.heap.size w wr
theorem RepAt.more {w wr w' : World} {n m k : Nat} {s : Str} {cur : List Value} (h : RepAt w n s m cur wr) (hm : m + k ≤ n)
    (hg : w'.heap[w.heap.size]? = some (.cells (splice cur m (List.replicate k (encStr s))).toArray 9 (0, 0))) (hb : Below w.heap.size w w') :
    RepAt w n s (m + k) (splice cur m (List.replicate k (encStr s))) w' := by
  have hl := h.len
  refine ⟨?_, ?_, hg, hb⟩
  · simp [splice]; omega
  · simp only [splice, ← List.append_assoc]
    rw [List.take_append_of_le_length (by simp; omega), List.take_of_length_le (by simp; omega), h.done, List.replicate_append_replicate]
theorem RepAt.fin {w wr : World} {n : Nat} {s : Str} {cur : List Value} (h : RepAt w n s n cur wr) (hn : n ≤ 4000) : RowPost w 9 1 n (List.replicate n (encStr s)) (.returned (.slice (some ⟨w.heap.size, 0, none⟩) n n)) wr := by
  have hl := h.len
  refine ⟨_, rfl, ⟨by simp, .inr ⟨w.heap.size, n, cur.toArray, rfl, Nat.le_refl _, h.blk, Nat.le_refl _, by unfold maxLen; omega, by simpa using hl, ?_⟩⟩, h.below⟩
  simpa using h.done
theorem RepAt.cells {w wr : World} {n m k : Nat} {s : Str} {cur : List Value} (h : RepAt w n s m cur wr) (hk : k ≤ m) : ∀ j v, (List.replicate k (encStr s))[j]? = some v → wr.cell? ((⟨w.heap.size, 0, none⟩ : Addr).add j) = some v := by
  intro j v hj
  have hadd : (⟨w.heap.size, 0, none⟩ : Addr).add j = ⟨w.heap.size, j, none⟩ := by unfold Addr.add; split <;> simp_all
  have hjk : j < k := by
    rcases Nat.lt_or_ge j k with h1 | h1
    · exact h1
    · rw [List.getElem?_eq_none (by simpa using h1)] at hj; cases hj
  rw [hadd, h.blk.cell j, ← hj]
  have := congrArg (·[j]?) h.done
  simp only [List.getElem?_take, if_pos (Nat.lt_of_lt_of_le hjk hk)] at this
  rw [this]
  simp [hjk, Nat.lt_of_lt_of_le hjk hk]

set_option maxHeartbeats 400000 in
set_option maxRecDepth 100000 in
theorem srepeat_any (bx n : Nat) (s : Str) (w : World) (hb : bx < w.heap.size) (hc : w.cell? ⟨bx, 0, none⟩ = some (encStr s)) (h1 : 1 ≤ n) (h2 : n ≤ 4000) :
    Calls Tryz.prog 27 #[.slice (some ⟨bx, 0, none⟩) 1 1, .int .i64 n] w (RowPost w 9 1 n (List.replicate n (encStr s))) := by
  obtain ⟨i0, hi, hz0, hz1, hz2⟩ := info_parts (show (Tryz.prog.info? 9).map (fun i => (i.zero, i.size, i.bytes)) = some (some (.string ⟨#[]⟩), 1, 16) by kernel_rfl)
  have k1 : decide ((n : Int) < 0) = false := by simp
  have k2 : decide ((9223372036854775807 : Int) < (n : Int)) = false := by simp; omega
  obtain ⟨Z, hZ, hmk⟩ : ∃ Z : List Value, Z.length = n ∧ ∀ w, (Instr.makeSlice 64 (.int .i64 (n : Int)) (.int .i64 (n : Int))).run Tryz.prog w = .ok (.slice (some ⟨w.heap.size, 0, none⟩) n n) (w.alloc (.cells Z.toArray 9)) := by
    refine ⟨(madeCells #[.string ⟨#[]⟩] n).toList, by simp [madeCells], fun w => ?_⟩
    have := run_make (P := Tryz.prog) w 64 9 i0 (.string ⟨#[]⟩) Tryz.underlying64 hi hz0 .i64 .i64 n n (by omega) (by omega) (by rw [hz2]; omega) (by omega)
    simpa [hz1, Value.cells] using this
  have hsz : (Tryz.prog.info? 9).map (·.size) = some 1 := by rw [hi]; simp [hz1]
  have hst : ∀ w', Hid (w'.heap[w.heap.size]? = some (.cells (splice Z 0 [encStr s]).toArray 9 (0, 0))) → Below w.heap.size w w' → RepAt w n s 1 (splice Z 0 [encStr s]) w' := by
    intro w' hg hb'
    refine ⟨by simp [splice]; omega, ?_, hg.out, hb'⟩
    simp [splice]
  go_enter Tryz.func27, Tryz.ntmps27
  go_wp2_with fail
  refine (Tryz.bits_Mul 1 n (by omega) (by omega) _).mono ?_
  rintro e w1 ⟨rfl, rfl⟩
  have e1 : 1 * n / 18446744073709551616 = 0 := by omega
  have e2 : 1 * n % 18446744073709551616 = n := by omega
  rw [e1, e2]
  clear e1 e2
  go_wp2_with (with_reducible refine wpList_copy_splice rfl (.tmp 31) (.tmp 32) 64 64 rfl 9 Tryz.underlying64 hsz (some ⟨w1.heap.size, 0, none⟩) (some ⟨bx, 0, none⟩) n n 1 1 rfl rfl w1.heap.size 0 Z 9 ?g1 [encStr s] ?g2 ?g3 ?g4 ?g5 w1.heap.size w1 ?g6 (Nat.le_refl _) ?_)
  case g1 => exact Blk.new w1 Z 9
  case g2 => simp [Nat.min_eq_left h1]
  case g3 =>
    intro j v hj
    cases j with
    | zero => simp at hj; subst hj; exact hc
    | succ j => simp at hj
  case g4 => simp; omega
  case g5 => intro v hv; simp at hv; subst hv; rfl
  case g6 => exact (Below.refl _ _).alloc (Nat.le_refl _) _
  intro w2 hg2 hb2
  have h3 := hst w2 hg2 hb2
  clear hst hg2 hb2 hmk
  go_wp2
  go_loopw [8] (fun v8 wr => ∃ m : Nat, 1 ≤ m ∧ m ≤ n ∧ v8 = .int .i64 m ∧ ∃ cur, RepAt w1 n s m cur wr) (fun v8 _ => n - (intOf v8).toNat)
  case atStart => exact ⟨1, by omega, h1, rfl, _, h3⟩
  case round =>
    obtain ⟨m, hm1, hm2, rfl, cur, hR⟩ := hrel
    clear h3 hc hb
    by_cases hlt : m < n
    · have hlen := hR.len
      have hcells := hR.cells (k := min m (n - m)) (Nat.min_le_left _ _)
      have hmore := fun w' => hR.more (w' := w') (k := min m (n - m)) (by omega)
      have hkk : (List.replicate (min m (n - m)) (encStr s)).length = Nat.min m (n - m) := by simp
      have hk1 : min m (n - m) ≤ n - m := Nat.min_le_right _ _
      have hk2 : 1 ≤ min m (n - m) := by omega
      generalize min m (n - m) = k at *
      have hw0 : IntKind.i64.wrap ((m : Int) + (k : Int)) = ((m + k : Nat) : Int) := by rw [IntWalk.i64_in _ (by omega)]; omega
      have HW := Lib.hid hw0
      clear hw0
      have hbl := hR.below
      have hbk := hR.blk
      unfold Blk at hbk
      clear hR
      have HK := Lib.hid hkk
      clear hkk
      have HC := Lib.hid hcells
      have HM := Lib.hid hmore
      have HB := Lib.hid hbk
      clear hcells hmore hbk
      have hnm : ¬ n = m := by omega
      go_wp2
      go_region_law ((refine step_copy_splice rfl (.tmp 41) (.tmp 44) 64 64 rfl 9 Tryz.underlying64 hsz (some ⟨w1.heap.size, m, none⟩) (some ⟨w1.heap.size, 0, none⟩) (n - m) (n - m) m n (by simp [go_sem, Act.eval, Act.put]) (by simp [go_sem, Act.eval, Act.put]) w1.heap.size m cur 9 HB.out (List.replicate k (encStr s)) HK.out (fun _ => ⟨rfl, _, rfl, HC.out⟩) (by rw [List.length_replicate, hlen]; omega) (by intro v hv; simp at hv; rw [hv.2]; rfl) w1.heap.size w1 hbl.drew (Nat.le_refl _) ?_; intro w4 hg4 hb4))
      have h4 := HM.out w4 (by simpa using hg4.out) hb4
      have hw := HW.out
      clear hg4 hb4 HW
      simp only [List.getElem_toArray, List.getElem_cons_succ, List.getElem_cons_zero, hw]
      go_frame
      go_wp2
      go_roundw
      case rel => exact ⟨m + k, by omega, by omega, rfl, _, h4⟩
      case measure => simp [intOf]; omega
    · obtain rfl : m = n := by omega
      have hfin := hR.fin h2
      clear hR
      go_wp2
      go_ret
      exact hfin
/-- A new disk was returned. -/
def NewPost (B : Nat) (w : World) (n : Nat) (e : Ending) (w' : World) : Prop :=
  ∃ a S, e = .returned (.tuple #[.pointer (some ⟨a, 0, none⟩), .nilIface]) ∧ DiskAt B w' a (Dsk.fresh n) S ∧ Step Nil w S w'
theorem new_end {B n : Nat} {w w1 w2 w3 : World} {o : Obj} {v v2 : Value} (hB : B ≤ w.heap.size) (h1 : 1 ≤ n) (h2 : n ≤ 4000) (hb1 : Below w.heap.size w w1) (hb2 : Below (w1.alloc o).heap.size (w1.alloc o) w2) (hb3 : Below w2.heap.size w2 w3)
    (hv : w2.ownsRow (w1.alloc o).heap.size 9 1 v n ((List.replicate n (zeros 64)).map encStr)) (hv2 : w3.ownsRow w2.heap.size 9 1 v2 n ((List.replicate n (zeros 64)).map encStr)) :
    NewPost B w n (.returned (.tuple #[.pointer (some ⟨w3.heap.size, 0, none⟩), .nilIface])) (w3.alloc (.cells #[.int .i64 (-1), v, v2, .slice none 0 0] 67)) := by
  have hs1 := hb1.size
  have hs2 := hb2.size
  have hs3 := hb3.size
  have hsa : (w1.alloc o).heap.size = w1.heap.size + 1 := by simp
  have hbb : Below w.heap.size w (w3.alloc (.cells #[.int .i64 (-1), v, v2, .slice none 0 0] 67)) :=
    (((hb1.alloc hs1 o).trans (hb2.mono (by omega))).trans (hb3.mono (by omega))).alloc (by omega) _
  have hne : v.ownBlock ≠ v2.ownBlock := by
    obtain ⟨g, c, rfl, -, hg, -⟩ := row_form hv h1
    intro e
    have : w2.heap.size ≤ g := own_ge hv2 e.symm
    omega
  have hl1 : (List.replicate n (zeros 64)).length = n := by simp
  refine ⟨_, fun k => k = w3.heap.size ∨ v.ownBlock = some k ∨ v2.ownBlock = some k, rfl, ⟨v, v2, .slice none 0 0, ?_⟩, (Step.of_below hbb Nil).widen ?_⟩
  · have hv3 := row_step (own_base hv) (Step.of_below hb3 Nil) (fun _ _ h => h)
    refine ⟨Blk.new w3 [.int .i64 (-1), v, v2, .slice none 0 0] 67, ?_, ?_, ⟨rfl, .inl ⟨rfl, rfl⟩⟩, hne, .inl rfl, fun k hk => .inr (.inl hk), fun k hk => .inr (.inr hk), fun k hk => by simp [Value.ownBlock] at hk, ?_, ?_, Dsk.Ok.fresh n h1 h2⟩
    · simp only [Dsk.fresh, hl1]; exact hv3.alloc _
    · simp only [Dsk.fresh, hl1]; exact (own_base hv2).alloc _
    · rintro k (rfl | hk | hk)
      · omega
      · have := own_ge hv hk; omega
      · have := own_ge hv2 hk; omega
    · simp only [World.size_alloc]
      rintro k (rfl | hk | hk)
      · omega
      · have := row_lt hv hk; omega
      · have := row_lt hv2 hk; omega
  · rintro k (rfl | hk | hk)
    · exact .inr (by omega)
    · have := own_ge hv hk; exact .inr (by omega)
    · have := own_ge hv2 hk; exact .inr (by omega)

set_option maxHeartbeats 1000000 in
set_option maxRecDepth 100000 in
theorem new_any (B n : Nat) (w : World) (hB : B ≤ w.heap.size) (h1 : 1 ≤ n) (h2 : n ≤ 4000) : Calls Tryz.prog 9 #[.int .i64 n] w (NewPost B w n) := by
  have k1 : decide ((n : Int) < 1) = false := by simp; omega
  have k2 : decide ((4000 : Int) < (n : Int)) = false := by simp; omega
  go_enter Tryz.func9, Tryz.ntmps9
  go_wp2_with fail
  refine (repeat_zeros 64 (by omega) (by omega) _).mono ?_
  rintro e w1 ⟨rfl, hb1⟩
  go_wp2_with fail
  refine (srepeat_any w1.heap.size n (zeros 64) _ (by simp) (by exact (Blk.new w1 [encStr (zeros 64)] 9).cell 0) h1 h2).mono ?_
  rintro e w2 ⟨v, rfl, hv, hb2⟩
  go_wp2_with fail
  have hv0 := own_base hv
  have e1 : List.replicate n (encStr (zeros 64)) = (List.replicate n (zeros 64)).map encStr := by simp
  rw [e1] at hv0
  refine (clone_any v n (List.replicate n (zeros 64)) _ hv0 h1 h2).mono ?_
  rintro e w3 ⟨v2, rfl, hv2, hb3⟩
  have hv1 := hv
  rw [e1] at hv1
  have hend := new_end hB h1 h2 hb1 hb2 hb3 hv1 hv2
  obtain ⟨Av, cv, hv'⟩ := row_slice hv
  obtain ⟨Av2, cv2, hv2'⟩ := row_slice hv2
  rw [hv'] at hend ⊢
  rw [hv2'] at hend ⊢
  clear hv' hv2' hv hv0 hv1 hv2
  go_wp2
  go_ret2
  exact hend
end Go.Proofs.YtokfddlknhijbaaGreatDoor
